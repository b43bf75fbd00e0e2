/- The queues of a line, in plain words. -/
import Derived.Test.YtidnjppalebbfaaA6
set_option linter.unusedSimpArgs false
set_option linter.unusedVariables false
namespace Go.Proofs.Ytidnjppalebbfaa
open Go Go.V Go.RowKit
section
variable {l : List Stream} {a : List Arr} {R : List Nat}
def rk (R : List Nat) (s : Nat) : Nat := R.getD s 0
/-- the arrivals before next of rank r that are waiting -/
def Qu (a : List Arr) (R : List Nat) (next : Nat) (rem : Nat → Int) (r : Nat) : List Nat := (List.range next).filter fun j => decide (rk R (stA a j) = r) && !decide (rem j = 0)
def cnt (rem : Nat → Int) : Nat → Nat
  | 0 => 0
  | n + 1 => cnt rem n + if rem n = 0 then 0 else 1
theorem mem_Qu {next r j : Nat} {rem : Nat → Int} : j ∈ Qu a R next rem r ↔ j < next ∧ rk R (stA a j) = r ∧ rem j ≠ 0 := by
  simp [Qu]
theorem Qu_sorted (next r : Nat) (rem : Nat → Int) : (Qu a R next rem r).Pairwise (· < ·) := List.Pairwise.filter _ List.pairwise_lt_range
theorem Qu_succ (next r : Nat) (rem : Nat → Int) : Qu a R (next + 1) rem r = if rk R (stA a next) = r ∧ rem next ≠ 0 then Qu a R next rem r ++ [next] else Qu a R next rem r := by
  unfold Qu
  rw [List.range_succ, List.filter_append]
  by_cases h1 : rk R (stA a next) = r <;> by_cases h2 : rem next = 0 <;> simp [h1, h2]
theorem Qu_dec {next r j : Nat} {rem : Nat → Int} (h0 : rem j ≠ 0) (h1 : rem j ≠ 1) : Qu a R next (dec rem j) r = Qu a R next rem r := by
  unfold Qu
  congr 1
  funext i
  unfold dec
  by_cases h : i = j
  · subst h
    rw [if_pos rfl, decide_eq_false (show ¬ rem i - 1 = 0 by omega), decide_eq_false h0]
  · rw [if_neg h]
theorem Qu_fin_other {next r j : Nat} {rem : Nat → Int} (hr : rk R (stA a j) ≠ r) : Qu a R next (dec rem j) r = Qu a R next rem r := by
  unfold Qu
  congr 1
  funext i
  unfold dec
  by_cases h : i = j
  · subst h
    rw [decide_eq_false hr]; rfl
  · rw [if_neg h]
theorem Qu_fin {next r j : Nat} {rem : Nat → Int} {tl : List Nat} (h1 : rem j = 1) (hq : Qu a R next rem r = j :: tl) : Qu a R next (dec rem j) r = tl := by
  have hs := Qu_sorted (a := a) (R := R) next r rem
  have : Qu a R next (dec rem j) r = (Qu a R next rem r).filter (fun i => !decide (i = j)) := by
    unfold Qu
    rw [List.filter_filter]
    congr 1
    funext i
    unfold dec
    by_cases h : i = j
    · subst h; rw [if_pos rfl, decide_eq_true (show rem i - 1 = 0 by omega)]; simp
    · rw [if_neg h]; simp [h]
  rw [this, hq]
  rw [hq, List.pairwise_cons] at hs
  rw [List.filter_cons]
  simp only [decide_true, Bool.not_true]
  rw [if_neg (by simp)]
  exact List.filter_eq_self.2 fun i hi => by have := hs.1 i hi; simp; omega
theorem dec_same (rem : Nat → Int) (j : Nat) : dec rem j j = rem j - 1 := by unfold dec; rw [if_pos rfl]
theorem dec_ne {rem : Nat → Int} {i j : Nat} (h : i ≠ j) : dec rem j i = rem i := by unfold dec; rw [if_neg h]
theorem dec_zero {rem : Nat → Int} {i j : Nat} (h0 : rem j ≠ 0) (h1 : rem j ≠ 1) : dec rem j i = 0 ↔ rem i = 0 := by
  by_cases h : i = j
  · subst h; rw [dec_same]; omega
  · rw [dec_ne h]
theorem cnt_dec {rem : Nat → Int} {j : Nat} (h0 : rem j ≠ 0) (h1 : rem j ≠ 1) : ∀ n, cnt (dec rem j) n = cnt rem n
  | 0 => rfl
  | n + 1 => by simp only [cnt, cnt_dec h0 h1 n, dec_zero h0 h1]
theorem cnt_fin {rem : Nat → Int} {j : Nat} (h1 : rem j = 1) : ∀ n, cnt rem n = cnt (dec rem j) n + if j < n then 1 else 0
  | 0 => by simp [cnt]
  | n + 1 => by
    simp only [cnt, cnt_fin h1 n]
    by_cases h : n = j
    · subst h
      have : dec rem n n = 0 := by rw [dec_same]; omega
      rw [if_pos this, if_neg (by omega : ¬ n < n), if_pos (by omega : n < n + 1), if_neg (by omega : ¬ rem n = 0)]
    · have h2 : dec rem j n = rem n := dec_ne h
      simp only [h2]
      by_cases hj : j < n
      · rw [if_pos hj, if_pos (show j < n + 1 by omega)]; omega
      · rw [if_neg hj, if_neg (show ¬ j < n + 1 by omega)]; omega
theorem cnt_le {rem : Nat → Int} : ∀ n, cnt rem n ≤ n
  | 0 => Nat.le_refl _
  | n + 1 => by have := cnt_le (rem := rem) n; simp only [cnt]; split <;> omega
theorem cnt_pos {rem : Nat → Int} : ∀ {n : Nat}, 0 < cnt rem n → ∃ j, j < n ∧ rem j ≠ 0
  | 0, h => by simp [cnt] at h
  | n + 1, h => by
    simp only [cnt] at h
    by_cases h0 : rem n = 0
    · rw [if_pos h0] at h
      obtain ⟨j, hj, hj0⟩ := cnt_pos (n := n) (by omega)
      exact ⟨j, by omega, hj0⟩
    · exact ⟨n, by omega, h0⟩
theorem cnt_zero {rem : Nat → Int} : ∀ {n : Nat}, cnt rem n = 0 → ∀ j, j < n → rem j = 0
  | 0, _, j, hj => by omega
  | n + 1, h, j, hj => by
    simp only [cnt] at h
    by_cases h0 : rem n = 0
    · rw [if_pos h0] at h
      by_cases hjn : j = n
      · subst hjn; exact h0
      · exact cnt_zero (n := n) (by omega) j (by omega)
    · rw [if_neg h0] at h; omega
theorem RanksP.get (h : RanksP l R) {s : Nat} (hs : s < l.length) : R[s]? = some (rk R s) ∧ rk R s < l.length := by
  have hx : R[s]? = some (rk R s) := by
    have := List.getElem?_eq_getElem (l := R) (i := s) (by rw [h.len]; exact hs)
    rw [this]; unfold rk; rw [List.getD_eq_getElem?_getD, this]; rfl
  exact ⟨hx, h.lt _ _ hx⟩
theorem RanksP.inj (h : RanksP l R) {s s' : Nat} (hs : s < l.length) (hs' : s' < l.length) (he : rk R s = rk R s') : s = s' := by
  have h1 := h.mono s s' _ _ (h.get hs).1 (h.get hs').1
  have h2 := h.mono s' s _ _ (h.get hs').1 (h.get hs).1
  rw [beforeB_iff hs hs'] at h1
  rw [beforeB_iff hs' hs] at h2
  omega
theorem best_of_queue (hp : ProperP l a) (hR : RanksP l R) {t : Int} {rem : Nat → Int} {next r j : Nat} {tl : List Nat} (hn : next ≤ a.length) (hrem : ∀ j, j < a.length → 0 ≤ rem j)
    (hpast : ∀ j, j < next → atA a j ≤ t) (hcome : ∀ j, j < a.length → atA a j ≤ t → j < next) (hq : Qu a R next rem r = j :: tl) (hlow : ∀ r', r' < r → Qu a R next rem r' = []) : IsBest l a t rem j := by
  have hj := mem_Qu.1 (show j ∈ Qu a R next rem r by rw [hq]; simp)
  have hjl : j < a.length := by omega
  have hsl : ∀ k, k < a.length → stA a k < l.length := fun k hk => by obtain ⟨x, _, _, _, h, _⟩ := proper_at hp hk; exact h
  refine ⟨hjl, hpast j hj.1, by have := hrem j hjl; have := hj.2.2; omega, fun i hi hat h0 hne => ?_⟩
  have hin := hcome i hi hat
  have hiq : i ∈ Qu a R next rem (rk R (stA a i)) := mem_Qu.2 ⟨hin, rfl, h0⟩
  rcases Nat.lt_trichotomy (rk R (stA a i)) r with h | h | h
  · rw [hlow _ h] at hiq; simp at hiq
  · rw [h, hq] at hiq
    have hs := Qu_sorted (a := a) (R := R) next r rem
    rw [hq, List.pairwise_cons] at hs
    refine .inr ⟨hR.inj (hsl i hi) (hsl j hjl) (h.trans hj.2.1.symm), ?_⟩
    rcases List.mem_cons.1 hiq with h' | h'
    · exact absurd h' hne
    · exact hs.1 i h'
  · refine .inl ((hR.mono _ _ _ _ (hR.get (hsl j hjl)).1 (hR.get (hsl i hi)).1).2 ?_)
    rw [hj.2.1]; exact h
theorem idle_of_queue (hp : ProperP l a) (hR : RanksP l R) {t : Int} {rem : Nat → Int} {next : Nat} (hcome : ∀ j, j < a.length → atA a j ≤ t → j < next) (hq : ∀ r, r < l.length → Qu a R next rem r = []) : Idle a t rem := by
  intro j hj hat
  apply Classical.byContradiction
  intro h0
  obtain ⟨x, _, _, _, h, _⟩ := proper_at hp hj
  have : j ∈ Qu a R next rem (rk R (stA a j)) := mem_Qu.2 ⟨hcome j hj hat, rfl, h0⟩
  rw [hq _ (hR.get h).2] at this
  simp at this
/-- what is left of the first of each queue -/
def LeftOk (l : List Stream) (a : List Arr) (R : List Nat) (next : Nat) (rem : Nat → Int) (Lf : List Int) : Prop :=
  Lf.length = l.length ∧ ∀ r j tl, r < l.length → Qu a R next rem r = j :: tl → Lf[r]? = some (rem j) ∧ ∀ i, i ∈ tl → rem i = szA l a i
theorem LeftOk.absorb {next : Nat} {rem : Nat → Int} {Lf : List Int} (h : LeftOk l a R next rem Lf) (h0 : rem next ≠ 0) (hs : rem next = szA l a next) :
    (Qu a R next rem (rk R (stA a next)) = [] → LeftOk l a R (next + 1) rem (Lf.set (rk R (stA a next)) (szA l a next))) ∧ (Qu a R next rem (rk R (stA a next)) ≠ [] → LeftOk l a R (next + 1) rem Lf) := by
  constructor
  · intro hq
    refine ⟨by rw [List.length_set]; exact h.1, fun r j tl hr hjt => ?_⟩
    rw [Qu_succ] at hjt
    by_cases he : rk R (stA a next) = r
    · subst he
      rw [if_pos ⟨rfl, h0⟩, hq] at hjt
      simp only [List.nil_append, List.cons.injEq] at hjt
      obtain ⟨rfl, rfl⟩ := hjt
      refine ⟨?_, fun i hi => by simp at hi⟩
      rw [List.getElem?_set, if_pos rfl, if_pos (by rw [h.1]; exact hr), hs]
    · rw [if_neg fun hh => he hh.1] at hjt
      rw [List.getElem?_set, if_neg he]
      exact h.2 r j tl hr hjt
  · intro hq
    refine ⟨h.1, fun r j tl hr hjt => ?_⟩
    rw [Qu_succ] at hjt
    by_cases he : rk R (stA a next) = r
    · subst he
      rw [if_pos ⟨rfl, h0⟩] at hjt
      obtain ⟨j0, tl0, hq0⟩ := List.exists_cons_of_ne_nil hq
      rw [hq0] at hjt
      simp only [List.cons_append, List.cons.injEq] at hjt
      obtain ⟨rfl, rfl⟩ := hjt
      have := h.2 _ _ _ hr hq0
      refine ⟨this.1, fun i hi => ?_⟩
      rcases List.mem_append.1 hi with hi | hi
      · exact this.2 i hi
      · simp at hi; subst hi; exact hs
    · rw [if_neg fun hh => he hh.1] at hjt
      exact h.2 r j tl hr hjt
theorem LeftOk.send {next r j : Nat} {rem : Nat → Int} {Lf : List Int} {tl : List Nat} (h : LeftOk l a R next rem Lf) (hr : r < l.length) (hq : Qu a R next rem r = j :: tl) (h1 : rem j ≠ 1) : LeftOk l a R next (dec rem j) (Lf.set r (rem j - 1)) := by
  have hj := mem_Qu.1 (show j ∈ Qu a R next rem r by rw [hq]; simp)
  refine ⟨by rw [List.length_set]; exact h.1, fun r' j' tl' hr' hq' => ?_⟩
  rw [Qu_dec hj.2.2 h1] at hq'
  have h2 := h.2 r' j' tl' hr' hq'
  have hs := Qu_sorted (a := a) (R := R) next r' rem
  rw [hq', List.pairwise_cons] at hs
  by_cases he : r = r'
  · subst he
    rw [hq] at hq'
    simp only [List.cons.injEq] at hq'
    obtain ⟨rfl, rfl⟩ := hq'
    refine ⟨by rw [List.getElem?_set, if_pos rfl, if_pos (by rw [h.1]; exact hr)]; simp [dec], fun i hi => ?_⟩
    have := hs.1 i hi
    rw [← h2.2 i hi]; unfold dec; rw [if_neg (by omega)]
  · rw [List.getElem?_set, if_neg he]
    have hm : ∀ i, i ∈ Qu a R next rem r' → i ≠ j := fun i hi hh => by
      have := (mem_Qu.1 hi).2.1
      rw [hh, hj.2.1] at this; exact he this
    refine ⟨by unfold dec; rw [if_neg (hm j' (by rw [hq']; simp))]; exact h2.1, fun i hi => ?_⟩
    unfold dec; rw [if_neg (hm i (by rw [hq']; simp [hi]))]; exact h2.2 i hi
theorem LeftOk.finish (hp : ProperP l a) (hR : RanksP l R) {next r j : Nat} {rem : Nat → Int} {Lf : List Int} {tl : List Nat} (hn : next ≤ a.length) (h : LeftOk l a R next rem Lf) (hr : r < l.length) (hq : Qu a R next rem r = j :: tl) (h1 : rem j = 1) :
    LeftOk l a R next (dec rem j) ((Lf.set r 0).set r (szA l a j)) := by
  have hj := mem_Qu.1 (show j ∈ Qu a R next rem r by rw [hq]; simp)
  refine ⟨by rw [List.length_set, List.length_set]; exact h.1, fun r' j' tl' hr' hq' => ?_⟩
  by_cases he : r = r'
  · subst he
    rw [Qu_fin h1 hq] at hq'
    subst hq'
    have h2 := h.2 r j _ hr hq
    have hs := Qu_sorted (a := a) (R := R) next r rem
    rw [hq, List.pairwise_cons] at hs
    have hm : ∀ i, i ∈ j' :: tl' → dec rem j i = szA l a i := fun i hi => by
      have := hs.1 i hi
      rw [← h2.2 i hi]; unfold dec; rw [if_neg (by omega)]
    refine ⟨?_, fun i hi => hm i (by simp [hi])⟩
    rw [List.getElem?_set, if_pos rfl, if_pos (by rw [List.length_set, h.1]; exact hr), hm j' (by simp)]
    have hj' := mem_Qu.1 (show j' ∈ Qu a R next rem r by rw [hq]; simp)
    have hsl : ∀ k, k < a.length → stA a k < l.length := fun k hk => by obtain ⟨x, _, _, _, h, _⟩ := proper_at hp hk; exact h
    have := hR.inj (hsl j (by omega)) (hsl j' (by omega)) (hj.2.1.trans hj'.2.1.symm)
    unfold szA; rw [this]
  · rw [Qu_fin_other (by rw [hj.2.1]; exact he)] at hq'
    have h2 := h.2 r' j' tl' hr' hq'
    rw [List.getElem?_set, if_neg he, List.getElem?_set, if_neg he]
    have hm : ∀ i, i ∈ Qu a R next rem r' → i ≠ j := fun i hi hh => by
      have := (mem_Qu.1 hi).2.1
      rw [hh, hj.2.1] at this; exact he this
    refine ⟨by unfold dec; rw [if_neg (hm j' (by rw [hq']; simp))]; exact h2.1, fun i hi => ?_⟩
    unfold dec; rw [if_neg (hm i (by rw [hq']; simp [hi]))]; exact h2.2 i hi
end
end Go.Proofs.Ytidnjppalebbfaa
