/- What a line does, in plain words: runs of ticks; the queues. -/
import Derived.Test.YtidnjppalebbfaaA5
import Derived.Test.YtidnjppalebbfaaVo
set_option linter.unusedSimpArgs false
set_option linter.unusedVariables false
namespace Go.Proofs.Ytidnjppalebbfaa
open Go Go.V Go.RowKit

def atA (a : List Arr) (j : Nat) : Int := (a.getD j ⟨0, 0⟩).at_
def stA (a : List Arr) (j : Nat) : Nat := (a.getD j ⟨0, 0⟩).stream.toNat
def szA (l : List Stream) (a : List Arr) (j : Nat) : Int := (l.getD (stA a j) ⟨0, 0, 0⟩).size
def dec (rem : Nat → Int) (j : Nat) : Nat → Int := fun i => if i = j then rem i - 1 else rem i
/-- arrival j goes before all others that are waiting -/
structure IsBest (l : List Stream) (a : List Arr) (t : Int) (rem : Nat → Int) (j : Nat) : Prop where
  lt : j < a.length
  at_ : atA a j ≤ t
  left : 0 < rem j
  first : ∀ i, i < a.length → atA a i ≤ t → rem i ≠ 0 → i ≠ j → beforeB l (stA a j) (stA a i) = true ∨ stA a i = stA a j ∧ j < i
def Idle (a : List Arr) (t : Int) (rem : Nat → Int) : Prop := ∀ j, j < a.length → atA a j ≤ t → rem j = 0
def Done (a : List Arr) (rem : Nat → Int) : Prop := ∀ j, j < a.length → rem j = 0
/-- for which arrivals bytes are sent, from the first tick on, and what is left of each -/
inductive Run (l : List Stream) (a : List Arr) : List Int → (Nat → Int) → Prop
  | start : Run l a [] (szA l a)
  | idle {tr : List Int} {rem : Nat → Int} : Run l a tr rem → Idle a tr.length rem → ¬ Done a rem → Run l a (tr ++ [-1]) rem
  | send {tr : List Int} {rem : Nat → Int} {j : Nat} : Run l a tr rem → IsBest l a tr.length rem j → Run l a (tr ++ [(j : Int)]) (dec rem j)
def TraceP (l : List Stream) (a : List Arr) (tr : List Int) : Prop := ∃ rem, Run l a tr rem ∧ Done a rem
def tot (rem : Nat → Int) : Nat → Int
  | 0 => 0
  | n + 1 => tot rem n + rem n
theorem tot_dec (rem : Nat → Int) (j : Nat) : ∀ n, tot (dec rem j) n = if j < n then tot rem n - 1 else tot rem n
  | 0 => by simp [tot]
  | n + 1 => by
    simp only [tot, tot_dec rem j n, dec]
    by_cases h1 : j < n
    · rw [if_pos h1, if_neg (show n ≠ j by omega), if_pos (show j < n + 1 by omega)]; omega
    · by_cases h2 : n = j
      · subst h2; rw [if_neg (Nat.lt_irrefl _), if_pos rfl, if_pos (by omega)]; omega
      · rw [if_neg h1, if_neg h2, if_neg (by omega)]
theorem tot_nonneg {rem : Nat → Int} : ∀ {n : Nat}, (∀ j, j < n → 0 ≤ rem j) → 0 ≤ tot rem n
  | 0, _ => by simp [tot]
  | n + 1, h => by
    have := tot_nonneg (n := n) fun j hj => h j (by omega)
    have := h n (by omega)
    simp only [tot]; omega
theorem tot_le {rem : Nat → Int} {b : Int} : ∀ {n : Nat}, (∀ j, j < n → rem j ≤ b) → tot rem n ≤ n * b
  | 0, _ => by simp [tot]
  | n + 1, h => by
    have h1 := tot_le (n := n) fun j hj => h j (by omega)
    have := h n (by omega)
    simp only [tot]
    rw [show ((n + 1 : Nat) : Int) * b = n * b + b by rw [Int.natCast_add, Int.add_mul]; omega]
    omega
theorem tot_pos {rem : Nat → Int} : ∀ {n : Nat}, (∀ j, j < n → 0 ≤ rem j) → (∃ j, j < n ∧ rem j ≠ 0) → 0 < tot rem n
  | 0, _, h => by obtain ⟨j, hj, _⟩ := h; omega
  | n + 1, h, hx => by
    have h1 := tot_nonneg (n := n) fun j hj => h j (by omega)
    have h2 := h n (by omega)
    simp only [tot]
    by_cases h3 : rem n = 0
    · have := tot_pos (n := n) (fun j hj => h j (by omega)) (by
        obtain ⟨j, hj, hj0⟩ := hx
        exact ⟨j, by have : j ≠ n := fun hh => hj0 (hh ▸ h3); omega, hj0⟩)
      omega
    · omega
section
variable {l : List Stream} {a : List Arr}
theorem proper_at (hp : ProperP l a) {j : Nat} (hj : j < a.length) : ∃ x, a[j]? = some x ∧ atA a j = x.at_ ∧ (stA a j : Int) = x.stream ∧ stA a j < l.length ∧ 0 ≤ x.at_ ∧ x.at_ ≤ 2000 := by
  have hx : a[j]? = some a[j] := List.getElem?_eq_getElem hj
  have h := hp.all j _ hx
  have hv := (valid_at hp.valid).1
  have hs := h.s
  have ht := h.t
  refine ⟨a[j], hx, by simp [atA, List.getD_eq_getElem?_getD, hx], ?_, ?_, ht⟩
  · simp only [stA, List.getD_eq_getElem?_getD, hx, Option.getD_some]; omega
  · simp only [stA, List.getD_eq_getElem?_getD, hx, Option.getD_some]; omega
theorem szA_range (hp : ProperP l a) {j : Nat} (hj : j < a.length) : 1 ≤ szA l a j ∧ szA l a j ≤ 50 := by
  obtain ⟨x, _, _, _, h4, _⟩ := proper_at hp hj
  have := (valid_at hp.valid).2 (stA a j) l[stA a j] (List.getElem?_eq_getElem h4)
  simp only [szA, List.getD_eq_getElem?_getD, List.getElem?_eq_getElem h4, Option.getD_some]
  exact this.2.1
theorem at_mono (hp : ProperP l a) {i j : Nat} (hij : i < j) (hj : j < a.length) : atA a i < atA a j ∨ atA a i = atA a j ∧ stA a i < stA a j := by
  obtain ⟨x, hx, hax, hsx, _⟩ := proper_at hp (show i < a.length by omega)
  obtain ⟨y, hy, hay, hsy, _⟩ := proper_at hp hj
  have := (hp.all j y hy).ord i x hij hx
  unfold ltA at this
  rw [hax, hay]; omega
theorem Run.range (hp : ProperP l a) {tr : List Int} {rem : Nat → Int} (h : Run l a tr rem) : ∀ j, j < a.length → 0 ≤ rem j ∧ rem j ≤ szA l a j := by
  induction h with
  | start => exact fun j hj => ⟨by have := szA_range hp hj; omega, Int.le_refl _⟩
  | idle _ _ _ ih => exact ih
  | send h1 hb ih =>
    intro i hi
    have := ih i hi
    unfold dec
    split
    · rename_i he; subst he; have := hb.left; omega
    · exact this
/-- how long a run may be -/
theorem Run.bound (hp : ProperP l a) {tr : List Int} {rem : Nat → Int} (h : Run l a tr rem) : (tr.length : Int) ≤ 2001 + tot (szA l a) a.length - tot rem a.length := by
  induction h with
  | start => simp
  | @idle tr rem h1 hi hd ih =>
    have hr := h1.range hp
    have : ∃ j, j < a.length ∧ rem j ≠ 0 := by
      apply Classical.byContradiction
      intro hn
      exact hd fun j hj => Classical.byContradiction fun h0 => hn ⟨j, hj, h0⟩
    obtain ⟨j, hj, h0⟩ := this
    obtain ⟨x, hx, hax, _, _, ht⟩ := proper_at hp hj
    have h2 : ¬ atA a j ≤ tr.length := fun hh => h0 (hi j hj hh)
    have h3 : tot rem a.length ≤ tot (szA l a) a.length := by
      have : ∀ n, n ≤ a.length → tot rem n ≤ tot (szA l a) n := by
        intro n
        induction n with
        | zero => intro _; simp [tot]
        | succ n ihn => intro hn; have := ihn (by omega); have := (hr n (by omega)).2; simp only [tot]; omega
      exact this _ (Nat.le_refl _)
    simp only [List.length_append, List.length_singleton]; omega
  | @send tr rem j h1 hb ih =>
    rw [tot_dec, if_pos hb.lt]
    simp only [List.length_append, List.length_singleton]; omega
theorem Run.short (hp : ProperP l a) {tr : List Int} {rem : Nat → Int} (h : Run l a tr rem) : tr.length + tot rem a.length ≤ 5001 := by
  have h1 := h.bound hp
  have h2 := tot_le (rem := szA l a) (b := 50) (n := a.length) fun j hj => (szA_range hp hj).2
  have h3 := hp.len
  omega
theorem best_unique {t : Int} {rem : Nat → Int} {i j : Nat} (hi : IsBest l a t rem i) (hj : IsBest l a t rem j) (hs : ∀ k, k < a.length → stA a k < l.length) : i = j := by
  apply Classical.byContradiction
  intro hne
  have h1 := hi.first j hj.lt hj.at_ (by have := hj.left; omega) (Ne.symm hne)
  have h2 := hj.first i hi.lt hi.at_ (by have := hi.left; omega) hne
  rw [beforeB_iff (hs _ hi.lt) (hs _ hj.lt)] at h1
  rw [beforeB_iff (hs _ hj.lt) (hs _ hi.lt)] at h2
  have : stA a i = stA a j → (l[stA a i]'(hs _ hi.lt)).cls = (l[stA a j]'(hs _ hj.lt)).cls := fun h => by simp only [h]
  rcases h1 with h1 | h1 <;> rcases h2 with h2 | h2
  · omega
  · have := this h2.1.symm.symm; omega
  · have := this h1.1.symm; omega
  · omega
theorem Run.same (hs : ∀ k, k < a.length → stA a k < l.length) {tr tr' : List Int} {rem rem' : Nat → Int} (h : Run l a tr rem) (h' : Run l a tr' rem') (hl : tr.length = tr'.length) : tr = tr' ∧ rem = rem' := by
  induction h generalizing tr' rem' with
  | start =>
    cases h' with
    | start => exact ⟨rfl, rfl⟩
    | idle _ _ _ => simp at hl
    | send _ _ => simp at hl
  | @idle tr rem h1 hi hd ih =>
    cases h' with
    | start => simp at hl
    | idle h2 hi' hd' =>
      obtain ⟨rfl, rfl⟩ := ih h2 (by simpa using hl)
      exact ⟨rfl, rfl⟩
    | send h2 hb =>
      obtain ⟨rfl, rfl⟩ := ih h2 (by simpa using hl)
      have := hi _ hb.lt hb.at_
      have := hb.left
      omega
  | @send tr rem j h1 hb ih =>
    cases h' with
    | start => simp at hl
    | idle h2 hi' hd' =>
      obtain ⟨rfl, rfl⟩ := ih h2 (by simpa using hl)
      have := hi' _ hb.lt hb.at_
      have := hb.left
      omega
    | send h2 hb' =>
      obtain ⟨rfl, rfl⟩ := ih h2 (by simpa using hl)
      obtain rfl := best_unique hb hb' hs
      exact ⟨rfl, rfl⟩
theorem Run.take {tr : List Int} {rem : Nat → Int} (h : Run l a tr rem) : ∀ n, n < tr.length → ∃ rem', Run l a (tr.take n) rem' ∧ ¬ Done a rem' := by
  induction h with
  | start => intro n hn; simp at hn
  | @idle tr rem h1 hi hd ih =>
    intro n hn
    simp only [List.length_append, List.length_singleton] at hn
    rcases Nat.lt_or_ge n tr.length with h | h
    · rw [List.take_append_of_le_length (by omega)]; exact ih n h
    · obtain rfl : n = tr.length := by omega
      rw [List.take_left]; exact ⟨rem, h1, hd⟩
  | @send tr rem j h1 hb ih =>
    intro n hn
    simp only [List.length_append, List.length_singleton] at hn
    rcases Nat.lt_or_ge n tr.length with h | h
    · rw [List.take_append_of_le_length (by omega)]; exact ih n h
    · obtain rfl : n = tr.length := by omega
      rw [List.take_left]
      exact ⟨rem, h1, fun hd => by have := hd _ hb.lt; have := hb.left; omega⟩
theorem TraceP.unique (hs : ∀ k, k < a.length → stA a k < l.length) {tr tr' : List Int} (h : TraceP l a tr) (h' : TraceP l a tr') : tr = tr' := by
  obtain ⟨rem, hr, hd⟩ := h
  obtain ⟨rem', hr', hd'⟩ := h'
  rcases Nat.lt_trichotomy tr.length tr'.length with h | h | h
  · obtain ⟨r2, h2, hn⟩ := hr'.take _ h
    obtain ⟨_, rfl⟩ := hr.same hs h2 (by rw [List.length_take]; omega)
    exact absurd hd hn
  · exact (hr.same hs hr' h).1
  · obtain ⟨r2, h2, hn⟩ := hr.take _ h
    obtain ⟨_, rfl⟩ := hr'.same hs h2 (by rw [List.length_take]; omega)
    exact absurd hd' hn
end
end Go.Proofs.Ytidnjppalebbfaa
