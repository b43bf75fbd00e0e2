/- No arrival is finished later than the response of its stream says: in plain words. -/
import Derived.Test.YtidnjppalebbfaaA22
import Derived.Test.YtidnjppalebbfaaA12
set_option linter.unusedSimpArgs false
set_option linter.unusedVariables false
namespace Go.Proofs.Ytidnjppalebbfaa
open Go Go.V Go.RowKit
theorem tot_congr {f g : Nat → Int} : ∀ {n : Nat}, (∀ k, k < n → f k = g k) → tot f n = tot g n
  | 0, _ => rfl
  | n + 1, h => by simp only [tot, tot_congr (n := n) fun k hk => h k (by omega), h n (by omega)]
theorem tot_upd {f g : Nat → Int} {k0 : Nat} {c : Int} : ∀ {n : Nat}, k0 < n → (∀ k, k < n → k ≠ k0 → g k = f k) → g k0 = f k0 + c → tot g n = tot f n + c
  | 0, h, _, _ => by omega
  | n + 1, h, h1, h2 => by
    simp only [tot]
    by_cases he : n = k0
    · subst he
      rw [tot_congr (n := n) (g := f) fun k hk => h1 k (by omega) (by omega), h2]; omega
    · rw [tot_upd (n := n) (by omega) (fun k hk => h1 k (by omega)) h2, h1 n (by omega) he]; omega
theorem tot_mono {f g : Nat → Int} : ∀ {n : Nat}, (∀ k, k < n → f k ≤ g k) → tot f n ≤ tot g n
  | 0, _ => Int.le_refl _
  | n + 1, h => by
    have := tot_mono (n := n) fun k hk => h k (by omega)
    have := h n (by omega)
    simp only [tot]; omega
section
variable {l : List Stream} {a : List Arr} {tr f : List Int}
/-- what is left at a tick -/
def rm (l : List Stream) (a : List Arr) (tr : List Int) (t : Nat) (j : Nat) : Int := remT l a (tr.take t) j
theorem rm_succ {t : Nat} {x : Int} (h : tr[t]? = some x) (j : Nat) : rm l a tr (t + 1) j = if x = (j : Int) then rm l a tr t j - 1 else rm l a tr t j := by
  unfold rm remT
  rw [count_take_succ h]
  split <;> omega
theorem rm_mono {t t' : Nat} (h : t ≤ t') (j : Nat) : rm l a tr t' j ≤ rm l a tr t j := by
  have := count_take_mono (tr := tr) (y := (j : Int)) h
  unfold rm remT; omega
theorem LineOk.nonneg (lo : LineOk l a tr f) {j : Nat} (hj : j < a.length) (t : Nat) : 0 ≤ rm l a tr t j := by
  have h := lo.done j hj
  have h1 : (tr.take t).count (j : Int) ≤ tr.count (j : Int) := (List.take_sublist t tr).count_le _
  unfold remT at h
  unfold rm remT; omega
theorem LineOk.before (lo : LineOk l a tr f) {j : Nat} (hj : j < a.length) : ∀ t : Nat, (t : Int) ≤ atA a j → rm l a tr t j = szA l a j
  | 0, _ => by simp [rm, remT]
  | t + 1, h => by
    have ih := lo.before hj t (by omega)
    cases hx : tr[t]? with
    | none =>
      have := List.getElem?_eq_none_iff.1 hx
      unfold rm at *
      rw [List.take_of_length_le (by omega)] at ih ⊢; exact ih
    | some x =>
      rw [rm_succ hx, if_neg, ih]
      rintro rfl
      have hl := (List.getElem?_eq_some_iff.1 hx).1
      have htk : (tr.take t).length = t := by rw [List.length_take]; omega
      rcases lo.step t _ hx with ⟨h1, _⟩ | ⟨j', h1, hb⟩
      · omega
      · obtain rfl : j = j' := by omega
        have := hb.at_
        rw [htk] at this; omega
/-- no arrival is finished before its bytes are sent -/
theorem LineOk.atleast (lo : LineOk l a tr f) {j : Nat} (hj : j < a.length) (h0 : 0 ≤ atA a j) : ∀ t : Nat, szA l a j - rm l a tr t j ≤ (t : Int) - atA a j ∨ rm l a tr t j = szA l a j
  | 0 => .inr (lo.before hj 0 h0)
  | t + 1 => by
    by_cases hat : (t : Int) + 1 ≤ atA a j
    · exact .inr (lo.before hj (t + 1) (by omega))
    · left
      have ih := lo.atleast hj h0 t
      cases hx : tr[t]? with
      | none =>
        have := List.getElem?_eq_none_iff.1 hx
        have e : rm l a tr (t + 1) j = rm l a tr t j := by unfold rm; rw [List.take_of_length_le (by omega), List.take_of_length_le (by omega)]
        rw [e]; omega
      | some x =>
        have := rm_succ (l := l) (a := a) hx j
        split at this <;> omega
theorem gapA (hp : ProperP l a) {i j : Nat} (hij : i < j) (hj : j < a.length) (hs : stA a i = stA a j) : perL l (stA a j) ≤ atA a j - atA a i := by
  obtain ⟨x, hx, hax, hsx, hsl, _⟩ := proper_at hp (show i < a.length by omega)
  obtain ⟨y, hy, hay, hsy, hsly, _⟩ := proper_at hp hj
  have hst : l[y.stream.toNat]? = some (l[stA a j]) := by rw [show y.stream.toNat = stA a j by omega]; exact List.getElem?_eq_getElem hsly
  have := (hp.all j y hy).gap i x _ hij hx (by omega) hst
  rw [hay, hax]
  simp only [perL, List.getD_eq_getElem?_getD, List.getElem?_eq_getElem hsly, Option.getD_some]
  exact this
/-- how many arrivals of a stream come in a window -/
def cntK (a : List Arr) (t0 r : Int) (k : Nat) : Nat → Int
  | 0 => 0
  | m + 1 => cntK a t0 r k m + if stA a m = k ∧ t0 ≤ atA a m ∧ atA a m < t0 + r then 1 else 0
theorem cntK_bound (hp : ProperP l a) {t0 r : Int} {k : Nat} (hr : 1 ≤ r) (hper : 1 ≤ perL l k) : ∀ m, m ≤ a.length → 0 ≤ cntK a t0 r k m ∧ cntK a t0 r k m ≤ (r + perL l k - 1) / perL l k := by
  have key : ∀ m, m ≤ a.length → (cntK a t0 r k m = 0 ∧ ∀ j, j < m → ¬ (stA a j = k ∧ t0 ≤ atA a j ∧ atA a j < t0 + r)) ∨ (1 ≤ cntK a t0 r k m ∧ ∃ j, j < m ∧ (stA a j = k ∧ t0 ≤ atA a j ∧ atA a j < t0 + r) ∧ (cntK a t0 r k m - 1) * perL l k ≤ atA a j - t0 ∧ ∀ j', j < j' → j' < m → ¬ (stA a j' = k ∧ t0 ≤ atA a j' ∧ atA a j' < t0 + r)) := by
    intro m
    induction m with
    | zero => intro _; exact .inl ⟨rfl, by omega⟩
    | succ m ih =>
      intro hm
      simp only [cntK]
      by_cases hw : stA a m = k ∧ t0 ≤ atA a m ∧ atA a m < t0 + r
      · rw [if_pos hw]
        right
        rcases ih (by omega) with ⟨h1, h2⟩ | ⟨h1, j, hj, hjw, hjb, _⟩
        · rw [h1]
          exact ⟨by omega, m, by omega, hw, by omega, fun j' h h' => by omega⟩
        · refine ⟨by omega, m, by omega, hw, ?_, fun j' h h' => by omega⟩
          have hg := gapA hp hj (by omega) (hjw.1.trans hw.1.symm)
          rw [hw.1] at hg
          have e : (cntK a t0 r k m + 1 - 1) * perL l k = (cntK a t0 r k m - 1) * perL l k + perL l k := by rw [Int.sub_mul, Int.sub_mul, Int.add_mul]; omega
          rw [e]; omega
      · rw [if_neg hw]
        rcases ih (by omega) with ⟨h1, h2⟩ | ⟨h1, j, hj, hjw, hjb, hjn⟩
        · refine .inl ⟨by omega, fun j hj => ?_⟩
          by_cases h : j = m
          · subst h; exact hw
          · exact h2 j (by omega)
        · refine .inr ⟨by omega, j, by omega, hjw, by rw [Int.add_zero]; exact hjb, fun j' h h' => ?_⟩
          by_cases he : j' = m
          · subst he; exact hw
          · exact hjn j' h (by omega)
  intro m hm
  have hq : 0 ≤ (r + perL l k - 1) / perL l k := Int.ediv_nonneg (by omega) (by omega)
  rcases key m hm with ⟨h, _⟩ | ⟨h1, j, hj, hjw, hjb, _⟩
  · omega
  · refine ⟨by omega, (Int.le_ediv_iff_mul_le (by omega)).2 ?_⟩
    have e : cntK a t0 r k m * perL l k = (cntK a t0 r k m - 1) * perL l k + perL l k := by rw [Int.sub_mul]; omega
    rw [e]; omega
end
end Go.Proofs.Ytidnjppalebbfaa
