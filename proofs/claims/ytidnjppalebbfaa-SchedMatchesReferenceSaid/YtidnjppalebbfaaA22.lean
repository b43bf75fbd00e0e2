/- What a run says of each of its ticks, and of when arrivals are finished. -/
import Derived.Test.YtidnjppalebbfaaA11
set_option linter.unusedSimpArgs false
set_option linter.unusedVariables false
namespace Go.Proofs.Ytidnjppalebbfaa
open Go Go.V Go.RowKit
/-- what is left of an arrival behind some ticks -/
def remT (l : List Stream) (a : List Arr) (pre : List Int) (j : Nat) : Int := szA l a j - (pre.count (j : Int) : Int)
def StepOk (l : List Stream) (a : List Arr) (pre : List Int) (x : Int) : Prop :=
  (x = -1 ∧ Idle a pre.length (remT l a pre) ∧ ¬ Done a (remT l a pre)) ∨ ∃ j : Nat, x = j ∧ IsBest l a pre.length (remT l a pre) j
section
variable {l : List Stream} {a : List Arr}
theorem remT_nil : remT l a [] = szA l a := by funext j; simp [remT]
theorem remT_idle (pre : List Int) : remT l a (pre ++ [-1]) = remT l a pre := by
  funext j
  simp only [remT, List.count_append]
  rw [show ([-1] : List Int).count (j : Int) = 0 by rw [List.count_eq_zero]; simp]
  simp
theorem remT_send (pre : List Int) (i : Nat) : remT l a (pre ++ [(i : Int)]) = dec (remT l a pre) i := by
  funext j
  simp only [remT, List.count_append, dec]
  by_cases h : j = i
  · subst h
    rw [if_pos rfl, show ([(j : Int)] : List Int).count (j : Int) = 1 by simp]
    omega
  · rw [if_neg h, show ([(i : Int)] : List Int).count (j : Int) = 0 by rw [List.count_eq_zero]; simp; omega]
    simp
theorem Run.spec {tr : List Int} {rem : Nat → Int} (h : Run l a tr rem) : rem = remT l a tr ∧ ∀ t x, tr[t]? = some x → StepOk l a (tr.take t) x := by
  have ext : ∀ (tr : List Int) (y : Int), (∀ t x, tr[t]? = some x → StepOk l a (tr.take t) x) → StepOk l a tr y → ∀ t x, (tr ++ [y])[t]? = some x → StepOk l a ((tr ++ [y]).take t) x := by
    intro tr y ih hy t x hx
    rcases Nat.lt_or_ge t tr.length with h | h
    · rw [List.getElem?_append_left h] at hx
      rw [List.take_append_of_le_length (by omega)]
      exact ih t x hx
    · have hl := (List.getElem?_eq_some_iff.1 hx).1
      simp at hl
      obtain rfl : t = tr.length := by omega
      rw [List.getElem?_append_right (Nat.le_refl _)] at hx
      simp at hx; subst hx
      rw [List.take_left]; exact hy
  induction h with
  | start => exact ⟨remT_nil.symm, fun t x h => by simp at h⟩
  | @idle tr rem h1 hi hd ih =>
    obtain ⟨rfl, ih⟩ := ih
    exact ⟨(remT_idle _).symm, ext tr _ ih (.inl ⟨rfl, hi, hd⟩)⟩
  | @send tr rem j h1 hb ih =>
    obtain ⟨rfl, ih⟩ := ih
    exact ⟨(remT_send _ _).symm, ext tr _ ih (.inr ⟨j, rfl, hb⟩)⟩
theorem count_take_succ {tr : List Int} {t : Nat} {x y : Int} (h : tr[t]? = some x) : (tr.take (t + 1)).count y = (tr.take t).count y + if x = y then 1 else 0 := by
  rw [List.take_add_one, h, List.count_append]
  by_cases hxy : x = y
  · subst hxy; simp
  · rw [if_neg hxy, show (Option.toList (some x)).count y = 0 by rw [List.count_eq_zero]; simp; omega]
theorem count_take_mono {tr : List Int} {y : Int} {t t' : Nat} (h : t ≤ t') : (tr.take t).count y ≤ (tr.take t').count y := by
  have : (tr.take t).Sublist (tr.take t') := by
    rw [show tr.take t = (tr.take t').take t by rw [List.take_take, Nat.min_eq_left h]]
    exact List.take_sublist _ _
  exact this.count_le _
/-- when an arrival is finished: the last tick in which a byte is sent for it -/
theorem fin_at (n : Nat) (tr : List Int) (i : Nat) (hi : i < n) : ∃ f, (finOf n tr)[i]? = some f ∧ ((f = 0 ∧ tr.count (i : Int) = 0) ∨ ∃ t : Nat, f = (t : Int) + 1 ∧ tr[t]? = some (i : Int) ∧ ∀ t' : Nat, t < t' → tr[t']? ≠ some (i : Int)) := by
  have key : ∀ m, m ≤ tr.length → ∃ f, (finOf n (tr.take m))[i]? = some f ∧ ((f = 0 ∧ (tr.take m).count (i : Int) = 0) ∨ ∃ t : Nat, f = (t : Int) + 1 ∧ (tr.take m)[t]? = some (i : Int) ∧ ∀ t' : Nat, t < t' → (tr.take m)[t']? ≠ some (i : Int)) := by
    intro m
    induction m with
    | zero => intro _; exact ⟨0, by simp [finOf, hi], .inl ⟨rfl, by simp⟩⟩
    | succ m ih =>
      intro hm
      obtain ⟨f, hf, hc⟩ := ih (by omega)
      have hml : (tr.take m).length = m := by rw [List.length_take]; omega
      have hx : tr[m]? = some (tr[m]'(by omega)) := List.getElem?_eq_getElem (by omega)
      generalize tr[m]'(by omega) = x at hx
      have htk : tr.take (m + 1) = tr.take m ++ [x] := by rw [List.take_add_one, hx]; rfl
      rw [htk, finOf_snoc, hml]
      by_cases he : x = (i : Int)
      · subst he
        rw [if_pos (by omega)]
        have hfl := finOf_length n (tr.take m)
        refine ⟨(m : Int) + 1, by rw [List.getElem?_set, if_pos (by simp), if_pos (by simp; omega)], .inr ⟨m, rfl, ?_, fun t' ht' h => ?_⟩⟩
        · rw [List.getElem?_append_right (by omega), hml]; simp
        · have := (List.getElem?_eq_some_iff.1 h).1
          simp at this; omega
      · have hf' : (if 0 ≤ x then (finOf n (tr.take m)).set x.toNat ((m : Int) + 1) else finOf n (tr.take m))[i]? = some f := by
          split
          · rw [List.getElem?_set, if_neg (by omega)]; exact hf
          · exact hf
        refine ⟨f, hf', ?_⟩
        rcases hc with ⟨h1, h2⟩ | ⟨t, h1, h2, h3⟩
        · refine .inl ⟨h1, ?_⟩
          rw [List.count_append, h2, show ([x] : List Int).count (i : Int) = 0 by rw [List.count_eq_zero]; simp; omega]
        · have htm := (List.getElem?_eq_some_iff.1 h2).1
          refine .inr ⟨t, h1, by rw [List.getElem?_append_left htm]; exact h2, fun t' ht' h => ?_⟩
          rcases Nat.lt_or_ge t' (tr.take m).length with hh | hh
          · rw [List.getElem?_append_left hh] at h; exact h3 t' ht' h
          · rw [List.getElem?_append_right hh] at h
            have := (List.getElem?_eq_some_iff.1 h).1
            simp at this
            have h0 : t' - min m tr.length = 0 := by omega
            rw [List.length_take, h0] at h
            simp at h; exact he h
  have := key tr.length (Nat.le_refl _)
  rwa [List.take_length] at this
/-- all that the laws need of a trace and of what it finishes -/
structure LineOk (l : List Stream) (a : List Arr) (tr f : List Int) : Prop where
  step : ∀ t x, tr[t]? = some x → StepOk l a (tr.take t) x
  done : ∀ j, j < a.length → remT l a tr j = 0
  flen : f.length = a.length
  fin : ∀ j, j < a.length → ∃ t : Nat, f[j]? = some ((t : Int) + 1) ∧ tr[t]? = some (j : Int) ∧ remT l a (tr.take t) j = 1 ∧ (∀ t' : Nat, t < t' → remT l a (tr.take t') j = 0) ∧ ∀ t' : Nat, t' ≤ t → 1 ≤ remT l a (tr.take t') j
theorem line_ok (hp : ProperP l a) {tr : List Int} (h : TraceP l a tr) : LineOk l a tr (finOf a.length tr) := by
  obtain ⟨rem, hr, hd⟩ := h
  obtain ⟨rfl, hst⟩ := hr.spec
  refine ⟨hst, hd, finOf_length _ _, fun j hj => ?_⟩
  obtain ⟨f, hf, hc⟩ := fin_at a.length tr j hj
  have hdj := hd j hj
  have hsz := szA_range hp hj
  rcases hc with ⟨h1, h2⟩ | ⟨t, rfl, h2, h3⟩
  · unfold remT at hdj; rw [h2] at hdj; simp at hdj; omega
  · have htl := (List.getElem?_eq_some_iff.1 h2).1
    have hlast : ∀ t', t < t' → (tr.take t').count (j : Int) = (tr.take (t + 1)).count (j : Int) := by
      intro t'
      induction t' with
      | zero => intro h; omega
      | succ m ih =>
        intro h
        by_cases hm : t = m
        · subst hm; rfl
        · rw [← ih (by omega)]
          cases hx : tr[m]? with
          | none => rw [List.take_of_length_le (by have := List.getElem?_eq_none_iff.1 hx; omega), List.take_of_length_le (by have := List.getElem?_eq_none_iff.1 hx; omega)]
          | some x =>
            rw [count_take_succ hx, if_neg (fun hh => h3 m (by omega) (by rw [hx, hh]))]; rfl
    have htot : (tr.take (t + 1)).count (j : Int) = tr.count (j : Int) := by
      have := hlast (tr.length) 
      rcases Nat.lt_or_ge t tr.length with hh | hh
      · rw [← this hh, List.take_length]
      · omega
    have hsucc := count_take_succ (y := (j : Int)) h2
    rw [if_pos rfl] at hsucc
    unfold remT at hdj
    refine ⟨t, hf, h2, ?_, fun t' ht' => ?_, fun t' ht' => ?_⟩
    · unfold remT; omega
    · unfold remT; rw [hlast t' ht', htot]; exact hdj
    · have := count_take_mono (tr := tr) (y := (j : Int)) ht'
      unfold remT; omega
end
end Go.Proofs.Ytidnjppalebbfaa
