/- The law of the latest finish: the walk. -/
import Derived.Test.YtidnjppalebbfaaA23
import Derived.Test.YtidnjppalebbfaaA25
set_option linter.unusedSimpArgs false
set_option linter.unusedVariables false
namespace Go.Proofs.Ytidnjppalebbfaa
open Go Go.V Go.RowKit
section
variable {k : Value → World → Prop} {w : World}
set_option maxRecDepth 100000 in
theorem s4 {xv yv : Value} {xs : List (Int × Int × Int)} {ys : List (Int × Int)} (hx : IsSl fT3 w xv xs) (hxr : ∀ x ∈ xs, inI64 x.1 ∧ inI64 x.2.1 ∧ inI64 x.2.2) (hy : IsSl fT2 w yv ys) (hyr : ∀ x ∈ ys, inI64 x.1 ∧ inI64 x.2) (hk : ∀ w', Below w.heap.size w w' → k (.bool true) w') : S4 xv yv k w := by
  unfold S4
  refine c9 fun w1 hb1 => ?_
  rw [w_not, Bool.not_true, condW_false]
  refine c10 (hx.below hb1) hxr fun lv l w2 hb2 hl hv => ?_
  have hb02 := below_trans hb1 hb2
  refine c11 hl hv (hy.below hb02) hyr fun av a w3 hb3 ha hp h40 => ?_
  have hlm : l.length ≤ maxLen := by have := (valid_at hv).1; unfold maxLen; omega
  replace hl := hl.below hb3
  have hb03 := below_trans hb02 hb3
  refine c13 hl hlm (fun w' _ hn => by rw [hv] at hn; cases hn) fun out rv w4 hb4 _ hol hor hr => ?_
  rw [w_ex0, w_ex1]
  replace hl := hl.below hb4
  replace ha := ha.below hb4
  have hb04 := below_trans hb03 hb4
  refine c20 hl ha hlm (fun w' _ hn => absurd hp hn) fun tr fv w5 hb5 _ htr hf => ?_
  rw [w_ex0, w_ex1]
  replace hl := hl.below hb5
  replace ha := ha.below hb5
  replace hr := hr.below hb5
  have hb05 := below_trans hb04 hb5
  have lo := line_ok hp htr
  generalize finOf a.length tr = f at *
  have e0 : (!decide ((0 : Int) = 0)) = false := by decide
  rw [w_neq, e0]
  simp only [guardW_ff, pickW_false]
  rw [w_neq, e0]
  simp only [guardW_ff, pickW_false]
  refine (len26 hr).mpr ((len22 hl).mpr ?_)
  rw [w_neq, show (!decide ((out.length : Int) = (l.length : Int))) = false by simp [hol]]
  simp only [guardW_ff, pickW_false]
  refine (len26 hf).mpr ((len23 ha).mpr ?_)
  rw [w_neq, show (!decide ((f.length : Int) = (a.length : Int))) = false by simp [lo.flen]]
  simp only [pickW_false, condW_false]
  refine Loop1.intro (fun n c w' => ∃ i : Nat, c = I i ∧ i ≤ a.length ∧ n = a.length - i ∧ Below w5.heap.size w5 w') _ ⟨0, rfl, by omega, rfl, Below.refl _ _⟩ ?_
  rintro n _ w6 ⟨i, rfl, hi, rfl, hb6⟩
  have ha6 := ha.below hb6
  have hl6 := hl.below hb6
  have hr6 := hr.below hb6
  have hf6 := hf.below hb6
  refine (len23 ha6).mpr ?_
  rw [w_lss]
  by_cases hlt : i < a.length
  · rw [decide_eq_true (by omega), condW_true]
    obtain ⟨x, hxi, hax, hsx, hsl, hat⟩ := proper_at hp hlt
    obtain ⟨worst, hworst⟩ : ∃ u, out[stA a i]? = some u := ⟨out[stA a i]'(by omega), by simp⟩
    have hw := hor _ _ hworst
    obtain ⟨v, hv2, hv3, hv4⟩ := latest hp lo hlt hw
    have hwr : -1 ≤ worst ∧ worst ≤ 1000 := by
      have := (valid_at hv).2 (stA a i) l[stA a i] (List.getElem?_eq_getElem hsl)
      have e2 : perL l (stA a i) = l[stA a i].period := by unfold perL; rw [List.getD_eq_getElem?_getD, List.getElem?_eq_getElem hsl]; rfl
      have e1 : szL l (stA a i) = l[stA a i].size := by unfold szL; rw [List.getD_eq_getElem?_getD, List.getElem?_eq_getElem hsl]; rfl
      rcases hw with ⟨h1, h2, _⟩ | ⟨h1, _⟩ <;> omega
    have hsz : l[stA a i].size = szA l a i := by unfold szA; rw [List.getD_eq_getElem?_getD, List.getElem?_eq_getElem hsl]; rfl
    have hszr := szA_range hp hlt
    refine getS ha6 (by omega) (by simpa using hxi) ?_
    refine get26 hr6 (by omega) (by rw [show x.stream.toNat = stA a i by omega]; exact hworst) ?_
    rw [drewW_eq]
    refine tget26 hf6.drew (by omega) (by simpa using hv2) ?_
    refine tgetT ha6.drew (by omega) (by simpa using hxi) ?_
    refine tgetS ha6.drew (by omega) (by simpa using hxi) ?_
    refine tgetZ (x := l[stA a i]) hl6.drew (by omega) (by rw [show x.stream.toNat = stA a i by omega]; exact List.getElem?_eq_getElem hsl) ?_
    rw [hsz, t_add, wrap_id (by omega), t_lss, decide_eq_false (by omega)]
    simp only [guardT_ff]
    rw [t_geq]
    have fin : ∃ m, m < a.length - i ∧ ∃ i' : Nat, I ((i : Int) + 1) = I i' ∧ i' ≤ a.length ∧ m = a.length - i' ∧ Below w5.heap.size w5 w6.drew := ⟨a.length - (i + 1), by omega, i + 1, by simp [I], by omega, rfl, hb6.trans (Below.refl _ _).drew⟩
    by_cases hw0 : 0 ≤ worst
    · have := hv4 hw0
      rw [decide_eq_true hw0]
      simp only [guardT_tt, pickT_true, pickT_false]
      refine tget26 hf6.drew (by omega) (by simpa using hv2) ?_
      refine tgetT ha6.drew (by omega) (by simpa using hxi) ?_
      rw [t_add, wrap_id (by omega), t_gtr, decide_eq_false (by omega), condW_false, w_add, wrap_id (by omega), loopK_self]
      exact fin
    · rw [decide_eq_false hw0]
      simp only [guardT_ft, guardT_u, pickT_false, condW_false]
      rw [w_add, wrap_id (by omega), loopK_self]
      exact fin
  · rw [decide_eq_false (by omega), condW_false]
    exact hk _ (hb05.trans (hb6.mono hb05.size))
end
end Go.Proofs.Ytidnjppalebbfaa
