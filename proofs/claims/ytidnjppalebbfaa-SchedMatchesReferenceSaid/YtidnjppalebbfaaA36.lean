/- The law that program and reference agree: the walk. -/
import Derived.Test.YtidnjppalebbfaaA35
import Derived.Test.YtidnjppalebbfaaS3j
set_option linter.unusedSimpArgs false
set_option linter.unusedVariables false
namespace Go.Proofs.Ytidnjppalebbfaa
open Go Go.V Go.RowKit
section
variable {k : Value → World → Prop} {w : World}
theorem und4 : Try.prog.underlying 4 = some .bool := by kernel_rfl
theorem minN {n m : Nat} : (if (m : Int) < (n : Int) then (m : Int) else (n : Int)) = ((min n m : Nat) : Int) := by split <;> omega
set_option maxRecDepth 100000 in
set_option maxHeartbeats 1000000 in
theorem s3 {rv ov xv yv wv : Value} {at_ by_ : Int} {R : List Stream} {O : List Arr} {xs : List (Int × Int × Int)} {ys : List (Int × Int)} {W : List Int} (hR : IsSl fS w rv R) (hRl : R.length ≤ maxLen) (hO : IsSl fA w ov O) (hOl : O.length ≤ maxLen)
    (hx : IsSl fT3 w xv xs) (hxr : ∀ x ∈ xs, inI64 x.1 ∧ inI64 x.2.1 ∧ inI64 x.2.2) (hy : IsSl fT2 w yv ys) (hyr : ∀ x ∈ ys, inI64 x.1 ∧ inI64 x.2) (hat : inI64 at_) (hW : IsSl fI w wv W) (hWl : W.length ≤ maxLen)
    (hk : ∀ w', Below w.heap.size w w' → k (.bool true) w') : S3j rv ov xv yv (I at_) (I by_) wv k w := by
  unfold S3j
  have hmx : maxLen ≤ 9223372036854775807 := by decide
  refine c9 fun w1 hb1 => ?_
  rw [w_not, Bool.not_true, condW_false]
  refine (len22 (hR.below hb1)).mpr ?_
  rw [w_min, show (if (9 : Int) < (R.length : Int) then (9 : Int) else (R.length : Int)) = ((min R.length 9 : Nat) : Int) from minN (m := 9)]
  refine w_head (by kernel_rfl) (by kernel_rfl) (hR.below hb1) (Nat.min_le_left _ _) fun sv hS1 => ?_
  refine (len23 (hO.below hb1)).mpr ?_
  rw [w_min, show (if (61 : Int) < (O.length : Int) then (61 : Int) else (O.length : Int)) = ((min O.length 61 : Nat) : Int) from minN (m := 61)]
  refine w_head (by kernel_rfl) (by kernel_rfl) (hO.below hb1) (Nat.min_le_left _ _) fun fv hF1 => ?_
  generalize hSL : R.take (min R.length 9) = SL at *
  have hSn : SL.length ≤ 9 := by rw [← hSL, List.length_take]; omega
  generalize hFL : O.take (min O.length 61) = FL at *
  have hFn : FL.length ≤ 61 := by rw [← hFL, List.length_take]; omega
  refine c10 (hx.below hb1) hxr fun lv l w2 hb2 hl hv => ?_
  have hb02 := below_trans hb1 hb2
  have hln := (valid_at hv).1
  refine c11 hl hv (hy.below hb02) hyr fun av a w3 hb3 ha hp h40 => ?_
  have hb03 := below_trans hb02 hb3
  refine copyS (F := fA) (l := a) sty23 oneA ha (by omega) (by decide) fun bv w4 hb4 hbent => ?_
  refine joinW_use0 (Pre := fun w' => Below w3.heap.size w3 w' ∧ ∃ A', Mine fA 31 w' w3.heap.size bv A') ?_ ?_
  · rintro w5 ⟨hb5, A', hA5⟩
    have hb25 := hb3.trans (hb5.mono hb3.size)
    have hb15 := hb2.trans (hb25.mono hb2.size)
    refine copyS (F := fS) (l := l) sty22 oneS (hl.below hb25) (by omega) (by decide) fun tv w6 hb6 hst6 => ?_
    have hS6 := hS1.below (hb15.trans (hb6.mono hb15.size))
    refine joinW_use0 (Pre := fun w' => Below w5.heap.size w5 w' ∧ ∃ L', Mine fS 34 w' w5.heap.size tv L' ∧ L'.length = l.length) ?_ ?_
    · rintro w7 ⟨hb7, L', hL7, hLn⟩
      have hb17 := hb15.trans (hb7.mono hb15.size)
      have hb07 := below_trans hb1 hb17
      have hS7 := hS1.below hb17
      have hF7 := hF1.below hb17
      have hl7 := hl.below (hb25.trans (hb7.mono hb25.size))
      have ha7 := ha.below (hb5.trans (hb7.mono hb5.size))
      have hA7 := (hA5.below hb7).sl
      have hL7' := hL7.sl
      refine bs35 (isSlice hS7) (isSlice hl7) (isSlice hL7') fun v35 w8 hb8 hv35 => ?_
      refine (len35 hv35).mpr ?_
      refine Loop1.intro (fun n c w' => ∃ t : Nat, c = I t ∧ t ≤ 3 ∧ n = 3 - t ∧ Below w8.heap.size w8 w') _ ⟨0, rfl, by omega, rfl, Below.refl _ _⟩ ?_
      rintro n _ w9 ⟨t, rfl, ht, rfl, hb9⟩
      rw [w_lss]
      by_cases ht3 : t < 3
      · rw [decide_eq_true (by simp; omega), condW_true]
        have hb79 := hb8.trans (hb9.mono hb8.size)
        obtain ⟨u, L, hu, hsL, hLl⟩ : ∃ u L, [sv, lv, tv][t]? = some u ∧ IsSl fS w9 u L ∧ L.length ≤ maxLen := by
          match t, ht3 with
          | 0, _ => exact ⟨_, _, rfl, hS7.below hb79, by unfold maxLen; omega⟩
          | 1, _ => exact ⟨_, _, rfl, hl7.below hb79, by unfold maxLen; omega⟩
          | 2, _ => exact ⟨_, _, rfl, hL7'.below hb79, by unfold maxLen; omega⟩
        rw [nw35 rfl (hv35.below hb9) hu rfl]
        refine d13 hsL hLl fun e1 o1 u1 wa hba hr1 hu1 => ?_
        rw [w_ex0, w_ex1]
        refine d14 (hsL.below hba) fun e2 o2 u2 wb hbb hr2 hu2 => ?_
        rw [w_ex0, w_ex1]
        obtain ⟨rfl, rfl⟩ := hr1.unique hr2
        have hbab := below_trans hba hbb
        refine c15 (hsL.below hbab) hLl fun wc hbc => ?_
        have hbac := below_trans hbab hbc
        refine c16 (hsL.below hbac) ?_
        rw [w_neqB und4, decide_eq_true rfl, Bool.not_true]
        simp only [guardW_ff, pickW_false]
        rw [w_neq, decide_eq_true rfl, Bool.not_true]
        simp only [guardW_ff]
        have hol : o1.length ≤ maxLen := by
          rcases hr1 with ⟨_, _, rfl⟩ | ⟨_, _, h, _⟩
          · simp
          · omega
        refine c17 (hu1.below (below_trans hbb hbc)) (hu2.below hbc) hol fun wd hbd => ?_
        rw [decide_eq_true rfl, w_not, Bool.not_true]
        simp only [pickW_false, condW_false]
        have hbad := below_trans hbac hbd
        have hb9d := hb79.trans (hbad.mono (by have := hb79.size; exact this))
        refine bs41 (isSlice hF7) (isSlice ha7) (isSlice hA7) fun v41 we hbe hv41 => ?_
        refine (len41 hv41).mpr ?_
        refine Loop1.intro (fun n c w' => ∃ t : Nat, c = I t ∧ t ≤ 3 ∧ n = 3 - t ∧ Below we.heap.size we w') _ ⟨0, rfl, by omega, rfl, Below.refl _ _⟩ ?_
        rintro n _ wf ⟨r, rfl, hr, rfl, hbf⟩
        have hbaf := below_trans hbad (below_trans hbe hbf)
        have hb7f := hb9d.trans ((below_trans hbe hbf).mono hb9d.size)
        rw [w_lss]
        by_cases hr3 : r < 3
        · rw [decide_eq_true (by simp; omega), condW_true]
          obtain ⟨z, A, hz, hsA⟩ : ∃ z A, [fv, av, bv][r]? = some z ∧ IsSl fA wf z A := by
            match r, hr3 with
            | 0, _ => exact ⟨_, _, rfl, hF7.below hb7f⟩
            | 1, _ => exact ⟨_, _, rfl, ha7.below hb7f⟩
            | 2, _ => exact ⟨_, _, rfl, hA7.below hb7f⟩
          rw [nw41 rfl (hv41.below hbf) hz rfl]
          have hsLf := hsL.below hbaf
          refine d18 hsLf hsA hLl fun e3 o3 u3 x1 hx1 hr3 hu3 => ?_
          rw [w_ex0, w_ex1]
          refine d19 (hsLf.below hx1) (hsA.below hx1) hLl fun e4 o4 u4 x2 hx2 hr4 hu4 => ?_
          rw [w_ex0, w_ex1]
          obtain ⟨rfl, rfl⟩ := hr3.unique hr4
          have hx12 := below_trans hx1 hx2
          refine d20 (hsLf.below hx12) (hsA.below hx12) hLl fun e5 o5 u5 x3 hx3 hr5 hu5 => ?_
          rw [w_ex0, w_ex1]
          have hx13 := below_trans hx12 hx3
          refine d21 (hsLf.below hx13) (hsA.below hx13) hLl fun e6 o6 u6 x4 hx4 hr6 hu6 => ?_
          rw [w_ex0, w_ex1]
          obtain ⟨rfl, rfl⟩ := hr5.unique hr6
          have hx14 := below_trans hx13 hx4
          refine d22 (hsLf.below hx14) (hsA.below hx14) hLl fun b1 x5 hx5 hb1' => ?_
          have hx15 := below_trans hx14 hx5
          refine d23 (hsLf.below hx15) (hsA.below hx15) hLl fun b2 x6 hx6 hb2' => ?_
          obtain rfl : b1 = b2 := by rw [Bool.eq_iff_iff, hb1', hb2']
          rw [w_neqB und4, decide_eq_true rfl, Bool.not_true]
          simp only [guardW_ff, pickW_false]
          rw [w_neq, decide_eq_true rfl, Bool.not_true]
          simp only [guardW_ff, pickW_false]
          rw [w_neq, decide_eq_true rfl, Bool.not_true]
          simp only [guardW_ff, pickW_false]
          have ho3 : o3.length ≤ maxLen := by
            rcases hr3 with ⟨_, _, rfl⟩ | ⟨hpp, _, rem, hrun, _⟩
            · simp
            · have h1 := hrun.short hpp
              have h2 := tot_nonneg (rem := rem) (n := A.length) fun j hj => (hrun.range hpp j hj).1
              unfold maxLen; omega
          have ho5 : o5.length ≤ maxLen := by
            rcases hr5 with ⟨_, _, rfl⟩ | ⟨hpp, _, tr, _, rfl⟩
            · simp
            · rw [finOf_length]; have := hpp.len; unfold maxLen; omega
          have hx26 := below_trans hx3 (below_trans hx4 (below_trans hx5 hx6))
          refine c17 (hu3.below (below_trans hx2 hx26)) (hu4.below hx26) ho3 fun x7 hx7 => ?_
          rw [decide_eq_true rfl, w_not, Bool.not_true]
          simp only [guardW_ff, pickW_false]
          have hx47 := below_trans hx5 (below_trans hx6 hx7)
          refine c17 (hu5.below (below_trans hx4 hx47)) (hu6.below hx47) ho5 fun x8 hx8 => ?_
          rw [decide_eq_true rfl, w_not, Bool.not_true, condW_false, w_add, wrap_id (by omega), loopK_self]
          exact ⟨3 - (r + 1), by omega, r + 1, by simp [I], by omega, rfl, below_trans hbf (below_trans hx14 (below_trans hx47 hx8))⟩
        · rw [decide_eq_false (by simp; omega), condW_false, w_add, wrap_id (by omega), loopK_self]
          exact ⟨3 - (t + 1), by omega, t + 1, by simp [I], by omega, rfl, below_trans hb9 hbaf⟩
      · rw [decide_eq_false (by simp; omega), condW_false]
        have hb09 := below_trans (below_trans hb07 hb8) hb9
        refine (len26 (hW.below hb09)).mpr ?_
        rw [w_min, show (if (9 : Int) < (W.length : Int) then (9 : Int) else (W.length : Int)) = ((min W.length 9 : Nat) : Int) from minN (m := 9)]
        refine w_head (by kernel_rfl) (by kernel_rfl) (hW.below hb09) (Nat.min_le_left _ _) fun zv hz1 => ?_
        generalize hZ : W.take (min W.length 9) = Z at *
        have hZn : Z.length ≤ 9 := by rw [← hZ, List.length_take]; omega
        refine Loop2.intro (fun n a c w' => ∃ (i : Nat) (Y : List Int), c = I i ∧ i ≤ 9 ∧ n = 9 - i ∧ Y.length = i ∧ Below w9.heap.size w9 w' ∧ Mine fI 3 w' w9.heap.size a Y) _ ⟨0, [], rfl, by omega, rfl, rfl, Below.refl _ _, Mine.nil _ _⟩ ?_
        rintro n yv' _ wa ⟨i, Y, rfl, hi, rfl, hYn, hba, hYa⟩
        have hza := hz1.below hba
        refine (len26 hza).mpr ?_
        rw [w_lss]
        by_cases hgo : i < Z.length ∧ i < 8
        · rw [decide_eq_true (show (i : Int) < Z.length by omega)]
          simp only [guardW_tt, pickW_true]
          rw [w_lss, decide_eq_true (by omega), condW_true]
          obtain ⟨x, hxi⟩ : ∃ x, Z[i]? = some x := ⟨_, List.getElem?_eq_getElem hgo.1⟩
          rw [nw26 rfl hza hxi rfl]
          refine c12 (by omega) ?_
          refine pushI hYa hba.size (by omega) fun v' wb hYb hbb _ _ => ?_
          rw [w_add, wrap_id (by omega), loopK_self]
          exact ⟨9 - (i + 1), by omega, i + 1, _, by simp [I], by omega, rfl, by simp [hYn], hba.trans hbb, hYb⟩
        · rcases (show (i < Z.length ∧ ¬ i < 8) ∨ ¬ i < Z.length by omega) with ⟨g1, g2⟩ | g1
          case' inl =>
            rw [decide_eq_true (show (i : Int) < Z.length by omega)]
            simp only [guardW_tt, pickW_true]
            rw [w_lss, decide_eq_false (by omega), condW_false]
          case' inr =>
            rw [decide_eq_false (show ¬ (i : Int) < Z.length by omega)]
            simp only [guardW_ft, guardW_u, pickW_false, condW_false]
          all_goals
            refine bs44 (isSlice hza) (isSlice hYa.sl) fun v44 wb hbb hv44 => ?_
            refine (len44 hv44).mpr ?_
            refine Loop1.intro (fun n c w' => ∃ t : Nat, c = I t ∧ t ≤ 2 ∧ n = 2 - t ∧ Below wb.heap.size wb w') _ ⟨0, rfl, by omega, rfl, Below.refl _ _⟩ ?_
            rintro n _ wc ⟨s, rfl, hs, rfl, hbc⟩
            have hbac := below_trans hbb hbc
            rw [w_lss]
            by_cases hs2 : s < 2
            · rw [decide_eq_true (by simp; omega), condW_true]
              obtain ⟨u, D, hu, hsD, hDl⟩ : ∃ u D, [zv, yv'][s]? = some u ∧ IsSl fI wc u D ∧ D.length ≤ maxLen := by
                match s, hs2 with
                | 0, _ => exact ⟨_, _, rfl, hza.below hbac, by unfold maxLen; omega⟩
                | 1, _ => exact ⟨_, _, rfl, hYa.sl.below hbac, by unfold maxLen; omega⟩
              rw [nw44 rfl (hv44.below hbc) hu rfl]
              refine c12 (by omega) ?_
              refine bs26 fun v26 wd hbd hv26 => ?_
              refine (len26 hv26).mpr ?_
              refine Loop1.intro (fun n c w' => ∃ t : Nat, c = I t ∧ t ≤ 2 ∧ n = 2 - t ∧ Below wd.heap.size wd w') _ ⟨0, rfl, by omega, rfl, Below.refl _ _⟩ ?_
              rintro n _ we ⟨q, rfl, hq, rfl, hbe⟩
              rw [w_lss]
              by_cases hq2 : q < 2
              · rw [decide_eq_true (by simp; omega), condW_true]
                obtain ⟨b, hbq⟩ : ∃ b, [by_, pickI by_ 9000][q]? = some b := ⟨_, List.getElem?_eq_getElem (by simpa using hq2)⟩
                rw [nw26 rfl (hv26.below hbe) hbq rfl]
                have hsDe := hsD.below (below_trans hbd hbe)
                refine d24 hsDe hDl fun e1 o1 u1 x1 hx1 hr1 hu1 => ?_
                rw [w_ex0, w_ex1]
                refine d25 (hsDe.below hx1) hDl fun e2 o2 u2 x2 hx2 hr2 hu2 => ?_
                rw [w_ex0, w_ex1]
                obtain ⟨rfl, rfl⟩ := hr1.unique hr2
                rw [w_neq, decide_eq_true rfl, Bool.not_true]
                simp only [guardW_ff, pickW_false]
                have hol : o1.length ≤ maxLen := by
                  rcases hr1 with ⟨_, _, rfl⟩ | ⟨_, _, _, _, rfl⟩
                  · simp
                  · rw [giveI_length]; exact hDl
                refine c17 (hu1.below hx2) hu2 hol fun x3 hx3 => ?_
                rw [decide_eq_true rfl, w_not, Bool.not_true, condW_false, w_add, wrap_id (by omega), loopK_self]
                exact ⟨2 - (q + 1), by omega, q + 1, by simp [I], by omega, rfl, below_trans hbe (below_trans hx1 (below_trans hx2 hx3))⟩
              · rw [decide_eq_false (by simp; omega), condW_false, w_add, wrap_id (by omega), loopK_self]
                exact ⟨2 - (s + 1), by omega, s + 1, by simp [I], by omega, rfl, below_trans hbc (below_trans hbd hbe)⟩
            · rw [decide_eq_false (by simp; omega), condW_false]
              exact hk _ (below_trans hb09 (below_trans hba hbac))
    · intro J hJ
      refine (len22 hS6).mpr ?_
      rw [w_gtr]
      by_cases h0 : 0 < SL.length
      · rw [decide_eq_true (by omega), condW_true, drewW_eq]
        obtain ⟨x0, hx0⟩ : ∃ x, SL[0]? = some x := ⟨_, List.getElem?_eq_getElem h0⟩
        have hS6d := hS6.drew
        have hst6d := hst6.below (below_drew w6)
        have hb6d := hb6.trans ((below_drew w6).mono hb6.size)
        have hbS := (hb15.trans (hb6.mono hb15.size))
        refine ⟨fun w' => IsSl fS w' sv SL, hS6d, ?_⟩
        rw [tlen22 hst6d.sl]
        obtain ⟨b, o, c, hsv, _, hcl⟩ := hS6d.at (i := 0) (by omega) hx0
        rw [hsv, tixo22 (by omega) (by omega), ← hsv]
        rw [t_loadAgg (vs := fS.e x0) (by kernel_rfl) (by kernel_rfl) (by kernel_rfl) (by simpa using hcl) (fun w' hw' => by
          obtain ⟨b', o', c', hsv', _, hcl'⟩ := IsSl.at hw' (i := 0) (by omega) hx0
          rw [hsv] at hsv'
          simp only [Value.slice.injEq, Option.some.injEq, Addr.mk.injEq, and_true] at hsv'
          obtain ⟨⟨rfl, rfl⟩, _⟩ := hsv'
          simpa using hcl')]
        refine c12 (by omega) ?_
        rw [keepS_eq]
        refine ⟨hS6d, ?_⟩
        have hpr := pickI_range (c := at_) (n := l.length) (by omega) hat
        refine Mine.setAT (F := fS) (y := x0) (by kernel_rfl) (by kernel_rfl) (by kernel_rfl) (by kernel_rfl) (by kernel_rfl) hst6d hpr.1 (List.getElem?_eq_getElem (by omega)) (oneS x0) fun w8 hm8 hb8 ho8 => ?_
        rw [keepS_eq]
        have hb68 := hb6d.trans hb8
        exact ⟨hS1.below (hb15.trans (hb68.mono hb15.size)), hJ _ ⟨hb68, _, hm8, by simp⟩⟩
      · rw [decide_eq_false (by omega), condW_false]
        exact hJ _ ⟨hb6, l, hst6, rfl⟩
  · intro J hJ
    refine (len23 hbent.sl).mpr ?_
    rw [w_gtr]
    have hF4 := hF1.below (hb2.trans ((hb3.trans (hb4.mono hb3.size)).mono hb2.size))
    have none_ : J w4 := hJ _ ⟨hb4, a, hbent⟩
    by_cases h0 : 0 < a.length
    · rw [decide_eq_true (by omega)]
      simp only [guardW_tt, pickW_true]
      refine (len23 hF4).mpr ?_
      rw [w_gtr]
      by_cases h1 : 0 < FL.length
      · rw [decide_eq_true (by omega), condW_true, drewW_eq]
        obtain ⟨x0, hx0⟩ : ∃ x, FL[0]? = some x := ⟨_, List.getElem?_eq_getElem h1⟩
        have hF4d := hF4.drew
        have hbd := hbent.below (below_drew w4)
        have hb4d := hb4.trans ((below_drew w4).mono hb4.size)
        refine ⟨fun w' => IsSl fA w' fv FL, hF4d, ?_⟩
        rw [tlen23 hbd.sl]
        obtain ⟨b, o, c, hsv, _, hcl⟩ := hF4d.at (i := 0) (by omega) hx0
        rw [hsv, tixo23 (by omega) (by omega), ← hsv]
        rw [t_loadAgg (vs := fA.e x0) (by kernel_rfl) (by kernel_rfl) (by kernel_rfl) (by simpa using hcl) (fun w' hw' => by
          obtain ⟨b', o', c', hsv', _, hcl'⟩ := IsSl.at hw' (i := 0) (by omega) hx0
          rw [hsv] at hsv'
          simp only [Value.slice.injEq, Option.some.injEq, Addr.mk.injEq, and_true] at hsv'
          obtain ⟨⟨rfl, rfl⟩, _⟩ := hsv'
          simpa using hcl')]
        refine c12 (by omega) ?_
        rw [keepS_eq]
        refine ⟨hF4d, ?_⟩
        have hpr := pickI_range (c := at_) (n := a.length) (by omega) hat
        refine Mine.setAT (F := fA) (y := x0) (by kernel_rfl) (by kernel_rfl) (by kernel_rfl) (by kernel_rfl) (by kernel_rfl) hbd hpr.1 (List.getElem?_eq_getElem (by omega)) (oneA x0) fun w8 hm8 hb8 ho8 => ?_
        rw [keepS_eq]
        have hb48 := hb4d.trans hb8
        exact ⟨hF1.below (hb2.trans ((hb3.trans (hb48.mono hb3.size)).mono hb2.size)), hJ _ ⟨hb48, _, hm8⟩⟩
      · rw [decide_eq_false (by omega), condW_false]
        exact none_
    · rw [decide_eq_false (by omega)]
      simp only [guardW_ft, guardW_u, pickW_false, condW_false]
      exact none_
end
end Go.Proofs.Ytidnjppalebbfaa
