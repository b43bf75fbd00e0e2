/- The law of the tight response: the walk. -/
import Derived.Test.YtidnjppalebbfaaA26
import Derived.Test.YtidnjppalebbfaaA27
set_option linter.unusedSimpArgs false
set_option linter.unusedVariables false
namespace Go.Proofs.Ytidnjppalebbfaa
open Go Go.V Go.RowKit
def AOwn (w : World) (B : Nat) (v : Value) (A : List Arr) : Prop := (v = .slice none 0 0 ∧ A = []) ∨ ∃ g c, v = .slice (some ⟨g, 0, none⟩) A.length c ∧ OwnS fA w B 31 g c A
theorem AOwn.sl {w : World} {B : Nat} {v : Value} {A : List Arr} (h : AOwn w B v A) : IsSl fA w v A := by
  rcases h with ⟨rfl, rfl⟩ | ⟨g, c, rfl, ho⟩
  · exact .nil _
  · exact ho.sl
theorem AOwn.below {w w' : World} {B : Nat} {v : Value} {A : List Arr} (h : AOwn w B v A) (hb : Below w.heap.size w w') : AOwn w' B v A := h.imp id fun ⟨g, c, h1, h2⟩ => ⟨g, c, h1, h2.below hb⟩
section
variable {k : Value → World → Prop} {w : World}
theorem push23 {K : Value → World → Prop} {w0 : World} {v : Value} {A : List Arr} {x y : Int} (h : AOwn w w0.heap.size v A) (hb : Below w0.heap.size w0 w) (hl : A.length ≤ 100000) (hk : ∀ v' w', AOwn w' w0.heap.size v' (A ++ [⟨x, y⟩]) → Below w0.heap.size w0 w' → K v' w') :
    opW Try.prog (Instr.build 31 #[(0, I x), (1, I y)]) (fun t92 w => opW Try.prog (Instr.buildSlice 23 1 #[(0, t92)]) (fun t93 w => opW Try.prog (Builtin.append_ #[23, 23] 23 #[v, t93]) (fun t94 w => K t94 w) w) w) w := by
  rw [b31]
  refine one23 (s := A_ x y) fun w1 hb1 hsz1 ho1 => ?_
  have hb01 := hb.trans (hb1.mono hb.size)
  have h1 := h.below hb1
  have hgrow : ∀ {w' : World} {row : Option Nat}, w1.grownBy w' row → (∀ g, row = some g → w0.heap.size ≤ g) → Below w0.heap.size w0 w' := fun hg hr => hb01.grown hg hb01.size hr
  rcases h1 with ⟨rfl, rfl⟩ | ⟨g, c, rfl, ho⟩
  · refine w_appendS (F := fA) (l0 := []) (l := [A_ x y]) (base := w0.heap.size) sty23 oneA ho1.sl (by simp) (World.ownsRow_nil w1 _ 31 2) (by simp; unfold maxLen; omega) (by simp) hb01.size fun g c w2 ho2 hg2 => ?_
    exact hk _ _ (.inr ⟨g, c, rfl, ho2⟩) (hgrow hg2 (by simp [Value.ownBlock]))
  · have hge := ho.ge
    refine w_appendS (F := fA) (l0 := A) (l := [A_ x y]) (base := w0.heap.size) sty23 oneA ho1.sl (by simp) ho (by simp; unfold maxLen; omega) (by simp; omega) hb01.size fun g2 c2 w2 ho2 hg2 => ?_
    exact hk _ _ (.inr ⟨g2, c2, by simp, ho2⟩) (hgrow hg2 (by intro g' hg'; simp [Value.ownBlock] at hg'; omega))
def FirstOk (i : Nat) (A : List Arr) (fi : Int) : Prop := (fi = -1 ∧ ∀ x, x ∈ A → x.stream ≠ (i : Int)) ∨ ∃ j : Nat, fi = j ∧ A[j]? = some ⟨i, 0⟩
theorem and_leq {P : Program} {d1 : Bool} {x y : Int} {q : IntKind} {t : TypeId} {ox oy : Operand} {K : Value → World → Prop} (h : K (.bool (d1 && decide (x ≤ y))) w) :
    guardW (some (.bool d1), true) (fun k w => k (.int q x) w) (fun t26 w => guardW (some (.bool d1), true) (fun k w => opW P (binS .leq t ox oy t26 (.int q y)) k w) (fun t27 w => pickW (.bool d1) t27 (.bool false) K w) w) w := by
  cases d1
  · simpa using h
  · simpa [w_leq] using h
theorem skip_cond {lv : Value} {l : List Stream} {kk i : Nat} {d : Bool} {ox oy : Operand} {K : Value → World → Prop} (hl : IsSl fS w lv l) (hk : kk < l.length) (hi : i < l.length)
    (h : ∀ w', Below w.heap.size w w' → K (.bool (d || (!decide (kk = i) && !beforeB l kk i))) w') :
    guardW (some (.bool d), false) (fun k w => k (I kk) w) (fun t69 w => guardW (some (.bool d), false) (fun k w => k (I i) w) (fun t70 w => guardW (some (.bool d), false) (fun k w => opW Try.prog (binS .neq 3 ox oy t69 t70) k w) (fun t71 w =>
      guardW (some (.bool d), false) (fun k w => k t71 w) (fun t72 w => guardW (some t72, true) (fun k w => k lv w) (fun t73 w => guardW (some t72, true) (fun k w => k (I kk) w) (fun t74 w => guardW (some t72, true) (fun k w => k (I i) w) (fun t75 w =>
      guardW (some t72, true) (fun k w => callW Try.prog (.func (.func 26) #[] #[]) #[t73, t74, t75] k w) (fun t76 w => guardW (some t72, true) (fun k w => opW Try.prog (Op.unary UnOp.not t76) k w) (fun t77 w =>
      guardW (some (.bool d), false) (fun k w => pickW t72 t77 (.bool false) k w) (fun t78 w => pickW (.bool d) (.bool true) t78 K w) w) w) w) w) w) w) w) w) w) w := by
  cases d with
  | true =>
    simp only [guardW_tf, guardW_u, pickW_true]
    simpa using h w (Below.refl _ _)
  | false =>
    simp only [guardW_ff]
    rw [w_neq]
    by_cases he : kk = i
    · have e : (!decide ((kk : Int) = (i : Int))) = false := by simp [he]
      rw [e]
      simp only [guardW_ft, guardW_u, pickW_false]
      simpa [he] using h w (Below.refl _ _)
    · have e : (!decide ((kk : Int) = (i : Int))) = true := by simp; omega
      rw [e]
      simp only [guardW_tt]
      refine c26 hl hk hi fun w' hb => ?_
      rw [w_not]
      simp only [pickW_true, pickW_false]
      simpa [he] using h w' hb
set_option maxRecDepth 100000 in
theorem s5 {xv : Value} {wh : Int} {xs : List (Int × Int × Int)} (hx : IsSl fT3 w xv xs) (hxr : ∀ x ∈ xs, inI64 x.1 ∧ inI64 x.2.1 ∧ inI64 x.2.2) (hwh : inI64 wh) (hk : ∀ w', Below w.heap.size w w' → k (.bool true) w') : S5 xv (I wh) k w := by
  unfold S5
  refine c9 fun w1 hb1 => ?_
  rw [w_not, Bool.not_true, condW_false]
  refine c10 (hx.below hb1) hxr fun lv l w2 hb2 hl hv => ?_
  have hb02 := below_trans hb1 hb2
  have hln := (valid_at hv).1
  have hlm : l.length ≤ maxLen := by unfold maxLen; omega
  refine (len22 hl).mpr ?_
  refine c12 (by omega) ?_
  have p1 := pickI_range (c := wh) (n := l.length) (by omega) hwh
  generalize pickI wh l.length = ps at *
  obtain ⟨i, rfl⟩ : ∃ i : Nat, ps = i := ⟨ps.toNat, by omega⟩
  have hil : i < l.length := by omega
  refine c13 hl hlm (fun w' _ hn => by rw [hv] at hn; cases hn) fun out rv w3 hb3 _ hol hor hr => ?_
  rw [w_ex0, w_ex1]
  replace hl := hl.below hb3
  have hb03 := below_trans hb02 hb3
  have e0 : (!decide ((0 : Int) = 0)) = false := by decide
  rw [w_neq, e0]
  simp only [guardW_ff, pickW_false]
  refine (len26 hr).mpr ((len22 hl).mpr ?_)
  rw [w_neq, show (!decide ((out.length : Int) = (l.length : Int))) = false by simp [hol], condW_false]
  obtain ⟨r, hri⟩ : ∃ u, out[i]? = some u := ⟨out[i]'(by omega), by simp⟩
  have hw := hor _ _ hri
  have hstr := (valid_at hv).2
  have hper : ∀ j, j < l.length → 1 ≤ perL l j ∧ perL l j ≤ 1000 ∧ 1 ≤ szL l j := fun j hj => by
    have := hstr j l[j] (List.getElem?_eq_getElem hj)
    have e1 : szL l j = l[j].size := by unfold szL; rw [List.getD_eq_getElem?_getD, List.getElem?_eq_getElem hj]; rfl
    have e2 : perL l j = l[j].period := by unfold perL; rw [List.getD_eq_getElem?_getD, List.getElem?_eq_getElem hj]; rfl
    omega
  have hpi := hper i hil
  refine get26 hr (by omega) (by simpa using hri) ?_
  rw [w_lss]
  by_cases hneg : r < 0
  · rw [decide_eq_true hneg, condW_true]
    exact hk _ hb03
  · rw [decide_eq_false hneg, condW_false]
    have hrr : 1 ≤ r ∧ r ≤ 1000 := by rcases hw with ⟨h1, h2, _⟩ | ⟨h1, _⟩ <;> omega
    refine Loop3.intro (fun n va vf vt w' => ∃ (t : Nat) (A : List Arr) (fi : Int), vf = I fi ∧ vt = I t ∧ (t : Int) ≤ r ∧ n = (r - t).toNat ∧ SyncOk l i A t 0 ∧ FirstOk i A fi ∧ A.length ≤ 8 * t ∧ AOwn w' w3.heap.size va A ∧ Below w3.heap.size w3 w') _
      ⟨0, [], -1, rfl, rfl, by omega, rfl, ⟨by simp, fun k' t' _ h1 h2 _ => by omega, by simp⟩, .inl ⟨rfl, by simp⟩, by simp, .inl ⟨rfl, rfl⟩, Below.refl _ _⟩ ?_
    rintro n va _ _ w4 ⟨t, A, fi, rfl, rfl, htr, rfl, hsy, hfi, hAl, hAo, hb4⟩
    refine get26 (hr.below hb4) (by omega) (by simpa using hri) ?_
    rw [w_lss]
    refine and_leq ?_
    by_cases hgo : (t : Int) < r
    · rw [decide_eq_true hgo, decide_eq_true (by omega), Bool.and_self, condW_true]
      refine Loop3.intro (fun n va vf vk w' => ∃ (kk : Nat) (A : List Arr) (fi : Int), vf = I fi ∧ vk = I kk ∧ kk ≤ l.length ∧ n = l.length - kk ∧ SyncOk l i A t kk ∧ FirstOk i A fi ∧ A.length ≤ 8 * t + kk ∧ AOwn w' w3.heap.size va A ∧ Below w3.heap.size w3 w') _
        ⟨0, A, fi, rfl, rfl, by omega, rfl, hsy, hfi, by omega, hAo, hb4⟩ ?_
      clear hsy hfi hAl hAo hb4 A fi
      rintro n va _ _ w5 ⟨kk, A, fi, rfl, rfl, hkk, rfl, hsy, hfi, hAl, hAo, hb5⟩
      have hl5 := hl.below hb5
      refine (len22 hl5).mpr ?_
      rw [w_lss]
      by_cases hkl : kk < l.length
      · rw [decide_eq_true (by omega), condW_true]
        refine joinW_use2 (Pre := fun va vf w' => ∃ (A : List Arr) (fi : Int), vf = I fi ∧ SyncOk l i A t (kk + 1) ∧ FirstOk i A fi ∧ A.length ≤ 8 * t + (kk + 1) ∧ AOwn w' w3.heap.size va A ∧ Below w3.heap.size w3 w') ?_ ?_
        · rintro va _ w6 ⟨A', fi', rfl, g1, g2, g3, g4, g5⟩
          rw [w_add, wrap_id (by omega), loopK_self]
          exact ⟨l.length - (kk + 1), by omega, kk + 1, A', fi', rfl, by simp [I], by omega, rfl, g1, g2, g3, g4, g5⟩
        · intro J hJ
          have hpk := hper kk hkl
          have e2 : perL l kk = l[kk].period := by unfold perL; rw [List.getD_eq_getElem?_getD, List.getElem?_eq_getElem hkl]; rfl
          refine ix22 (x := l[kk]) (F := fS) hl5 rfl (by omega) (by simp [hkl]) fun b o hc => ?_
          rw [fl34_2]
          refine (ld3 (v := I (perL l kk)) (by rw [e2]; exact hc 2 _ rfl)).mpr ?_
          rw [w_rem (by omega), Int.tmod_eq_emod_of_nonneg (by omega), w_neq]
          refine skip_cond hl5 hkl hil fun w6 hb6 => ?_
          have hb56 : Below w3.heap.size w3 w6 := hb5.trans (hb6.mono hb5.size)
          have hAo6 := hAo.below hb6
          by_cases hinc : incB l i kk t
          · have hcond : (!decide ((t : Int) % perL l kk = 0) || (!decide (kk = i) && !beforeB l kk i)) = false := by
              obtain ⟨h1, h2⟩ := hinc
              rcases h2 with h2 | h2
              · rw [decide_eq_true h1, decide_eq_true h2]; rfl
              · rw [decide_eq_true h1, h2]; simp
            rw [hcond, condW_false, w_eql]
            have hpush : ∀ (fi' : Int), FirstOk i (A ++ [⟨kk, t⟩]) fi' → ∀ v' w', AOwn w' w3.heap.size v' (A ++ [⟨kk, t⟩]) → Below w3.heap.size w3 w' → J v' (I fi') w' := fun fi' h1 v' w' h2 h3 =>
              hJ _ _ _ ⟨_, fi', rfl, hsy.add hkl (by omega) hinc, h1, by simp; omega, h2, h3⟩
            have keep : (kk ≠ i ∨ 0 ≤ fi) → FirstOk i (A ++ [⟨kk, t⟩]) fi := fun hh => by
              rcases hfi with ⟨h1, h2⟩ | ⟨j, h1, h2⟩
              · refine .inl ⟨h1, fun x hx => ?_⟩
                rcases List.mem_append.1 hx with hx | hx
                · exact h2 x hx
                · simp at hx; subst hx; simp only; omega
              · exact .inr ⟨j, h1, by rw [List.getElem?_append_left (List.getElem?_eq_some_iff.1 h2).1]; exact h2⟩
            by_cases hki : kk = i
            · rw [decide_eq_true (by omega)]
              simp only [guardW_tt, pickW_true]
              rw [w_lss]
              by_cases hf0 : fi < 0
              · rw [decide_eq_true hf0, condW_true]
                refine (len23 hAo6.sl).mpr ?_
                refine push23 (w0 := w3) hAo6 hb56 (by omega) (hpush _ (.inr ⟨A.length, rfl, ?_⟩))
                have ht0 : (t : Int) = 0 := by
                  rcases hfi with ⟨h1, h2⟩ | ⟨j, h1, h2⟩
                  · apply Classical.byContradiction
                    intro hne
                    exact h2 _ (hsy.complete i 0 hil (by omega) (by omega) ⟨by simp, .inl rfl⟩) rfl
                  · omega
                rw [List.getElem?_append_right (Nat.le_refl _), Nat.sub_self, hki, ht0]; rfl
              · rw [decide_eq_false hf0, condW_false]
                exact push23 (w0 := w3) hAo6 hb56 (by omega) (hpush _ (keep (.inr (by omega))))
            · rw [decide_eq_false (by omega)]
              simp only [guardW_ft, guardW_u, pickW_false, condW_false]
              exact push23 (w0 := w3) hAo6 hb56 (by omega) (hpush _ (keep (.inl hki)))
          · have hcond : (!decide ((t : Int) % perL l kk = 0) || (!decide (kk = i) && !beforeB l kk i)) = true := by
              by_cases h1 : (t : Int) % perL l kk = 0
              · have h2 : ¬ kk = i := fun h => hinc ⟨h1, .inl h⟩
                have h3 : beforeB l kk i = false := by
                  cases h : beforeB l kk i with
                  | false => rfl
                  | true => exact absurd ⟨h1, .inr h⟩ hinc
                simp [h1, h2, h3]
              · simp [h1]
            rw [hcond, condW_true]
            exact hJ _ _ _ ⟨A, fi, rfl, hsy.skip hinc, hfi, by omega, hAo6, hb56⟩
      · rw [decide_eq_false (by omega), condW_false, w_add, wrap_id (by omega), loopK_self]
        obtain rfl : kk = l.length := by omega
        exact ⟨(r - (t + 1 : Nat)).toNat, by omega, t + 1, A, fi, rfl, by simp [I], by omega, rfl, by have := hsy.next; rwa [show ((t : Int) + 1) = ((t + 1 : Nat) : Int) by omega] at this, hfi, by omega, hAo, hb5⟩
    · rw [decide_eq_false hgo, Bool.false_and, condW_false]
      obtain rfl : r = (t : Int) := by omega
      have hsl := hAo.sl
      refine (len23 hsl).mpr ?_
      rw [w_gtr]
      by_cases h60 : 60 < A.length
      · rw [decide_eq_true (by omega), condW_true]
        exact hk _ (hb03.trans (hb4.mono hb03.size))
      · rw [decide_eq_false (by omega), condW_false]
        have hp := hsy.proper hv (by omega) (by omega)
        refine c20 (hl.below hb4) hsl hlm (fun w' _ hn => absurd hp hn) fun tr fv w5 hb5 _ htr2 hf => ?_
        rw [w_ex0, w_ex1, drewW_eq]
        have lo := line_ok hp htr2
        generalize finOf A.length tr = f at *
        have hr5 := (hr.below hb4).below hb5
        obtain ⟨j, rfl, hj⟩ : ∃ j : Nat, fi = j ∧ A[j]? = some ⟨i, 0⟩ := by
          rcases hfi with ⟨h1, h2⟩ | h
          · exact absurd rfl (h2 _ (hsy.complete i 0 hil (by omega) (by omega) ⟨by simp, .inl rfl⟩))
          · exact h
        have hjl := (List.getElem?_eq_some_iff.1 hj).1
        have hft := tight hil hw (by omega) hsy hp lo hjl (by simp [stA, List.getD_eq_getElem?_getD, hj]) (by simp [atA, List.getD_eq_getElem?_getD, hj])
        rw [t_eql, decide_eq_true (by rfl)]
        simp only [guardT_tt]
        rw [t_geq, decide_eq_true (by omega)]
        simp only [pickT_true, guardT_tt]
        rw [tlen26 (w := w5.drew) hf.drew, tlen23 (w := w5.drew) (hsl.below hb5).drew, t_eql, decide_eq_true (by rw [lo.flen])]
        simp only [guardT_tt]
        refine tget26 hf.drew (by omega) (by simpa using hft) ?_
        refine tget26 hr5.drew (by omega) (by simpa using hri) ?_
        rw [t_eql, decide_eq_true rfl, pickT_true]
        exact hk _ ((hb03.trans (hb4.mono hb03.size)).trans ((hb5.mono (by have := hb03.size; have := hb4.size; omega)).trans (Below.refl _ _).drew))
end
end Go.Proofs.Ytidnjppalebbfaa
