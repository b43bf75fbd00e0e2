/- The law of the line: the walk. -/
import Derived.Test.YtidnjppalebbfaaA21
import Derived.Test.YtidnjppalebbfaaA22
set_option linter.unusedSimpArgs false
set_option linter.unusedVariables false
namespace Go.Proofs.Ytidnjppalebbfaa
open Go Go.V Go.RowKit
section
variable {k : Value → World → Prop} {w : World}
theorem getS {v : Value} {a : List Arr} {i : Int} {x : Arr} (hs : IsSl fA w v a) (h0 : 0 ≤ i) (hx : a[i.toNat]? = some x) (h : k (I x.stream) w) : opW Try.prog (Instr.indexAt 23 v (I i)) (fun p w => opW Try.prog (Instr.fieldAt 31 p 0) (fun q w => opW Try.prog (Instr.loadAt 3 q) k w) w) w :=
  ix23 (x := x) (F := fA) hs rfl h0 hx fun b o hc => by rw [fl31_0]; exact (ld3 (v := I x.stream) (hc 0 _ rfl)).mpr h
theorem getT {v : Value} {a : List Arr} {i : Int} {x : Arr} (hs : IsSl fA w v a) (h0 : 0 ≤ i) (hx : a[i.toNat]? = some x) (h : k (I x.at_) w) : opW Try.prog (Instr.indexAt 23 v (I i)) (fun p w => opW Try.prog (Instr.fieldAt 31 p 1) (fun q w => opW Try.prog (Instr.loadAt 3 q) k w) w) w :=
  ix23 (x := x) (F := fA) hs rfl h0 hx fun b o hc => by rw [fl31_1]; exact (ld3 (v := I x.at_) (hc 1 _ rfl)).mpr h
theorem getZ {v : Value} {l : List Stream} {i : Int} {x : Stream} (hs : IsSl fS w v l) (h0 : 0 ≤ i) (hx : l[i.toNat]? = some x) (h : k (I x.size) w) : opW Try.prog (Instr.indexAt 22 v (I i)) (fun p w => opW Try.prog (Instr.fieldAt 34 p 1) (fun q w => opW Try.prog (Instr.loadAt 3 q) k w) w) w :=
  ix22 (x := x) (F := fS) hs rfl h0 hx fun b o hc => by rw [fl34_1]; exact (ld3 (v := I x.size) (hc 1 _ rfl)).mpr h
theorem tgetS {K : Value → Prop} {v : Value} {a : List Arr} {i : Int} {x : Arr} (hs : IsSl fA w v a) (h0 : 0 ≤ i) (hx : a[i.toNat]? = some x) (h : K (I x.stream)) : takeW Try.prog anyW (Instr.indexAt 23 v (I i)) (fun p => takeW Try.prog anyW (Instr.fieldAt 31 p 0) (fun q => takeW Try.prog (sameW w) (Instr.loadAt 3 q) K w) w) w :=
  tix23 (x := x) (F := fA) hs rfl h0 hx fun b o hc => by rw [tfl31_0, xld3 (show w.cell? ⟨b, o, none⟩ = some (I x.stream) from hc 0 _ rfl)]; exact h
theorem tgetT {K : Value → Prop} {v : Value} {a : List Arr} {i : Int} {x : Arr} (hs : IsSl fA w v a) (h0 : 0 ≤ i) (hx : a[i.toNat]? = some x) (h : K (I x.at_)) : takeW Try.prog anyW (Instr.indexAt 23 v (I i)) (fun p => takeW Try.prog anyW (Instr.fieldAt 31 p 1) (fun q => takeW Try.prog (sameW w) (Instr.loadAt 3 q) K w) w) w :=
  tix23 (x := x) (F := fA) hs rfl h0 hx fun b o hc => by rw [tfl31_1, xld3 (hc 1 _ rfl)]; exact h
theorem tgetZ {K : Value → Prop} {v : Value} {l : List Stream} {i : Int} {x : Stream} (hs : IsSl fS w v l) (h0 : 0 ≤ i) (hx : l[i.toNat]? = some x) (h : K (I x.size)) : takeW Try.prog anyW (Instr.indexAt 22 v (I i)) (fun p => takeW Try.prog anyW (Instr.fieldAt 34 p 1) (fun q => takeW Try.prog (sameW w) (Instr.loadAt 3 q) K w) w) w :=
  tix22 (x := x) (F := fS) hs rfl h0 hx fun b o hc => by rw [tfl34_1, xld3 (hc 1 _ rfl)]; exact h
theorem c10 {v : Value} {xs : List (Int × Int × Int)} (hs : IsSl fT3 w v xs) (hr : ∀ x ∈ xs, inI64 x.1 ∧ inI64 x.2.1 ∧ inI64 x.2.2) (hk : ∀ u l w', Below w.heap.size w w' → IsSl fS w' u l → validS l = true → k u w') : callW Try.prog (.func (.func 10) #[] #[]) #[v] k w := C10 _ _ _ (s10 hs hr hk)
theorem c11 {lv xv : Value} {l : List Stream} {xs : List (Int × Int)} (hl : IsSl fS w lv l) (hv : validS l = true) (hs : IsSl fT2 w xv xs) (hr : ∀ x ∈ xs, inI64 x.1 ∧ inI64 x.2) (hk : ∀ u a w', Below w.heap.size w w' → IsSl fA w' u a → ProperP l a → a.length ≤ 40 → k u w') : callW Try.prog (.func (.func 11) #[] #[]) #[lv, xv] k w := C11 _ _ _ _ (s11 hl hv hs hr hk)
theorem stA_lt {l : List Stream} {a : List Arr} (hp : ProperP l a) : ∀ k, k < a.length → stA a k < l.length := fun k hk => by obtain ⟨x, _, _, _, h, _⟩ := proper_at hp hk; exact h
def leftT (l : List Stream) (a : List Arr) (tr : List Int) (t : Nat) : List Int := (List.range a.length).map fun j => remT l a (tr.take t) j
theorem leftT_get {l : List Stream} {a : List Arr} {tr : List Int} {t j : Nat} (hj : j < a.length) : (leftT l a tr t)[j]? = some (remT l a (tr.take t) j) := by
  unfold leftT
  rw [List.getElem?_map, List.getElem?_range hj]; rfl
theorem leftT_length (l : List Stream) (a : List Arr) (tr : List Int) (t : Nat) : (leftT l a tr t).length = a.length := by simp [leftT]
theorem leftT_idle {l : List Stream} {a : List Arr} {tr : List Int} {t : Nat} (h : tr[t]? = some (-1)) : leftT l a tr (t + 1) = leftT l a tr t := by
  unfold leftT
  rw [List.take_add_one, h, show Option.toList (some (-1 : Int)) = [-1] from rfl, remT_idle]
theorem leftT_send {l : List Stream} {a : List Arr} {tr : List Int} {t i : Nat} (h : tr[t]? = some (i : Int)) : leftT l a tr (t + 1) = (leftT l a tr t).set i (remT l a (tr.take t) i - 1) := by
  unfold leftT
  rw [List.take_add_one, h, show Option.toList (some (i : Int)) = [(i : Int)] from rfl, remT_send]
  refine List.ext_getElem (by simp) fun j h1 h2 => ?_
  simp only [List.getElem_set, List.getElem_map, List.getElem_range, dec]
  by_cases hij : i = j
  · subst hij; simp
  · rw [if_neg hij, if_neg (Ne.symm hij)]
theorem last_cond {tv : Value} {tr : List Int} {ox oy oz ow : Operand} {K : Value → World → Prop} (ht : IsSl fI w tv tr) (hl : tr.length ≤ 5001) (hlast : ∀ x, tr[tr.length - 1]? = some x → ¬ x < 0) (h : K (.bool false) w) :
    guardW (some (.bool (decide ((0 : Int) < (tr.length : Int)))), true) (fun k w => k tv w) (fun t56 w => guardW (some (.bool (decide ((0 : Int) < (tr.length : Int)))), true) (fun k w => k tv w) (fun t57 w =>
      guardW (some (.bool (decide ((0 : Int) < (tr.length : Int)))), true) (fun k w => opW Try.prog (Builtin.len_ #[26] 3 #[t57]) k w) (fun t58 w => guardW (some (.bool (decide ((0 : Int) < (tr.length : Int)))), true) (fun k w => opW Try.prog (binS .sub 3 ox oy t58 (I 1)) k w) (fun t59 w =>
      guardW (some (.bool (decide ((0 : Int) < (tr.length : Int)))), true) (fun k w => opW Try.prog (Instr.indexAt 26 t56 t59) k w) (fun t60 w => guardW (some (.bool (decide ((0 : Int) < (tr.length : Int)))), true) (fun k w => opW Try.prog (Instr.loadAt 3 t60) k w) (fun t61 w =>
      guardW (some (.bool (decide ((0 : Int) < (tr.length : Int)))), true) (fun k w => opW Try.prog (binS .lss 3 oz ow t61 (I 0)) k w) (fun t62 w => pickW (.bool (decide ((0 : Int) < (tr.length : Int)))) t62 (.bool false) K w) w) w) w) w) w) w) w := by
  by_cases h0 : 0 < tr.length
  · rw [decide_eq_true (show (0 : Int) < (tr.length : Int) by omega)]
    simp only [guardW_tt]
    refine (len26 ht).mpr ?_
    rw [w_sub, wrap_id (by omega)]
    obtain ⟨x, hx⟩ : ∃ x, tr[tr.length - 1]? = some x := ⟨tr[tr.length - 1], by simp⟩
    refine get26 ht (by omega) (by rw [show ((tr.length : Int) - 1).toNat = tr.length - 1 by omega]; exact hx) ?_
    rw [w_lss, decide_eq_false (hlast x hx), pickW_true]
    exact h
  · rw [decide_eq_false (show ¬ (0 : Int) < (tr.length : Int) by omega)]
    simp only [guardW_ft, guardW_u, pickW_false]
    exact h
set_option maxRecDepth 100000 in
theorem s7 {xv yv : Value} {xs : List (Int × Int × Int)} {ys : List (Int × Int)} (hx : IsSl fT3 w xv xs) (hxr : ∀ x ∈ xs, inI64 x.1 ∧ inI64 x.2.1 ∧ inI64 x.2.2) (hy : IsSl fT2 w yv ys) (hyr : ∀ x ∈ ys, inI64 x.1 ∧ inI64 x.2) (hk : ∀ w', Below w.heap.size w w' → k (.bool true) w') : S7 xv yv k w := by
  unfold S7
  refine c9 fun w1 hb1 => ?_
  rw [w_not, Bool.not_true, condW_false]
  refine c10 (hx.below hb1) hxr fun lv l w2 hb2 hl hv => ?_
  have hb02 := below_trans hb1 hb2
  refine c11 hl hv (hy.below hb02) hyr fun av a w3 hb3 ha hp h40 => ?_
  have hlm : l.length ≤ maxLen := by have := (valid_at hv).1; unfold maxLen; omega
  replace hl := hl.below hb3
  have hb03 := below_trans hb02 hb3
  refine c18 hl ha hlm (fun w' _ hn => absurd hp hn) fun tr tv w4 hb4 _ htr ht => ?_
  rw [w_ex0, w_ex1]
  replace hl := hl.below hb4
  replace ha := ha.below hb4
  have hb04 := below_trans hb03 hb4
  refine c20 hl ha hlm (fun w' _ hn => absurd hp hn) fun tr' fv w5 hb5 _ htr' hf => ?_
  obtain rfl := htr.unique (stA_lt hp) htr'
  rw [w_ex0, w_ex1]
  replace hl := hl.below hb5
  replace ha := ha.below hb5
  replace ht := ht.below hb5
  have hb05 := below_trans hb04 hb5
  have lo := line_ok hp htr
  have hshort : tr.length ≤ 5001 := by obtain ⟨rem, hr, hd⟩ := htr; have := hr.short hp; have := tot_nonneg (rem := rem) (n := a.length) fun j hj => (hr.range hp j hj).1; omega
  generalize finOf a.length tr = f at *
  have e0 : (!decide ((0 : Int) = 0)) = false := by decide
  rw [w_neq, e0]
  simp only [guardW_ff, pickW_false]
  rw [w_neq, e0]
  simp only [guardW_ff, pickW_false]
  refine (len26 hf).mpr ((len23 ha).mpr ?_)
  rw [w_neq, show (!decide ((f.length : Int) = (a.length : Int))) = false by simp [lo.flen]]
  simp only [guardW_ff, pickW_false]
  refine (len26 ht).mpr ?_
  rw [w_gtr]
  have hlastOk : ∀ x, tr[tr.length - 1]? = some x → ¬ x < 0 := fun x hx' hneg => by
    have hl1 := (List.getElem?_eq_some_iff.1 hx').1
    rcases lo.step _ x hx' with ⟨rfl, hi, hd⟩ | ⟨j, rfl, _⟩
    · refine hd fun j hj => ?_
      have := lo.done j hj
      have e : tr = tr.take (tr.length - 1) ++ [-1] := by
        conv => lhs; rw [← List.take_length (l := tr), show tr.length = tr.length - 1 + 1 by omega, List.take_add_one]
        rw [hx']; rfl
      rw [e, remT_idle] at this
      exact this
    · omega
  refine last_cond ht hshort hlastOk ?_
  rw [condW_false]
  refine (len23 ha).mpr ?_
  refine w_make (base := w5.heap.size) sty26 (by omega) (by unfold maxLen; omega) (Nat.le_refl _) fun w6 ho6 hg6 => ?_
  have ho6 := OwnS.zeros ho6
  have hb6 : Below w5.heap.size w5 w6 := below_grown (B := w5.heap.size) (Below.refl _ _) (Nat.le_refl _) hg6 (by simp)
  generalize hgg : w5.heap.size = g at *
  have hz : ∀ i, i < a.length → remT l a [] i = szA l a i := fun i _ => by rw [remT_nil]
  refine Loop1.intro (fun n c w' => ∃ i : Nat, c = I i ∧ i ≤ a.length ∧ n = a.length - i ∧ Below g w5 w' ∧ OwnS fI w' g 3 g a.length ((leftT l a tr 0).take i ++ List.replicate (a.length - i) 0)) _ ⟨0, rfl, by omega, rfl, hb6, by simpa using ho6⟩ ?_
  rintro n _ w6 ⟨i, rfl, hi, rfl, hb6, ho6⟩
  have ha6 := ha.below (hgg ▸ hb6)
  have hl6 := hl.below (hgg ▸ hb6)
  refine (len23 ha6).mpr ?_
  rw [w_lss]
  by_cases hlt : i < a.length
  · rw [decide_eq_true (by omega), condW_true]
    obtain ⟨x, hxi, hax, hsx, hsl, _⟩ := proper_at hp hlt
    refine getS ha6 (by omega) (by simpa using hxi) ?_
    refine getZ (x := l[stA a i]) hl6 (by omega) (by rw [show x.stream.toNat = stA a i by omega]; exact List.getElem?_eq_getElem hsl) ?_
    have hsz : l[stA a i].size = szA l a i := by unfold szA; rw [List.getD_eq_getElem?_getD, List.getElem?_eq_getElem hsl]; rfl
    rw [hsz, ixz26 hlt]
    have hll : ((leftT l a tr 0).take i).length = i := by rw [List.length_take, leftT_length]; omega
    obtain ⟨ho7, _, old, hold⟩ := ho6.store rfl (x := 0) (i := i) (by rw [List.getElem?_append_right (by omega), hll, Nat.sub_self, List.getElem?_replicate, if_pos (by omega)]) (y := szA l a i) (u := I (szA l a i)) rfl
    refine (st3 rfl hold (ho6.free i)).mpr ?_
    rw [w_add, wrap_id (by omega), loopK_self]
    refine ⟨a.length - (i + 1), by omega, i + 1, by simp [I], by omega, rfl, hb6.setCell (Nat.le_refl _) _, ?_⟩
    rw [List.set_append_right _ _ (by omega), hll, Nat.sub_self, show a.length - i = (a.length - (i + 1)) + 1 by omega, List.replicate_succ, List.set_cons_zero] at ho7
    rw [List.take_add_one, leftT_get hlt, show remT l a (tr.take 0) i = szA l a i by rw [List.take_zero]; exact hz i hlt]
    simpa using ho7
  · rw [decide_eq_false (by omega), condW_false]
    obtain rfl : i = a.length := by omega
    rw [Nat.sub_self, List.replicate_zero, List.append_nil, List.take_of_length_le (by rw [leftT_length]; exact Nat.le_refl _)] at ho6
    refine Loop1.intro (fun n c w' => ∃ t : Nat, c = I t ∧ t ≤ tr.length ∧ n = tr.length - t ∧ Below g w5 w' ∧ OwnS fI w' g 3 g a.length (leftT l a tr t)) _ ⟨0, rfl, by omega, rfl, hb6, ho6⟩ ?_
    rintro n _ w7 ⟨t, rfl, ht0, rfl, hb7, ho7⟩
    have ha7 := ha.below (hgg ▸ hb7)
    have ht7 := ht.below (hgg ▸ hb7)
    have hf7 := hf.below (hgg ▸ hb7)
    have hll := leftT_length l a tr t
    refine (len26 ht7).mpr ?_
    rw [w_lss]
    by_cases htl : t < tr.length
    · rw [decide_eq_true (by omega), condW_true]
      obtain ⟨y, hy⟩ : ∃ y, tr[t]? = some y := ⟨tr[t], by simp [htl]⟩
      have hst := lo.step t y hy
      have htk : (tr.take t).length = t := by rw [List.length_take]; omega
      unfold StepOk at hst
      rw [htk] at hst
      refine joinW_use0 (Pre := fun w' => Below g w5 w' ∧ OwnS fI w' g 3 g a.length (leftT l a tr (t + 1))) ?_ ?_
      · rintro w8 ⟨hb8, ho8⟩
        rw [w_add, wrap_id (by omega), loopK_self]
        exact ⟨tr.length - (t + 1), by omega, t + 1, by simp [I], by omega, rfl, hb8, ho8⟩
      · intro J hJ
        refine Loop2.intro (fun n c d w' => ∃ (i : Nat) (cw : Int), c = I cw ∧ d = I i ∧ i ≤ a.length ∧ n = a.length - i ∧ w' = w7 ∧ 0 ≤ cw ∧ cw ≤ i ∧ ((∀ j, j < i → atA a j ≤ t → remT l a (tr.take t) j = 0) → cw = 0)) _ ⟨0, 0, rfl, rfl, by omega, rfl, rfl, by omega, by omega, fun _ => rfl⟩ ?_
        rintro n _ _ w8 ⟨i, cw, rfl, rfl, hi, rfl, hw8, hc0, hc1, hcz⟩
        obtain rfl : w7 = w8 := hw8.symm
        refine (len23 ha7).mpr ?_
        rw [w_lss]
        by_cases hlt : i < a.length
        · rw [decide_eq_true (by omega), condW_true]
          obtain ⟨x, hxi, hax, hsx, hsl, _⟩ := proper_at hp hlt
          refine joinW_use1 (Pre := fun v w' => ∃ cw' : Int, v = I cw' ∧ w' = w7 ∧ 0 ≤ cw' ∧ cw' ≤ i + 1 ∧ ((∀ j, j < i + 1 → atA a j ≤ t → remT l a (tr.take t) j = 0) → cw' = 0)) ?_ ?_
          · rintro _ w9 ⟨cw', rfl, hw9, h1, h2, h3⟩
            obtain rfl : w7 = w9 := hw9.symm
            rw [w_add, wrap_id (by omega), loopK_self]
            exact ⟨a.length - (i + 1), by omega, i + 1, cw', rfl, by simp [I], by omega, rfl, rfl, h1, by omega, h3⟩
          · intro J2 hJ2
            refine getT ha7 (by omega) (by simpa using hxi) ?_
            rw [w_leq]
            have hcell := ho7.cell (leftT_get (l := l) (tr := tr) (t := t) hlt) 0 _ rfl
            simp only [fI, Nat.mul_one, Nat.add_zero] at hcell
            by_cases hat : x.at_ ≤ t
            · rw [decide_eq_true hat]
              simp only [guardW_tt, pickW_true]
              rw [← hll, ixz26 (by omega)]
              refine (ld3 hcell).mpr ?_
              rw [w_gtr]
              by_cases hr0 : 0 < remT l a (tr.take t) i
              · rw [decide_eq_true hr0, condW_true, w_add, wrap_id (by omega)]
                exact hJ2 _ _ ⟨cw + 1, rfl, rfl, by omega, by omega, fun h => by have := h i (by omega) (by omega); omega⟩
              · rw [decide_eq_false hr0, condW_false]
                exact hJ2 _ _ ⟨cw, rfl, rfl, hc0, by omega, fun h => hcz fun j hj => h j (by omega)⟩
            · rw [decide_eq_false hat]
              simp only [guardW_ft, guardW_u, pickW_false, condW_false]
              exact hJ2 _ _ ⟨cw, rfl, rfl, hc0, by omega, fun h => hcz fun j hj => h j (by omega)⟩
        · rw [decide_eq_false (by omega), condW_false]
          obtain rfl : i = a.length := by omega
          refine get26 ht7 (by omega) (by simpa using hy) ?_
          rw [w_lss]
          rcases hst with ⟨rfl, hidle, hnd⟩ | ⟨j, rfl, hbest⟩
          · rw [decide_eq_true (by decide), condW_true, hcz hidle, w_gtr, decide_eq_false (by decide), condW_false]
            exact hJ _ ⟨hb7, by rw [leftT_idle hy]; exact ho7⟩
          · rw [decide_eq_false (by omega), condW_false]
            have hj := hbest.lt
            obtain ⟨x, hxj, hax, hsx, hsl, _⟩ := proper_at hp hj
            have hat := hbest.at_
            have hlf := hbest.left
            have hszr := szA_range hp hj
            have hru : remT l a (tr.take t) j ≤ 50 := by unfold remT; omega
            refine (len23 ha7).mpr ?_
            rw [w_geq, decide_eq_false (by omega), condW_false]
            refine getT ha7 (by omega) (by simpa using hxj) ?_
            rw [w_gtr, decide_eq_false (by omega)]
            simp only [guardW_ff, pickW_false]
            have hcell := ho7.cell (leftT_get (l := l) (tr := tr) (t := t) hj) 0 _ rfl
            simp only [fI, Nat.mul_one, Nat.add_zero] at hcell
            rw [← hll, ixz26 (by omega)]
            refine (ld3 hcell).mpr ?_
            rw [w_eql, decide_eq_false (by omega), condW_false, ixz26 (by omega)]
            refine (ld3 hcell).mpr ?_
            rw [w_sub, wrap_id (by omega), ixz26 (by omega)]
            obtain ⟨ho8, _, old, hold⟩ := ho7.store rfl (leftT_get (l := l) (tr := tr) (t := t) hj) (y := remT l a (tr.take t) j - 1) (u := I (remT l a (tr.take t) j - 1)) rfl
            refine (st3 rfl hold (ho7.free _)).mpr ?_
            rw [← leftT_send hy] at ho8
            have hb8 : Below g w5 (w7.setCell ⟨g, j, none⟩ (I (remT l a (tr.take t) j - 1))) := hb7.setCell (Nat.le_refl _) _
            generalize w7.setCell ⟨g, j, none⟩ (I (remT l a (tr.take t) j - 1)) = w8 at *
            have hrs : remT l a (tr.take (t + 1)) j = remT l a (tr.take t) j - 1 := by
              have := leftT_get (l := l) (tr := tr) (t := t + 1) hj
              rw [leftT_send hy, List.getElem?_set, if_pos rfl, if_pos (by rw [hll]; exact hj)] at this
              exact (Option.some.inj this).symm
            have hcell8 := ho8.cell (leftT_get (l := l) (tr := tr) (t := t + 1) hj) 0 _ rfl
            simp only [fI, Nat.mul_one, Nat.add_zero] at hcell8
            rw [hrs] at hcell8
            have hf8 := hf.below (hgg ▸ hb8)
            rw [ixz26 (by omega)]
            refine (ld3 hcell8).mpr ?_
            rw [w_eql]
            by_cases hz0 : remT l a (tr.take t) j - 1 = 0
            · rw [decide_eq_true hz0]
              simp only [guardW_tt, pickW_true]
              obtain ⟨t0, hf0, h1, h2, h3, h4⟩ := lo.fin j hj
              have htt : t0 = t := by
                rcases Nat.lt_trichotomy t0 t with h | h | h
                · have := h3 t h; omega
                · exact h
                · have := h4 (t + 1) (by omega); omega
              subst htt
              refine get26 hf8 (by omega) (by simpa using hf0) ?_
              rw [w_add, wrap_id (by omega), w_neq, show (!decide ((t0 : Int) + 1 = (t0 : Int) + 1)) = false by simp, condW_false]
              exact hJ _ ⟨hb8, ho8⟩
            · rw [decide_eq_false hz0]
              simp only [guardW_ft, guardW_u, pickW_false, condW_false]
              exact hJ _ ⟨hb8, ho8⟩
    · rw [decide_eq_false (by omega), condW_false]
      obtain rfl : t = tr.length := by omega
      have hdone : ∀ j, j < a.length → remT l a (tr.take tr.length) j = 0 := fun j hj => by rw [List.take_length]; exact lo.done j hj
      refine Loop1.intro (fun n c w' => ∃ i : Nat, c = I i ∧ i ≤ a.length ∧ n = a.length - i ∧ Below g w5 w' ∧ OwnS fI w' g 3 g a.length (leftT l a tr tr.length)) _ ⟨0, rfl, by omega, rfl, hb7, ho7⟩ ?_
      rintro n _ w8 ⟨i, rfl, hi, rfl, hb8, ho8⟩
      have ha8 := ha.below (hgg ▸ hb8)
      refine (len23 ha8).mpr ?_
      rw [w_lss]
      by_cases hlt : i < a.length
      · rw [decide_eq_true (by omega), condW_true]
        obtain ⟨x, hxi, hax, hsx, hsl, _⟩ := proper_at hp hlt
        refine Loop1.intro (fun n c w' => ∃ j : Nat, c = I j ∧ j ≤ i ∧ n = i - j ∧ Below g w5 w' ∧ OwnS fI w' g 3 g a.length (leftT l a tr tr.length)) _ ⟨0, rfl, by omega, rfl, hb8, ho8⟩ ?_
        rintro n _ w9 ⟨j, rfl, hj, rfl, hb9, ho9⟩
        rw [w_lss]
        have ha9 := ha.below (hgg ▸ hb9)
        have hf9 := hf.below (hgg ▸ hb9)
        by_cases hjl : j < i
        · rw [decide_eq_true (by omega), condW_true, drewW_eq]
          obtain ⟨y, hyj, hay, hsy, hsyl, _⟩ := proper_at hp (show j < a.length by omega)
          refine tgetS ha9.drew (by omega) (by simpa using hyj) ?_
          refine tgetS ha9.drew (by omega) (by simpa using hxi) ?_
          rw [t_eql]
          have fin : ∃ m, m < i - j ∧ ∃ j' : Nat, I ((j : Int) + 1) = I j' ∧ j' ≤ i ∧ m = i - j' ∧ Below g w5 w9.drew ∧ OwnS fI w9.drew g 3 g a.length (leftT l a tr tr.length) := ⟨i - (j + 1), by omega, j + 1, by simp [I], by omega, rfl, hb9.trans (Below.refl _ _).drew, ho9.same rfl⟩
          by_cases hse : y.stream = x.stream
          · rw [decide_eq_true hse]
            simp only [guardT_tt, pickT_true]
            obtain ⟨ti, hfi, hi1, hi2, hi3, hi4⟩ := lo.fin i hlt
            obtain ⟨tj, hfj, hj1, hj2, hj3, hj4⟩ := lo.fin j (by omega)
            have hlt2 : tj < ti := by
              have hstep := lo.step ti _ hi1
              have htl2 := (List.getElem?_eq_some_iff.1 hi1).1
              have htk : (tr.take ti).length = ti := by rw [List.length_take]; omega
              unfold StepOk at hstep
              rw [htk] at hstep
              rcases hstep with ⟨h, _⟩ | ⟨i', h, hbest⟩
              · omega
              · obtain rfl : i = i' := by omega
                apply Classical.byContradiction
                intro hnot
                have hm := at_mono hp hjl hlt
                have h0 := hj4 ti (by omega)
                have := hbest.at_
                have hfst := hbest.first j (by omega) (by omega) (by omega) (by omega)
                have hst : stA a j = stA a i := by omega
                rw [hst, beforeB_iff hsl hsl] at hfst
                omega
            refine tget26 hf9.drew (by omega) (by simpa using hfj) ?_
            refine tget26 hf9.drew (by omega) (by simpa using hfi) ?_
            rw [t_geq, decide_eq_false (by omega), condW_false, w_add, wrap_id (by omega), loopK_self]
            exact fin
          · rw [decide_eq_false hse]
            simp only [guardT_ft, guardT_u, pickT_false, condW_false]
            rw [w_add, wrap_id (by omega), loopK_self]
            exact fin
        · rw [decide_eq_false (by omega), condW_false]
          have hcell := ho9.cell (leftT_get (l := l) (tr := tr) (t := tr.length) hlt) 0 _ rfl
          simp only [fI, Nat.mul_one, Nat.add_zero] at hcell
          rw [hdone i hlt] at hcell
          rw [ixz26 hlt]
          refine (ld3 hcell).mpr ?_
          rw [w_neq, e0, condW_false, w_add, wrap_id (by omega), loopK_self]
          exact ⟨a.length - (i + 1), by omega, i + 1, by simp [I], by omega, rfl, hb9, ho9⟩
      · rw [decide_eq_false (by omega), condW_false]
        exact hk _ (hb05.trans (hb8.mono (by have := hb05.size; omega)))
end
end Go.Proofs.Ytidnjppalebbfaa
