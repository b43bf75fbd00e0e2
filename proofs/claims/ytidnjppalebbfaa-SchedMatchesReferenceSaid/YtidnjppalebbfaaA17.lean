/- The law of a fair division: the walk. -/
import Derived.Test.YtidnjppalebbfaaA15
import Derived.Test.YtidnjppalebbfaaA16
set_option linter.unusedSimpArgs false
set_option linter.unusedVariables false
namespace Go.Proofs.Ytidnjppalebbfaa
open Go Go.V Go.RowKit
section
variable {k : Value → World → Prop} {w : World}
def inI64 (x : Int) : Prop := -9223372036854775808 ≤ x ∧ x ≤ 9223372036854775807
theorem and_lss {P : Program} {d1 : Bool} {x y : Int} {q : IntKind} {t : TypeId} {ox oy : Operand} {K : Value → World → Prop} (h : K (.bool (d1 && decide (x < y))) w) :
    guardW (some (.bool d1), true) (fun k w => k (.int q x) w) (fun t26 w => guardW (some (.bool d1), true) (fun k w => opW P (binS .lss t ox oy t26 (.int q y)) k w) (fun t27 w => pickW (.bool d1) t27 (.bool false) K w) w) w := by
  cases d1
  · simpa using h
  · simpa [w_lss] using h
theorem sum_range {b : Int} (hb : 0 ≤ b) : ∀ (l : List Int), (∀ x ∈ l, 0 ≤ x ∧ x ≤ b) → 0 ≤ sumI l ∧ sumI l ≤ b * l.length
  | [], _ => by simp [sumI]
  | x :: r, h => by
    have h1 := sum_range hb r fun y hy => h y (by simp [hy])
    have h2 := h x (by simp)
    simp only [sumI, List.length_cons]
    rw [show b * ((r.length + 1 : Nat) : Int) = b * r.length + b by rw [Int.natCast_add, Int.mul_add]; simp]
    omega
theorem get26 {v : Value} {l : List Int} {i a : Int} (hs : IsSl fI w v l) (h0 : 0 ≤ i) (ha : l[i.toNat]? = some a) (h : k (I a) w) : opW Try.prog (Instr.indexAt 26 v (I i)) (fun p w => opW Try.prog (Instr.loadAt 3 p) k w) w :=
  ix26 (x := a) (F := fI) hs rfl h0 ha fun b o hc => (ld3 (v := I a) (hc 0 _ rfl)).mpr h
theorem tget26 {K : Value → Prop} {v : Value} {l : List Int} {i a : Int} (hs : IsSl fI w v l) (h0 : 0 ≤ i) (ha : l[i.toNat]? = some a) (h : K (I a)) : takeW Try.prog anyW (Instr.indexAt 26 v (I i)) (fun p => takeW Try.prog (sameW w) (Instr.loadAt 3 p) K w) w :=
  tix26 (x := a) (F := fI) hs rfl h0 ha fun b o hc => by rw [xld3 (show w.cell? ⟨b, o, none⟩ = some (I a) from hc 0 _ rfl)]; exact h
set_option maxRecDepth 100000 in
theorem s8 {v : Value} {b m : Int} {l : List Int} (hs : IsSl fI w v l) (hl : l.length ≤ maxLen) (hb : inI64 b) (hm : inI64 m) (hr : ∀ x ∈ l, inI64 x) (hk : ∀ w', Below w.heap.size w w' → k (.bool true) w') : S8 (I b) (I m) v k w := by
  unfold S8
  refine c9 fun w1 hb1 => ?_
  rw [w_not, Bool.not_true, condW_false]
  refine Loop2.intro (fun n a c w' => ∃ (i g : Nat), c = I i ∧ i ≤ l.length ∧ i ≤ 8 ∧ n = l.length - i ∧ Below w.heap.size w w' ∧ ((a = .slice none 0 0 ∧ (l.take i).map (pickI · 2001) = []) ∨ SubS fI w' w.heap.size 3 g a ((l.take i).map (pickI · 2001)))) l.length ⟨0, 0, rfl, by omega, by omega, by omega, hb1, .inl ⟨rfl, rfl⟩⟩ ?_
  rintro n wv _ w2 ⟨i, g, rfl, hi, hi8, rfl, hb2, hq⟩
  refine (len26 (hs.below hb2)).mpr ?_
  rw [w_lss]
  refine and_lss ?_
  by_cases hgo : i < l.length ∧ i < 8
  · rw [show (decide ((i : Int) < (l.length : Int)) && decide ((i : Int) < 8)) = true by simp; omega, condW_true]
    refine ix26 (x := l[i]) (F := fI) (hs.below hb2) rfl (by omega) (by simp [hgo.1]) fun bb o hc => ?_
    refine (ld3 (hc 0 _ rfl)).mpr ?_
    refine c12 (by decide) ?_
    rw [w_one (v := I (pickI l[i] 2001)) sty26 rfl (by omega)]
    have hba := below_alloc w2 (.cells (I (pickI l[i] 2001)).cells 3 (0, 0))
    have hb3 := hb2.trans (hba.mono hb2.size)
    have hml : ((l.take i).map (pickI · 2001)).length = i := by simp; omega
    refine w_append1 (F := fI) (base := w.heap.size) (u := I (pickI l[i] 2001)) sty26 rfl rfl rfl (by rw [World.cell?_alloc_new]; rfl) (hq.imp id fun h => h.same (hba.block _ h.lt.2)) (by rw [hml]; unfold maxLen; omega) (by rw [hml]; omega) hb3.size fun u g' w4 hS hw4 => ?_
    rw [w_add, wrap_id (by omega), loopK_self]
    refine ⟨l.length - (i + 1), by omega, i + 1, g', by simp [I], by omega, by omega, rfl, ?_, .inr ?_⟩
    · rcases hw4 with ⟨h0, _, rfl, hon⟩ | ⟨_, hb⟩
      · exact hb3.trans (hon.rest _ h0.lt.1)
      · exact hb3.trans (hb.mono hb3.size)
    · rw [List.take_succ_eq_append_getElem hgo.1, List.map_append]; exact hS
  · rw [show (decide ((i : Int) < (l.length : Int)) && decide ((i : Int) < 8)) = false by simp; omega, condW_false]
    have hW : IsSl fI w2 wv ((l.take i).map (pickI · 2001)) := by
      rcases hq with ⟨rfl, h⟩ | h
      · rw [h]; exact .nil _
      · exact h.sl
    have hWl : ((l.take i).map (pickI · 2001)).length = i := by simp; omega
    have hWr : ∀ x ∈ (l.take i).map (pickI · 2001), 0 ≤ x ∧ x ≤ 2000 := fun x hx => by
      obtain ⟨y, hy, rfl⟩ := List.mem_map.1 hx
      have := pickI_range (c := y) (n := 2001) (by decide) (hr y (List.mem_of_mem_take hy))
      omega
    generalize (l.take i).map (pickI · 2001) = W at *
    clear hq hgo hi
    refine (len26 hW).mpr ?_
    rw [w_sub, wrap_id (by omega), hWl]
    refine Loop2.intro (fun n a c w' => ∃ (j g : Nat), c = I ((j : Int) - 1) ∧ j ≤ i ∧ n = j ∧ Below w2.heap.size w2 w' ∧ ((a = .slice none 0 0 ∧ (W.drop j).reverse = []) ∨ SubS fI w' w2.heap.size 3 g a (W.drop j).reverse)) i ⟨i, 0, rfl, by omega, rfl, Below.refl _ _, .inl ⟨rfl, by rw [List.drop_eq_nil_of_le (by omega)]; rfl⟩⟩ ?_
    rintro n tv _ w3 ⟨j, g2, rfl, hj, rfl, hb3, hq2⟩
    rw [w_geq]
    have hW3 := hW.below hb3
    rcases Nat.eq_zero_or_pos n with hj0 | hj0
    · subst hj0
      rw [decide_eq_false (by omega), condW_false]
      have hT : IsSl fI w3 tv W.reverse := by
        rcases hq2 with ⟨rfl, h⟩ | h
        · rw [List.drop_zero] at h; rw [h]; exact .nil _
        · have := h.sl; rwa [List.drop_zero] at this
      clear hq2
      have hWok : okW W := fun x hx => by have := hWr x hx; omega
      have hTok : okW W.reverse := fun x hx => hWok x (by simpa using hx)
      refine c12 (by decide) ?_
      have hn := pickI_range (c := b) (n := 9001) (by decide) hb
      generalize pickI b 9001 = nn at *
      have hb03 := hb2.trans (hb3.mono hb2.size)
      refine c24 hW3 (by unfold maxLen; omega) (fun w' _ hn' => absurd ⟨by omega, by omega, by omega, hWok⟩ hn') fun La vA w4 hb4 hlA _ hA => ?_
      rw [w_ex0, w_ex1]
      refine c12 (by decide) ?_
      have hd := pickI_range (c := m) (n := 500) (by decide) hm
      generalize pickI m 500 = dd at *
      rw [w_add, wrap_id (by omega)]
      refine c24 (hW3.below hb4) (by unfold maxLen; omega) (fun w' _ hn' => absurd ⟨by omega, by omega, by omega, hWok⟩ hn') fun Lb vB w5 hb5 hlB _ hB => ?_
      rw [w_ex0, w_ex1]
      refine c24 ((hT.below hb4).below hb5) (by rw [List.length_reverse]; unfold maxLen; omega) (fun w' _ hn' => absurd ⟨by omega, by omega, by rw [List.length_reverse]; omega, hTok⟩ hn') fun Lc vC w6 hb6 hlC _ hC => ?_
      rw [w_ex0, w_ex1]
      have hf := fair hWok (by omega) hlA hlB hlC
      have hb06 := below_trans (below_trans (below_trans hb03 hb4) hb5) hb6
      replace hA := (hA.below hb5).below hb6
      replace hB := hB.below hb6
      have hW6 := ((hW3.below hb4).below hb5).below hb6
      generalize giveI La (nn - needsI W La) W = A at *
      generalize giveI Lb (nn + dd - needsI W Lb) W = B at *
      generalize giveI Lc (nn - needsI W.reverse Lc) W.reverse = C at *
      clear hlA hlB hlC hb3 hb4 hb5 hb6 hb2 hb1 hT hTok hW hW3 hb03 hs
      have e0 : (!decide ((0 : Int) = 0)) = false := by decide
      have eA : (!decide ((A.length : Int) = (W.length : Int))) = false := by simp [hf.la]
      have eB : (!decide ((B.length : Int) = (W.length : Int))) = false := by simp [hf.lb]
      have eC : (!decide ((C.length : Int) = (W.length : Int))) = false := by simp [hf.lc]
      rw [w_neq, e0]
      simp only [guardW_ff, pickW_false]
      rw [w_neq, e0]
      simp only [guardW_ff, pickW_false]
      rw [w_neq, e0]
      simp only [guardW_ff, pickW_false]
      refine (len26 hA).mpr ((len26 hW6).mpr ?_)
      rw [w_neq, eA]
      simp only [guardW_ff, pickW_false]
      refine (len26 hB).mpr ((len26 hW6).mpr ?_)
      rw [w_neq, eB]
      simp only [guardW_ff, pickW_false]
      refine (len26 hC).mpr ((len26 hW6).mpr ?_)
      rw [w_neq, eC]
      simp only [pickW_false, condW_false]
      refine Loop3.intro (fun n s t c w' => ∃ i : Nat, s = I (sumI (A.take i)) ∧ t = I (sumI (W.take i)) ∧ c = I i ∧ i ≤ W.length ∧ n = W.length - i ∧ Below w6.heap.size w6 w') W.length ⟨0, rfl, rfl, rfl, by omega, rfl, Below.refl _ _⟩ ?_
      rintro n _ _ _ w7 ⟨i, rfl, rfl, rfl, hi, rfl, hb7⟩
      have hla := hf.la
      have hlb := hf.lb
      have hlc := hf.lc
      have hA7 := hA.below hb7
      have hB7 := hB.below hb7
      have hC7 := hC.below hb7
      have hW7 := hW6.below hb7
      have hAr : ∀ x ∈ A, 0 ≤ x ∧ x ≤ 2000 := fun a ha => by
        obtain ⟨j, hj, rfl⟩ := List.getElem_of_mem ha
        have := hf.each j A[j] (B[j]'(by omega)) (C[W.length - 1 - j]'(by omega)) (W[j]'(by omega)) (by simp) (by simp) (by simp) (by simp)
        have := hWr (W[j]'(by omega)) (by simp)
        omega
      have hAs := sum_range (b := 2000) (by decide) (A.take i) fun x hx => hAr x (List.mem_of_mem_take hx)
      have hWs := sum_range (b := 2000) (by decide) (W.take i) fun x hx => hWr x (List.mem_of_mem_take hx)
      have hAl : (A.take i).length ≤ 8 := by simp; omega
      have hWl' : (W.take i).length ≤ 8 := by simp; omega
      refine (len26 hW7).mpr ?_
      rw [w_lss]
      by_cases hlt : i < W.length
      · rw [decide_eq_true (by omega), condW_true]
        obtain ⟨a, ha⟩ : ∃ a, A[i]? = some a := ⟨A[i]'(by omega), by simp⟩
        obtain ⟨b', hb'⟩ : ∃ a, B[i]? = some a := ⟨B[i]'(by omega), by simp⟩
        obtain ⟨x, hx⟩ : ∃ a, W[i]? = some a := ⟨W[i]'(by omega), by simp⟩
        obtain ⟨c, hc⟩ : ∃ a, C[W.length - 1 - i]? = some a := ⟨C[W.length - 1 - i]'(by omega), by simp⟩
        obtain ⟨f1, f2, f3, f4, f5⟩ := hf.each i a b' c x ha hb' hx hc
        have hxr := hWr x (List.mem_of_getElem? hx)
        have hA7d := hA7.drew
        have hW7d := hW7.drew
        have hB7d := hB7.drew
        refine get26 hA7 (by omega) ha ?_
        rw [w_add, wrap_id (by omega)]
        refine get26 hW7 (by omega) hx ?_
        rw [w_add, wrap_id (by omega)]
        refine (len26 hW7).mpr ?_
        rw [w_sub, wrap_id (by omega), w_sub, wrap_id (by omega)]
        refine get26 hC7 (by omega) (by rw [show ((W.length : Int) - 1 - i).toNat = W.length - 1 - i by omega]; exact hc) ?_
        rw [drewW_eq]
        refine tget26 hA7d (by omega) ha ?_
        rw [t_lss, decide_eq_false (by omega)]
        simp only [guardT_ff, pickT_false]
        refine tget26 hA7d (by omega) ha ?_
        refine tget26 hW7d (by omega) hx ?_
        rw [t_gtr, decide_eq_false (by omega)]
        simp only [guardT_ff, pickT_false]
        refine tget26 hB7d (by omega) hb' ?_
        refine tget26 hA7d (by omega) ha ?_
        rw [t_lss, decide_eq_false (by omega)]
        simp only [guardT_ff, pickT_false]
        refine tget26 hA7d (by omega) ha ?_
        rw [t_add, wrap_id (by omega), t_gtr, decide_eq_false (by omega)]
        simp only [guardT_ff, pickT_false]
        refine tget26 hA7d (by omega) ha ?_
        rw [t_sub, wrap_id (by omega), t_lss, decide_eq_false (by omega)]
        simp only [pickT_false, condW_false]
        refine Loop1.intro (fun n c w' => ∃ j : Nat, c = I j ∧ j ≤ W.length ∧ n = W.length - j ∧ Below w6.heap.size w6 w') W.length ⟨0, rfl, by omega, rfl, hb7.trans (Below.refl _ _).drew⟩ ?_
        rintro n _ w8 ⟨j, rfl, hj, rfl, hb8⟩
        have hA8 := hA.below hb8
        have hW8 := hW6.below hb8
        refine (len26 hW8).mpr ?_
        rw [w_lss]
        by_cases hjt : j < W.length
        · rw [decide_eq_true (by omega), condW_true, drewW_eq]
          obtain ⟨a', ha'⟩ : ∃ a, A[j]? = some a := ⟨A[j]'(by omega), by simp⟩
          obtain ⟨x', hx'⟩ : ∃ a, W[j]? = some a := ⟨W[j]'(by omega), by simp⟩
          have hA8d := hA8.drew
          have hW8d := hW8.drew
          have har := hAr a' (List.mem_of_getElem? ha')
          refine tget26 hA8d (by omega) ha' ?_
          refine tget26 hW8d (by omega) hx' ?_
          rw [t_lss]
          have fin : ∃ m, m < W.length - j ∧ ∃ j' : Nat, I ((j : Int) + 1) = I j' ∧ j' ≤ W.length ∧ m = W.length - j' ∧ Below w6.heap.size w6 w8.drew := ⟨W.length - (j + 1), by omega, j + 1, by simp [I], by omega, rfl, hb8.trans (Below.refl _ _).drew⟩
          by_cases hax : a' < x'
          · rw [decide_eq_true hax]
            simp only [guardT_tt, pickT_true]
            refine tget26 hA8d (by omega) ha ?_
            refine tget26 hA8d (by omega) ha' ?_
            have := hf.pair i j a a' x' ha ha' hx' hax
            rw [t_add, wrap_id (by omega), t_gtr, decide_eq_false (by omega), condW_false, w_add, wrap_id (by omega), loopK_self]
            exact fin
          · rw [decide_eq_false hax]
            simp only [guardT_ft, guardT_u, pickT_false, condW_false]
            rw [w_add, wrap_id (by omega), loopK_self]
            exact fin
        · rw [decide_eq_false (by omega), condW_false, w_add, wrap_id (by omega), loopK_self]
          exact ⟨W.length - (i + 1), by omega, i + 1, by rw [List.take_add_one, ha, sumI_app]; simp [sumI], by rw [List.take_add_one, hx, sumI_app]; simp [sumI], by simp [I], by omega, rfl, hb8⟩
      · rw [decide_eq_false (by omega), condW_false, w_minI, w_eql]
        have hs := hf.sum
        rw [List.take_of_length_le (by omega), List.take_of_length_le (by omega), hs, decide_eq_true rfl]
        exact hk _ (hb06.trans (hb7.mono hb06.size))
    · obtain ⟨j', rfl⟩ : ∃ j', n = j' + 1 := ⟨n - 1, by omega⟩
      rw [decide_eq_true (by omega), condW_true]
      have hx : W[j']? = some (W[j']'(by omega)) := by simp
      rw [show (((j' + 1 : Nat) : Int) - 1) = (j' : Int) by omega]
      refine ix26 (x := W[j']'(by omega)) (F := fI) hW3 rfl (by omega) (by simp) fun bb o hc => ?_
      refine (ld3 (hc 0 _ rfl)).mpr ?_
      generalize hxx : W[j']'(by omega) = x at *
      rw [w_one (v := I x) sty26 rfl (by omega)]
      have hba := below_alloc w3 (.cells (I x).cells 3 (0, 0))
      have hb4 := hb3.trans (hba.mono hb3.size)
      have hml : (W.drop (j' + 1)).reverse.length ≤ 8 := by simp; omega
      refine w_append1 (F := fI) (base := w2.heap.size) (u := I x) sty26 rfl rfl rfl (by rw [World.cell?_alloc_new]; rfl) (hq2.imp id fun h => h.same (hba.block _ h.lt.2)) (by unfold maxLen; omega) (by omega) hb4.size fun u g' w4 hS hw4 => ?_
      rw [w_sub, wrap_id (by omega), loopK_self]
      refine ⟨j', by omega, j', g', rfl, by omega, rfl, ?_, .inr ?_⟩
      · rcases hw4 with ⟨h0, _, rfl, hon⟩ | ⟨_, hb⟩
        · exact hb4.trans (hon.rest _ h0.lt.1)
        · exact hb4.trans (hb.mono hb4.size)
      · rw [List.drop_eq_getElem_cons (show j' < W.length by omega), List.reverse_cons, hxx]; exact hS
end
end Go.Proofs.Ytidnjppalebbfaa
