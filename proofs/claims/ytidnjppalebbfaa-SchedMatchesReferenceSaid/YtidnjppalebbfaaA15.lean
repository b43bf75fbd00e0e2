/- The law package's fixed examples: the walk. -/
import Derived.Test.YtidnjppalebbfaaA14
set_option linter.unusedSimpArgs false
set_option linter.unusedVariables false
namespace Go.Proofs.Ytidnjppalebbfaa
open Go Go.V Go.RowKit
section
variable {k : Value → World → Prop} {w : World}
theorem b34 {a b c : Int} : opW Try.prog (Instr.build 34 #[(0, I a), (1, I b), (2, I c)]) k w = k (.agg #[I a, I b, I c]) w := opW_ok (by kernel_rfl)
theorem b31 {a b : Int} : opW Try.prog (Instr.build 31 #[(0, I a), (1, I b)]) k w = k (.agg #[I a, I b]) w := opW_ok (by kernel_rfl)
theorem bs22 {s t : Stream} (hk : ∀ v w', Below w.heap.size w w' → IsSl fS w' v [s, t] → k v w') : opW Try.prog (Instr.buildSlice 22 2 #[(0, .agg #[I s.cls, I s.size, I s.period]), (1, .agg #[I t.cls, I t.size, I t.period])]) k w := by
  rw [opW_ok (show (Instr.buildSlice 22 2 #[(0, .agg #[I s.cls, I s.size, I s.period]), (1, .agg #[I t.cls, I t.size, I t.period])]).run Try.prog w = .ok (.slice (some ⟨w.heap.size, 0, none⟩) 2 2) (w.alloc (.cells #[I s.cls, I s.size, I s.period, I t.cls, I t.size, I t.period] 34 (0, 0))) by kernel_rfl)]
  exact hk _ _ (below_alloc _ _) (IsSl.row (F := fS) w 34 2 [s, t] (Nat.le_refl _))
theorem bs23 {s t : Arr} (hk : ∀ v w', Below w.heap.size w w' → IsSl fA w' v [s, t] → k v w') : opW Try.prog (Instr.buildSlice 23 2 #[(0, .agg #[I s.stream, I s.at_]), (1, .agg #[I t.stream, I t.at_])]) k w := by
  rw [opW_ok (show (Instr.buildSlice 23 2 #[(0, .agg #[I s.stream, I s.at_]), (1, .agg #[I t.stream, I t.at_])]).run Try.prog w = .ok (.slice (some ⟨w.heap.size, 0, none⟩) 2 2) (w.alloc (.cells #[I s.stream, I s.at_, I t.stream, I t.at_] 31 (0, 0))) by kernel_rfl)]
  exact hk _ _ (below_alloc _ _) (IsSl.row (F := fA) w 31 2 [s, t] (Nat.le_refl _))
theorem bs26_2 {a b : Int} (hk : ∀ v w', Below w.heap.size w w' → IsSl fI w' v [a, b] → k v w') : opW Try.prog (Instr.buildSlice 26 2 #[(0, I a), (1, I b)]) k w := by
  rw [opW_ok (show (Instr.buildSlice 26 2 #[(0, I a), (1, I b)]).run Try.prog w = .ok (.slice (some ⟨w.heap.size, 0, none⟩) 2 2) (w.alloc (.cells #[I a, I b] 3 (0, 0))) by kernel_rfl)]
  exact hk _ _ (below_alloc _ _) (IsSl.row (F := fI) w 3 2 [a, b] (Nat.le_refl _))
theorem bs26_3 {a b c : Int} (hk : ∀ v w', Below w.heap.size w w' → IsSl fI w' v [a, b, c] → k v w') : opW Try.prog (Instr.buildSlice 26 3 #[(0, I a), (1, I b), (2, I c)]) k w := by
  rw [opW_ok (show (Instr.buildSlice 26 3 #[(0, I a), (1, I b), (2, I c)]).run Try.prog w = .ok (.slice (some ⟨w.heap.size, 0, none⟩) 3 3) (w.alloc (.cells #[I a, I b, I c] 3 (0, 0))) by kernel_rfl)]
  exact hk _ _ (below_alloc _ _) (IsSl.row (F := fI) w 3 3 [a, b, c] (Nat.le_refl _))
theorem bs26_6 {a b c d e f : Int} (hk : ∀ v w', Below w.heap.size w w' → IsSl fI w' v [a, b, c, d, e, f] → k v w') : opW Try.prog (Instr.buildSlice 26 6 #[(0, I a), (1, I b), (2, I c), (3, I d), (4, I e), (5, I f)]) k w := by
  rw [opW_ok (show (Instr.buildSlice 26 6 #[(0, I a), (1, I b), (2, I c), (3, I d), (4, I e), (5, I f)]).run Try.prog w = .ok (.slice (some ⟨w.heap.size, 0, none⟩) 6 6) (w.alloc (.cells #[I a, I b, I c, I d, I e, I f] 3 (0, 0))) by kernel_rfl)]
  exact hk _ _ (below_alloc _ _) (IsSl.row (F := fI) w 3 6 [a, b, c, d, e, f] (Nat.le_refl _))
theorem c28 (hk : ∀ v w', Below w.heap.size w w' → IsSl fS w' v exL → k v w') : callW Try.prog (.func (.func 28) #[] #[]) #[] k w := C28 _ _ (by
  unfold S28
  rw [b34, b34]
  exact bs22 (s := S_ 3 4 20) (t := S_ 1 2 10) hk)
theorem c24 {v : Value} {bytes : Int} {l : List Int} (hs : IsSl fI w v l) (hl : l.length ≤ maxLen)
    (hbad : ∀ w', Below w.heap.size w w' → ¬ (0 ≤ bytes ∧ bytes ≤ 1000000 ∧ l.length ≤ 8 ∧ okW l) → k (.tuple #[.slice none 0 0, I 240]) w')
    (hok : ∀ L v' w', Below w.heap.size w w' → IsLevel bytes l L → 0 ≤ bytes ∧ bytes ≤ 1000000 ∧ l.length ≤ 8 ∧ okW l → IsSl fI w' v' (giveI L (bytes - needsI l L) l) → k (.tuple #[v', I 0]) w') : callW Try.prog (.func (.func 24) #[] #[]) #[I bytes, v] k w := C24 _ _ _ _ (s24 hs hl hbad hok)
theorem w_ex0 {P : Program} {a b : Value} : opW P (Instr.extract (.tuple #[a, b]) 0) k w = k a w := w_extract rfl
theorem w_ex1 {P : Program} {a b : Value} : opW P (Instr.extract (.tuple #[a, b]) 1) k w = k b w := w_extract rfl
theorem len_ok {α : Type} {l : List α} {n : Nat} (h : l.length = n) (hn : n ≤ 100) : l.length ≤ maxLen := by unfold maxLen; omega
theorem c9 (hk : ∀ w', Below w.heap.size w w' → k (.bool true) w') : callW Try.prog (.func (.func 9) #[] #[]) #[] k w := C9 _ _ (by
  unfold S9
  have huniq : ∀ k, k < exA.length → stA exA k < exL.length := by decide
  refine c28 fun vL w1 hb1 hL => ?_
  rw [b31, b31]
  refine bs23 (s := A_ 0 0) (t := A_ 1 1) fun vA w2 hb2 hA => ?_
  replace hL := hL.below hb2
  replace hb1 := below_trans hb1 hb2
  refine c18 (l := exL) (a := exA) hL hA (len_ok rfl (by decide)) (fun w' _ hn => absurd ex_proper hn) fun tr vT w3 hb3 _ htr hT => ?_
  obtain rfl := htr.unique huniq ex_trace
  clear htr hb2
  replace hL := hL.below hb3; replace hA := hA.below hb3; replace hb1 := below_trans hb1 hb3
  rw [w_ex0, w_ex1]
  refine c20 (l := exL) (a := exA) hL hA (len_ok rfl (by decide)) (fun w' _ hn => absurd ex_proper hn) fun tr vF w4 hb4 _ htr hF => ?_
  obtain rfl := htr.unique huniq ex_trace
  clear htr hb3
  replace hL := hL.below hb4; replace hA := hA.below hb4; replace hT := hT.below hb4; replace hb1 := below_trans hb1 hb4
  rw [w_ex0, w_ex1]
  have hlist : ∀ {l : List Stream} {out m : List Int}, out.length = l.length → m.length = l.length → validS l = true → (∀ j x, out[j]? = some x → RespP l j x) → (∀ j x, m[j]? = some x → RespP l j x) → out = m := fun a b c d e => resp_list a b c d e
  refine c13 (l := exL) hL (len_ok rfl (by decide)) (fun w' _ hn => absurd hn (by decide)) fun out vR w5 hb5 hv ho1 ho2 hR => ?_
  obtain rfl := hlist ho1 (by rfl) hv ho2 ex_resp
  clear ho1 ho2 hv hb4
  replace hL := hL.below hb5; replace hA := hA.below hb5; replace hT := hT.below hb5; replace hF := hF.below hb5; replace hb1 := below_trans hb1 hb5
  rw [w_ex0, w_ex1, b34, b34]
  refine bs22 (s := S_ 3 10 20) (t := S_ 1 2 10) fun vS w6 hb6 hS => ?_
  replace hL := hL.below hb6; replace hA := hA.below hb6; replace hT := hT.below hb6; replace hF := hF.below hb6; replace hR := hR.below hb6; replace hb1 := below_trans hb1 hb6
  refine c13 (l := exS) hS (len_ok rfl (by decide)) (fun w' _ hn => absurd hn (by decide)) fun out vR2 w7 hb7 hv ho1 ho2 hR2 => ?_
  obtain rfl := hlist ho1 (by rfl) hv ho2 ex_respS
  clear ho1 ho2 hv hb5 hb6 hS
  replace hL := hL.below hb7; replace hA := hA.below hb7; replace hT := hT.below hb7; replace hF := hF.below hb7; replace hR := hR.below hb7; replace hb1 := below_trans hb1 hb7
  rw [w_ex0, w_ex1, b34, b34]
  refine bs22 (s := S_ 3 10 12) (t := S_ 1 2 10) fun vS w8 hb8 hS => ?_
  replace hL := hL.below hb8; replace hA := hA.below hb8; replace hT := hT.below hb8; replace hF := hF.below hb8; replace hR := hR.below hb8; replace hR2 := hR2.below hb8; replace hb1 := below_trans hb1 hb8
  refine c13 (l := exU) hS (len_ok rfl (by decide)) (fun w' _ hn => absurd hn (by decide)) fun out vR3 w9 hb9 hv ho1 ho2 hR3 => ?_
  obtain rfl := hlist ho1 (by rfl) hv ho2 ex_respU
  clear ho1 ho2 hv hb7 hb8 hS
  replace hL := hL.below hb9; replace hA := hA.below hb9; replace hT := hT.below hb9; replace hF := hF.below hb9; replace hR := hR.below hb9; replace hR2 := hR2.below hb9; replace hb1 := below_trans hb1 hb9
  rw [w_ex0, w_ex1]
  refine bs26_3 fun vW w10 hb10 hW => ?_
  replace hL := hL.below hb10; replace hA := hA.below hb10; replace hT := hT.below hb10; replace hF := hF.below hb10; replace hR := hR.below hb10; replace hR2 := hR2.below hb10; replace hR3 := hR3.below hb10; replace hb1 := below_trans hb1 hb10
  have okw : 0 ≤ (11 : Int) ∧ (11 : Int) ≤ 1000000 ∧ ([2, 9, 9] : List Int).length ≤ 8 ∧ okW [2, 9, 9] := ⟨by decide, by decide, by decide, by intro x hx; simp at hx; omega⟩
  refine c24 (l := [2, 9, 9]) (bytes := 11) hW (len_ok rfl (by decide)) (fun w' _ hn => absurd okw hn) fun Lv vD w11 hb11 hlev _ hD => ?_
  obtain rfl := ex_level hlev
  clear hlev hb9 hb10 hW
  replace hL := hL.below hb11; replace hA := hA.below hb11; replace hT := hT.below hb11; replace hF := hF.below hb11; replace hR := hR.below hb11; replace hR2 := hR2.below hb11; replace hR3 := hR3.below hb11; replace hb1 := below_trans hb1 hb11
  rw [w_ex0, w_ex1]
  refine c24 (l := []) (bytes := -1) (.nil _) (by simp) (fun w12 hb12 _ => ?_) fun Lv vD w' _ _ hn _ => absurd hn.1 (by decide)
  replace hL := hL.below hb12; replace hA := hA.below hb12; replace hT := hT.below hb12; replace hF := hF.below hb12; replace hR := hR.below hb12; replace hR2 := hR2.below hb12; replace hR3 := hR3.below hb12; replace hD := hD.below hb12; replace hb1 := below_trans hb1 hb12
  clear hb11 hb12
  rw [w_ex0, w_ex1]
  rw [w_eql, decide_eq_true rfl]
  simp only [guardW_tt, pickW_true]
  rw [w_eql, decide_eq_true rfl]
  simp only [guardW_tt, pickW_true]
  rw [w_eql, decide_eq_true rfl]
  simp only [guardW_tt, pickW_true]
  rw [w_eql, decide_eq_true rfl]
  simp only [guardW_tt, pickW_true]
  rw [w_eql, decide_eq_true rfl]
  simp only [guardW_tt, pickW_true]
  rw [w_eql, decide_eq_true rfl]
  simp only [guardW_tt, pickW_true]
  rw [w_eql, decide_eq_true rfl]
  simp only [guardW_tt, pickW_true]
  refine bs26_6 fun vX w20 hb20 hX => ?_
  replace hL := hL.below hb20
  replace hA := hA.below hb20
  replace hT := hT.below hb20
  replace hF := hF.below hb20
  replace hR := hR.below hb20
  replace hR2 := hR2.below hb20
  replace hR3 := hR3.below hb20
  replace hD := hD.below hb20
  replace hb1 := below_trans hb1 hb20
  refine c17 hT hX (len_ok rfl (by decide)) fun w21 hb21 => ?_
  replace hL := hL.below hb21
  replace hA := hA.below hb21
  replace hT := hT.below hb21
  replace hF := hF.below hb21
  replace hR := hR.below hb21
  replace hR2 := hR2.below hb21
  replace hR3 := hR3.below hb21
  replace hD := hD.below hb21
  replace hb1 := below_trans hb1 hb21
  clear hb20 hb21 hX
  rw [decide_eq_true (by rfl)]
  simp only [guardW_tt, pickW_true]
  refine bs26_2 fun vX w22 hb22 hX => ?_
  replace hL := hL.below hb22
  replace hA := hA.below hb22
  replace hT := hT.below hb22
  replace hF := hF.below hb22
  replace hR := hR.below hb22
  replace hR2 := hR2.below hb22
  replace hR3 := hR3.below hb22
  replace hD := hD.below hb22
  replace hb1 := below_trans hb1 hb22
  refine c17 hF hX (len_ok rfl (by decide)) fun w23 hb23 => ?_
  replace hL := hL.below hb23
  replace hA := hA.below hb23
  replace hT := hT.below hb23
  replace hF := hF.below hb23
  replace hR := hR.below hb23
  replace hR2 := hR2.below hb23
  replace hR3 := hR3.below hb23
  replace hD := hD.below hb23
  replace hb1 := below_trans hb1 hb23
  clear hb22 hb23 hX
  rw [decide_eq_true (by rfl)]
  simp only [guardW_tt, pickW_true]
  refine bs26_2 fun vX w24 hb24 hX => ?_
  replace hL := hL.below hb24
  replace hA := hA.below hb24
  replace hT := hT.below hb24
  replace hF := hF.below hb24
  replace hR := hR.below hb24
  replace hR2 := hR2.below hb24
  replace hR3 := hR3.below hb24
  replace hD := hD.below hb24
  replace hb1 := below_trans hb1 hb24
  refine c17 hR hX (len_ok rfl (by decide)) fun w25 hb25 => ?_
  replace hL := hL.below hb25
  replace hA := hA.below hb25
  replace hT := hT.below hb25
  replace hF := hF.below hb25
  replace hR := hR.below hb25
  replace hR2 := hR2.below hb25
  replace hR3 := hR3.below hb25
  replace hD := hD.below hb25
  replace hb1 := below_trans hb1 hb25
  clear hb24 hb25 hX
  rw [decide_eq_true (by rfl)]
  simp only [guardW_tt, pickW_true]
  refine bs26_2 fun vX w26 hb26 hX => ?_
  replace hL := hL.below hb26
  replace hA := hA.below hb26
  replace hT := hT.below hb26
  replace hF := hF.below hb26
  replace hR := hR.below hb26
  replace hR2 := hR2.below hb26
  replace hR3 := hR3.below hb26
  replace hD := hD.below hb26
  replace hb1 := below_trans hb1 hb26
  refine c17 hR2 hX (len_ok rfl (by decide)) fun w27 hb27 => ?_
  replace hL := hL.below hb27
  replace hA := hA.below hb27
  replace hT := hT.below hb27
  replace hF := hF.below hb27
  replace hR := hR.below hb27
  replace hR2 := hR2.below hb27
  replace hR3 := hR3.below hb27
  replace hD := hD.below hb27
  replace hb1 := below_trans hb1 hb27
  clear hb26 hb27 hX
  rw [decide_eq_true (by rfl)]
  simp only [guardW_tt, pickW_true]
  refine bs26_2 fun vX w28 hb28 hX => ?_
  replace hL := hL.below hb28
  replace hA := hA.below hb28
  replace hT := hT.below hb28
  replace hF := hF.below hb28
  replace hR := hR.below hb28
  replace hR2 := hR2.below hb28
  replace hR3 := hR3.below hb28
  replace hD := hD.below hb28
  replace hb1 := below_trans hb1 hb28
  refine c17 hR3 hX (len_ok rfl (by decide)) fun w29 hb29 => ?_
  replace hL := hL.below hb29
  replace hA := hA.below hb29
  replace hT := hT.below hb29
  replace hF := hF.below hb29
  replace hR := hR.below hb29
  replace hR2 := hR2.below hb29
  replace hR3 := hR3.below hb29
  replace hD := hD.below hb29
  replace hb1 := below_trans hb1 hb29
  clear hb28 hb29 hX
  rw [decide_eq_true (by rfl)]
  simp only [guardW_tt, pickW_true]
  refine bs26_3 fun vX w30 hb30 hX => ?_
  replace hL := hL.below hb30
  replace hA := hA.below hb30
  replace hT := hT.below hb30
  replace hF := hF.below hb30
  replace hR := hR.below hb30
  replace hR2 := hR2.below hb30
  replace hR3 := hR3.below hb30
  replace hD := hD.below hb30
  replace hb1 := below_trans hb1 hb30
  refine c17 hD hX (len_ok rfl (by decide)) fun w31 hb31 => ?_
  replace hL := hL.below hb31
  replace hA := hA.below hb31
  replace hT := hT.below hb31
  replace hF := hF.below hb31
  replace hR := hR.below hb31
  replace hR2 := hR2.below hb31
  replace hR3 := hR3.below hb31
  replace hD := hD.below hb31
  replace hb1 := below_trans hb1 hb31
  clear hb30 hb31 hX
  rw [decide_eq_true (by rfl)]
  simp only [guardW_tt, pickW_true]
  refine c15 hL (len_ok rfl (by decide)) fun w40 hb40 => ?_
  replace hL := hL.below hb40
  replace hA := hA.below hb40
  replace hb1 := below_trans hb1 hb40
  rw [show validS exL = true by decide]
  simp only [guardW_tt, pickW_true]
  refine c22 hL hA (len_ok rfl (by decide)) (fun w41 hb41 _ => ?_) fun w' _ hn => absurd ex_proper hn
  replace hL := hL.below hb41
  replace hb1 := below_trans hb1 hb41
  simp only [guardW_tt, pickW_true]
  rw [b31, b31]
  refine bs23 (s := A_ 1 0) (t := A_ 1 9) fun vB w42 hb42 hB => ?_
  replace hL := hL.below hb42
  replace hb1 := below_trans hb1 hb42
  refine c22 hL hB (len_ok rfl (by decide)) (fun w' _ hn => absurd hn ex_bad) fun w43 hb43 _ => ?_
  rw [w_not]
  simp only [Bool.not_false, pickW_true]
  exact hk _ (below_trans hb1 hb43))
end
end Go.Proofs.Ytidnjppalebbfaa
