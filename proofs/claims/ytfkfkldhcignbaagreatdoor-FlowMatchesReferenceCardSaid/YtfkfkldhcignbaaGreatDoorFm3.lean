/- Part 4 of the proof of flowMatchesReference: lemmas for it; no condition beyond the statement. -/
import Derived.Test.YtfkfkldhcignbaaGreatDoorFm2
import Derived.Laws.Slices
import Derived.Laws.StructEq
import Derived.Laws.Strings3
import Derived.Laws.Concat
import Derived.WideKeyPair
import Derived.Laws.IdiomStrings
import Derived.Laws.IdiomCopy
/- The conditions of the functions, printed by program out of the loaded code, each with the contract that follows from it. -/
set_option linter.unusedVariables false
set_option maxRecDepth 100000
namespace Go.Proofs.YtfkfkldhcignbaaGreatDoor
open Go Go.V
noncomputable section

/-! slices.IndexFunc[[]newswire/api.Item,newswire/api.Item] -/
def ann89 : Ann := [(13, Note.keep []), (26, Note.loop [8] [0, 1, 7]), (422, Note.keep [0, 1, 7, 8])]
def S89 (s_1 f_2 : Value) (k : Value → World → Prop) (w : World) : Prop :=
   opW Tryz.prog (Builtin.len_ #[24] 3 #[s_1]) (fun t7_3 w =>
   Loop1 (fun t8_5 w K_6 =>
   opW Tryz.prog (binS BinOp.lss 3 (Operand.tmp 8) (Operand.tmp 7) t8_5 t7_3) (fun t9_7 w =>
   condW t9_7
   (opW Tryz.prog (Instr.indexAt 24 s_1 t8_5) (fun t14_10 w =>
   opW Tryz.prog (Instr.loadAt 63 t14_10) (fun t15_11 w =>
   callW Tryz.prog f_2 #[t15_11] (fun t16_12 w =>
   condW t16_12
   (k t8_5 w)
   (opW Tryz.prog (binS BinOp.add 3 (Operand.tmp 8) (Operand.const (Value.int IntKind.i64 1)) t8_5 (Value.int IntKind.i64 1)) (fun t18_13 w =>
   loopK [] [] [s_1, f_2, t7_3] [s_1, f_2, t7_3] (K_6 t18_13 w)) w)) w) w) w)
   (k (Value.int IntKind.i64 (-1)) w)) w) (Value.int IntKind.i64 0) w) w
theorem S89_vc (s_1 f_2 : Value) (k : Value → World → Prop) (w : World) : vc Tryz.prog Tryz.f89.ntmps ann89 none ((Tryz.f89.body).getD Code.skip) 1 (params 0 [s_1, f_2]) [] (finQ Tryz.prog Tryz.f89.results.toList k) w = S89 s_1 f_2 k w := by kernel_rfl
theorem S89_calls (s_1 f_2 : Value) (k : Value → World → Prop) (w : World) (h : S89 s_1 f_2 k w) : Calls Tryz.prog 89 #[s_1, f_2] w (retP k) :=
  calls_of_vc (fn := Tryz.f89) (c := (Tryz.f89.body).getD Code.skip) ann89 Tryz.func89 (by kernel_rfl) [s_1, f_2] w k (by kernel_rfl) ((S89_vc s_1 f_2 k w).symm ▸ h)
theorem C89 (s_1 f_2 : Value) (k : Value → World → Prop) (w : World) (h : S89 s_1 f_2 k w) : callW Tryz.prog (.func (.func 89) #[] #[]) #[s_1, f_2] k w :=
  callW_calls ok89 (by simpa using S89_calls s_1 f_2 k w h)

/-! newswire/newswireref10.in -/
def ann90 : Ann := []
def S90 (n_1 low_2 high_3 : Value) (k : Value → World → Prop) (w : World) : Prop :=
   opW Tryz.prog (binS BinOp.geq 3 (Operand.tmp 7) (Operand.tmp 8) n_1 low_2) (fun t9_4 w =>
   guardW (some t9_4, true) (fun k w => k n_1 w) (fun t11_5 w =>
   guardW (some t9_4, true) (fun k w => k high_3 w) (fun t12_6 w =>
   guardW (some t9_4, true) (fun k w => opW Tryz.prog (binS BinOp.leq 3 (Operand.tmp 11) (Operand.tmp 12) t11_5 t12_6) k w) (fun t13_7 w =>
   pickW t9_4 t13_7 (Value.bool false) (fun t14_8 w =>
   k t14_8 w) w) w) w) w) w
theorem S90_vc (n_1 low_2 high_3 : Value) (k : Value → World → Prop) (w : World) : vc Tryz.prog Tryz.f90.ntmps ann90 none ((Tryz.f90.body).getD Code.skip) 1 (params 0 [n_1, low_2, high_3]) [] (finQ Tryz.prog Tryz.f90.results.toList k) w = S90 n_1 low_2 high_3 k w := by kernel_rfl
theorem S90_calls (n_1 low_2 high_3 : Value) (k : Value → World → Prop) (w : World) (h : S90 n_1 low_2 high_3 k w) : Calls Tryz.prog 90 #[n_1, low_2, high_3] w (retP k) :=
  calls_of_vc (fn := Tryz.f90) (c := (Tryz.f90.body).getD Code.skip) ann90 Tryz.func90 (by kernel_rfl) [n_1, low_2, high_3] w k (by kernel_rfl) ((S90_vc n_1 low_2 high_3 k w).symm ▸ h)
theorem C90 (n_1 low_2 high_3 : Value) (k : Value → World → Prop) (w : World) (h : S90 n_1 low_2 high_3 k w) : callW Tryz.prog (.func (.func 90) #[] #[]) #[n_1, low_2, high_3] k w :=
  callW_calls ok90 (by simpa using S90_calls n_1 low_2 high_3 k w h)

/-! newswire/newswireref10.Rising -/
def ann91 : Ann := [(13, Note.keep []), (26, Note.loop [5] [0, 1]), (210, Note.keep [0, 1, 5]), (840, Note.plan (Plan.takeP 0 (Plan.takeP 1 (Plan.takeP 2 (Plan.takeX 3 (Plan.takeP 4 (Plan.run 5 (Plan.takeP 6 (Plan.takeP 7 (Plan.takeP 8 (Plan.takeP 9 (Plan.takeP 10 (Plan.takeP 11 (Plan.takeP 12 (Plan.takeP 13 (Plan.takeX 14 (Plan.takeP 15 (Plan.takeP 16 (Plan.takeP 17 (Plan.takeP 18 (Plan.takeX 19 (Plan.takeP 20 (Plan.takeP 21 (Plan.takeP 22 Plan.done))))))))))))))))))))))))]
def S91 (l_1 most_2 : Value) (k : Value → World → Prop) (w : World) : Prop :=
   Loop1 (fun i_4 w K_5 =>
   opW Tryz.prog (Builtin.len_ #[25] 3 #[l_1]) (fun t8_7 w =>
   opW Tryz.prog (binS BinOp.lss 3 (Operand.tmp 6) (Operand.tmp 8) i_4 t8_7) (fun t9_8 w =>
   condW t9_8
   (drewW w (fun w =>
   takeW Tryz.prog anyW (Instr.indexAt 25 l_1 i_4) (fun t14_11 =>
   takeW Tryz.prog (sameW w) (Instr.loadAt 3 t14_11) (fun t15_12 =>
   callW Tryz.prog (Value.func (Fn.func 90) #[] #[]) #[t15_12, (Value.int IntKind.i64 0), most_2] (fun t17_13 w =>
   takeW Tryz.prog anyW (Op.unary UnOp.not t17_13) (fun t18_14 =>
   guardT (some t18_14, false) (fun k => k i_4) (fun t20_15 =>
   guardT (some t18_14, false) (fun k => takeW Tryz.prog anyW (binS BinOp.gtr 3 (Operand.tmp 20) (Operand.const (Value.int IntKind.i64 0)) t20_15 (Value.int IntKind.i64 0)) k w) (fun t21_16 =>
   guardT (some t18_14, false) (fun k => k t21_16) (fun t22_17 =>
   guardT (some t22_17, true) (fun k => k l_1) (fun t23_18 =>
   guardT (some t22_17, true) (fun k => k i_4) (fun t24_19 =>
   guardT (some t22_17, true) (fun k => takeW Tryz.prog anyW (Instr.indexAt 25 t23_18 t24_19) k w) (fun t25_20 =>
   guardT (some t22_17, true) (fun k => takeW Tryz.prog (sameW w) (Instr.loadAt 3 t25_20) k w) (fun t26_21 =>
   guardT (some t22_17, true) (fun k => k l_1) (fun t27_22 =>
   guardT (some t22_17, true) (fun k => k i_4) (fun t28_23 =>
   guardT (some t22_17, true) (fun k => takeW Tryz.prog anyW (binS BinOp.sub 3 (Operand.tmp 28) (Operand.const (Value.int IntKind.i64 1)) t28_23 (Value.int IntKind.i64 1)) k w) (fun t29_24 =>
   guardT (some t22_17, true) (fun k => takeW Tryz.prog anyW (Instr.indexAt 25 t27_22 t29_24) k w) (fun t30_25 =>
   guardT (some t22_17, true) (fun k => takeW Tryz.prog (sameW w) (Instr.loadAt 3 t30_25) k w) (fun t31_26 =>
   guardT (some t22_17, true) (fun k => takeW Tryz.prog anyW (binS BinOp.leq 3 (Operand.tmp 26) (Operand.tmp 31) t26_21 t31_26) k w) (fun t32_27 =>
   guardT (some t18_14, false) (fun k => pickT t22_17 t32_27 (Value.bool false) k) (fun t33_28 =>
   pickT t18_14 (Value.bool true) t33_28 (fun t34_29 =>
   condW t34_29
   (k (Value.bool false) w)
   (opW Tryz.prog (binS BinOp.add 3 (Operand.tmp 10) (Operand.const (Value.int IntKind.i64 1)) i_4 (Value.int IntKind.i64 1)) (fun t11_30 w =>
   loopK [] [] [l_1, most_2] [l_1, most_2] (K_5 t11_30 w)) w))))))))))))))))) w) w) w) w))
   (k (Value.bool true) w)) w) w) (Value.int IntKind.i64 0) w
theorem S91_vc (l_1 most_2 : Value) (k : Value → World → Prop) (w : World) : vc Tryz.prog Tryz.f91.ntmps ann91 none ((Tryz.f91.body).getD Code.skip) 1 (params 0 [l_1, most_2]) [] (finQ Tryz.prog Tryz.f91.results.toList k) w = S91 l_1 most_2 k w := by kernel_rfl
theorem S91_calls (l_1 most_2 : Value) (k : Value → World → Prop) (w : World) (h : S91 l_1 most_2 k w) : Calls Tryz.prog 91 #[l_1, most_2] w (retP k) :=
  calls_of_vc (fn := Tryz.f91) (c := (Tryz.f91.body).getD Code.skip) ann91 Tryz.func91 (by kernel_rfl) [l_1, most_2] w k (by kernel_rfl) ((S91_vc l_1 most_2 k w).symm ▸ h)
theorem C91 (l_1 most_2 : Value) (k : Value → World → Prop) (w : World) (h : S91 l_1 most_2 k w) : callW Tryz.prog (.func (.func 91) #[] #[]) #[l_1, most_2] k w :=
  callW_calls ok91 (by simpa using S91_calls l_1 most_2 k w h)

/-! newswire/newswireref10.counts -/
def ann92 : Ann := [(13, Note.keep []), (26, Note.loop [5] [0, 1]), (210, Note.keep [0, 1, 5]), (840, Note.plan (Plan.takeP 0 (Plan.takeP 1 (Plan.takeP 2 (Plan.takeP 3 (Plan.takeU 4 (Plan.run 5 (Plan.takeP 6 (Plan.takeP 7 (Plan.takeP 8 (Plan.takeP 9 (Plan.takeP 10 (Plan.takeP 11 (Plan.takeX 12 (Plan.takeP 13 (Plan.run 14 (Plan.takeP 15 (Plan.takeP 16 (Plan.takeP 17 (Plan.takeP 18 (Plan.takeP 19 (Plan.takeP 20 (Plan.takeP 21 (Plan.takeP 22 (Plan.takeP 23 (Plan.takeP 24 (Plan.takeX 25 (Plan.takeP 26 (Plan.takeP 27 (Plan.takeP 28 (Plan.takeP 29 (Plan.takeP 30 (Plan.takeX 31 (Plan.takeP 32 (Plan.takeP 33 (Plan.takeP 34 Plan.done))))))))))))))))))))))))))))))))))))]
def S92 (l_1 least_2 : Value) (k : Value → World → Prop) (w : World) : Prop :=
   Loop1 (fun i_4 w K_5 =>
   opW Tryz.prog (Builtin.len_ #[26] 3 #[l_1]) (fun t8_7 w =>
   opW Tryz.prog (binS BinOp.lss 3 (Operand.tmp 6) (Operand.tmp 8) i_4 t8_7) (fun t9_8 w =>
   condW t9_8
   (drewW w (fun w =>
   ∃ S : World → Prop, S w ∧
   takeW Tryz.prog anyW (Instr.indexAt 26 l_1 i_4) (fun t14_11 =>
   takeW Tryz.prog anyW (Instr.fieldAt 121 t14_11 0) (fun t15_12 =>
   takeW Tryz.prog S (Instr.loadAt 3 t15_12) (fun t16_13 =>
   callW Tryz.prog (Value.func (Fn.func 90) #[] #[]) #[t16_13, (Value.int IntKind.i64 0), (Value.int IntKind.i64 15)] (fun t17_14 w =>
   takeW Tryz.prog anyW (Op.unary UnOp.not t17_14) (fun t18_15 =>
   guardT (some t18_15, false) (fun k => k l_1) (fun t20_16 =>
   guardT (some t18_15, false) (fun k => k i_4) (fun t21_17 =>
   guardT (some t18_15, false) (fun k => takeW Tryz.prog anyW (Instr.indexAt 26 t20_16 t21_17) k w) (fun t22_18 =>
   guardT (some t18_15, false) (fun k => takeW Tryz.prog anyW (Instr.fieldAt 121 t22_18 1) k w) (fun t23_19 =>
   guardT (some t18_15, false) (fun k => takeW Tryz.prog (sameW w) (Instr.loadAt 3 t23_19) k w) (fun t24_20 =>
   guardT (some t18_15, false) (fun k => k least_2) (fun t25_21 =>
   guardW (some t18_15, false) (fun k w => callW Tryz.prog (Value.func (Fn.func 90) #[] #[]) #[t24_20, t25_21, (Value.int IntKind.i64 12)] k w) (fun t26_22 w => keepS S (fun w =>
   guardT (some t18_15, false) (fun k => takeW Tryz.prog anyW (Op.unary UnOp.not t26_22) k w) (fun t27_23 =>
   pickT t18_15 (Value.bool true) t27_23 (fun t28_24 =>
   guardT (some t28_24, false) (fun k => k i_4) (fun t30_25 =>
   guardT (some t28_24, false) (fun k => takeW Tryz.prog anyW (binS BinOp.gtr 3 (Operand.tmp 30) (Operand.const (Value.int IntKind.i64 0)) t30_25 (Value.int IntKind.i64 0)) k w) (fun t31_26 =>
   guardT (some t28_24, false) (fun k => k t31_26) (fun t32_27 =>
   guardT (some t32_27, true) (fun k => k l_1) (fun t33_28 =>
   guardT (some t32_27, true) (fun k => k i_4) (fun t34_29 =>
   guardT (some t32_27, true) (fun k => takeW Tryz.prog anyW (Instr.indexAt 26 t33_28 t34_29) k w) (fun t35_30 =>
   guardT (some t32_27, true) (fun k => takeW Tryz.prog anyW (Instr.fieldAt 121 t35_30 0) k w) (fun t36_31 =>
   guardT (some t32_27, true) (fun k => takeW Tryz.prog (sameW w) (Instr.loadAt 3 t36_31) k w) (fun t37_32 =>
   guardT (some t32_27, true) (fun k => k l_1) (fun t38_33 =>
   guardT (some t32_27, true) (fun k => k i_4) (fun t39_34 =>
   guardT (some t32_27, true) (fun k => takeW Tryz.prog anyW (binS BinOp.sub 3 (Operand.tmp 39) (Operand.const (Value.int IntKind.i64 1)) t39_34 (Value.int IntKind.i64 1)) k w) (fun t40_35 =>
   guardT (some t32_27, true) (fun k => takeW Tryz.prog anyW (Instr.indexAt 26 t38_33 t40_35) k w) (fun t41_36 =>
   guardT (some t32_27, true) (fun k => takeW Tryz.prog anyW (Instr.fieldAt 121 t41_36 0) k w) (fun t42_37 =>
   guardT (some t32_27, true) (fun k => takeW Tryz.prog (sameW w) (Instr.loadAt 3 t42_37) k w) (fun t43_38 =>
   guardT (some t32_27, true) (fun k => takeW Tryz.prog anyW (binS BinOp.leq 3 (Operand.tmp 37) (Operand.tmp 43) t37_32 t43_38) k w) (fun t44_39 =>
   guardT (some t28_24, false) (fun k => pickT t32_27 t44_39 (Value.bool false) k) (fun t45_40 =>
   pickT t28_24 (Value.bool true) t45_40 (fun t46_41 =>
   condW t46_41
   (k (Value.bool false) w)
   (opW Tryz.prog (binS BinOp.add 3 (Operand.tmp 10) (Operand.const (Value.int IntKind.i64 1)) i_4 (Value.int IntKind.i64 1)) (fun t11_42 w =>
   loopK [] [] [l_1, least_2] [l_1, least_2] (K_5 t11_42 w)) w))))))))))))))))))))) w) w))))))) w) w) w) w) w))
   (k (Value.bool true) w)) w) w) (Value.int IntKind.i64 0) w
theorem S92_vc (l_1 least_2 : Value) (k : Value → World → Prop) (w : World) : vc Tryz.prog Tryz.f92.ntmps ann92 none ((Tryz.f92.body).getD Code.skip) 1 (params 0 [l_1, least_2]) [] (finQ Tryz.prog Tryz.f92.results.toList k) w = S92 l_1 least_2 k w := by kernel_rfl
theorem S92_calls (l_1 least_2 : Value) (k : Value → World → Prop) (w : World) (h : S92 l_1 least_2 k w) : Calls Tryz.prog 92 #[l_1, least_2] w (retP k) :=
  calls_of_vc (fn := Tryz.f92) (c := (Tryz.f92.body).getD Code.skip) ann92 Tryz.func92 (by kernel_rfl) [l_1, least_2] w k (by kernel_rfl) ((S92_vc l_1 least_2 k w).symm ▸ h)
theorem C92 (l_1 least_2 : Value) (k : Value → World → Prop) (w : World) (h : S92 l_1 least_2 k w) : callW Tryz.prog (.func (.func 92) #[] #[]) #[l_1, least_2] k w :=
  callW_calls ok92 (by simpa using S92_calls l_1 least_2 k w h)

/-! newswire/label.Same -/
def ann93 : Ann := []
def S93 (a_1 b_2 : Value) (k : Value → World → Prop) (w : World) : Prop :=
   opW Tryz.prog (Instr.box 61 a_1) (fun a_3 w =>
   opW Tryz.prog (Instr.box 61 b_2) (fun b_4 w =>
   opW Tryz.prog (Instr.fieldAt 61 a_3 5) (fun t6_5 w =>
   opW Tryz.prog (Instr.loadAt 59 t6_5) (fun t7_6 w =>
   opW Tryz.prog (Instr.fieldAt 61 b_4 5) (fun t8_7 w =>
   opW Tryz.prog (Instr.loadAt 59 t8_7) (fun t9_8 w =>
   callW Tryz.prog (Value.func (Fn.func 110) #[] #[]) #[t7_6, t9_8, (Value.func (Fn.func 111) #[] #[])] (fun t10_9 w =>
   guardW (some t10_9, true) (fun k w => opW Tryz.prog (Instr.fieldAt 61 a_3 0) k w) (fun t13_10 w =>
   guardW (some t10_9, true) (fun k w => opW Tryz.prog (Instr.loadAt 3 t13_10) k w) (fun t14_11 w =>
   guardW (some t10_9, true) (fun k w => opW Tryz.prog (Instr.fieldAt 61 b_4 0) k w) (fun t15_12 w =>
   guardW (some t10_9, true) (fun k w => opW Tryz.prog (Instr.loadAt 3 t15_12) k w) (fun t16_13 w =>
   guardW (some t10_9, true) (fun k w => opW Tryz.prog (binS BinOp.eql 3 (Operand.tmp 14) (Operand.tmp 16) t14_11 t16_13) k w) (fun t17_14 w =>
   pickW t10_9 t17_14 (Value.bool false) (fun t18_15 w =>
   guardW (some t18_15, true) (fun k w => opW Tryz.prog (Instr.fieldAt 61 a_3 3) k w) (fun t20_16 w =>
   guardW (some t18_15, true) (fun k w => opW Tryz.prog (Instr.loadAt 3 t20_16) k w) (fun t21_17 w =>
   guardW (some t18_15, true) (fun k w => opW Tryz.prog (Instr.fieldAt 61 b_4 3) k w) (fun t22_18 w =>
   guardW (some t18_15, true) (fun k w => opW Tryz.prog (Instr.loadAt 3 t22_18) k w) (fun t23_19 w =>
   guardW (some t18_15, true) (fun k w => opW Tryz.prog (binS BinOp.eql 3 (Operand.tmp 21) (Operand.tmp 23) t21_17 t23_19) k w) (fun t24_20 w =>
   pickW t18_15 t24_20 (Value.bool false) (fun t25_21 w =>
   guardW (some t25_21, true) (fun k w => opW Tryz.prog (Instr.fieldAt 61 a_3 4) k w) (fun t27_22 w =>
   guardW (some t25_21, true) (fun k w => opW Tryz.prog (Instr.loadAt 3 t27_22) k w) (fun t28_23 w =>
   guardW (some t25_21, true) (fun k w => opW Tryz.prog (Instr.fieldAt 61 b_4 4) k w) (fun t29_24 w =>
   guardW (some t25_21, true) (fun k w => opW Tryz.prog (Instr.loadAt 3 t29_24) k w) (fun t30_25 w =>
   guardW (some t25_21, true) (fun k w => opW Tryz.prog (binS BinOp.eql 3 (Operand.tmp 28) (Operand.tmp 30) t28_23 t30_25) k w) (fun t31_26 w =>
   pickW t25_21 t31_26 (Value.bool false) (fun t32_27 w =>
   guardW (some t32_27, true) (fun k w => opW Tryz.prog (Instr.fieldAt 61 a_3 1) k w) (fun t34_28 w =>
   guardW (some t32_27, true) (fun k w => opW Tryz.prog (Instr.loadAt 25 t34_28) k w) (fun t35_29 w =>
   guardW (some t32_27, true) (fun k w => opW Tryz.prog (Instr.fieldAt 61 b_4 1) k w) (fun t36_30 w =>
   guardW (some t32_27, true) (fun k w => opW Tryz.prog (Instr.loadAt 25 t36_30) k w) (fun t37_31 w =>
   guardW (some t32_27, true) (fun k w => callW Tryz.prog (Value.func (Fn.func 112) #[] #[]) #[t35_29, t37_31] k w) (fun t38_32 w =>
   pickW t32_27 t38_32 (Value.bool false) (fun t39_33 w =>
   guardW (some t39_33, true) (fun k w => opW Tryz.prog (Instr.fieldAt 61 a_3 2) k w) (fun t41_34 w =>
   guardW (some t39_33, true) (fun k w => opW Tryz.prog (Instr.loadAt 26 t41_34) k w) (fun t42_35 w =>
   guardW (some t39_33, true) (fun k w => opW Tryz.prog (Instr.fieldAt 61 b_4 2) k w) (fun t43_36 w =>
   guardW (some t39_33, true) (fun k w => opW Tryz.prog (Instr.loadAt 26 t43_36) k w) (fun t44_37 w =>
   guardW (some t39_33, true) (fun k w => callW Tryz.prog (Value.func (Fn.func 113) #[] #[]) #[t42_35, t44_37] k w) (fun t45_38 w =>
   pickW t39_33 t45_38 (Value.bool false) (fun t46_39 w =>
   k t46_39 w) w) w) w) w) w) w) w) w) w) w) w) w) w) w) w) w) w) w) w) w) w) w) w) w) w) w) w) w) w) w) w) w) w) w) w) w) w
theorem S93_vc (a_1 b_2 : Value) (k : Value → World → Prop) (w : World) : vc Tryz.prog Tryz.f93.ntmps ann93 none ((Tryz.f93.body).getD Code.skip) 1 (params 0 [a_1, b_2]) [] (finQ Tryz.prog Tryz.f93.results.toList k) w = S93 a_1 b_2 k w := by kernel_rfl
theorem S93_calls (a_1 b_2 : Value) (k : Value → World → Prop) (w : World) (h : S93 a_1 b_2 k w) : Calls Tryz.prog 93 #[a_1, b_2] w (retP k) :=
  calls_of_vc (fn := Tryz.f93) (c := (Tryz.f93.body).getD Code.skip) ann93 Tryz.func93 (by kernel_rfl) [a_1, b_2] w k (by kernel_rfl) ((S93_vc a_1 b_2 k w).symm ▸ h)
theorem C93 (a_1 b_2 : Value) (k : Value → World → Prop) (w : World) (h : S93 a_1 b_2 k w) : callW Tryz.prog (.func (.func 93) #[] #[]) #[a_1, b_2] k w :=
  callW_calls ok93 (by simpa using S93_calls a_1 b_2 k w h)

/-! slices.IndexFunc[[]*newswire/flow.pending,*newswire/flow.pending] -/
def ann94 : Ann := [(13, Note.keep []), (26, Note.loop [8] [0, 1, 7]), (422, Note.keep [0, 1, 7, 8])]
def S94 (s_1 f_2 : Value) (k : Value → World → Prop) (w : World) : Prop :=
   opW Tryz.prog (Builtin.len_ #[95] 3 #[s_1]) (fun t7_3 w =>
   Loop1 (fun t8_5 w K_6 =>
   opW Tryz.prog (binS BinOp.lss 3 (Operand.tmp 8) (Operand.tmp 7) t8_5 t7_3) (fun t9_7 w =>
   condW t9_7
   (opW Tryz.prog (Instr.indexAt 95 s_1 t8_5) (fun t14_10 w =>
   opW Tryz.prog (Instr.loadAt 96 t14_10) (fun t15_11 w =>
   callW Tryz.prog f_2 #[t15_11] (fun t16_12 w =>
   condW t16_12
   (k t8_5 w)
   (opW Tryz.prog (binS BinOp.add 3 (Operand.tmp 8) (Operand.const (Value.int IntKind.i64 1)) t8_5 (Value.int IntKind.i64 1)) (fun t18_13 w =>
   loopK [] [] [s_1, f_2, t7_3] [s_1, f_2, t7_3] (K_6 t18_13 w)) w)) w) w) w)
   (k (Value.int IntKind.i64 (-1)) w)) w) (Value.int IntKind.i64 0) w) w
theorem S94_vc (s_1 f_2 : Value) (k : Value → World → Prop) (w : World) : vc Tryz.prog Tryz.f94.ntmps ann94 none ((Tryz.f94.body).getD Code.skip) 1 (params 0 [s_1, f_2]) [] (finQ Tryz.prog Tryz.f94.results.toList k) w = S94 s_1 f_2 k w := by kernel_rfl
theorem S94_calls (s_1 f_2 : Value) (k : Value → World → Prop) (w : World) (h : S94 s_1 f_2 k w) : Calls Tryz.prog 94 #[s_1, f_2] w (retP k) :=
  calls_of_vc (fn := Tryz.f94) (c := (Tryz.f94.body).getD Code.skip) ann94 Tryz.func94 (by kernel_rfl) [s_1, f_2] w k (by kernel_rfl) ((S94_vc s_1 f_2 k w).symm ▸ h)
theorem C94 (s_1 f_2 : Value) (k : Value → World → Prop) (w : World) (h : S94 s_1 f_2 k w) : callW Tryz.prog (.func (.func 94) #[] #[]) #[s_1, f_2] k w :=
  callW_calls ok94 (by simpa using S94_calls s_1 f_2 k w h)

/-! slices.pdqsortCmpFunc[*newswire/flow.pending] -/
def ann95 : Ann := [(7, Note.keep []), (14, Note.loop [1, 2, 3, 10, 11] [0, 4]), (28, Note.keep [0, 1, 2, 3, 4, 10, 11]), (29180, Note.plan (Plan.takeP 0 (Plan.takeP 1 (Plan.takeP 2 (Plan.takeP 3 (Plan.takeP 4 (Plan.takeP 5 (Plan.takeP 6 (Plan.takeP 7 (Plan.takeX 8 (Plan.takeP 9 (Plan.takeP 10 (Plan.takeP 11 (Plan.takeX 12 (Plan.run 13 (Plan.takeP 14 (Plan.takeP 15 (Plan.takeP 16 Plan.done))))))))))))))))))]
def S95 (data_1 a_2 b_3 limit_4 cmp_5 : Value) (k : Value → World → Prop) (w : World) : Prop :=
   Loop5 (fun a_7 b_8 limit_9 wasBalanced_10 wasPartitioned_11 w K_12 =>
   joinW (fun a_75 b_76 limit_77 wasBalanced_78 wasPartitioned_79 w =>
   loopK [] [] [data_1, cmp_5] [data_1, cmp_5] (K_12 a_75 b_76 limit_77 wasBalanced_78 wasPartitioned_79 w)) (fun J_13 =>
   opW Tryz.prog (binS BinOp.sub 3 (Operand.tmp 21) (Operand.tmp 22) b_8 a_7) (fun t23_14 w =>
   opW Tryz.prog (binS BinOp.leq 3 (Operand.tmp 24) (Operand.const (Value.int IntKind.i64 12)) t23_14 (Value.int IntKind.i64 12)) (fun t25_16 w =>
   condW t25_16
   (callW Tryz.prog (Value.func (Fn.func 114) #[] #[]) #[data_1, a_7, b_8, cmp_5] (fun t30_17 w =>
   k (Value.tuple #[]) w) w)
   (opW Tryz.prog (binS BinOp.eql 3 (Operand.tmp 31) (Operand.const (Value.int IntKind.i64 0)) limit_9 (Value.int IntKind.i64 0)) (fun t32_19 w =>
   condW t32_19
   (callW Tryz.prog (Value.func (Fn.func 115) #[] #[]) #[data_1, a_7, b_8, cmp_5] (fun t37_20 w =>
   k (Value.tuple #[]) w) w)
   (joinW (fun limit_25 w =>
   callW Tryz.prog (Value.func (Fn.func 117) #[] #[]) #[data_1, a_7, b_8, cmp_5] (fun t52_26 w =>
   opW Tryz.prog (Instr.extract t52_26 0) (fun t53_27 w =>
   opW Tryz.prog (Instr.extract t52_26 1) (fun t54_28 w =>
   joinW (fun pivot_35 hint_36 w =>
   joinW (fun w =>
   drewW w (fun w =>
   takeW Tryz.prog anyW (binS BinOp.gtr 3 (Operand.tmp 81) (Operand.const (Value.int IntKind.i64 0)) a_7 (Value.int IntKind.i64 0)) (fun t82_46 =>
   guardT (some t82_46, true) (fun k => k cmp_5) (fun t84_47 =>
   guardT (some t82_46, true) (fun k => k data_1) (fun t85_48 =>
   guardT (some t82_46, true) (fun k => k a_7) (fun t86_49 =>
   guardT (some t82_46, true) (fun k => takeW Tryz.prog anyW (binS BinOp.sub 3 (Operand.tmp 86) (Operand.const (Value.int IntKind.i64 1)) t86_49 (Value.int IntKind.i64 1)) k w) (fun t87_50 =>
   guardT (some t82_46, true) (fun k => takeW Tryz.prog anyW (Instr.indexAt 95 t85_48 t87_50) k w) (fun t88_51 =>
   guardT (some t82_46, true) (fun k => takeW Tryz.prog (sameW w) (Instr.loadAt 96 t88_51) k w) (fun t89_52 =>
   guardT (some t82_46, true) (fun k => k data_1) (fun t90_53 =>
   guardT (some t82_46, true) (fun k => k pivot_35) (fun t91_54 =>
   guardT (some t82_46, true) (fun k => takeW Tryz.prog anyW (Instr.indexAt 95 t90_53 t91_54) k w) (fun t92_55 =>
   guardT (some t82_46, true) (fun k => takeW Tryz.prog (sameW w) (Instr.loadAt 96 t92_55) k w) (fun t93_56 =>
   guardW (some t82_46, true) (fun k w => callW Tryz.prog t84_47 #[t89_52, t93_56] k w) (fun t94_57 w =>
   guardT (some t82_46, true) (fun k => takeW Tryz.prog anyW (binS BinOp.lss 3 (Operand.tmp 94) (Operand.const (Value.int IntKind.i64 0)) t94_57 (Value.int IntKind.i64 0)) k w) (fun t95_58 =>
   guardT (some t82_46, true) (fun k => takeW Tryz.prog anyW (Op.unary UnOp.not t95_58) k w) (fun t96_59 =>
   pickT t82_46 t96_59 (Value.bool false) (fun t97_60 =>
   condW t97_60
   (callW Tryz.prog (Value.func (Fn.func 120) #[] #[]) #[data_1, a_7, b_8, pivot_35, cmp_5] (fun t103_61 w =>
   J_13 t103_61 b_8 limit_25 wasBalanced_10 wasPartitioned_11 w) w)
   (callW Tryz.prog (Value.func (Fn.func 121) #[] #[]) #[data_1, a_7, b_8, pivot_35, cmp_5] (fun t111_62 w =>
   opW Tryz.prog (Instr.extract t111_62 0) (fun t112_63 w =>
   opW Tryz.prog (Instr.extract t111_62 1) (fun t113_64 w =>
   opW Tryz.prog (binS BinOp.sub 3 (Operand.tmp 115) (Operand.tmp 116) t112_63 a_7) (fun t117_65 w =>
   opW Tryz.prog (binS BinOp.sub 3 (Operand.tmp 118) (Operand.tmp 119) b_8 t112_63) (fun t120_66 w =>
   opW Tryz.prog (binS BinOp.quo 3 (Operand.tmp 121) (Operand.const (Value.int IntKind.i64 8)) t23_14 (Value.int IntKind.i64 8)) (fun t122_67 w =>
   opW Tryz.prog (binS BinOp.lss 3 (Operand.tmp 123) (Operand.tmp 124) t117_65 t120_66) (fun t125_68 w =>
   condW t125_68
   (opW Tryz.prog (binS BinOp.geq 3 (Operand.tmp 126) (Operand.tmp 127) t117_65 t122_67) (fun t128_69 w =>
   callW Tryz.prog (Value.func (Fn.func 95) #[] #[]) #[data_1, a_7, t112_63, limit_25, cmp_5] (fun t134_70 w =>
   opW Tryz.prog (binS BinOp.add 3 (Operand.tmp 135) (Operand.const (Value.int IntKind.i64 1)) t112_63 (Value.int IntKind.i64 1)) (fun t136_71 w =>
   J_13 t136_71 b_8 limit_25 t128_69 t113_64 w) w) w) w)
   (opW Tryz.prog (binS BinOp.geq 3 (Operand.tmp 137) (Operand.tmp 138) t120_66 t122_67) (fun t139_72 w =>
   opW Tryz.prog (binS BinOp.add 3 (Operand.tmp 141) (Operand.const (Value.int IntKind.i64 1)) t112_63 (Value.int IntKind.i64 1)) (fun t142_73 w =>
   callW Tryz.prog (Value.func (Fn.func 95) #[] #[]) #[data_1, t142_73, b_8, limit_25, cmp_5] (fun t146_74 w =>
   J_13 a_7 t112_63 limit_25 t139_72 t113_64 w) w) w) w)) w) w) w) w) w) w) w))))) w))))))))))) w)) (fun J_37 =>
   guardW (some wasBalanced_10, true) (fun k w => k wasPartitioned_11 w) (fun t70_38 w =>
   pickW wasBalanced_10 t70_38 (Value.bool false) (fun t71_39 w =>
   guardW (some t71_39, true) (fun k w => k hint_36 w) (fun t73_40 w =>
   guardW (some t71_39, true) (fun k w => opW Tryz.prog (binS BinOp.eql 167 (Operand.tmp 73) (Operand.const (Value.int IntKind.i64 1)) t73_40 (Value.int IntKind.i64 1)) k w) (fun t74_41 w =>
   pickW t71_39 t74_41 (Value.bool false) (fun t75_42 w =>
   condW t75_42
   (callW Tryz.prog (Value.func (Fn.func 119) #[] #[]) #[data_1, a_7, b_8, cmp_5] (fun t80_43 w =>
   condW t80_43
   (k (Value.tuple #[]) w)
   (J_37 w)) w)
   (J_37 w)) w) w) w) w) w)) (fun J_29 =>
   opW Tryz.prog (binS BinOp.eql 167 (Operand.tmp 55) (Operand.const (Value.int IntKind.i64 2)) t54_28 (Value.int IntKind.i64 2)) (fun t56_30 w =>
   condW t56_30
   (callW Tryz.prog (Value.func (Fn.func 118) #[] #[]) #[data_1, a_7, b_8, cmp_5] (fun t61_31 w =>
   opW Tryz.prog (binS BinOp.sub 3 (Operand.tmp 62) (Operand.const (Value.int IntKind.i64 1)) b_8 (Value.int IntKind.i64 1)) (fun t63_32 w =>
   opW Tryz.prog (binS BinOp.sub 3 (Operand.tmp 64) (Operand.tmp 65) t53_27 a_7) (fun t66_33 w =>
   opW Tryz.prog (binS BinOp.sub 3 (Operand.tmp 63) (Operand.tmp 66) t63_32 t66_33) (fun t67_34 w =>
   J_29 t67_34 (Value.int IntKind.i64 1) w) w) w) w) w)
   (J_29 t53_27 t54_28 w)) w)) w) w) w) (fun J_21 =>
   opW Tryz.prog (Op.unary UnOp.not wasBalanced_10) (fun t39_22 w =>
   condW t39_22
   (callW Tryz.prog (Value.func (Fn.func 116) #[] #[]) #[data_1, a_7, b_8, cmp_5] (fun t44_23 w =>
   opW Tryz.prog (binS BinOp.sub 3 (Operand.tmp 45) (Operand.const (Value.int IntKind.i64 1)) limit_9 (Value.int IntKind.i64 1)) (fun t46_24 w =>
   J_21 t46_24 w) w) w)
   (J_21 limit_9 w)) w))) w)) w) w)) a_2 b_3 limit_4 (Value.bool true) (Value.bool true) w
theorem S95_vc (data_1 a_2 b_3 limit_4 cmp_5 : Value) (k : Value → World → Prop) (w : World) : vc Tryz.prog Tryz.f95.ntmps ann95 none ((Tryz.f95.body).getD Code.skip) 1 (params 0 [data_1, a_2, b_3, limit_4, cmp_5]) [] (finQ Tryz.prog Tryz.f95.results.toList k) w = S95 data_1 a_2 b_3 limit_4 cmp_5 k w := by kernel_rfl
theorem S95_calls (data_1 a_2 b_3 limit_4 cmp_5 : Value) (k : Value → World → Prop) (w : World) (h : S95 data_1 a_2 b_3 limit_4 cmp_5 k w) : Calls Tryz.prog 95 #[data_1, a_2, b_3, limit_4, cmp_5] w (retP k) :=
  calls_of_vc (fn := Tryz.f95) (c := (Tryz.f95.body).getD Code.skip) ann95 Tryz.func95 (by kernel_rfl) [data_1, a_2, b_3, limit_4, cmp_5] w k (by kernel_rfl) ((S95_vc data_1 a_2 b_3 limit_4 cmp_5 k w).symm ▸ h)
theorem C95 (data_1 a_2 b_3 limit_4 cmp_5 : Value) (k : Value → World → Prop) (w : World) (h : S95 data_1 a_2 b_3 limit_4 cmp_5 k w) : callW Tryz.prog (.func (.func 95) #[] #[]) #[data_1, a_2, b_3, limit_4, cmp_5] k w :=
  callW_calls ok95 (by simpa using S95_calls data_1 a_2 b_3 limit_4 cmp_5 k w h)

/-! newswire/newswireref10.Open -/
def ann97 : Ann := []
def S97 (l_1 r_2 m_3 : Value) (k : Value → World → Prop) (w : World) : Prop :=
   opW Tryz.prog (Instr.box 61 l_1) (fun l_4 w =>
   opW Tryz.prog (Instr.box 30 r_2) (fun r_5 w =>
   opW Tryz.prog (Instr.box 28 m_3) (fun m_6 w =>
   opW Tryz.prog (Instr.loadAt 61 l_4) (fun t7_7 w =>
   opW Tryz.prog (Instr.loadAt 30 r_5) (fun t8_8 w =>
   opW Tryz.prog (Instr.loadAt 28 m_6) (fun t9_9 w =>
   callW Tryz.prog (Value.func (Fn.func 124) #[] #[]) #[t7_7, t8_8, t9_9] (fun t10_10 w =>
   opW Tryz.prog (binS BinOp.eql 3 (Operand.tmp 10) (Operand.const (Value.int IntKind.i64 0)) t10_10 (Value.int IntKind.i64 0)) (fun t11_11 w =>
   k t11_11 w) w) w) w) w) w) w) w) w
theorem S97_vc (l_1 r_2 m_3 : Value) (k : Value → World → Prop) (w : World) : vc Tryz.prog Tryz.f97.ntmps ann97 none ((Tryz.f97.body).getD Code.skip) 1 (params 0 [l_1, r_2, m_3]) [] (finQ Tryz.prog Tryz.f97.results.toList k) w = S97 l_1 r_2 m_3 k w := by kernel_rfl
theorem S97_calls (l_1 r_2 m_3 : Value) (k : Value → World → Prop) (w : World) (h : S97 l_1 r_2 m_3 k w) : Calls Tryz.prog 97 #[l_1, r_2, m_3] w (retP k) :=
  calls_of_vc (fn := Tryz.f97) (c := (Tryz.f97.body).getD Code.skip) ann97 Tryz.func97 (by kernel_rfl) [l_1, r_2, m_3] w k (by kernel_rfl) ((S97_vc l_1 r_2 m_3 k w).symm ▸ h)
theorem C97 (l_1 r_2 m_3 : Value) (k : Value → World → Prop) (w : World) (h : S97 l_1 r_2 m_3 k w) : callW Tryz.prog (.func (.func 97) #[] #[]) #[l_1, r_2, m_3] k w :=
  callW_calls ok97 (by simpa using S97_calls l_1 r_2 m_3 k w h)

/-! cmp.isNaN[int] -/
def ann105 : Ann := []
def S105 (x_1 : Value) (k : Value → World → Prop) (w : World) : Prop :=
   opW Tryz.prog (binS BinOp.neq 3 (Operand.tmp 3) (Operand.tmp 4) x_1 x_1) (fun t5_2 w =>
   k t5_2 w) w
theorem S105_vc (x_1 : Value) (k : Value → World → Prop) (w : World) : vc Tryz.prog Tryz.f105.ntmps ann105 none ((Tryz.f105.body).getD Code.skip) 1 (params 0 [x_1]) [] (finQ Tryz.prog Tryz.f105.results.toList k) w = S105 x_1 k w := by kernel_rfl
theorem S105_calls (x_1 : Value) (k : Value → World → Prop) (w : World) (h : S105 x_1 k w) : Calls Tryz.prog 105 #[x_1] w (retP k) :=
  calls_of_vc (fn := Tryz.f105) (c := (Tryz.f105.body).getD Code.skip) ann105 Tryz.func105 (by kernel_rfl) [x_1] w k (by kernel_rfl) ((S105_vc x_1 k w).symm ▸ h)
theorem C105 (x_1 : Value) (k : Value → World → Prop) (w : World) (h : S105 x_1 k w) : callW Tryz.prog (.func (.func 105) #[] #[]) #[x_1] k w :=
  callW_calls ok105 (by simpa using S105_calls x_1 k w h)

/-! cmp.Or[int] -/
def ann106 : Ann := [(29, Note.keep [3]), (58, Note.loop [8] [3, 6, 7]), (934, Note.keep [3, 6, 7, 8])]
def S106 (vals_1 : Value) (k : Value → World → Prop) (w : World) : Prop :=
   opW Tryz.prog (Builtin.len_ #[25] 3 #[vals_1]) (fun t7_2 w =>
   Loop1 (fun t8_4 w K_5 =>
   opW Tryz.prog (binS BinOp.lss 3 (Operand.tmp 8) (Operand.tmp 7) t8_4 t7_2) (fun t9_6 w =>
   condW t9_6
   (opW Tryz.prog (Instr.indexAt 25 vals_1 t8_4) (fun t10_9 w =>
   opW Tryz.prog (Instr.loadAt 3 t10_9) (fun t11_10 w =>
   opW Tryz.prog (binS BinOp.neq 3 (Operand.tmp 12) (Operand.tmp 13) t11_10 (Value.int IntKind.i64 0)) (fun t14_11 w =>
   condW t14_11
   (k t11_10 w)
   (opW Tryz.prog (binS BinOp.add 3 (Operand.tmp 8) (Operand.const (Value.int IntKind.i64 1)) t8_4 (Value.int IntKind.i64 1)) (fun t16_12 w =>
   loopK [] [] [(Value.int IntKind.i64 0), vals_1, t7_2] [(Value.int IntKind.i64 0), vals_1, t7_2] (K_5 t16_12 w)) w)) w) w) w)
   (k (Value.int IntKind.i64 0) w)) w) (Value.int IntKind.i64 0) w) w
theorem S106_vc (vals_1 : Value) (k : Value → World → Prop) (w : World) : vc Tryz.prog Tryz.f106.ntmps ann106 none ((Tryz.f106.body).getD Code.skip) 1 (params 0 [vals_1]) [] (finQ Tryz.prog Tryz.f106.results.toList k) w = S106 vals_1 k w := by kernel_rfl
theorem S106_calls (vals_1 : Value) (k : Value → World → Prop) (w : World) (h : S106 vals_1 k w) : Calls Tryz.prog 106 #[vals_1] w (retP k) :=
  calls_of_vc (fn := Tryz.f106) (c := (Tryz.f106.body).getD Code.skip) ann106 Tryz.func106 (by kernel_rfl) [vals_1] w k (by kernel_rfl) ((S106_vc vals_1 k w).symm ▸ h)
theorem C106 (vals_1 : Value) (k : Value → World → Prop) (w : World) (h : S106 vals_1 k w) : callW Tryz.prog (.func (.func 106) #[] #[]) #[vals_1] k w :=
  callW_calls ok106 (by simpa using S106_calls vals_1 k w h)

/-! slices.Compare[[]int,int] -/
def ann107 : Ann := [(13, Note.keep [0, 1]), (26, Note.loop [11] [0, 1, 9, 10]), (422, Note.keep [0, 1, 9, 10, 11])]
def S107 (s1_1 s2_2 : Value) (k : Value → World → Prop) (w : World) : Prop :=
   opW Tryz.prog (Builtin.len_ #[25] 3 #[s1_1]) (fun t10_3 w =>
   Loop1 (fun t11_5 w K_6 =>
   opW Tryz.prog (binS BinOp.lss 3 (Operand.tmp 11) (Operand.tmp 10) t11_5 t10_3) (fun t12_7 w =>
   condW t12_7
   (opW Tryz.prog (Instr.indexAt 25 s1_1 t11_5) (fun t14_10 w =>
   opW Tryz.prog (Instr.loadAt 3 t14_10) (fun t15_11 w =>
   opW Tryz.prog (Builtin.len_ #[25] 3 #[s2_2]) (fun t18_13 w =>
   opW Tryz.prog (binS BinOp.geq 3 (Operand.tmp 16) (Operand.tmp 18) t11_5 t18_13) (fun t19_14 w =>
   condW t19_14
   (k (Value.int IntKind.i64 1) w)
   (opW Tryz.prog (Instr.indexAt 25 s2_2 t11_5) (fun t22_15 w =>
   opW Tryz.prog (Instr.loadAt 3 t22_15) (fun t23_16 w =>
   callW Tryz.prog (Value.func (Fn.func 64) #[] #[]) #[t15_11, t23_16] (fun t26_17 w =>
   opW Tryz.prog (binS BinOp.neq 3 (Operand.tmp 27) (Operand.const (Value.int IntKind.i64 0)) t26_17 (Value.int IntKind.i64 0)) (fun t28_18 w =>
   condW t28_18
   (k t26_17 w)
   (opW Tryz.prog (binS BinOp.add 3 (Operand.tmp 11) (Operand.const (Value.int IntKind.i64 1)) t11_5 (Value.int IntKind.i64 1)) (fun t30_19 w =>
   loopK [] [] [s1_1, s2_2, s1_1, t10_3] [s1_1, s2_2, s1_1, t10_3] (K_6 t30_19 w)) w)) w) w) w) w)) w) w) w) w)
   (opW Tryz.prog (Builtin.len_ #[25] 3 #[s1_1]) (fun t32_21 w =>
   opW Tryz.prog (Builtin.len_ #[25] 3 #[s2_2]) (fun t34_22 w =>
   opW Tryz.prog (binS BinOp.lss 3 (Operand.tmp 32) (Operand.tmp 34) t32_21 t34_22) (fun t35_23 w =>
   condW t35_23
   (k (Value.int IntKind.i64 (-1)) w)
   (k (Value.int IntKind.i64 0) w)) w) w) w)) w) (Value.int IntKind.i64 0) w) w
theorem S107_vc (s1_1 s2_2 : Value) (k : Value → World → Prop) (w : World) : vc Tryz.prog Tryz.f107.ntmps ann107 none ((Tryz.f107.body).getD Code.skip) 1 (params 0 [s1_1, s2_2]) [] (finQ Tryz.prog Tryz.f107.results.toList k) w = S107 s1_1 s2_2 k w := by kernel_rfl
theorem S107_calls (s1_1 s2_2 : Value) (k : Value → World → Prop) (w : World) (h : S107 s1_1 s2_2 k w) : Calls Tryz.prog 107 #[s1_1, s2_2] w (retP k) :=
  calls_of_vc (fn := Tryz.f107) (c := (Tryz.f107.body).getD Code.skip) ann107 Tryz.func107 (by kernel_rfl) [s1_1, s2_2] w k (by kernel_rfl) ((S107_vc s1_1 s2_2 k w).symm ▸ h)
theorem C107 (s1_1 s2_2 : Value) (k : Value → World → Prop) (w : World) (h : S107 s1_1 s2_2 k w) : callW Tryz.prog (.func (.func 107) #[] #[]) #[s1_1, s2_2] k w :=
  callW_calls ok107 (by simpa using S107_calls s1_1 s2_2 k w h)

/-! slices.IndexFunc[[]newswire/api.Moment,newswire/api.Moment] -/
def ann108 : Ann := [(13, Note.keep []), (26, Note.loop [8] [0, 1, 7]), (422, Note.keep [0, 1, 7, 8])]
def S108 (s_1 f_2 : Value) (k : Value → World → Prop) (w : World) : Prop :=
   opW Tryz.prog (Builtin.len_ #[33] 3 #[s_1]) (fun t7_3 w =>
   Loop1 (fun t8_5 w K_6 =>
   opW Tryz.prog (binS BinOp.lss 3 (Operand.tmp 8) (Operand.tmp 7) t8_5 t7_3) (fun t9_7 w =>
   condW t9_7
   (opW Tryz.prog (Instr.indexAt 33 s_1 t8_5) (fun t14_10 w =>
   opW Tryz.prog (Instr.loadAt 28 t14_10) (fun t15_11 w =>
   callW Tryz.prog f_2 #[t15_11] (fun t16_12 w =>
   condW t16_12
   (k t8_5 w)
   (opW Tryz.prog (binS BinOp.add 3 (Operand.tmp 8) (Operand.const (Value.int IntKind.i64 1)) t8_5 (Value.int IntKind.i64 1)) (fun t18_13 w =>
   loopK [] [] [s_1, f_2, t7_3] [s_1, f_2, t7_3] (K_6 t18_13 w)) w)) w) w) w)
   (k (Value.int IntKind.i64 (-1)) w)) w) (Value.int IntKind.i64 0) w) w
theorem S108_vc (s_1 f_2 : Value) (k : Value → World → Prop) (w : World) : vc Tryz.prog Tryz.f108.ntmps ann108 none ((Tryz.f108.body).getD Code.skip) 1 (params 0 [s_1, f_2]) [] (finQ Tryz.prog Tryz.f108.results.toList k) w = S108 s_1 f_2 k w := by kernel_rfl
theorem S108_calls (s_1 f_2 : Value) (k : Value → World → Prop) (w : World) (h : S108 s_1 f_2 k w) : Calls Tryz.prog 108 #[s_1, f_2] w (retP k) :=
  calls_of_vc (fn := Tryz.f108) (c := (Tryz.f108.body).getD Code.skip) ann108 Tryz.func108 (by kernel_rfl) [s_1, f_2] w k (by kernel_rfl) ((S108_vc s_1 f_2 k w).symm ▸ h)
theorem C108 (s_1 f_2 : Value) (k : Value → World → Prop) (w : World) (h : S108 s_1 f_2 k w) : callW Tryz.prog (.func (.func 108) #[] #[]) #[s_1, f_2] k w :=
  callW_calls ok108 (by simpa using S108_calls s_1 f_2 k w h)

/-! (newswire/flow.slot).ready -/
def ann109 : Ann := [(6, Note.plan (Plan.takeP 0 (Plan.takeP 1 (Plan.takeP 2 (Plan.takeP 3 (Plan.takeX 4 (Plan.takeP 5 (Plan.takeP 6 (Plan.takeX 7 (Plan.takeP 8 (Plan.takeP 9 Plan.done)))))))))))]
def S109 (s_1 p_2 : Value) (k : Value → World → Prop) (w : World) : Prop :=
   opW Tryz.prog (Instr.box 94 s_1) (fun s_3 w =>
   drewW w (fun w =>
   nilT p_2 (fun t6_5 =>
   takeW Tryz.prog anyW (Instr.fieldAt 98 t6_5 0) (fun t7_6 =>
   takeW Tryz.prog anyW (Instr.fieldAt 63 t7_6 0) (fun t8_7 =>
   takeW Tryz.prog (sameW w) (Instr.loadAt 3 t8_7) (fun t9_8 =>
   takeW Tryz.prog anyW (Instr.fieldAt 94 s_3 1) (fun t10_9 =>
   takeW Tryz.prog anyW (Instr.fieldAt 28 t10_9 0) (fun t11_10 =>
   takeW Tryz.prog (sameW w) (Instr.loadAt 3 t11_10) (fun t12_11 =>
   takeW Tryz.prog anyW (binS BinOp.leq 3 (Operand.tmp 9) (Operand.tmp 12) t9_8 t12_11) (fun t13_12 =>
   k t13_12 w) w) w) w) w) w) w) w))) w
theorem S109_vc (s_1 p_2 : Value) (k : Value → World → Prop) (w : World) : vc Tryz.prog Tryz.f109.ntmps ann109 none ((Tryz.f109.body).getD Code.skip) 1 (params 0 [s_1, p_2]) [] (finQ Tryz.prog Tryz.f109.results.toList k) w = S109 s_1 p_2 k w := by kernel_rfl
theorem S109_calls (s_1 p_2 : Value) (k : Value → World → Prop) (w : World) (h : S109 s_1 p_2 k w) : Calls Tryz.prog 109 #[s_1, p_2] w (retP k) :=
  calls_of_vc (fn := Tryz.f109) (c := (Tryz.f109.body).getD Code.skip) ann109 Tryz.func109 (by kernel_rfl) [s_1, p_2] w k (by kernel_rfl) ((S109_vc s_1 p_2 k w).symm ▸ h)
theorem C109 (s_1 p_2 : Value) (k : Value → World → Prop) (w : World) (h : S109 s_1 p_2 k w) : callW Tryz.prog (.func (.func 109) #[] #[]) #[s_1, p_2] k w :=
  callW_calls ok109 (by simpa using S109_calls s_1 p_2 k w h)

/-! slices.EqualFunc[[]newswire/api.Quorum,[]newswire/api.Quorum,newswire/api.Quorum,newswire/api.Quorum] -/
def ann110 : Ann := [(29, Note.keep []), (58, Note.loop [17] [1, 2, 15, 16]), (934, Note.keep [1, 2, 15, 16, 17])]
def S110 (s1_1 s2_2 eq_3 : Value) (k : Value → World → Prop) (w : World) : Prop :=
   opW Tryz.prog (Builtin.len_ #[59] 3 #[s1_1]) (fun t11_5 w =>
   opW Tryz.prog (Builtin.len_ #[59] 3 #[s2_2]) (fun t13_6 w =>
   opW Tryz.prog (binS BinOp.neq 3 (Operand.tmp 11) (Operand.tmp 13) t11_5 t13_6) (fun t14_7 w =>
   condW t14_7
   (k (Value.bool false) w)
   (opW Tryz.prog (Builtin.len_ #[59] 3 #[s1_1]) (fun t16_8 w =>
   Loop1 (fun t17_10 w K_11 =>
   opW Tryz.prog (binS BinOp.lss 3 (Operand.tmp 17) (Operand.tmp 16) t17_10 t16_8) (fun t18_12 w =>
   condW t18_12
   (opW Tryz.prog (Instr.indexAt 59 s1_1 t17_10) (fun t20_15 w =>
   opW Tryz.prog (Instr.loadAt 87 t20_15) (fun t21_16 w =>
   opW Tryz.prog (Instr.alloc 87 true (Value.tuple #[])) (fun v1_17 w =>
   opU Tryz.prog (Instr.storeAt 87 v1_17 t21_16) (fun _ w =>
   opW Tryz.prog (Instr.indexAt 59 s2_2 t17_10) (fun t24_18 w =>
   opW Tryz.prog (Instr.loadAt 87 t24_18) (fun t25_19 w =>
   opW Tryz.prog (Instr.alloc 87 true (Value.tuple #[])) (fun v2_20 w =>
   opU Tryz.prog (Instr.storeAt 87 v2_20 t25_19) (fun _ w =>
   opW Tryz.prog (Instr.loadAt 87 v1_17) (fun t27_21 w =>
   opW Tryz.prog (Instr.loadAt 87 v2_20) (fun t28_22 w =>
   callW Tryz.prog eq_3 #[t27_21, t28_22] (fun t29_23 w =>
   opW Tryz.prog (Op.unary UnOp.not t29_23) (fun t30_24 w =>
   condW t30_24
   (k (Value.bool false) w)
   (opW Tryz.prog (binS BinOp.add 3 (Operand.tmp 17) (Operand.const (Value.int IntKind.i64 1)) t17_10 (Value.int IntKind.i64 1)) (fun t31_25 w =>
   loopK [] [] [s2_2, eq_3, s1_1, t16_8] [s2_2, eq_3, s1_1, t16_8] (K_11 t31_25 w)) w)) w) w) w) w) w) w) w) w) w) w) w) w)
   (k (Value.bool true) w)) w) (Value.int IntKind.i64 0) w) w)) w) w) w
theorem S110_vc (s1_1 s2_2 eq_3 : Value) (k : Value → World → Prop) (w : World) : vc Tryz.prog Tryz.f110.ntmps ann110 none ((Tryz.f110.body).getD Code.skip) 1 (params 0 [s1_1, s2_2, eq_3]) [] (finQ Tryz.prog Tryz.f110.results.toList k) w = S110 s1_1 s2_2 eq_3 k w := by kernel_rfl
theorem S110_calls (s1_1 s2_2 eq_3 : Value) (k : Value → World → Prop) (w : World) (h : S110 s1_1 s2_2 eq_3 k w) : Calls Tryz.prog 110 #[s1_1, s2_2, eq_3] w (retP k) :=
  calls_of_vc (fn := Tryz.f110) (c := (Tryz.f110.body).getD Code.skip) ann110 Tryz.func110 (by kernel_rfl) [s1_1, s2_2, eq_3] w k (by kernel_rfl) ((S110_vc s1_1 s2_2 eq_3 k w).symm ▸ h)
theorem C110 (s1_1 s2_2 eq_3 : Value) (k : Value → World → Prop) (w : World) (h : S110 s1_1 s2_2 eq_3 k w) : callW Tryz.prog (.func (.func 110) #[] #[]) #[s1_1, s2_2, eq_3] k w :=
  callW_calls ok110 (by simpa using S110_calls s1_1 s2_2 eq_3 k w h)

/-! newswire/label.Same$1 -/
def ann111 : Ann := []
def S111 (x_1 y_2 : Value) (k : Value → World → Prop) (w : World) : Prop :=
   opW Tryz.prog (Instr.box 87 x_1) (fun x_3 w =>
   opW Tryz.prog (Instr.box 87 y_2) (fun y_4 w =>
   opW Tryz.prog (Instr.loadAt 87 x_3) (fun t5_5 w =>
   opW Tryz.prog (Instr.loadAt 87 y_4) (fun t6_6 w =>
   callW Tryz.prog (Value.func (Fn.func 70) #[] #[]) #[t5_5, t6_6] (fun t7_7 w =>
   opW Tryz.prog (binS BinOp.eql 3 (Operand.tmp 7) (Operand.const (Value.int IntKind.i64 0)) t7_7 (Value.int IntKind.i64 0)) (fun t8_8 w =>
   k t8_8 w) w) w) w) w) w) w
theorem S111_vc (x_1 y_2 : Value) (k : Value → World → Prop) (w : World) : vc Tryz.prog Tryz.f111.ntmps ann111 none ((Tryz.f111.body).getD Code.skip) 1 (params 0 [x_1, y_2]) [] (finQ Tryz.prog Tryz.f111.results.toList k) w = S111 x_1 y_2 k w := by kernel_rfl
theorem S111_calls (x_1 y_2 : Value) (k : Value → World → Prop) (w : World) (h : S111 x_1 y_2 k w) : Calls Tryz.prog 111 #[x_1, y_2] w (retP k) :=
  calls_of_vc (fn := Tryz.f111) (c := (Tryz.f111.body).getD Code.skip) ann111 Tryz.func111 (by kernel_rfl) [x_1, y_2] w k (by kernel_rfl) ((S111_vc x_1 y_2 k w).symm ▸ h)
theorem C111 (x_1 y_2 : Value) (k : Value → World → Prop) (w : World) (h : S111 x_1 y_2 k w) : callW Tryz.prog (.func (.func 111) #[] #[]) #[x_1, y_2] k w :=
  callW_calls ok111 (by simpa using S111_calls x_1 y_2 k w h)

/-! slices.Equal[[]int,int] -/
def ann112 : Ann := [(29, Note.keep []), (58, Note.loop [13] [0, 1, 12]), (934, Note.keep [0, 1, 12, 13]), (7474, Note.plan (Plan.takeP 0 (Plan.takeP 1 (Plan.takeP 2 (Plan.takeX 3 (Plan.takeP 4 (Plan.takeP 5 (Plan.takeP 6 (Plan.takeX 7 (Plan.takeP 8 Plan.done))))))))))]
def S112 (s1_1 s2_2 : Value) (k : Value → World → Prop) (w : World) : Prop :=
   opW Tryz.prog (Builtin.len_ #[25] 3 #[s1_1]) (fun t7_4 w =>
   opW Tryz.prog (Builtin.len_ #[25] 3 #[s2_2]) (fun t9_5 w =>
   opW Tryz.prog (binS BinOp.neq 3 (Operand.tmp 7) (Operand.tmp 9) t7_4 t9_5) (fun t10_6 w =>
   condW t10_6
   (k (Value.bool false) w)
   (opW Tryz.prog (Builtin.len_ #[25] 3 #[s1_1]) (fun t12_7 w =>
   Loop1 (fun t13_9 w K_10 =>
   opW Tryz.prog (binS BinOp.lss 3 (Operand.tmp 13) (Operand.tmp 12) t13_9 t12_7) (fun t14_11 w =>
   condW t14_11
   (drewW w (fun w =>
   takeW Tryz.prog anyW (Instr.indexAt 25 s1_1 t13_9) (fun t18_15 =>
   takeW Tryz.prog (sameW w) (Instr.loadAt 3 t18_15) (fun t19_16 =>
   takeW Tryz.prog anyW (Instr.indexAt 25 s2_2 t13_9) (fun t22_17 =>
   takeW Tryz.prog (sameW w) (Instr.loadAt 3 t22_17) (fun t23_18 =>
   takeW Tryz.prog anyW (binS BinOp.neq 3 (Operand.tmp 19) (Operand.tmp 23) t19_16 t23_18) (fun t24_19 =>
   condW t24_19
   (k (Value.bool false) w)
   (opW Tryz.prog (binS BinOp.add 3 (Operand.tmp 13) (Operand.const (Value.int IntKind.i64 1)) t13_9 (Value.int IntKind.i64 1)) (fun t25_20 w =>
   loopK [] [] [s1_1, s2_2, t12_7] [s1_1, s2_2, t12_7] (K_10 t25_20 w)) w)) w) w) w) w) w))
   (k (Value.bool true) w)) w) (Value.int IntKind.i64 0) w) w)) w) w) w
theorem S112_vc (s1_1 s2_2 : Value) (k : Value → World → Prop) (w : World) : vc Tryz.prog Tryz.f112.ntmps ann112 none ((Tryz.f112.body).getD Code.skip) 1 (params 0 [s1_1, s2_2]) [] (finQ Tryz.prog Tryz.f112.results.toList k) w = S112 s1_1 s2_2 k w := by kernel_rfl
theorem S112_calls (s1_1 s2_2 : Value) (k : Value → World → Prop) (w : World) (h : S112 s1_1 s2_2 k w) : Calls Tryz.prog 112 #[s1_1, s2_2] w (retP k) :=
  calls_of_vc (fn := Tryz.f112) (c := (Tryz.f112.body).getD Code.skip) ann112 Tryz.func112 (by kernel_rfl) [s1_1, s2_2] w k (by kernel_rfl) ((S112_vc s1_1 s2_2 k w).symm ▸ h)
theorem C112 (s1_1 s2_2 : Value) (k : Value → World → Prop) (w : World) (h : S112 s1_1 s2_2 k w) : callW Tryz.prog (.func (.func 112) #[] #[]) #[s1_1, s2_2] k w :=
  callW_calls ok112 (by simpa using S112_calls s1_1 s2_2 k w h)

/-! slices.Equal[[]newswire/api.Confirmed,newswire/api.Confirmed] -/
def ann113 : Ann := [(29, Note.keep []), (58, Note.loop [13] [0, 1, 12]), (934, Note.keep [0, 1, 12, 13]), (7474, Note.plan (Plan.takeP 0 (Plan.takeP 1 (Plan.takeP 2 (Plan.takeX 3 (Plan.takeP 4 (Plan.takeP 5 (Plan.takeP 6 (Plan.takeX 7 (Plan.takeP 8 Plan.done))))))))))]
def S113 (s1_1 s2_2 : Value) (k : Value → World → Prop) (w : World) : Prop :=
   opW Tryz.prog (Builtin.len_ #[26] 3 #[s1_1]) (fun t7_4 w =>
   opW Tryz.prog (Builtin.len_ #[26] 3 #[s2_2]) (fun t9_5 w =>
   opW Tryz.prog (binS BinOp.neq 3 (Operand.tmp 7) (Operand.tmp 9) t7_4 t9_5) (fun t10_6 w =>
   condW t10_6
   (k (Value.bool false) w)
   (opW Tryz.prog (Builtin.len_ #[26] 3 #[s1_1]) (fun t12_7 w =>
   Loop1 (fun t13_9 w K_10 =>
   opW Tryz.prog (binS BinOp.lss 3 (Operand.tmp 13) (Operand.tmp 12) t13_9 t12_7) (fun t14_11 w =>
   condW t14_11
   (drewW w (fun w =>
   takeW Tryz.prog anyW (Instr.indexAt 26 s1_1 t13_9) (fun t18_15 =>
   takeW Tryz.prog (sameW w) (Instr.loadAt 121 t18_15) (fun t19_16 =>
   takeW Tryz.prog anyW (Instr.indexAt 26 s2_2 t13_9) (fun t22_17 =>
   takeW Tryz.prog (sameW w) (Instr.loadAt 121 t22_17) (fun t23_18 =>
   takeW Tryz.prog anyW (binS BinOp.neq 121 (Operand.tmp 19) (Operand.tmp 23) t19_16 t23_18) (fun t24_19 =>
   condW t24_19
   (k (Value.bool false) w)
   (opW Tryz.prog (binS BinOp.add 3 (Operand.tmp 13) (Operand.const (Value.int IntKind.i64 1)) t13_9 (Value.int IntKind.i64 1)) (fun t25_20 w =>
   loopK [] [] [s1_1, s2_2, t12_7] [s1_1, s2_2, t12_7] (K_10 t25_20 w)) w)) w) w) w) w) w))
   (k (Value.bool true) w)) w) (Value.int IntKind.i64 0) w) w)) w) w) w
theorem S113_vc (s1_1 s2_2 : Value) (k : Value → World → Prop) (w : World) : vc Tryz.prog Tryz.f113.ntmps ann113 none ((Tryz.f113.body).getD Code.skip) 1 (params 0 [s1_1, s2_2]) [] (finQ Tryz.prog Tryz.f113.results.toList k) w = S113 s1_1 s2_2 k w := by kernel_rfl
theorem S113_calls (s1_1 s2_2 : Value) (k : Value → World → Prop) (w : World) (h : S113 s1_1 s2_2 k w) : Calls Tryz.prog 113 #[s1_1, s2_2] w (retP k) :=
  calls_of_vc (fn := Tryz.f113) (c := (Tryz.f113.body).getD Code.skip) ann113 Tryz.func113 (by kernel_rfl) [s1_1, s2_2] w k (by kernel_rfl) ((S113_vc s1_1 s2_2 k w).symm ▸ h)
theorem C113 (s1_1 s2_2 : Value) (k : Value → World → Prop) (w : World) (h : S113 s1_1 s2_2 k w) : callW Tryz.prog (.func (.func 113) #[] #[]) #[s1_1, s2_2] k w :=
  callW_calls ok113 (by simpa using S113_calls s1_1 s2_2 k w h)

/-! slices.insertionSortCmpFunc[*newswire/flow.pending] -/
def ann114 : Ann := [(3, Note.keep []), (6, Note.loop [8] [0, 1, 2, 3]), (50, Note.keep [0, 1, 2, 3, 8]), (201, Note.keep [0, 1, 2, 3, 8]), (402, Note.loop [9] [0, 1, 2, 3, 8]), (3216, Note.plan (Plan.takeP 0 (Plan.takeP 1 (Plan.takeP 2 (Plan.takeP 3 (Plan.takeP 4 (Plan.takeP 5 (Plan.takeP 6 (Plan.takeP 7 (Plan.takeX 8 (Plan.takeP 9 (Plan.takeP 10 (Plan.takeP 11 (Plan.takeP 12 (Plan.takeX 13 (Plan.run 14 (Plan.takeP 15 (Plan.takeP 16 Plan.done)))))))))))))))))), (3218, Note.keep [0, 1, 2, 3, 8, 9]), (6436, Note.plan (Plan.takeP 0 (Plan.takeP 1 (Plan.takeP 2 (Plan.takeP 3 (Plan.takeP 4 (Plan.takeP 5 (Plan.takeP 6 (Plan.takeP 7 (Plan.takeP 8 (Plan.takeX 9 (Plan.takeP 10 (Plan.takeP 11 (Plan.takeP 12 (Plan.takeX 13 (Plan.takeP 14 (Plan.run 15 (Plan.takeP 16 (Plan.run 17 Plan.done)))))))))))))))))))]
def S114 (data_1 a_2 b_3 cmp_4 : Value) (k : Value → World → Prop) (w : World) : Prop :=
   opW Tryz.prog (binS BinOp.add 3 (Operand.tmp 10) (Operand.const (Value.int IntKind.i64 1)) a_2 (Value.int IntKind.i64 1)) (fun t11_5 w =>
   Loop1 (fun i_7 w K_8 =>
   opW Tryz.prog (binS BinOp.lss 3 (Operand.tmp 12) (Operand.tmp 13) i_7 b_3) (fun t14_10 w =>
   condW t14_10
   (Loop1 (fun j_13 w K_14 =>
   drewW w (fun w =>
   takeW Tryz.prog anyW (binS BinOp.gtr 3 (Operand.tmp 18) (Operand.tmp 19) j_13 a_2) (fun t20_17 =>
   guardT (some t20_17, true) (fun k => k cmp_4) (fun t22_18 =>
   guardT (some t20_17, true) (fun k => k data_1) (fun t23_19 =>
   guardT (some t20_17, true) (fun k => k j_13) (fun t24_20 =>
   guardT (some t20_17, true) (fun k => takeW Tryz.prog anyW (Instr.indexAt 95 t23_19 t24_20) k w) (fun t25_21 =>
   guardT (some t20_17, true) (fun k => takeW Tryz.prog (sameW w) (Instr.loadAt 96 t25_21) k w) (fun t26_22 =>
   guardT (some t20_17, true) (fun k => k data_1) (fun t27_23 =>
   guardT (some t20_17, true) (fun k => k j_13) (fun t28_24 =>
   guardT (some t20_17, true) (fun k => takeW Tryz.prog anyW (binS BinOp.sub 3 (Operand.tmp 28) (Operand.const (Value.int IntKind.i64 1)) t28_24 (Value.int IntKind.i64 1)) k w) (fun t29_25 =>
   guardT (some t20_17, true) (fun k => takeW Tryz.prog anyW (Instr.indexAt 95 t27_23 t29_25) k w) (fun t30_26 =>
   guardT (some t20_17, true) (fun k => takeW Tryz.prog (sameW w) (Instr.loadAt 96 t30_26) k w) (fun t31_27 =>
   guardW (some t20_17, true) (fun k w => callW Tryz.prog t22_18 #[t26_22, t31_27] k w) (fun t32_28 w =>
   guardT (some t20_17, true) (fun k => takeW Tryz.prog anyW (binS BinOp.lss 3 (Operand.tmp 32) (Operand.const (Value.int IntKind.i64 0)) t32_28 (Value.int IntKind.i64 0)) k w) (fun t33_29 =>
   pickT t20_17 t33_29 (Value.bool false) (fun t34_30 =>
   condW t34_30
   (drewW w (fun w =>
   takeW Tryz.prog anyW (binS BinOp.sub 3 (Operand.tmp 40) (Operand.const (Value.int IntKind.i64 1)) j_13 (Value.int IntKind.i64 1)) (fun t41_33 =>
   takeW Tryz.prog anyW (binS BinOp.sub 3 (Operand.tmp 43) (Operand.const (Value.int IntKind.i64 1)) j_13 (Value.int IntKind.i64 1)) (fun t44_34 =>
   takeW Tryz.prog anyW (Instr.indexAt 95 data_1 t44_34) (fun t45_35 =>
   takeW Tryz.prog (sameW w) (Instr.loadAt 96 t45_35) (fun t46_36 =>
   takeW Tryz.prog anyW (Instr.indexAt 95 data_1 j_13) (fun t49_37 =>
   takeW Tryz.prog (sameW w) (Instr.loadAt 96 t49_37) (fun t50_38 =>
   takeW Tryz.prog anyW (Instr.indexAt 95 data_1 j_13) (fun t51_39 =>
   opU Tryz.prog (Instr.storeAt 96 t51_39 t46_36) (fun _ w =>
   takeW Tryz.prog anyW (Instr.indexAt 95 data_1 t41_33) (fun t52_40 =>
   opU Tryz.prog (Instr.storeAt 96 t52_40 t50_38) (fun _ w =>
   opW Tryz.prog (binS BinOp.sub 3 (Operand.tmp 35) (Operand.const (Value.int IntKind.i64 1)) j_13 (Value.int IntKind.i64 1)) (fun t36_41 w =>
   loopK [] [] [data_1, a_2, b_3, cmp_4, i_7] [data_1, a_2, b_3, cmp_4, i_7] (K_14 t36_41 w)) w) w) w) w) w) w) w) w) w) w) w))
   (opW Tryz.prog (binS BinOp.add 3 (Operand.tmp 15) (Operand.const (Value.int IntKind.i64 1)) i_7 (Value.int IntKind.i64 1)) (fun t16_42 w =>
   loopK [] [] [data_1, a_2, b_3, cmp_4] [data_1, a_2, b_3, cmp_4] (K_8 t16_42 w)) w)))) w))))))))))) w)) i_7 w)
   (k (Value.tuple #[]) w)) w) t11_5 w) w
theorem S114_vc (data_1 a_2 b_3 cmp_4 : Value) (k : Value → World → Prop) (w : World) : vc Tryz.prog Tryz.f114.ntmps ann114 none ((Tryz.f114.body).getD Code.skip) 1 (params 0 [data_1, a_2, b_3, cmp_4]) [] (finQ Tryz.prog Tryz.f114.results.toList k) w = S114 data_1 a_2 b_3 cmp_4 k w := by kernel_rfl
theorem S114_calls (data_1 a_2 b_3 cmp_4 : Value) (k : Value → World → Prop) (w : World) (h : S114 data_1 a_2 b_3 cmp_4 k w) : Calls Tryz.prog 114 #[data_1, a_2, b_3, cmp_4] w (retP k) :=
  calls_of_vc (fn := Tryz.f114) (c := (Tryz.f114.body).getD Code.skip) ann114 Tryz.func114 (by kernel_rfl) [data_1, a_2, b_3, cmp_4] w k (by kernel_rfl) ((S114_vc data_1 a_2 b_3 cmp_4 k w).symm ▸ h)
theorem C114 (data_1 a_2 b_3 cmp_4 : Value) (k : Value → World → Prop) (w : World) (h : S114 data_1 a_2 b_3 cmp_4 k w) : callW Tryz.prog (.func (.func 114) #[] #[]) #[data_1, a_2, b_3, cmp_4] k w :=
  callW_calls ok114 (by simpa using S114_calls data_1 a_2 b_3 cmp_4 k w h)

/-! newswire/newswireref10.Reason -/
def ann124 : Ann := [(253, Note.keep [3, 5]), (506, Note.loop [7] [3, 5]), (509, Note.keep [3, 5]), (1018, Note.loop [8] [3, 5]), (1021, Note.keep []), (2042, Note.loop [9] [3, 5]), (4050, Note.keep [3, 5, 7]), (8146, Note.keep [3, 5, 8]), (16200, Note.plan (Plan.takeP 0 (Plan.takeX 1 (Plan.takeP 2 (Plan.takeU 3 (Plan.takeP 4 (Plan.takeP 5 (Plan.takeX 6 (Plan.run 7 (Plan.takeP 8 Plan.done)))))))))), (16338, Note.keep [3, 5, 9]), (32584, Note.plan (Plan.takeP 0 (Plan.takeX 1 (Plan.takeP 2 (Plan.takeU 3 (Plan.takeP 4 (Plan.takeP 5 (Plan.takeP 6 (Plan.takeX 7 (Plan.takeP 9 (Plan.takeU 10 (Plan.takeP 11 (Plan.takeP 12 (Plan.takeP 13 (Plan.takeU 14 (Plan.run 8 (Plan.takeP 15 Plan.done))))))))))))))))), (261413, Note.keep [3, 5, 9, 10]), (522826, Note.loop [10, 11] [3, 5, 9]), (4182610, Note.keep [3, 5, 9, 10, 11]), (16730440, Note.plan (Plan.takeP 0 (Plan.takeX 1 (Plan.takeP 2 (Plan.takeU 3 (Plan.takeP 4 (Plan.takeP 5 (Plan.takeP 6 (Plan.takeU 7 (Plan.takeP 8 (Plan.takeP 9 (Plan.takeX 10 (Plan.run 11 Plan.done)))))))))))))]
def S124 (l_1 r_2 m_3 : Value) (k : Value → World → Prop) (w : World) : Prop :=
   opW Tryz.prog (Instr.box 61 l_1) (fun l_4 w =>
   opW Tryz.prog (Instr.box 30 r_2) (fun r_5 w =>
   opW Tryz.prog (Instr.box 28 m_3) (fun m_6 w =>
   opW Tryz.prog (Instr.loadAt 61 l_4) (fun t12_8 w =>
   callW Tryz.prog (Value.func (Fn.func 50) #[] #[]) #[t12_8] (fun t13_9 w =>
   opW Tryz.prog (Op.unary UnOp.not t13_9) (fun t14_10 w =>
   guardW (some t14_10, false) (fun k w => opW Tryz.prog (Instr.fieldAt 30 r_5 0) k w) (fun t16_11 w =>
   guardW (some t14_10, false) (fun k w => opW Tryz.prog (Instr.loadAt 3 t16_11) k w) (fun t17_12 w =>
   guardW (some t14_10, false) (fun k w => callW Tryz.prog (Value.func (Fn.func 90) #[] #[]) #[t17_12, (Value.int IntKind.i64 0), (Value.int IntKind.i64 7)] k w) (fun t18_13 w =>
   guardW (some t14_10, false) (fun k w => opW Tryz.prog (Op.unary UnOp.not t18_13) k w) (fun t19_14 w =>
   pickW t14_10 (Value.bool true) t19_14 (fun t20_15 w =>
   guardW (some t20_15, false) (fun k w => opW Tryz.prog (Instr.fieldAt 30 r_5 1) k w) (fun t22_16 w =>
   guardW (some t20_15, false) (fun k w => opW Tryz.prog (Instr.loadAt 3 t22_16) k w) (fun t23_17 w =>
   guardW (some t20_15, false) (fun k w => callW Tryz.prog (Value.func (Fn.func 90) #[] #[]) #[t23_17, (Value.int IntKind.i64 0), (Value.int IntKind.i64 7)] k w) (fun t24_18 w =>
   guardW (some t20_15, false) (fun k w => opW Tryz.prog (Op.unary UnOp.not t24_18) k w) (fun t25_19 w =>
   pickW t20_15 (Value.bool true) t25_19 (fun t26_20 w =>
   guardW (some t26_20, false) (fun k w => opW Tryz.prog (Instr.loadAt 28 m_6) k w) (fun t28_21 w =>
   guardW (some t26_20, false) (fun k w => callW Tryz.prog (Value.func (Fn.func 83) #[] #[]) #[t28_21] k w) (fun t29_22 w =>
   guardW (some t26_20, false) (fun k w => opW Tryz.prog (Op.unary UnOp.not t29_22) k w) (fun t30_23 w =>
   pickW t26_20 (Value.bool true) t30_23 (fun t31_24 w =>
   condW t31_24
   (k (Value.int IntKind.i64 1) w)
   (opW Tryz.prog (Instr.fieldAt 61 l_4 3) (fun t32_26 w =>
   opW Tryz.prog (Instr.loadAt 3 t32_26) (fun t33_27 w =>
   opW Tryz.prog (Instr.fieldAt 30 r_5 0) (fun t34_28 w =>
   opW Tryz.prog (Instr.loadAt 3 t34_28) (fun t35_29 w =>
   opW Tryz.prog (binS BinOp.shr 3 (Operand.tmp 33) (Operand.tmp 35) t33_27 t35_29) (fun t36_30 w =>
   opW Tryz.prog (binS BinOp.rem 3 (Operand.tmp 36) (Operand.const (Value.int IntKind.i64 2)) t36_30 (Value.int IntKind.i64 2)) (fun t37_31 w =>
   opW Tryz.prog (binS BinOp.eql 3 (Operand.tmp 37) (Operand.const (Value.int IntKind.i64 0)) t37_31 (Value.int IntKind.i64 0)) (fun t38_32 w =>
   condW t38_32
   (k (Value.int IntKind.i64 2) w)
   (opW Tryz.prog (Instr.fieldAt 61 l_4 4) (fun t39_34 w =>
   opW Tryz.prog (Instr.loadAt 3 t39_34) (fun t40_35 w =>
   opW Tryz.prog (Instr.fieldAt 30 r_5 1) (fun t41_36 w =>
   opW Tryz.prog (Instr.loadAt 3 t41_36) (fun t42_37 w =>
   opW Tryz.prog (binS BinOp.shr 3 (Operand.tmp 40) (Operand.tmp 42) t40_35 t42_37) (fun t43_38 w =>
   opW Tryz.prog (binS BinOp.rem 3 (Operand.tmp 43) (Operand.const (Value.int IntKind.i64 2)) t43_38 (Value.int IntKind.i64 2)) (fun t44_39 w =>
   opW Tryz.prog (binS BinOp.eql 3 (Operand.tmp 44) (Operand.const (Value.int IntKind.i64 0)) t44_39 (Value.int IntKind.i64 0)) (fun t45_40 w =>
   condW t45_40
   (k (Value.int IntKind.i64 3) w)
   (opW Tryz.prog (Instr.fieldAt 28 m_6 0) (fun t46_42 w =>
   opW Tryz.prog (Instr.loadAt 3 t46_42) (fun t47_43 w =>
   opW Tryz.prog (Instr.fieldAt 28 m_6 1) (fun t48_44 w =>
   opW Tryz.prog (Instr.loadAt 3 t48_44) (fun t49_45 w =>
   opW Tryz.prog (binS BinOp.sub 3 (Operand.tmp 47) (Operand.tmp 49) t47_43 t49_45) (fun t50_46 w =>
   opW Tryz.prog (Instr.fieldAt 61 l_4 0) (fun t51_47 w =>
   opW Tryz.prog (Instr.loadAt 3 t51_47) (fun t52_48 w =>
   opW Tryz.prog (binS BinOp.lss 3 (Operand.tmp 50) (Operand.tmp 52) t50_46 t52_48) (fun t53_49 w =>
   condW t53_49
   (k (Value.int IntKind.i64 4) w)
   (Loop1 (fun i_51 w K_52 =>
   opW Tryz.prog (Instr.fieldAt 61 l_4 1) (fun t55_54 w =>
   opW Tryz.prog (Instr.loadAt 25 t55_54) (fun t56_55 w =>
   opW Tryz.prog (Builtin.len_ #[25] 3 #[t56_55]) (fun t57_56 w =>
   opW Tryz.prog (binS BinOp.lss 3 (Operand.tmp 54) (Operand.tmp 57) i_51 t57_56) (fun t58_57 w =>
   condW t58_57
   (drewW w (fun w =>
   ∃ S : World → Prop, S w ∧
   takeW Tryz.prog anyW (Instr.fieldAt 28 m_6 2) (fun t61_60 =>
   takeW Tryz.prog (sameW w) (Instr.loadAt 25 t61_60) (fun t62_61 =>
   takeW Tryz.prog anyW (Instr.fieldAt 61 l_4 1) (fun t63_62 =>
   takeW Tryz.prog S (Instr.loadAt 25 t63_62) (fun t64_63 =>
   takeW Tryz.prog anyW (Instr.indexAt 25 t64_63 i_51) (fun t66_64 =>
   takeW Tryz.prog (sameW w) (Instr.loadAt 3 t66_64) (fun t67_65 =>
   callW Tryz.prog (Value.func (Fn.func 134) #[] #[]) #[t62_61, t67_65] (fun t68_66 w => keepS S (fun w =>
   takeW Tryz.prog anyW (Op.unary UnOp.not t68_66) (fun t69_67 =>
   condW t69_67
   (k (Value.int IntKind.i64 5) w)
   (opW Tryz.prog (binS BinOp.add 3 (Operand.tmp 59) (Operand.const (Value.int IntKind.i64 1)) i_51 (Value.int IntKind.i64 1)) (fun t60_68 w =>
   loopK [] [] [l_4, m_6] [l_4, m_6] (K_52 t60_68 w)) w)) w) w) w) w) w) w) w) w) w))
   (Loop1 (fun i_70 w K_71 =>
   opW Tryz.prog (Instr.fieldAt 61 l_4 2) (fun t71_73 w =>
   opW Tryz.prog (Instr.loadAt 26 t71_73) (fun t72_74 w =>
   opW Tryz.prog (Builtin.len_ #[26] 3 #[t72_74]) (fun t73_75 w =>
   opW Tryz.prog (binS BinOp.lss 3 (Operand.tmp 70) (Operand.tmp 73) i_70 t73_75) (fun t74_76 w =>
   condW t74_76
   (drewW w (fun w =>
   ∃ S : World → Prop, S w ∧
   takeW Tryz.prog anyW (Instr.fieldAt 28 m_6 3) (fun t77_79 =>
   takeW Tryz.prog (sameW w) (Instr.loadAt 26 t77_79) (fun t78_80 =>
   takeW Tryz.prog anyW (Instr.fieldAt 61 l_4 2) (fun t79_81 =>
   takeW Tryz.prog S (Instr.loadAt 26 t79_81) (fun t80_82 =>
   takeW Tryz.prog anyW (Instr.indexAt 26 t80_82 i_70) (fun t82_83 =>
   takeW Tryz.prog anyW (Instr.fieldAt 121 t82_83 0) (fun t83_84 =>
   takeW Tryz.prog (sameW w) (Instr.loadAt 3 t83_84) (fun t84_85 =>
   takeW Tryz.prog anyW (Instr.fieldAt 61 l_4 2) (fun t86_86 =>
   takeW Tryz.prog S (Instr.loadAt 26 t86_86) (fun t87_87 =>
   takeW Tryz.prog anyW (Instr.indexAt 26 t87_87 i_70) (fun t89_88 =>
   takeW Tryz.prog anyW (Instr.fieldAt 121 t89_88 1) (fun t90_89 =>
   takeW Tryz.prog S (Instr.loadAt 3 t90_89) (fun t91_90 =>
   callW Tryz.prog (Value.func (Fn.func 135) #[] #[]) #[t78_80, t84_85] (fun t85_91 w => keepS S (fun w =>
   takeW Tryz.prog anyW (binS BinOp.lss 3 (Operand.tmp 85) (Operand.tmp 91) t85_91 t91_90) (fun t92_92 =>
   condW t92_92
   (k (Value.int IntKind.i64 6) w)
   (opW Tryz.prog (binS BinOp.add 3 (Operand.tmp 75) (Operand.const (Value.int IntKind.i64 1)) i_70 (Value.int IntKind.i64 1)) (fun t76_93 w =>
   loopK [] [] [l_4, m_6] [l_4, m_6] (K_71 t76_93 w)) w)) w) w) w) w) w) w) w) w) w) w) w) w) w) w) w))
   (Loop1 (fun i_95 w K_96 =>
   opW Tryz.prog (Instr.fieldAt 61 l_4 5) (fun t94_98 w =>
   opW Tryz.prog (Instr.loadAt 59 t94_98) (fun t95_99 w =>
   opW Tryz.prog (Builtin.len_ #[59] 3 #[t95_99]) (fun t96_100 w =>
   opW Tryz.prog (binS BinOp.lss 3 (Operand.tmp 93) (Operand.tmp 96) i_95 t96_100) (fun t97_101 w =>
   condW t97_101
   (Loop2 (fun n_104 k_105 w K_106 =>
   opW Tryz.prog (Instr.fieldAt 61 l_4 5) (fun t101_108 w =>
   opW Tryz.prog (Instr.loadAt 59 t101_108) (fun t102_109 w =>
   opW Tryz.prog (Instr.indexAt 59 t102_109 i_95) (fun t104_110 w =>
   opW Tryz.prog (Instr.fieldAt 87 t104_110 1) (fun t105_111 w =>
   opW Tryz.prog (Instr.loadAt 25 t105_111) (fun t106_112 w =>
   opW Tryz.prog (Builtin.len_ #[25] 3 #[t106_112]) (fun t107_113 w =>
   opW Tryz.prog (binS BinOp.lss 3 (Operand.tmp 100) (Operand.tmp 107) k_105 t107_113) (fun t108_114 w =>
   condW t108_114
   (joinW (fun n_128 w =>
   opW Tryz.prog (binS BinOp.add 3 (Operand.tmp 109) (Operand.const (Value.int IntKind.i64 1)) k_105 (Value.int IntKind.i64 1)) (fun t110_129 w =>
   loopK [] [] [l_4, m_6, i_95] [l_4, m_6, i_95] (K_106 n_128 t110_129 w)) w) (fun J_115 =>
   drewW w (fun w =>
   ∃ S : World → Prop, S w ∧
   takeW Tryz.prog anyW (Instr.fieldAt 28 m_6 4) (fun t111_117 =>
   takeW Tryz.prog (sameW w) (Instr.loadAt 25 t111_117) (fun t112_118 =>
   takeW Tryz.prog anyW (Instr.fieldAt 61 l_4 5) (fun t113_119 =>
   takeW Tryz.prog S (Instr.loadAt 59 t113_119) (fun t114_120 =>
   takeW Tryz.prog anyW (Instr.indexAt 59 t114_120 i_95) (fun t116_121 =>
   takeW Tryz.prog anyW (Instr.fieldAt 87 t116_121 1) (fun t117_122 =>
   takeW Tryz.prog S (Instr.loadAt 25 t117_122) (fun t118_123 =>
   takeW Tryz.prog anyW (Instr.indexAt 25 t118_123 k_105) (fun t120_124 =>
   takeW Tryz.prog (sameW w) (Instr.loadAt 3 t120_124) (fun t121_125 =>
   callW Tryz.prog (Value.func (Fn.func 134) #[] #[]) #[t112_118, t121_125] (fun t122_126 w => keepS S (fun w =>
   condW t122_126
   (opW Tryz.prog (binS BinOp.add 3 (Operand.tmp 123) (Operand.const (Value.int IntKind.i64 1)) n_104 (Value.int IntKind.i64 1)) (fun t124_127 w =>
   J_115 t124_127 w) w)
   (J_115 n_104 w)) w) w) w) w) w) w) w) w) w) w) w)))
   (opW Tryz.prog (Instr.fieldAt 61 l_4 5) (fun t126_130 w =>
   opW Tryz.prog (Instr.loadAt 59 t126_130) (fun t127_131 w =>
   opW Tryz.prog (Instr.indexAt 59 t127_131 i_95) (fun t129_132 w =>
   opW Tryz.prog (Instr.fieldAt 87 t129_132 0) (fun t130_133 w =>
   opW Tryz.prog (Instr.loadAt 3 t130_133) (fun t131_134 w =>
   opW Tryz.prog (binS BinOp.lss 3 (Operand.tmp 125) (Operand.tmp 131) n_104 t131_134) (fun t132_135 w =>
   condW t132_135
   (k (Value.int IntKind.i64 7) w)
   (opW Tryz.prog (binS BinOp.add 3 (Operand.tmp 98) (Operand.const (Value.int IntKind.i64 1)) i_95 (Value.int IntKind.i64 1)) (fun t99_136 w =>
   loopK [] [] [l_4, m_6] [l_4, m_6] (K_96 t99_136 w)) w)) w) w) w) w) w) w)) w) w) w) w) w) w) w) (Value.int IntKind.i64 0) (Value.int IntKind.i64 0) w)
   (k (Value.int IntKind.i64 0) w)) w) w) w) w) (Value.int IntKind.i64 0) w)) w) w) w) w) (Value.int IntKind.i64 0) w)) w) w) w) w) (Value.int IntKind.i64 0) w)) w) w) w) w) w) w) w) w)) w) w) w) w) w) w) w)) w) w) w) w) w) w) w)) w) w) w) w) w) w) w) w) w) w) w) w) w) w) w) w) w) w) w) w
theorem S124_vc (l_1 r_2 m_3 : Value) (k : Value → World → Prop) (w : World) : vc Tryz.prog Tryz.f124.ntmps ann124 none ((Tryz.f124.body).getD Code.skip) 1 (params 0 [l_1, r_2, m_3]) [] (finQ Tryz.prog Tryz.f124.results.toList k) w = S124 l_1 r_2 m_3 k w := by kernel_rfl
theorem S124_calls (l_1 r_2 m_3 : Value) (k : Value → World → Prop) (w : World) (h : S124 l_1 r_2 m_3 k w) : Calls Tryz.prog 124 #[l_1, r_2, m_3] w (retP k) :=
  calls_of_vc (fn := Tryz.f124) (c := (Tryz.f124.body).getD Code.skip) ann124 Tryz.func124 (by kernel_rfl) [l_1, r_2, m_3] w k (by kernel_rfl) ((S124_vc l_1 r_2 m_3 k w).symm ▸ h)
theorem C124 (l_1 r_2 m_3 : Value) (k : Value → World → Prop) (w : World) (h : S124 l_1 r_2 m_3 k w) : callW Tryz.prog (.func (.func 124) #[] #[]) #[l_1, r_2, m_3] k w :=
  callW_calls ok124 (by simpa using S124_calls l_1 r_2 m_3 k w h)

/-! newswire/newswireref10.has -/
def ann134 : Ann := [(13, Note.keep []), (26, Note.loop [5] [0, 1]), (210, Note.keep [0, 1, 5])]
def S134 (l_1 n_2 : Value) (k : Value → World → Prop) (w : World) : Prop :=
   Loop1 (fun i_4 w K_5 =>
   opW Tryz.prog (Builtin.len_ #[25] 3 #[l_1]) (fun t8_7 w =>
   opW Tryz.prog (binS BinOp.lss 3 (Operand.tmp 6) (Operand.tmp 8) i_4 t8_7) (fun t9_8 w =>
   condW t9_8
   (opW Tryz.prog (Instr.indexAt 25 l_1 i_4) (fun t14_10 w =>
   opW Tryz.prog (Instr.loadAt 3 t14_10) (fun t15_11 w =>
   opW Tryz.prog (binS BinOp.eql 3 (Operand.tmp 15) (Operand.tmp 16) t15_11 n_2) (fun t17_12 w =>
   condW t17_12
   (k (Value.bool true) w)
   (opW Tryz.prog (binS BinOp.add 3 (Operand.tmp 10) (Operand.const (Value.int IntKind.i64 1)) i_4 (Value.int IntKind.i64 1)) (fun t11_13 w =>
   loopK [] [] [l_1, n_2] [l_1, n_2] (K_5 t11_13 w)) w)) w) w) w)
   (k (Value.bool false) w)) w) w) (Value.int IntKind.i64 0) w
theorem S134_vc (l_1 n_2 : Value) (k : Value → World → Prop) (w : World) : vc Tryz.prog Tryz.f134.ntmps ann134 none ((Tryz.f134.body).getD Code.skip) 1 (params 0 [l_1, n_2]) [] (finQ Tryz.prog Tryz.f134.results.toList k) w = S134 l_1 n_2 k w := by kernel_rfl
theorem S134_calls (l_1 n_2 : Value) (k : Value → World → Prop) (w : World) (h : S134 l_1 n_2 k w) : Calls Tryz.prog 134 #[l_1, n_2] w (retP k) :=
  calls_of_vc (fn := Tryz.f134) (c := (Tryz.f134.body).getD Code.skip) ann134 Tryz.func134 (by kernel_rfl) [l_1, n_2] w k (by kernel_rfl) ((S134_vc l_1 n_2 k w).symm ▸ h)
theorem C134 (l_1 n_2 : Value) (k : Value → World → Prop) (w : World) (h : S134 l_1 n_2 k w) : callW Tryz.prog (.func (.func 134) #[] #[]) #[l_1, n_2] k w :=
  callW_calls ok134 (by simpa using S134_calls l_1 n_2 k w h)

/-! newswire/newswireref10.count -/
def ann135 : Ann := [(13, Note.keep []), (26, Note.loop [5] [0, 1]), (210, Note.keep [0, 1, 5])]
def S135 (l_1 fact_2 : Value) (k : Value → World → Prop) (w : World) : Prop :=
   Loop1 (fun i_4 w K_5 =>
   opW Tryz.prog (Builtin.len_ #[26] 3 #[l_1]) (fun t8_7 w =>
   opW Tryz.prog (binS BinOp.lss 3 (Operand.tmp 6) (Operand.tmp 8) i_4 t8_7) (fun t9_8 w =>
   condW t9_8
   (opW Tryz.prog (Instr.indexAt 26 l_1 i_4) (fun t14_10 w =>
   opW Tryz.prog (Instr.fieldAt 121 t14_10 0) (fun t15_11 w =>
   opW Tryz.prog (Instr.loadAt 3 t15_11) (fun t16_12 w =>
   opW Tryz.prog (binS BinOp.eql 3 (Operand.tmp 16) (Operand.tmp 17) t16_12 fact_2) (fun t18_13 w =>
   condW t18_13
   (opW Tryz.prog (Instr.indexAt 26 l_1 i_4) (fun t21_14 w =>
   opW Tryz.prog (Instr.fieldAt 121 t21_14 1) (fun t22_15 w =>
   opW Tryz.prog (Instr.loadAt 3 t22_15) (fun t23_16 w =>
   k t23_16 w) w) w) w)
   (opW Tryz.prog (binS BinOp.add 3 (Operand.tmp 10) (Operand.const (Value.int IntKind.i64 1)) i_4 (Value.int IntKind.i64 1)) (fun t11_17 w =>
   loopK [] [] [l_1, fact_2] [l_1, fact_2] (K_5 t11_17 w)) w)) w) w) w) w)
   (k (Value.int IntKind.i64 0) w)) w) w) (Value.int IntKind.i64 0) w
theorem S135_vc (l_1 fact_2 : Value) (k : Value → World → Prop) (w : World) : vc Tryz.prog Tryz.f135.ntmps ann135 none ((Tryz.f135.body).getD Code.skip) 1 (params 0 [l_1, fact_2]) [] (finQ Tryz.prog Tryz.f135.results.toList k) w = S135 l_1 fact_2 k w := by kernel_rfl
theorem S135_calls (l_1 fact_2 : Value) (k : Value → World → Prop) (w : World) (h : S135 l_1 fact_2 k w) : Calls Tryz.prog 135 #[l_1, fact_2] w (retP k) :=
  calls_of_vc (fn := Tryz.f135) (c := (Tryz.f135.body).getD Code.skip) ann135 Tryz.func135 (by kernel_rfl) [l_1, fact_2] w k (by kernel_rfl) ((S135_vc l_1 fact_2 k w).symm ▸ h)
theorem C135 (l_1 fact_2 : Value) (k : Value → World → Prop) (w : World) (h : S135 l_1 fact_2 k w) : callW Tryz.prog (.func (.func 135) #[] #[]) #[l_1, fact_2] k w :=
  callW_calls ok135 (by simpa using S135_calls l_1 fact_2 k w h)

/-! (*newswire/flow.pending).listed -/
def ann161 : Ann := [(6, Note.plan (Plan.takeP 0 (Plan.takeP 1 (Plan.takeP 2 (Plan.takeP 3 (Plan.takeU 4 (Plan.takeP 5 (Plan.takeP 6 (Plan.takeP 7 (Plan.takeP 8 (Plan.takeU 9 (Plan.takeP 11 (Plan.takeP 12 (Plan.takeP 13 (Plan.takeU 14 (Plan.takeP 15 (Plan.takeP 16 (Plan.takeP 17 (Plan.takeU 18 (Plan.run 10 (Plan.run 19 (Plan.run 20 (Plan.run 21 (Plan.takeP 22 Plan.done))))))))))))))))))))))))]
def S161 (p_1 q_2 : Value) (k : Value → World → Prop) (w : World) : Prop :=
   drewW w (fun w =>
   ∃ S : World → Prop, S w ∧
   nilT p_1 (fun t6_4 =>
   takeW Tryz.prog anyW (Instr.fieldAt 98 t6_4 0) (fun t7_5 =>
   takeW Tryz.prog anyW (Instr.fieldAt 63 t7_5 2) (fun t8_6 =>
   takeW Tryz.prog S (Instr.loadAt 3 t8_6) (fun t9_7 =>
   nilT q_2 (fun t11_8 =>
   takeW Tryz.prog anyW (Instr.fieldAt 98 t11_8 0) (fun t12_9 =>
   takeW Tryz.prog anyW (Instr.fieldAt 63 t12_9 2) (fun t13_10 =>
   takeW Tryz.prog S (Instr.loadAt 3 t13_10) (fun t14_11 =>
   nilT p_1 (fun t17_12 =>
   takeW Tryz.prog anyW (Instr.fieldAt 98 t17_12 1) (fun t18_13 =>
   takeW Tryz.prog S (Instr.loadAt 3 t18_13) (fun t19_14 =>
   nilT q_2 (fun t21_15 =>
   takeW Tryz.prog anyW (Instr.fieldAt 98 t21_15 1) (fun t22_16 =>
   takeW Tryz.prog S (Instr.loadAt 3 t22_16) (fun t23_17 =>
   callW Tryz.prog (Value.func (Fn.func 64) #[] #[]) #[t9_7, t14_11] (fun t15_18 w => keepS S (fun w =>
   callW Tryz.prog (Value.func (Fn.func 64) #[] #[]) #[t19_14, t23_17] (fun t24_19 w => keepS S (fun w =>
   opW Tryz.prog (Instr.buildSlice 25 2 #[(0, t15_18), (1, t24_19)]) (fun t25_20 w => keepS S (fun w =>
   callW Tryz.prog (Value.func (Fn.func 106) #[] #[]) #[t25_20] (fun t26_21 w => keepS S (fun w =>
   k t26_21 w) w) w) w) w) w) w) w) w) w) w)) w) w)) w) w) w)) w) w) w))
theorem S161_vc (p_1 q_2 : Value) (k : Value → World → Prop) (w : World) : vc Tryz.prog Tryz.f161.ntmps ann161 none ((Tryz.f161.body).getD Code.skip) 1 (params 0 [p_1, q_2]) [] (finQ Tryz.prog Tryz.f161.results.toList k) w = S161 p_1 q_2 k w := by kernel_rfl
theorem S161_calls (p_1 q_2 : Value) (k : Value → World → Prop) (w : World) (h : S161 p_1 q_2 k w) : Calls Tryz.prog 161 #[p_1, q_2] w (retP k) :=
  calls_of_vc (fn := Tryz.f161) (c := (Tryz.f161.body).getD Code.skip) ann161 Tryz.func161 (by kernel_rfl) [p_1, q_2] w k (by kernel_rfl) ((S161_vc p_1 q_2 k w).symm ▸ h)
theorem C161 (p_1 q_2 : Value) (k : Value → World → Prop) (w : World) (h : S161 p_1 q_2 k w) : callW Tryz.prog (.func (.func 161) #[] #[]) #[p_1, q_2] k w :=
  callW_calls ok161 (by simpa using S161_calls p_1 q_2 k w h)

/-! newswire/flow.modes$1 -/
def ann163 : Ann := []
def S163 (s_1 p_2 : Value) (k : Value → World → Prop) (w : World) : Prop :=
   opW Tryz.prog (Instr.box 94 s_1) (fun s_3 w =>
   nilW p_2 (fun t6_4 w =>
   opW Tryz.prog (Instr.fieldAt 98 t6_4 2) (fun t7_5 w =>
   opW Tryz.prog (Instr.loadAt 3 t7_5) (fun t8_6 w =>
   opW Tryz.prog (binS BinOp.geq 3 (Operand.tmp 8) (Operand.const (Value.int IntKind.i64 0)) t8_6 (Value.int IntKind.i64 0)) (fun t9_7 w =>
   k t9_7 w) w) w) w) w) w
theorem S163_vc (s_1 p_2 : Value) (k : Value → World → Prop) (w : World) : vc Tryz.prog Tryz.f163.ntmps ann163 none ((Tryz.f163.body).getD Code.skip) 1 (params 0 [s_1, p_2]) [] (finQ Tryz.prog Tryz.f163.results.toList k) w = S163 s_1 p_2 k w := by kernel_rfl
theorem S163_calls (s_1 p_2 : Value) (k : Value → World → Prop) (w : World) (h : S163 s_1 p_2 k w) : Calls Tryz.prog 163 #[s_1, p_2] w (retP k) :=
  calls_of_vc (fn := Tryz.f163) (c := (Tryz.f163.body).getD Code.skip) ann163 Tryz.func163 (by kernel_rfl) [s_1, p_2] w k (by kernel_rfl) ((S163_vc s_1 p_2 k w).symm ▸ h)
theorem C163 (s_1 p_2 : Value) (k : Value → World → Prop) (w : World) (h : S163 s_1 p_2 k w) : callW Tryz.prog (.func (.func 163) #[] #[]) #[s_1, p_2] k w :=
  callW_calls ok163 (by simpa using S163_calls s_1 p_2 k w h)

/-! (*newswire/flow.pending).slotted -/
def ann164 : Ann := [(6, Note.plan (Plan.takeP 0 (Plan.takeP 1 (Plan.takeP 2 (Plan.takeP 3 (Plan.takeU 4 (Plan.takeP 5 (Plan.takeP 6 (Plan.takeP 7 (Plan.takeP 8 (Plan.takeU 9 (Plan.takeP 11 (Plan.takeP 12 (Plan.takeP 13 (Plan.takeU 14 (Plan.takeP 15 (Plan.takeP 16 (Plan.takeP 17 (Plan.takeU 18 (Plan.takeP 20 (Plan.takeP 21 (Plan.takeP 22 (Plan.takeU 23 (Plan.takeP 24 (Plan.takeP 25 (Plan.takeP 26 (Plan.takeU 27 (Plan.run 10 (Plan.run 19 (Plan.run 28 (Plan.run 29 (Plan.run 30 (Plan.takeP 31 Plan.done)))))))))))))))))))))))))))))))))]
def S164 (p_1 q_2 : Value) (k : Value → World → Prop) (w : World) : Prop :=
   drewW w (fun w =>
   ∃ S : World → Prop, S w ∧
   nilT p_1 (fun t6_4 =>
   takeW Tryz.prog anyW (Instr.fieldAt 98 t6_4 0) (fun t7_5 =>
   takeW Tryz.prog anyW (Instr.fieldAt 63 t7_5 2) (fun t8_6 =>
   takeW Tryz.prog S (Instr.loadAt 3 t8_6) (fun t9_7 =>
   nilT q_2 (fun t11_8 =>
   takeW Tryz.prog anyW (Instr.fieldAt 98 t11_8 0) (fun t12_9 =>
   takeW Tryz.prog anyW (Instr.fieldAt 63 t12_9 2) (fun t13_10 =>
   takeW Tryz.prog S (Instr.loadAt 3 t13_10) (fun t14_11 =>
   nilT p_1 (fun t17_12 =>
   takeW Tryz.prog anyW (Instr.fieldAt 98 t17_12 2) (fun t18_13 =>
   takeW Tryz.prog S (Instr.loadAt 3 t18_13) (fun t19_14 =>
   nilT q_2 (fun t21_15 =>
   takeW Tryz.prog anyW (Instr.fieldAt 98 t21_15 2) (fun t22_16 =>
   takeW Tryz.prog S (Instr.loadAt 3 t22_16) (fun t23_17 =>
   nilT p_1 (fun t26_18 =>
   takeW Tryz.prog anyW (Instr.fieldAt 98 t26_18 1) (fun t27_19 =>
   takeW Tryz.prog S (Instr.loadAt 3 t27_19) (fun t28_20 =>
   nilT q_2 (fun t30_21 =>
   takeW Tryz.prog anyW (Instr.fieldAt 98 t30_21 1) (fun t31_22 =>
   takeW Tryz.prog S (Instr.loadAt 3 t31_22) (fun t32_23 =>
   callW Tryz.prog (Value.func (Fn.func 64) #[] #[]) #[t9_7, t14_11] (fun t15_24 w => keepS S (fun w =>
   callW Tryz.prog (Value.func (Fn.func 64) #[] #[]) #[t19_14, t23_17] (fun t24_25 w => keepS S (fun w =>
   callW Tryz.prog (Value.func (Fn.func 64) #[] #[]) #[t28_20, t32_23] (fun t33_26 w => keepS S (fun w =>
   opW Tryz.prog (Instr.buildSlice 25 3 #[(0, t15_24), (1, t24_25), (2, t33_26)]) (fun t34_27 w => keepS S (fun w =>
   callW Tryz.prog (Value.func (Fn.func 106) #[] #[]) #[t34_27] (fun t35_28 w => keepS S (fun w =>
   k t35_28 w) w) w) w) w) w) w) w) w) w) w) w) w)) w) w)) w) w)) w) w)) w) w) w)) w) w) w))
theorem S164_vc (p_1 q_2 : Value) (k : Value → World → Prop) (w : World) : vc Tryz.prog Tryz.f164.ntmps ann164 none ((Tryz.f164.body).getD Code.skip) 1 (params 0 [p_1, q_2]) [] (finQ Tryz.prog Tryz.f164.results.toList k) w = S164 p_1 q_2 k w := by kernel_rfl
theorem S164_calls (p_1 q_2 : Value) (k : Value → World → Prop) (w : World) (h : S164 p_1 q_2 k w) : Calls Tryz.prog 164 #[p_1, q_2] w (retP k) :=
  calls_of_vc (fn := Tryz.f164) (c := (Tryz.f164.body).getD Code.skip) ann164 Tryz.func164 (by kernel_rfl) [p_1, q_2] w k (by kernel_rfl) ((S164_vc p_1 q_2 k w).symm ▸ h)
theorem C164 (p_1 q_2 : Value) (k : Value → World → Prop) (w : World) (h : S164 p_1 q_2 k w) : callW Tryz.prog (.func (.func 164) #[] #[]) #[p_1, q_2] k w :=
  callW_calls ok164 (by simpa using S164_calls p_1 q_2 k w h)

/-! newswire/flow.modes$2 -/
def ann165 : Ann := []
def S165 (s_1 l_2 : Value) (k : Value → World → Prop) (w : World) : Prop :=
   opW Tryz.prog (Instr.box 94 s_1) (fun s_3 w =>
   joinW (fun text_10 w =>
   opW Tryz.prog (Builtin.len_ #[9] 3 #[text_10]) (fun t15_11 w =>
   opW Tryz.prog (binS BinOp.sub 3 (Operand.const (Value.int IntKind.i64 64)) (Operand.tmp 15) (Value.int IntKind.i64 64) t15_11) (fun t16_12 w =>
   callW Tryz.prog (Value.func (Fn.func 167) #[] #[]) #[(Value.string { data := #[0] }), t16_12] (fun t17_13 w =>
   opW Tryz.prog (binS BinOp.add 9 (Operand.tmp 13) (Operand.tmp 17) text_10 t17_13) (fun t18_14 w =>
   k t18_14 w) w) w) w) w) (fun J_4 =>
   opW Tryz.prog (Builtin.len_ #[95] 3 #[l_2]) (fun t7_5 w =>
   opW Tryz.prog (binS BinOp.gtr 3 (Operand.tmp 7) (Operand.const (Value.int IntKind.i64 0)) t7_5 (Value.int IntKind.i64 0)) (fun t8_6 w =>
   condW t8_6
   (opW Tryz.prog (Instr.indexAt 95 l_2 (Value.int IntKind.i64 0)) (fun t10_7 w =>
   opW Tryz.prog (Instr.loadAt 96 t10_7) (fun t11_8 w =>
   callW Tryz.prog (Value.func (Fn.func 166) #[] #[]) #[t11_8] (fun t12_9 w =>
   J_4 t12_9 w) w) w) w)
   (J_4 (Value.string { data := #[] }) w)) w) w)) w
theorem S165_vc (s_1 l_2 : Value) (k : Value → World → Prop) (w : World) : vc Tryz.prog Tryz.f165.ntmps ann165 none ((Tryz.f165.body).getD Code.skip) 1 (params 0 [s_1, l_2]) [] (finQ Tryz.prog Tryz.f165.results.toList k) w = S165 s_1 l_2 k w := by kernel_rfl
theorem S165_calls (s_1 l_2 : Value) (k : Value → World → Prop) (w : World) (h : S165 s_1 l_2 k w) : Calls Tryz.prog 165 #[s_1, l_2] w (retP k) :=
  calls_of_vc (fn := Tryz.f165) (c := (Tryz.f165.body).getD Code.skip) ann165 Tryz.func165 (by kernel_rfl) [s_1, l_2] w k (by kernel_rfl) ((S165_vc s_1 l_2 k w).symm ▸ h)
theorem C165 (s_1 l_2 : Value) (k : Value → World → Prop) (w : World) (h : S165 s_1 l_2 k w) : callW Tryz.prog (.func (.func 165) #[] #[]) #[s_1, l_2] k w :=
  callW_calls ok165 (by simpa using S165_calls s_1 l_2 k w h)

/-! newswire/flow.sent -/
def ann166 : Ann := [(14, Note.plan (Plan.takeP 0 (Plan.takeP 1 (Plan.takeP 2 (Plan.takeP 3 (Plan.takeU 4 (Plan.takeP 5 (Plan.takeX 6 (Plan.takeP 9 (Plan.takeP 10 (Plan.takeP 11 (Plan.takeP 12 (Plan.takeU 13 (Plan.run 7 (Plan.takeX 8 (Plan.takeP 14 (Plan.takeP 15 Plan.done)))))))))))))))))]
def S166 (p_1 : Value) (k : Value → World → Prop) (w : World) : Prop :=
   nilW p_1 (fun t4_2 w =>
   opW Tryz.prog (Instr.fieldAt 98 t4_2 3) (fun t5_3 w =>
   opU Tryz.prog (Instr.storeAt 4 t5_3 (Value.bool true)) (fun _ w =>
   drewW w (fun w =>
   ∃ S : World → Prop, S w ∧
   nilT p_1 (fun t7_5 =>
   takeW Tryz.prog anyW (Instr.fieldAt 98 t7_5 0) (fun t8_6 =>
   takeW Tryz.prog anyW (Instr.fieldAt 63 t8_6 3) (fun t9_7 =>
   takeW Tryz.prog S (Instr.loadAt 9 t9_7) (fun t10_8 =>
   takeW Tryz.prog anyW (Builtin.len_ #[9] 3 #[t10_8]) (fun t11_9 =>
   takeW Tryz.prog (sameW w) (convert 3 5 t11_9) (fun t12_10 =>
   nilT p_1 (fun t16_11 =>
   takeW Tryz.prog anyW (Instr.fieldAt 98 t16_11 0) (fun t17_12 =>
   takeW Tryz.prog anyW (Instr.fieldAt 63 t17_12 3) (fun t18_13 =>
   takeW Tryz.prog S (Instr.loadAt 9 t18_13) (fun t19_14 =>
   opW Tryz.prog (Instr.buildSlice 85 1 #[(0, t12_10)]) (fun t13_15 w => keepS S (fun w =>
   takeW Tryz.prog (sameW w) (convert 85 9 t13_15) (fun t14_16 =>
   takeW Tryz.prog anyW (binS BinOp.add 9 (Operand.tmp 14) (Operand.tmp 19) t14_16 t19_14) (fun t20_17 =>
   k t20_17 w) w) w) w) w) w) w) w)) w) w) w) w) w))) w) w) w
theorem S166_vc (p_1 : Value) (k : Value → World → Prop) (w : World) : vc Tryz.prog Tryz.f166.ntmps ann166 none ((Tryz.f166.body).getD Code.skip) 1 (params 0 [p_1]) [] (finQ Tryz.prog Tryz.f166.results.toList k) w = S166 p_1 k w := by kernel_rfl
theorem S166_calls (p_1 : Value) (k : Value → World → Prop) (w : World) (h : S166 p_1 k w) : Calls Tryz.prog 166 #[p_1] w (retP k) :=
  calls_of_vc (fn := Tryz.f166) (c := (Tryz.f166.body).getD Code.skip) ann166 Tryz.func166 (by kernel_rfl) [p_1] w k (by kernel_rfl) ((S166_vc p_1 k w).symm ▸ h)
theorem C166 (p_1 : Value) (k : Value → World → Prop) (w : World) (h : S166 p_1 k w) : callW Tryz.prog (.func (.func 166) #[] #[]) #[p_1] k w :=
  callW_calls ok166 (by simpa using S166_calls p_1 k w h)

/-! newswire/flow.modes$3 -/
def ann168 : Ann := [(29, Note.keep [5]), (58, Note.loop [5, 10] [2, 8, 9]), (934, Note.keep [2, 5, 8, 9, 10])]
def S168 (s_1 l_2 : Value) (k : Value → World → Prop) (w : World) : Prop :=
   opW Tryz.prog (Instr.box 94 s_1) (fun s_3 w =>
   opW Tryz.prog (Builtin.len_ #[95] 3 #[l_2]) (fun t9_4 w =>
   Loop2 (fun text_6 t10_7 w K_8 =>
   opW Tryz.prog (binS BinOp.lss 3 (Operand.tmp 10) (Operand.tmp 9) t10_7 t9_4) (fun t11_9 w =>
   condW t11_9
   (opW Tryz.prog (Instr.indexAt 95 l_2 t10_7) (fun t12_12 w =>
   opW Tryz.prog (Instr.loadAt 96 t12_12) (fun t13_13 w =>
   opW Tryz.prog (Instr.loadAt 94 s_3) (fun t14_15 w =>
   callW Tryz.prog (Value.func (Fn.func 79) #[] #[]) #[t14_15, t13_13] (fun t16_16 w =>
   condW t16_16
   (callW Tryz.prog (Value.func (Fn.func 166) #[] #[]) #[t13_13] (fun t19_17 w =>
   opW Tryz.prog (binS BinOp.add 9 (Operand.tmp 17) (Operand.tmp 19) text_6 t19_17) (fun t20_18 w =>
   k t20_18 w) w) w)
   (opW Tryz.prog (binS BinOp.add 9 (Operand.tmp 21) (Operand.const (Value.string { data := #[0] })) text_6 (Value.string { data := #[0] })) (fun t22_19 w =>
   opW Tryz.prog (binS BinOp.add 3 (Operand.tmp 10) (Operand.const (Value.int IntKind.i64 1)) t10_7 (Value.int IntKind.i64 1)) (fun t23_20 w =>
   loopK [] [] [s_3, l_2, t9_4] [s_3, l_2, t9_4] (K_8 t22_19 t23_20 w)) w) w)) w) w) w) w)
   (k text_6 w)) w) (Value.string { data := #[] }) (Value.int IntKind.i64 0) w) w) w
theorem S168_vc (s_1 l_2 : Value) (k : Value → World → Prop) (w : World) : vc Tryz.prog Tryz.f168.ntmps ann168 none ((Tryz.f168.body).getD Code.skip) 1 (params 0 [s_1, l_2]) [] (finQ Tryz.prog Tryz.f168.results.toList k) w = S168 s_1 l_2 k w := by kernel_rfl
theorem S168_calls (s_1 l_2 : Value) (k : Value → World → Prop) (w : World) (h : S168 s_1 l_2 k w) : Calls Tryz.prog 168 #[s_1, l_2] w (retP k) :=
  calls_of_vc (fn := Tryz.f168) (c := (Tryz.f168.body).getD Code.skip) ann168 Tryz.func168 (by kernel_rfl) [s_1, l_2] w k (by kernel_rfl) ((S168_vc s_1 l_2 k w).symm ▸ h)
theorem C168 (s_1 l_2 : Value) (k : Value → World → Prop) (w : World) (h : S168 s_1 l_2 k w) : callW Tryz.prog (.func (.func 168) #[] #[]) #[s_1, l_2] k w :=
  callW_calls ok168 (by simpa using S168_calls s_1 l_2 k w h)

/-! newswire/label.reasons$1 -/
def ann183 : Ann := [(6, Note.plan (Plan.takeP 0 (Plan.takeP 1 (Plan.takeP 2 (Plan.takeP 3 (Plan.takeX 4 (Plan.takeP 5 (Plan.takeP 6 (Plan.takeP 7 (Plan.takeP 8 (Plan.takeX 9 (Plan.takeP 10 (Plan.takeP 11 (Plan.takeP 12 (Plan.takeP 13 Plan.done)))))))))))))))]
def S183 (v_1 : Value) (k : Value → World → Prop) (w : World) : Prop :=
   drewW w (fun w =>
   nilT v_1 (fun t4_3 =>
   takeW Tryz.prog anyW (Instr.fieldAt 157 t4_3 0) (fun t5_4 =>
   takeW Tryz.prog anyW (Instr.fieldAt 61 t5_4 3) (fun t6_5 =>
   takeW Tryz.prog (sameW w) (Instr.loadAt 3 t6_5) (fun t7_6 =>
   nilT v_1 (fun t9_7 =>
   takeW Tryz.prog anyW (Instr.fieldAt 157 t9_7 1) (fun t10_8 =>
   takeW Tryz.prog anyW (Instr.fieldAt 30 t10_8 0) (fun t11_9 =>
   takeW Tryz.prog (sameW w) (Instr.loadAt 3 t11_9) (fun t12_10 =>
   takeW Tryz.prog anyW (binS BinOp.shr 3 (Operand.tmp 7) (Operand.tmp 12) t7_6 t12_10) (fun t13_11 =>
   takeW Tryz.prog anyW (binS BinOp.and 3 (Operand.tmp 13) (Operand.const (Value.int IntKind.i64 1)) t13_11 (Value.int IntKind.i64 1)) (fun t14_12 =>
   takeW Tryz.prog anyW (binS BinOp.eql 3 (Operand.tmp 14) (Operand.const (Value.int IntKind.i64 0)) t14_12 (Value.int IntKind.i64 0)) (fun t15_13 =>
   k t15_13 w) w) w) w) w) w) w)) w) w) w))
theorem S183_vc (v_1 : Value) (k : Value → World → Prop) (w : World) : vc Tryz.prog Tryz.f183.ntmps ann183 none ((Tryz.f183.body).getD Code.skip) 1 (params 0 [v_1]) [] (finQ Tryz.prog Tryz.f183.results.toList k) w = S183 v_1 k w := by kernel_rfl
theorem S183_calls (v_1 : Value) (k : Value → World → Prop) (w : World) (h : S183 v_1 k w) : Calls Tryz.prog 183 #[v_1] w (retP k) :=
  calls_of_vc (fn := Tryz.f183) (c := (Tryz.f183.body).getD Code.skip) ann183 Tryz.func183 (by kernel_rfl) [v_1] w k (by kernel_rfl) ((S183_vc v_1 k w).symm ▸ h)
theorem C183 (v_1 : Value) (k : Value → World → Prop) (w : World) (h : S183 v_1 k w) : callW Tryz.prog (.func (.func 183) #[] #[]) #[v_1] k w :=
  callW_calls ok183 (by simpa using S183_calls v_1 k w h)

/-! newswire/label.reasons$2 -/
def ann184 : Ann := [(6, Note.plan (Plan.takeP 0 (Plan.takeP 1 (Plan.takeP 2 (Plan.takeP 3 (Plan.takeX 4 (Plan.takeP 5 (Plan.takeP 6 (Plan.takeP 7 (Plan.takeP 8 (Plan.takeX 9 (Plan.takeP 10 (Plan.takeP 11 (Plan.takeP 12 (Plan.takeP 13 Plan.done)))))))))))))))]
def S184 (v_1 : Value) (k : Value → World → Prop) (w : World) : Prop :=
   drewW w (fun w =>
   nilT v_1 (fun t4_3 =>
   takeW Tryz.prog anyW (Instr.fieldAt 157 t4_3 0) (fun t5_4 =>
   takeW Tryz.prog anyW (Instr.fieldAt 61 t5_4 4) (fun t6_5 =>
   takeW Tryz.prog (sameW w) (Instr.loadAt 3 t6_5) (fun t7_6 =>
   nilT v_1 (fun t9_7 =>
   takeW Tryz.prog anyW (Instr.fieldAt 157 t9_7 1) (fun t10_8 =>
   takeW Tryz.prog anyW (Instr.fieldAt 30 t10_8 1) (fun t11_9 =>
   takeW Tryz.prog (sameW w) (Instr.loadAt 3 t11_9) (fun t12_10 =>
   takeW Tryz.prog anyW (binS BinOp.shr 3 (Operand.tmp 7) (Operand.tmp 12) t7_6 t12_10) (fun t13_11 =>
   takeW Tryz.prog anyW (binS BinOp.and 3 (Operand.tmp 13) (Operand.const (Value.int IntKind.i64 1)) t13_11 (Value.int IntKind.i64 1)) (fun t14_12 =>
   takeW Tryz.prog anyW (binS BinOp.eql 3 (Operand.tmp 14) (Operand.const (Value.int IntKind.i64 0)) t14_12 (Value.int IntKind.i64 0)) (fun t15_13 =>
   k t15_13 w) w) w) w) w) w) w)) w) w) w))
theorem S184_vc (v_1 : Value) (k : Value → World → Prop) (w : World) : vc Tryz.prog Tryz.f184.ntmps ann184 none ((Tryz.f184.body).getD Code.skip) 1 (params 0 [v_1]) [] (finQ Tryz.prog Tryz.f184.results.toList k) w = S184 v_1 k w := by kernel_rfl
theorem S184_calls (v_1 : Value) (k : Value → World → Prop) (w : World) (h : S184 v_1 k w) : Calls Tryz.prog 184 #[v_1] w (retP k) :=
  calls_of_vc (fn := Tryz.f184) (c := (Tryz.f184.body).getD Code.skip) ann184 Tryz.func184 (by kernel_rfl) [v_1] w k (by kernel_rfl) ((S184_vc v_1 k w).symm ▸ h)
theorem C184 (v_1 : Value) (k : Value → World → Prop) (w : World) (h : S184 v_1 k w) : callW Tryz.prog (.func (.func 184) #[] #[]) #[v_1] k w :=
  callW_calls ok184 (by simpa using S184_calls v_1 k w h)

/-! newswire/label.reasons$3 -/
def ann185 : Ann := [(6, Note.plan (Plan.takeP 0 (Plan.takeP 1 (Plan.takeP 2 (Plan.takeP 3 (Plan.takeX 4 (Plan.takeP 5 (Plan.takeP 6 (Plan.takeP 7 (Plan.takeP 8 (Plan.takeX 9 (Plan.takeP 10 (Plan.takeP 11 (Plan.takeP 12 (Plan.takeP 13 (Plan.takeP 14 (Plan.takeX 15 (Plan.takeP 16 (Plan.takeP 17 Plan.done)))))))))))))))))))]
def S185 (v_1 : Value) (k : Value → World → Prop) (w : World) : Prop :=
   drewW w (fun w =>
   nilT v_1 (fun t4_3 =>
   takeW Tryz.prog anyW (Instr.fieldAt 157 t4_3 2) (fun t5_4 =>
   takeW Tryz.prog anyW (Instr.fieldAt 28 t5_4 0) (fun t6_5 =>
   takeW Tryz.prog (sameW w) (Instr.loadAt 3 t6_5) (fun t7_6 =>
   nilT v_1 (fun t9_7 =>
   takeW Tryz.prog anyW (Instr.fieldAt 157 t9_7 2) (fun t10_8 =>
   takeW Tryz.prog anyW (Instr.fieldAt 28 t10_8 1) (fun t11_9 =>
   takeW Tryz.prog (sameW w) (Instr.loadAt 3 t11_9) (fun t12_10 =>
   takeW Tryz.prog anyW (binS BinOp.sub 3 (Operand.tmp 7) (Operand.tmp 12) t7_6 t12_10) (fun t13_11 =>
   nilT v_1 (fun t15_12 =>
   takeW Tryz.prog anyW (Instr.fieldAt 157 t15_12 0) (fun t16_13 =>
   takeW Tryz.prog anyW (Instr.fieldAt 61 t16_13 0) (fun t17_14 =>
   takeW Tryz.prog (sameW w) (Instr.loadAt 3 t17_14) (fun t18_15 =>
   takeW Tryz.prog anyW (binS BinOp.lss 3 (Operand.tmp 13) (Operand.tmp 18) t13_11 t18_15) (fun t19_16 =>
   k t19_16 w) w) w) w) w)) w) w) w) w)) w) w) w))
theorem S185_vc (v_1 : Value) (k : Value → World → Prop) (w : World) : vc Tryz.prog Tryz.f185.ntmps ann185 none ((Tryz.f185.body).getD Code.skip) 1 (params 0 [v_1]) [] (finQ Tryz.prog Tryz.f185.results.toList k) w = S185 v_1 k w := by kernel_rfl
theorem S185_calls (v_1 : Value) (k : Value → World → Prop) (w : World) (h : S185 v_1 k w) : Calls Tryz.prog 185 #[v_1] w (retP k) :=
  calls_of_vc (fn := Tryz.f185) (c := (Tryz.f185.body).getD Code.skip) ann185 Tryz.func185 (by kernel_rfl) [v_1] w k (by kernel_rfl) ((S185_vc v_1 k w).symm ▸ h)
theorem C185 (v_1 : Value) (k : Value → World → Prop) (w : World) (h : S185 v_1 k w) : callW Tryz.prog (.func (.func 185) #[] #[]) #[v_1] k w :=
  callW_calls ok185 (by simpa using S185_calls v_1 k w h)

/-! newswire/label.reasons$4 -/
def ann186 : Ann := [(6, Note.plan (Plan.takeP 0 (Plan.takeP 1 (Plan.takeP 2 (Plan.takeP 3 (Plan.takeU 4 (Plan.takeP 5 (Plan.takeP 6 (Plan.takeP 7 (Plan.takeP 8 (Plan.takeU 9 (Plan.run 10 (Plan.run 11 (Plan.takeP 12 Plan.done))))))))))))))]
def S186 (v_1 : Value) (k : Value → World → Prop) (w : World) : Prop :=
   drewW w (fun w =>
   ∃ S : World → Prop, S w ∧
   nilT v_1 (fun t4_3 =>
   takeW Tryz.prog anyW (Instr.fieldAt 157 t4_3 0) (fun t5_4 =>
   takeW Tryz.prog anyW (Instr.fieldAt 61 t5_4 1) (fun t6_5 =>
   takeW Tryz.prog S (Instr.loadAt 25 t6_5) (fun t7_6 =>
   nilT v_1 (fun t9_7 =>
   takeW Tryz.prog anyW (Instr.fieldAt 157 t9_7 2) (fun t10_8 =>
   takeW Tryz.prog anyW (Instr.fieldAt 28 t10_8 2) (fun t11_9 =>
   takeW Tryz.prog S (Instr.loadAt 25 t11_9) (fun t12_10 =>
   callW Tryz.prog (Value.func (Fn.func 188) #[] #[]) #[t12_10] (fun t13_11 w => keepS S (fun w =>
   callW Tryz.prog (Value.func (Fn.func 187) #[] #[]) #[t7_6, t13_11] (fun t14_12 w => keepS S (fun w =>
   k t14_12 w) w) w) w) w) w) w) w)) w) w) w))
theorem S186_vc (v_1 : Value) (k : Value → World → Prop) (w : World) : vc Tryz.prog Tryz.f186.ntmps ann186 none ((Tryz.f186.body).getD Code.skip) 1 (params 0 [v_1]) [] (finQ Tryz.prog Tryz.f186.results.toList k) w = S186 v_1 k w := by kernel_rfl
theorem S186_calls (v_1 : Value) (k : Value → World → Prop) (w : World) (h : S186 v_1 k w) : Calls Tryz.prog 186 #[v_1] w (retP k) :=
  calls_of_vc (fn := Tryz.f186) (c := (Tryz.f186.body).getD Code.skip) ann186 Tryz.func186 (by kernel_rfl) [v_1] w k (by kernel_rfl) ((S186_vc v_1 k w).symm ▸ h)
theorem C186 (v_1 : Value) (k : Value → World → Prop) (w : World) (h : S186 v_1 k w) : callW Tryz.prog (.func (.func 186) #[] #[]) #[v_1] k w :=
  callW_calls ok186 (by simpa using S186_calls v_1 k w h)

/-! slices.ContainsFunc[[]int,int] -/
def ann187 : Ann := []
def S187 (s_1 f_2 : Value) (k : Value → World → Prop) (w : World) : Prop :=
   callW Tryz.prog (Value.func (Fn.func 197) #[] #[]) #[s_1, f_2] (fun t7_3 w =>
   opW Tryz.prog (binS BinOp.geq 3 (Operand.tmp 7) (Operand.const (Value.int IntKind.i64 0)) t7_3 (Value.int IntKind.i64 0)) (fun t8_4 w =>
   k t8_4 w) w) w
theorem S187_vc (s_1 f_2 : Value) (k : Value → World → Prop) (w : World) : vc Tryz.prog Tryz.f187.ntmps ann187 none ((Tryz.f187.body).getD Code.skip) 1 (params 0 [s_1, f_2]) [] (finQ Tryz.prog Tryz.f187.results.toList k) w = S187 s_1 f_2 k w := by kernel_rfl
theorem S187_calls (s_1 f_2 : Value) (k : Value → World → Prop) (w : World) (h : S187 s_1 f_2 k w) : Calls Tryz.prog 187 #[s_1, f_2] w (retP k) :=
  calls_of_vc (fn := Tryz.f187) (c := (Tryz.f187.body).getD Code.skip) ann187 Tryz.func187 (by kernel_rfl) [s_1, f_2] w k (by kernel_rfl) ((S187_vc s_1 f_2 k w).symm ▸ h)
theorem C187 (s_1 f_2 : Value) (k : Value → World → Prop) (w : World) (h : S187 s_1 f_2 k w) : callW Tryz.prog (.func (.func 187) #[] #[]) #[s_1, f_2] k w :=
  callW_calls ok187 (by simpa using S187_calls s_1 f_2 k w h)

/-! newswire/label.lacks[int] -/
def ann188 : Ann := []
def S188 (l_1 : Value) (k : Value → World → Prop) (w : World) : Prop :=
   opW Tryz.prog (Instr.box 25 l_1) (fun l_2 w =>
   opW Tryz.prog (Instr.makeFunc (Fn.func 198) #[] #[l_2]) (fun t3_3 w =>
   k t3_3 w) w) w
theorem S188_vc (l_1 : Value) (k : Value → World → Prop) (w : World) : vc Tryz.prog Tryz.f188.ntmps ann188 none ((Tryz.f188.body).getD Code.skip) 1 (params 0 [l_1]) [] (finQ Tryz.prog Tryz.f188.results.toList k) w = S188 l_1 k w := by kernel_rfl
theorem S188_calls (l_1 : Value) (k : Value → World → Prop) (w : World) (h : S188 l_1 k w) : Calls Tryz.prog 188 #[l_1] w (retP k) :=
  calls_of_vc (fn := Tryz.f188) (c := (Tryz.f188.body).getD Code.skip) ann188 Tryz.func188 (by kernel_rfl) [l_1] w k (by kernel_rfl) ((S188_vc l_1 k w).symm ▸ h)
theorem C188 (l_1 : Value) (k : Value → World → Prop) (w : World) (h : S188 l_1 k w) : callW Tryz.prog (.func (.func 188) #[] #[]) #[l_1] k w :=
  callW_calls ok188 (by simpa using S188_calls l_1 k w h)

/-! newswire/label.reasons$5 -/
def ann189 : Ann := []
def S189 (v_1 : Value) (k : Value → World → Prop) (w : World) : Prop :=
   opW Tryz.prog (Instr.box 155 v_1) (fun v_2 w =>
   opW Tryz.prog (Instr.loadAt 155 v_2) (fun t3_3 w =>
   nilW t3_3 (fun t4_4 w =>
   opW Tryz.prog (Instr.fieldAt 157 t4_4 0) (fun t5_5 w =>
   opW Tryz.prog (Instr.fieldAt 61 t5_5 2) (fun t6_6 w =>
   opW Tryz.prog (Instr.loadAt 26 t6_6) (fun t7_7 w =>
   opW Tryz.prog (Instr.makeFunc (Fn.func 191) #[] #[v_2]) (fun t8_8 w =>
   callW Tryz.prog (Value.func (Fn.func 190) #[] #[]) #[t7_7, t8_8] (fun t9_9 w =>
   k t9_9 w) w) w) w) w) w) w) w) w
theorem S189_vc (v_1 : Value) (k : Value → World → Prop) (w : World) : vc Tryz.prog Tryz.f189.ntmps ann189 none ((Tryz.f189.body).getD Code.skip) 1 (params 0 [v_1]) [] (finQ Tryz.prog Tryz.f189.results.toList k) w = S189 v_1 k w := by kernel_rfl
theorem S189_calls (v_1 : Value) (k : Value → World → Prop) (w : World) (h : S189 v_1 k w) : Calls Tryz.prog 189 #[v_1] w (retP k) :=
  calls_of_vc (fn := Tryz.f189) (c := (Tryz.f189.body).getD Code.skip) ann189 Tryz.func189 (by kernel_rfl) [v_1] w k (by kernel_rfl) ((S189_vc v_1 k w).symm ▸ h)
theorem C189 (v_1 : Value) (k : Value → World → Prop) (w : World) (h : S189 v_1 k w) : callW Tryz.prog (.func (.func 189) #[] #[]) #[v_1] k w :=
  callW_calls ok189 (by simpa using S189_calls v_1 k w h)

/-! slices.ContainsFunc[[]newswire/api.Confirmed,newswire/api.Confirmed] -/
def ann190 : Ann := []
def S190 (s_1 f_2 : Value) (k : Value → World → Prop) (w : World) : Prop :=
   callW Tryz.prog (Value.func (Fn.func 200) #[] #[]) #[s_1, f_2] (fun t7_3 w =>
   opW Tryz.prog (binS BinOp.geq 3 (Operand.tmp 7) (Operand.const (Value.int IntKind.i64 0)) t7_3 (Value.int IntKind.i64 0)) (fun t8_4 w =>
   k t8_4 w) w) w
theorem S190_vc (s_1 f_2 : Value) (k : Value → World → Prop) (w : World) : vc Tryz.prog Tryz.f190.ntmps ann190 none ((Tryz.f190.body).getD Code.skip) 1 (params 0 [s_1, f_2]) [] (finQ Tryz.prog Tryz.f190.results.toList k) w = S190 s_1 f_2 k w := by kernel_rfl
theorem S190_calls (s_1 f_2 : Value) (k : Value → World → Prop) (w : World) (h : S190 s_1 f_2 k w) : Calls Tryz.prog 190 #[s_1, f_2] w (retP k) :=
  calls_of_vc (fn := Tryz.f190) (c := (Tryz.f190.body).getD Code.skip) ann190 Tryz.func190 (by kernel_rfl) [s_1, f_2] w k (by kernel_rfl) ((S190_vc s_1 f_2 k w).symm ▸ h)
theorem C190 (s_1 f_2 : Value) (k : Value → World → Prop) (w : World) (h : S190 s_1 f_2 k w) : callW Tryz.prog (.func (.func 190) #[] #[]) #[s_1, f_2] k w :=
  callW_calls ok190 (by simpa using S190_calls s_1 f_2 k w h)

/-! newswire/label.reasons$5$1 -/
def ann191 : Ann := []
def S191 (c_1 x1_2 : Value) (k : Value → World → Prop) (w : World) : Prop :=
   opW Tryz.prog (Instr.box 121 c_1) (fun c_3 w =>
   opW Tryz.prog (Instr.loadAt 155 x1_2) (fun t4_4 w =>
   nilW t4_4 (fun t5_5 w =>
   opW Tryz.prog (Instr.fieldAt 157 t5_5 2) (fun t6_6 w =>
   opW Tryz.prog (Instr.fieldAt 28 t6_6 3) (fun t7_7 w =>
   opW Tryz.prog (Instr.loadAt 26 t7_7) (fun t8_8 w =>
   opW Tryz.prog (Instr.makeFunc (Fn.func 192) #[] #[c_3]) (fun t9_9 w =>
   callW Tryz.prog (Value.func (Fn.func 190) #[] #[]) #[t8_8, t9_9] (fun t10_10 w =>
   opW Tryz.prog (Op.unary UnOp.not t10_10) (fun t11_11 w =>
   k t11_11 w) w) w) w) w) w) w) w) w) w
theorem S191_vc (c_1 x1_2 : Value) (k : Value → World → Prop) (w : World) : vc Tryz.prog Tryz.f191.ntmps ann191 none ((Tryz.f191.body).getD Code.skip) 1 (params 0 [c_1, x1_2]) [] (finQ Tryz.prog Tryz.f191.results.toList k) w = S191 c_1 x1_2 k w := by kernel_rfl
theorem S191_calls (c_1 x1_2 : Value) (k : Value → World → Prop) (w : World) (h : S191 c_1 x1_2 k w) : Calls Tryz.prog 191 #[c_1, x1_2] w (retP k) :=
  calls_of_vc (fn := Tryz.f191) (c := (Tryz.f191.body).getD Code.skip) ann191 Tryz.func191 (by kernel_rfl) [c_1, x1_2] w k (by kernel_rfl) ((S191_vc c_1 x1_2 k w).symm ▸ h)
theorem C191 (c_1 x1_2 : Value) (k : Value → World → Prop) (w : World) (h : S191 c_1 x1_2 k w) : callW Tryz.prog (.func (.func 191) #[] #[x1_2]) #[c_1] k w :=
  callW_calls ok191 (by simpa using S191_calls c_1 x1_2 k w h)

/-! newswire/label.reasons$5$1$1 -/
def ann192 : Ann := []
def S192 (d_1 x1_2 : Value) (k : Value → World → Prop) (w : World) : Prop :=
   opW Tryz.prog (Instr.box 121 d_1) (fun d_3 w =>
   opW Tryz.prog (Instr.fieldAt 121 d_3 0) (fun t4_4 w =>
   opW Tryz.prog (Instr.loadAt 3 t4_4) (fun t5_5 w =>
   opW Tryz.prog (Instr.fieldAt 121 x1_2 0) (fun t6_6 w =>
   opW Tryz.prog (Instr.loadAt 3 t6_6) (fun t7_7 w =>
   opW Tryz.prog (binS BinOp.eql 3 (Operand.tmp 5) (Operand.tmp 7) t5_5 t7_7) (fun t8_8 w =>
   guardW (some t8_8, true) (fun k w => opW Tryz.prog (Instr.fieldAt 121 d_3 1) k w) (fun t10_9 w =>
   guardW (some t8_8, true) (fun k w => opW Tryz.prog (Instr.loadAt 3 t10_9) k w) (fun t11_10 w =>
   guardW (some t8_8, true) (fun k w => opW Tryz.prog (Instr.fieldAt 121 x1_2 1) k w) (fun t12_11 w =>
   guardW (some t8_8, true) (fun k w => opW Tryz.prog (Instr.loadAt 3 t12_11) k w) (fun t13_12 w =>
   guardW (some t8_8, true) (fun k w => opW Tryz.prog (binS BinOp.geq 3 (Operand.tmp 11) (Operand.tmp 13) t11_10 t13_12) k w) (fun t14_13 w =>
   pickW t8_8 t14_13 (Value.bool false) (fun t15_14 w =>
   k t15_14 w) w) w) w) w) w) w) w) w) w) w) w) w
theorem S192_vc (d_1 x1_2 : Value) (k : Value → World → Prop) (w : World) : vc Tryz.prog Tryz.f192.ntmps ann192 none ((Tryz.f192.body).getD Code.skip) 1 (params 0 [d_1, x1_2]) [] (finQ Tryz.prog Tryz.f192.results.toList k) w = S192 d_1 x1_2 k w := by kernel_rfl
theorem S192_calls (d_1 x1_2 : Value) (k : Value → World → Prop) (w : World) (h : S192 d_1 x1_2 k w) : Calls Tryz.prog 192 #[d_1, x1_2] w (retP k) :=
  calls_of_vc (fn := Tryz.f192) (c := (Tryz.f192.body).getD Code.skip) ann192 Tryz.func192 (by kernel_rfl) [d_1, x1_2] w k (by kernel_rfl) ((S192_vc d_1 x1_2 k w).symm ▸ h)
theorem C192 (d_1 x1_2 : Value) (k : Value → World → Prop) (w : World) (h : S192 d_1 x1_2 k w) : callW Tryz.prog (.func (.func 192) #[] #[x1_2]) #[d_1] k w :=
  callW_calls ok192 (by simpa using S192_calls d_1 x1_2 k w h)

/-! newswire/label.reasons$6 -/
def ann193 : Ann := []
def S193 (v_1 : Value) (k : Value → World → Prop) (w : World) : Prop :=
   opW Tryz.prog (Instr.box 155 v_1) (fun v_2 w =>
   opW Tryz.prog (Instr.loadAt 155 v_2) (fun t3_3 w =>
   nilW t3_3 (fun t4_4 w =>
   opW Tryz.prog (Instr.fieldAt 157 t4_4 0) (fun t5_5 w =>
   opW Tryz.prog (Instr.fieldAt 61 t5_5 5) (fun t6_6 w =>
   opW Tryz.prog (Instr.loadAt 59 t6_6) (fun t7_7 w =>
   opW Tryz.prog (Instr.makeFunc (Fn.func 195) #[] #[v_2]) (fun t8_8 w =>
   callW Tryz.prog (Value.func (Fn.func 194) #[] #[]) #[t7_7, t8_8] (fun t9_9 w =>
   k t9_9 w) w) w) w) w) w) w) w) w
theorem S193_vc (v_1 : Value) (k : Value → World → Prop) (w : World) : vc Tryz.prog Tryz.f193.ntmps ann193 none ((Tryz.f193.body).getD Code.skip) 1 (params 0 [v_1]) [] (finQ Tryz.prog Tryz.f193.results.toList k) w = S193 v_1 k w := by kernel_rfl
theorem S193_calls (v_1 : Value) (k : Value → World → Prop) (w : World) (h : S193 v_1 k w) : Calls Tryz.prog 193 #[v_1] w (retP k) :=
  calls_of_vc (fn := Tryz.f193) (c := (Tryz.f193.body).getD Code.skip) ann193 Tryz.func193 (by kernel_rfl) [v_1] w k (by kernel_rfl) ((S193_vc v_1 k w).symm ▸ h)
theorem C193 (v_1 : Value) (k : Value → World → Prop) (w : World) (h : S193 v_1 k w) : callW Tryz.prog (.func (.func 193) #[] #[]) #[v_1] k w :=
  callW_calls ok193 (by simpa using S193_calls v_1 k w h)

/-! slices.ContainsFunc[[]newswire/api.Quorum,newswire/api.Quorum] -/
def ann194 : Ann := []
def S194 (s_1 f_2 : Value) (k : Value → World → Prop) (w : World) : Prop :=
   callW Tryz.prog (Value.func (Fn.func 201) #[] #[]) #[s_1, f_2] (fun t7_3 w =>
   opW Tryz.prog (binS BinOp.geq 3 (Operand.tmp 7) (Operand.const (Value.int IntKind.i64 0)) t7_3 (Value.int IntKind.i64 0)) (fun t8_4 w =>
   k t8_4 w) w) w
theorem S194_vc (s_1 f_2 : Value) (k : Value → World → Prop) (w : World) : vc Tryz.prog Tryz.f194.ntmps ann194 none ((Tryz.f194.body).getD Code.skip) 1 (params 0 [s_1, f_2]) [] (finQ Tryz.prog Tryz.f194.results.toList k) w = S194 s_1 f_2 k w := by kernel_rfl
theorem S194_calls (s_1 f_2 : Value) (k : Value → World → Prop) (w : World) (h : S194 s_1 f_2 k w) : Calls Tryz.prog 194 #[s_1, f_2] w (retP k) :=
  calls_of_vc (fn := Tryz.f194) (c := (Tryz.f194.body).getD Code.skip) ann194 Tryz.func194 (by kernel_rfl) [s_1, f_2] w k (by kernel_rfl) ((S194_vc s_1 f_2 k w).symm ▸ h)
theorem C194 (s_1 f_2 : Value) (k : Value → World → Prop) (w : World) (h : S194 s_1 f_2 k w) : callW Tryz.prog (.func (.func 194) #[] #[]) #[s_1, f_2] k w :=
  callW_calls ok194 (by simpa using S194_calls s_1 f_2 k w h)

/-! newswire/label.reasons$6$1 -/
def ann195 : Ann := [(6, Note.plan (Plan.takeP 0 (Plan.takeU 1 (Plan.takeU 3 (Plan.takeP 4 (Plan.takeP 5 (Plan.takeP 6 (Plan.takeU 7 (Plan.takeP 11 (Plan.takeU 12 (Plan.run 2 (Plan.run 8 (Plan.run 9 (Plan.takeP 10 (Plan.takeP 13 (Plan.takeP 14 Plan.done))))))))))))))))]
def S195 (q_1 x1_2 : Value) (k : Value → World → Prop) (w : World) : Prop :=
   opW Tryz.prog (Instr.box 87 q_1) (fun q_3 w =>
   drewW w (fun w =>
   ∃ S : World → Prop, S w ∧
   takeW Tryz.prog anyW (Instr.fieldAt 87 q_3 1) (fun t4_5 =>
   takeW Tryz.prog S (Instr.loadAt 25 t4_5) (fun t5_6 =>
   takeW Tryz.prog S (Instr.loadAt 155 x1_2) (fun t7_7 =>
   nilT t7_7 (fun t8_8 =>
   takeW Tryz.prog anyW (Instr.fieldAt 157 t8_8 2) (fun t9_9 =>
   takeW Tryz.prog anyW (Instr.fieldAt 28 t9_9 4) (fun t10_10 =>
   takeW Tryz.prog S (Instr.loadAt 25 t10_10) (fun t11_11 =>
   takeW Tryz.prog anyW (Instr.fieldAt 87 q_3 0) (fun t15_12 =>
   takeW Tryz.prog S (Instr.loadAt 3 t15_12) (fun t16_13 =>
   callW Tryz.prog (Value.func (Fn.func 72) #[] #[]) #[t5_6] (fun t6_14 w => keepS S (fun w =>
   callW Tryz.prog (Value.func (Fn.func 188) #[] #[]) #[t11_11] (fun t12_15 w => keepS S (fun w =>
   callW Tryz.prog (Value.func (Fn.func 196) #[] #[]) #[t6_14, t12_15] (fun t13_16 w => keepS S (fun w =>
   takeW Tryz.prog anyW (Builtin.len_ #[25] 3 #[t13_16]) (fun t14_17 =>
   takeW Tryz.prog anyW (binS BinOp.lss 3 (Operand.tmp 14) (Operand.tmp 16) t14_17 t16_13) (fun t17_18 =>
   k t17_18 w) w) w) w) w) w) w) w) w) w) w) w) w) w)) w) w) w)) w
theorem S195_vc (q_1 x1_2 : Value) (k : Value → World → Prop) (w : World) : vc Tryz.prog Tryz.f195.ntmps ann195 none ((Tryz.f195.body).getD Code.skip) 1 (params 0 [q_1, x1_2]) [] (finQ Tryz.prog Tryz.f195.results.toList k) w = S195 q_1 x1_2 k w := by kernel_rfl
theorem S195_calls (q_1 x1_2 : Value) (k : Value → World → Prop) (w : World) (h : S195 q_1 x1_2 k w) : Calls Tryz.prog 195 #[q_1, x1_2] w (retP k) :=
  calls_of_vc (fn := Tryz.f195) (c := (Tryz.f195.body).getD Code.skip) ann195 Tryz.func195 (by kernel_rfl) [q_1, x1_2] w k (by kernel_rfl) ((S195_vc q_1 x1_2 k w).symm ▸ h)
theorem C195 (q_1 x1_2 : Value) (k : Value → World → Prop) (w : World) (h : S195 q_1 x1_2 k w) : callW Tryz.prog (.func (.func 195) #[] #[x1_2]) #[q_1] k w :=
  callW_calls ok195 (by simpa using S195_calls q_1 x1_2 k w h)

/-! slices.DeleteFunc[[]int,int] -/
def ann196 : Ann := [(61, Note.keep [0, 5]), (122, Note.loop [5, 6] [0, 1]), (978, Note.keep [0, 1, 5, 6])]
def S196 (s_1 del_2 : Value) (k : Value → World → Prop) (w : World) : Prop :=
   callW Tryz.prog (Value.func (Fn.func 197) #[] #[]) #[s_1, del_2] (fun t10_3 w =>
   opW Tryz.prog (binS BinOp.eql 3 (Operand.tmp 11) (Operand.const (Value.int IntKind.i64 (-1))) t10_3 (Value.int IntKind.i64 (-1))) (fun t12_5 w =>
   condW t12_5
   (k s_1 w)
   (opW Tryz.prog (binS BinOp.add 3 (Operand.tmp 14) (Operand.const (Value.int IntKind.i64 1)) t10_3 (Value.int IntKind.i64 1)) (fun t15_6 w =>
   Loop2 (fun i_8 j_9 w K_10 =>
   opW Tryz.prog (Builtin.len_ #[25] 3 #[s_1]) (fun t18_12 w =>
   opW Tryz.prog (binS BinOp.lss 3 (Operand.tmp 16) (Operand.tmp 18) j_9 t18_12) (fun t19_13 w =>
   condW t19_13
   (joinW (fun i_21 w =>
   opW Tryz.prog (binS BinOp.add 3 (Operand.tmp 20) (Operand.const (Value.int IntKind.i64 1)) j_9 (Value.int IntKind.i64 1)) (fun t21_22 w =>
   loopK [] [] [s_1, del_2] [s_1, del_2] (K_10 i_21 t21_22 w)) w) (fun J_14 =>
   opW Tryz.prog (Instr.indexAt 25 s_1 j_9) (fun t24_15 w =>
   opW Tryz.prog (Instr.loadAt 3 t24_15) (fun t25_16 w =>
   callW Tryz.prog del_2 #[t25_16] (fun t28_17 w =>
   opW Tryz.prog (Op.unary UnOp.not t28_17) (fun t29_18 w =>
   condW t29_18
   (opW Tryz.prog (Instr.indexAt 25 s_1 i_8) (fun t33_19 w =>
   opU Tryz.prog (Instr.storeAt 3 t33_19 t25_16) (fun _ w =>
   opW Tryz.prog (binS BinOp.add 3 (Operand.tmp 34) (Operand.const (Value.int IntKind.i64 1)) i_8 (Value.int IntKind.i64 1)) (fun t35_20 w =>
   J_14 t35_20 w) w) w) w)
   (J_14 i_8 w)) w) w) w) w))
   (opW Tryz.prog (Instr.sliceAt 25 s_1 (some i_8) none none) (fun t38_23 w =>
   opW Tryz.prog (Builtin.clear_ #[25] 0 #[t38_23]) (fun _ w =>
   opW Tryz.prog (Instr.sliceAt 25 s_1 none (some i_8) none) (fun t41_24 w =>
   k t41_24 w) w) w) w)) w) w) t10_3 t15_6 w) w)) w) w
theorem S196_vc (s_1 del_2 : Value) (k : Value → World → Prop) (w : World) : vc Tryz.prog Tryz.f196.ntmps ann196 none ((Tryz.f196.body).getD Code.skip) 1 (params 0 [s_1, del_2]) [] (finQ Tryz.prog Tryz.f196.results.toList k) w = S196 s_1 del_2 k w := by kernel_rfl
theorem S196_calls (s_1 del_2 : Value) (k : Value → World → Prop) (w : World) (h : S196 s_1 del_2 k w) : Calls Tryz.prog 196 #[s_1, del_2] w (retP k) :=
  calls_of_vc (fn := Tryz.f196) (c := (Tryz.f196.body).getD Code.skip) ann196 Tryz.func196 (by kernel_rfl) [s_1, del_2] w k (by kernel_rfl) ((S196_vc s_1 del_2 k w).symm ▸ h)
theorem C196 (s_1 del_2 : Value) (k : Value → World → Prop) (w : World) (h : S196 s_1 del_2 k w) : callW Tryz.prog (.func (.func 196) #[] #[]) #[s_1, del_2] k w :=
  callW_calls ok196 (by simpa using S196_calls s_1 del_2 k w h)

/-! slices.IndexFunc[[]int,int] -/
def ann197 : Ann := [(13, Note.keep []), (26, Note.loop [8] [0, 1, 7]), (422, Note.keep [0, 1, 7, 8])]
def S197 (s_1 f_2 : Value) (k : Value → World → Prop) (w : World) : Prop :=
   opW Tryz.prog (Builtin.len_ #[25] 3 #[s_1]) (fun t7_3 w =>
   Loop1 (fun t8_5 w K_6 =>
   opW Tryz.prog (binS BinOp.lss 3 (Operand.tmp 8) (Operand.tmp 7) t8_5 t7_3) (fun t9_7 w =>
   condW t9_7
   (opW Tryz.prog (Instr.indexAt 25 s_1 t8_5) (fun t14_10 w =>
   opW Tryz.prog (Instr.loadAt 3 t14_10) (fun t15_11 w =>
   callW Tryz.prog f_2 #[t15_11] (fun t16_12 w =>
   condW t16_12
   (k t8_5 w)
   (opW Tryz.prog (binS BinOp.add 3 (Operand.tmp 8) (Operand.const (Value.int IntKind.i64 1)) t8_5 (Value.int IntKind.i64 1)) (fun t18_13 w =>
   loopK [] [] [s_1, f_2, t7_3] [s_1, f_2, t7_3] (K_6 t18_13 w)) w)) w) w) w)
   (k (Value.int IntKind.i64 (-1)) w)) w) (Value.int IntKind.i64 0) w) w
theorem S197_vc (s_1 f_2 : Value) (k : Value → World → Prop) (w : World) : vc Tryz.prog Tryz.f197.ntmps ann197 none ((Tryz.f197.body).getD Code.skip) 1 (params 0 [s_1, f_2]) [] (finQ Tryz.prog Tryz.f197.results.toList k) w = S197 s_1 f_2 k w := by kernel_rfl
theorem S197_calls (s_1 f_2 : Value) (k : Value → World → Prop) (w : World) (h : S197 s_1 f_2 k w) : Calls Tryz.prog 197 #[s_1, f_2] w (retP k) :=
  calls_of_vc (fn := Tryz.f197) (c := (Tryz.f197.body).getD Code.skip) ann197 Tryz.func197 (by kernel_rfl) [s_1, f_2] w k (by kernel_rfl) ((S197_vc s_1 f_2 k w).symm ▸ h)
theorem C197 (s_1 f_2 : Value) (k : Value → World → Prop) (w : World) (h : S197 s_1 f_2 k w) : callW Tryz.prog (.func (.func 197) #[] #[]) #[s_1, f_2] k w :=
  callW_calls ok197 (by simpa using S197_calls s_1 f_2 k w h)

/-! newswire/label.lacks[int]$1 -/
def ann198 : Ann := []
def S198 (x_1 x1_2 : Value) (k : Value → World → Prop) (w : World) : Prop :=
   opW Tryz.prog (Instr.loadAt 25 x1_2) (fun t4_3 w =>
   callW Tryz.prog (Value.func (Fn.func 199) #[] #[]) #[t4_3, x_1] (fun t6_4 w =>
   opW Tryz.prog (Op.unary UnOp.not t6_4) (fun t7_5 w =>
   k t7_5 w) w) w) w
theorem S198_vc (x_1 x1_2 : Value) (k : Value → World → Prop) (w : World) : vc Tryz.prog Tryz.f198.ntmps ann198 none ((Tryz.f198.body).getD Code.skip) 1 (params 0 [x_1, x1_2]) [] (finQ Tryz.prog Tryz.f198.results.toList k) w = S198 x_1 x1_2 k w := by kernel_rfl
theorem S198_calls (x_1 x1_2 : Value) (k : Value → World → Prop) (w : World) (h : S198 x_1 x1_2 k w) : Calls Tryz.prog 198 #[x_1, x1_2] w (retP k) :=
  calls_of_vc (fn := Tryz.f198) (c := (Tryz.f198.body).getD Code.skip) ann198 Tryz.func198 (by kernel_rfl) [x_1, x1_2] w k (by kernel_rfl) ((S198_vc x_1 x1_2 k w).symm ▸ h)
theorem C198 (x_1 x1_2 : Value) (k : Value → World → Prop) (w : World) (h : S198 x_1 x1_2 k w) : callW Tryz.prog (.func (.func 198) #[] #[x1_2]) #[x_1] k w :=
  callW_calls ok198 (by simpa using S198_calls x_1 x1_2 k w h)

/-! slices.Contains[[]int,int] -/
def ann199 : Ann := []
def S199 (s_1 v_2 : Value) (k : Value → World → Prop) (w : World) : Prop :=
   callW Tryz.prog (Value.func (Fn.func 202) #[] #[]) #[s_1, v_2] (fun t7_3 w =>
   opW Tryz.prog (binS BinOp.geq 3 (Operand.tmp 7) (Operand.const (Value.int IntKind.i64 0)) t7_3 (Value.int IntKind.i64 0)) (fun t8_4 w =>
   k t8_4 w) w) w
theorem S199_vc (s_1 v_2 : Value) (k : Value → World → Prop) (w : World) : vc Tryz.prog Tryz.f199.ntmps ann199 none ((Tryz.f199.body).getD Code.skip) 1 (params 0 [s_1, v_2]) [] (finQ Tryz.prog Tryz.f199.results.toList k) w = S199 s_1 v_2 k w := by kernel_rfl
theorem S199_calls (s_1 v_2 : Value) (k : Value → World → Prop) (w : World) (h : S199 s_1 v_2 k w) : Calls Tryz.prog 199 #[s_1, v_2] w (retP k) :=
  calls_of_vc (fn := Tryz.f199) (c := (Tryz.f199.body).getD Code.skip) ann199 Tryz.func199 (by kernel_rfl) [s_1, v_2] w k (by kernel_rfl) ((S199_vc s_1 v_2 k w).symm ▸ h)
theorem C199 (s_1 v_2 : Value) (k : Value → World → Prop) (w : World) (h : S199 s_1 v_2 k w) : callW Tryz.prog (.func (.func 199) #[] #[]) #[s_1, v_2] k w :=
  callW_calls ok199 (by simpa using S199_calls s_1 v_2 k w h)

/-! slices.IndexFunc[[]newswire/api.Confirmed,newswire/api.Confirmed] -/
def ann200 : Ann := [(13, Note.keep []), (26, Note.loop [8] [0, 1, 7]), (422, Note.keep [0, 1, 7, 8])]
def S200 (s_1 f_2 : Value) (k : Value → World → Prop) (w : World) : Prop :=
   opW Tryz.prog (Builtin.len_ #[26] 3 #[s_1]) (fun t7_3 w =>
   Loop1 (fun t8_5 w K_6 =>
   opW Tryz.prog (binS BinOp.lss 3 (Operand.tmp 8) (Operand.tmp 7) t8_5 t7_3) (fun t9_7 w =>
   condW t9_7
   (opW Tryz.prog (Instr.indexAt 26 s_1 t8_5) (fun t14_10 w =>
   opW Tryz.prog (Instr.loadAt 121 t14_10) (fun t15_11 w =>
   callW Tryz.prog f_2 #[t15_11] (fun t16_12 w =>
   condW t16_12
   (k t8_5 w)
   (opW Tryz.prog (binS BinOp.add 3 (Operand.tmp 8) (Operand.const (Value.int IntKind.i64 1)) t8_5 (Value.int IntKind.i64 1)) (fun t18_13 w =>
   loopK [] [] [s_1, f_2, t7_3] [s_1, f_2, t7_3] (K_6 t18_13 w)) w)) w) w) w)
   (k (Value.int IntKind.i64 (-1)) w)) w) (Value.int IntKind.i64 0) w) w
theorem S200_vc (s_1 f_2 : Value) (k : Value → World → Prop) (w : World) : vc Tryz.prog Tryz.f200.ntmps ann200 none ((Tryz.f200.body).getD Code.skip) 1 (params 0 [s_1, f_2]) [] (finQ Tryz.prog Tryz.f200.results.toList k) w = S200 s_1 f_2 k w := by kernel_rfl
theorem S200_calls (s_1 f_2 : Value) (k : Value → World → Prop) (w : World) (h : S200 s_1 f_2 k w) : Calls Tryz.prog 200 #[s_1, f_2] w (retP k) :=
  calls_of_vc (fn := Tryz.f200) (c := (Tryz.f200.body).getD Code.skip) ann200 Tryz.func200 (by kernel_rfl) [s_1, f_2] w k (by kernel_rfl) ((S200_vc s_1 f_2 k w).symm ▸ h)
theorem C200 (s_1 f_2 : Value) (k : Value → World → Prop) (w : World) (h : S200 s_1 f_2 k w) : callW Tryz.prog (.func (.func 200) #[] #[]) #[s_1, f_2] k w :=
  callW_calls ok200 (by simpa using S200_calls s_1 f_2 k w h)

/-! slices.IndexFunc[[]newswire/api.Quorum,newswire/api.Quorum] -/
def ann201 : Ann := [(13, Note.keep []), (26, Note.loop [8] [0, 1, 7]), (422, Note.keep [0, 1, 7, 8])]
def S201 (s_1 f_2 : Value) (k : Value → World → Prop) (w : World) : Prop :=
   opW Tryz.prog (Builtin.len_ #[59] 3 #[s_1]) (fun t7_3 w =>
   Loop1 (fun t8_5 w K_6 =>
   opW Tryz.prog (binS BinOp.lss 3 (Operand.tmp 8) (Operand.tmp 7) t8_5 t7_3) (fun t9_7 w =>
   condW t9_7
   (opW Tryz.prog (Instr.indexAt 59 s_1 t8_5) (fun t14_10 w =>
   opW Tryz.prog (Instr.loadAt 87 t14_10) (fun t15_11 w =>
   callW Tryz.prog f_2 #[t15_11] (fun t16_12 w =>
   condW t16_12
   (k t8_5 w)
   (opW Tryz.prog (binS BinOp.add 3 (Operand.tmp 8) (Operand.const (Value.int IntKind.i64 1)) t8_5 (Value.int IntKind.i64 1)) (fun t18_13 w =>
   loopK [] [] [s_1, f_2, t7_3] [s_1, f_2, t7_3] (K_6 t18_13 w)) w)) w) w) w)
   (k (Value.int IntKind.i64 (-1)) w)) w) (Value.int IntKind.i64 0) w) w
theorem S201_vc (s_1 f_2 : Value) (k : Value → World → Prop) (w : World) : vc Tryz.prog Tryz.f201.ntmps ann201 none ((Tryz.f201.body).getD Code.skip) 1 (params 0 [s_1, f_2]) [] (finQ Tryz.prog Tryz.f201.results.toList k) w = S201 s_1 f_2 k w := by kernel_rfl
theorem S201_calls (s_1 f_2 : Value) (k : Value → World → Prop) (w : World) (h : S201 s_1 f_2 k w) : Calls Tryz.prog 201 #[s_1, f_2] w (retP k) :=
  calls_of_vc (fn := Tryz.f201) (c := (Tryz.f201.body).getD Code.skip) ann201 Tryz.func201 (by kernel_rfl) [s_1, f_2] w k (by kernel_rfl) ((S201_vc s_1 f_2 k w).symm ▸ h)
theorem C201 (s_1 f_2 : Value) (k : Value → World → Prop) (w : World) (h : S201 s_1 f_2 k w) : callW Tryz.prog (.func (.func 201) #[] #[]) #[s_1, f_2] k w :=
  callW_calls ok201 (by simpa using S201_calls s_1 f_2 k w h)

/-! slices.Index[[]int,int] -/
def ann202 : Ann := [(13, Note.keep []), (26, Note.loop [8] [0, 1, 7]), (422, Note.keep [0, 1, 7, 8])]
def S202 (s_1 v_2 : Value) (k : Value → World → Prop) (w : World) : Prop :=
   opW Tryz.prog (Builtin.len_ #[25] 3 #[s_1]) (fun t7_3 w =>
   Loop1 (fun t8_5 w K_6 =>
   opW Tryz.prog (binS BinOp.lss 3 (Operand.tmp 8) (Operand.tmp 7) t8_5 t7_3) (fun t9_7 w =>
   condW t9_7
   (opW Tryz.prog (Instr.indexAt 25 s_1 t8_5) (fun t14_10 w =>
   opW Tryz.prog (Instr.loadAt 3 t14_10) (fun t15_11 w =>
   opW Tryz.prog (binS BinOp.eql 3 (Operand.tmp 11) (Operand.tmp 15) v_2 t15_11) (fun t16_12 w =>
   condW t16_12
   (k t8_5 w)
   (opW Tryz.prog (binS BinOp.add 3 (Operand.tmp 8) (Operand.const (Value.int IntKind.i64 1)) t8_5 (Value.int IntKind.i64 1)) (fun t18_13 w =>
   loopK [] [] [s_1, v_2, t7_3] [s_1, v_2, t7_3] (K_6 t18_13 w)) w)) w) w) w)
   (k (Value.int IntKind.i64 (-1)) w)) w) (Value.int IntKind.i64 0) w) w
theorem S202_vc (s_1 v_2 : Value) (k : Value → World → Prop) (w : World) : vc Tryz.prog Tryz.f202.ntmps ann202 none ((Tryz.f202.body).getD Code.skip) 1 (params 0 [s_1, v_2]) [] (finQ Tryz.prog Tryz.f202.results.toList k) w = S202 s_1 v_2 k w := by kernel_rfl
theorem S202_calls (s_1 v_2 : Value) (k : Value → World → Prop) (w : World) (h : S202 s_1 v_2 k w) : Calls Tryz.prog 202 #[s_1, v_2] w (retP k) :=
  calls_of_vc (fn := Tryz.f202) (c := (Tryz.f202.body).getD Code.skip) ann202 Tryz.func202 (by kernel_rfl) [s_1, v_2] w k (by kernel_rfl) ((S202_vc s_1 v_2 k w).symm ▸ h)
theorem C202 (s_1 v_2 : Value) (k : Value → World → Prop) (w : World) (h : S202 s_1 v_2 k w) : callW Tryz.prog (.func (.func 202) #[] #[]) #[s_1, v_2] k w :=
  callW_calls ok202 (by simpa using S202_calls s_1 v_2 k w h)

end
end Go.Proofs.YtfkfkldhcignbaaGreatDoor
/- More laws of memory. -/
set_option linter.unusedSimpArgs false
set_option linter.unusedVariables false
namespace Go.V
open Go Go.RowKit
section
variable {P : Program} {k : Value → World → Prop} {w w' : World} {b : Nat} {t : TypeId}
/-- only block b may differ -/
structure Only (b : Nat) (w w' : World) : Prop where
  size : w'.heap.size = w.heap.size
  rest : ∀ B, B ≤ b → Below B w w'
  other : ∀ b', b' ≠ b → w'.heap[b']? = w.heap[b']?
theorem Only.refl (b : Nat) (w : World) : Only b w w := ⟨rfl, fun _ _ => Below.refl _ _, fun _ _ => rfl⟩
theorem Only.trans {w'' : World} (h : Only b w w') (h' : Only b w' w'') : Only b w w'' :=
  ⟨h'.size.trans h.size, fun B hB => (h.rest B hB).trans (h'.rest B hB), fun b' hb' => (h'.other b' hb').trans (h.other b' hb')⟩
theorem Only.setCell (b i : Nat) (w : World) (u : Value) : Only b w (w.setCell ⟨b, i, none⟩ u) :=
  ⟨by simp, fun B hB => (Below.refl _ _).setCell hB _, fun b' hb' => Below.heap_setCell _ _ _ _ hb'⟩
theorem only_setCells : ∀ (vs : List Value) (o : Nat) (w : World), Only b w (setCells w b o vs)
  | [], o, w => Only.refl _ _
  | v :: r, o, w => (Only.setCell b o w v).trans (only_setCells r (o + 1) _)
theorem rowAt_setCells : ∀ (vs pre old : List Value) (w : World), RowAt w b t (pre ++ old) → vs.length = old.length → RowAt (setCells w b pre.length vs) b t (pre ++ vs)
  | [], pre, old, w, h, hl => by
    have : old = [] := List.eq_nil_of_length_eq_zero hl.symm
    subst this; exact h
  | v :: r, pre, [], w, h, hl => by simp at hl
  | v :: r, pre, u :: old, w, h, hl => by
    have h1 := h.set pre.length v
    rw [List.set_append_right _ _ (Nat.le_refl _), Nat.sub_self, List.set_cons_zero] at h1
    have h2 := rowAt_setCells r (pre ++ [v]) old _ (by simpa using h1) (by simpa using hl)
    simpa [setCells] using h2
theorem w_storeRow {vs old : List Value} (hr : RowAt w b t old) (hl : vs.length = old.length) (hv : ∀ v ∈ vs, v.oneCell' = true) (hs : sizeT P t = vs.length) (hk : known P t = true)
    (h : ∀ w', Only b w w' → RowAt w' b t vs → k undef w') : opU P (Instr.storeAt t (.pointer (some ⟨b, 0, none⟩)) (.agg vs.toArray)) k w := by
  rw [w_storeAgg hv hs hk (fun j hj => ?_) (fun j hj => hr.free _)]
  · exact h _ (only_setCells vs 0 w) (rowAt_setCells vs [] old w hr hl)
  · obtain ⟨u, hu⟩ : ∃ u, old[j]? = some u := ⟨old[j], List.getElem?_eq_getElem (by omega)⟩
    exact ⟨u, by rw [Nat.zero_add]; exact hr.cell hu⟩
/-- a variable of a struct type, made and set -/
theorem w_var {vs : List Value} (hz : hasZero P t = true) (hzl : (zeroT P t).cells.toList.length = vs.length) (hv : ∀ v ∈ vs, v.oneCell' = true) (hs : sizeT P t = vs.length) (hk : known P t = true) {kk : Value → Value → World → Prop}
    (h : ∀ w', Below w.heap.size w w' → w'.heap.size = w.heap.size + 1 → RowAt w' w.heap.size t vs → kk (.pointer (some ⟨w.heap.size, 0, none⟩)) undef w') :
    opW P (Instr.alloc t true (.tuple #[])) (fun x w => opU P (Instr.storeAt t x (.agg vs.toArray)) (kk x) w) w := by
  refine w_allocN hz fun w1 hb1 hsz1 hr1 => ?_
  refine w_storeRow hr1 hzl.symm hv hs hk fun w2 ho2 hr2 => ?_
  exact h w2 (hb1.trans (ho2.rest _ (Nat.le_refl _))) (by rw [ho2.size, hsz1]) hr2
/-- of the blocks that were there only those of p may differ -/
structure Off (p : Nat → Prop) (w w' : World) : Prop where
  size : w.heap.size ≤ w'.heap.size
  block : ∀ b, b < w.heap.size → ¬ p b → w'.heap[b]? = w.heap[b]?
theorem Off.refl (p : Nat → Prop) (w : World) : Off p w w := ⟨Nat.le_refl _, fun _ _ _ => rfl⟩
theorem Off.trans {p : Nat → Prop} {a b c : World} (h : Off p a b) (h' : Off p b c) : Off p a c :=
  ⟨Nat.le_trans h.size h'.size, fun i hi hp => (h'.block i (Nat.lt_of_lt_of_le hi h.size) hp).trans (h.block i hi hp)⟩
theorem Off.mono {p q : Nat → Prop} {a b : World} (h : Off p a b) (hpq : ∀ i, i < a.heap.size → p i → q i) : Off q a b := ⟨h.size, fun i hi hq => h.block i hi fun hp => hq (hpq i hi hp)⟩
theorem Off.below {p : Nat → Prop} {a b : World} (h : Below a.heap.size a b) : Off p a b := ⟨h.size, fun i hi _ => h.block i hi⟩
theorem Off.set {p : Nat → Prop} {g i : Nat} {w : World} {u : Value} (h : p g) : Off p w (w.setCell ⟨g, i, none⟩ u) := ⟨by simp, fun b _ hb => Below.heap_setCell _ _ _ _ (fun hh => hb (hh ▸ h))⟩
theorem Off.only {p : Nat → Prop} {g : Nat} {w w' : World} (h : Only g w w') (hg : p g) : Off p w w' := ⟨Nat.le_of_eq h.size.symm, fun b _ hb => h.other b fun hh => hb (hh ▸ hg)⟩
theorem Off.grown {p : Nat → Prop} {row : Option Nat} {w w' : World} (h : w.grownBy w' row) (hg : ∀ b, row = some b → p b) : Off p w w' := ⟨h.size, fun b hb hp => h.block b hb fun hh => hp (hg b hh.symm)⟩
theorem RowAt.off {p : Nat → Prop} {vs : List Value} (h : RowAt w b t vs) (ho : Off p w w') (hp : ¬ p b) : RowAt w' b t vs := h.same (ho.block b h.lt hp)
end
end Go.V
/- Slices of the call's own that may begin inside their block. -/
set_option linter.unusedSimpArgs false
set_option linter.unusedVariables false
namespace Go.V
open Go Go.RowKit
section
variable {P : Program} {k : Value → World → Prop} {w w' : World} {t e : TypeId} {α : Type} {F : Fl α}
theorem joinW_use1 {J : Value → World → Prop} {B : (Value → World → Prop) → Prop} (Pre : Value → World → Prop) (h1 : ∀ a w, Pre a w → J a w) (h2 : ∀ J', (∀ a w, Pre a w → J' a w) → B J') : joinW J B := h2 J h1
theorem joinW_use0 {J : World → Prop} {B : (World → Prop) → Prop} (Pre : World → Prop) (h1 : ∀ w, Pre w → J w) (h2 : ∀ J', (∀ w, Pre w → J' w) → B J') : joinW J B := h2 J h1
end
end Go.V
/- Slices: none and empty ones; copies. -/
set_option linter.unusedSimpArgs false
set_option linter.unusedVariables false
namespace Go.V
open Go Go.RowKit
section
variable {P : Program} {k : Value → World → Prop} {w w' : World} {t e : TypeId} {α : Type} {F : Fl α}
theorem run_eqlNil {ox oy : Operand} {a : Option Addr} {n c : Nat} (h : P.underlying t = some (.slice e)) (w : World) : (binS .eql t ox oy (.slice a n c) (.slice none 0 0)).run P w = .ok (.bool a.isNone) w := by
  have hd : Op.maxDepth = 9999 + 1 := rfl
  have h1 : (Op.equal t (.slice a n c) (.slice none 0 0)).run P w = .ok a.isNone w := by
    unfold Op.equal
    rw [hd]
    unfold Op.equalIn
    rw [Sem.run_bind, run_underlying h]
    cases a <;> rfl
  cases a <;> simp [binS, eqGuard, binOp, h1, Sem.run_bind, Result.andThen]
theorem w_eqlNil {ox oy : Operand} {a : Option Addr} {n c : Nat} (h : P.underlying t = some (.slice e)) : opW P (binS .eql t ox oy (.slice a n c) (.slice none 0 0)) k w = k (.bool a.isNone) w := opW_ok (run_eqlNil h w)
theorem w_build0 {size bytes : Nat} {z : Value} (h : STy P t e size bytes z) : opW P (Instr.buildSlice t 0 #[]) k w = k (.slice (some ⟨w.heap.size, 0, none⟩) 0 0) (w.alloc (.cells #[] e (0, 0))) := by
  obtain ⟨i, hi, hz, hs, hby⟩ := h.info
  have h0 : Array.range 0 = #[] := rfl
  exact opW_ok (by simp [Instr.buildSlice, run_underlying h.u, sizeOf, run_typeInfo hi, Sem.run_bind, Result.andThen, Instr.fill, newRow, h0])
theorem cells_flat {b : Nat} : ∀ (l : List α) (o : Nat), (∀ i x, l[i]? = some x → Cells w b (o + i * F.sz) (F.e x)) → Cells w b o (flat F l)
  | [], o, _ => fun j u hu => by simp [flat] at hu
  | x :: r, o, h => fun j u hu => by
    simp only [flat] at hu
    by_cases hj : j < F.sz
    · rw [List.getElem?_append_left (by rw [F.len]; exact hj)] at hu
      have := h 0 x rfl j u hu
      rwa [Nat.zero_mul, Nat.add_zero] at this
    · rw [List.getElem?_append_right (by rw [F.len]; omega), F.len] at hu
      have := cells_flat r (o + F.sz) (fun i y hy => by
        have := h (i + 1) y (by simpa using hy)
        rw [Nat.add_mul, Nat.one_mul] at this
        rwa [show o + F.sz + i * F.sz = o + (i * F.sz + F.sz) by omega]) (j - F.sz) u hu
      rwa [show o + F.sz + (j - F.sz) = o + j by omega] at this
theorem IsSl.flatAt {v : Value} {l : List α} (h : IsSl F w v l) (hne : l ≠ []) : ∃ b o c, v = .slice (some ⟨b, o, none⟩) l.length c ∧ Cells w b o (flat F l) := by
  obtain ⟨a, c, rfl, hc, hx⟩ := h
  obtain ⟨x, hx0⟩ : ∃ x, l[0]? = some x := by
    cases l with
    | nil => exact absurd rfl hne
    | cons x r => exact ⟨x, rfl⟩
  obtain ⟨b, o, rfl, _⟩ := hx 0 x hx0
  refine ⟨b, o, c, rfl, cells_flat l o fun i y hy => ?_⟩
  obtain ⟨b', o', hh, hcl⟩ := hx i y hy
  simp only [Option.some.injEq, Addr.mk.injEq, and_true] at hh
  obtain ⟨rfl, rfl⟩ := hh
  exact hcl
end
end Go.V
/- More of append and of slicing. -/
set_option linter.unusedSimpArgs false
set_option linter.unusedVariables false
namespace Go.V
open Go Go.RowKit
section
variable {P : Program} {k : Value → World → Prop} {w w' : World} {t e : TypeId} {α : Type} {F : Fl α}
theorem oneCell_flat (hone : ∀ x, ∀ u ∈ F.e x, u.oneCell' = true) : ∀ l : List α, ∀ u ∈ flat F l, u.oneCell' = true := by
  intro l
  induction l with
  | nil => intro u hu; simp [flat] at hu
  | cons x r ih =>
    intro u hu
    rcases List.mem_append.1 hu with h | h
    · exact hone x u h
    · exact ih u h
theorem run_sliceFrom {n c i : Nat} {q : IntKind} (ht : P.underlying t = some (.slice (P.elem t))) (hk : known P (P.elem t) = true) (hi : i ≤ n) {a : Option Addr} (w : World) :
    (Instr.sliceAt t (.slice a n c) (some (.int q i)) none none).run P w = .ok (.slice (if c = i then a else a.map (·.add (i * sizeT P (P.elem t)))) (n - i) (c - i)) w := by
  rw [run_sliceAt_slice _ _ _ _ _ _ ht, run_slice_l w t _ n c ht q i (by omega) (by omega), run_sizeOf hk]
  simp [Result.andThen, sliced]
theorem run_indexArr {n b o : Nat} {q : IntKind} {i : Int} (ht : P.underlying t = some (.array n e)) (he : known P e = true) (h0 : 0 ≤ i) (h1 : i < n) (w : World) :
    (Instr.indexAt t (.pointer (some ⟨b, o, none⟩)) (.int q i)).run P w = .ok (.pointer (some ⟨b, o + i.toNat * sizeT P e, none⟩)) w := by
  simp [Instr.indexAt, Instr.sureAddr, Sem.run_bind, Result.andThen, run_underlying ht, asIntOf, h0, h1, run_sizeOf he, add_none]
end
end Go.V
/- Reading a field of an element, or an element, in one step. -/
set_option linter.unusedSimpArgs false
set_option linter.unusedVariables false
namespace Go.V
open Go Go.RowKit
section
variable {P : Program} {k : Value → World → Prop} {K : Value → Prop} {S : World → Prop} {w : World} {α : Type} {F : Fl α} {v u : Value} {l : List α} {t st ft : TypeId} {f x : Nat} {q : IntKind} {i : Int} {a : α}
theorem IsSl.at (hs : IsSl F w v l) (h0 : 0 ≤ i) (hx : l[i.toNat]? = some a) : ∃ b o c, v = .slice (some ⟨b, o, none⟩) l.length c ∧ i < l.length ∧ Cells w b (o + i.toNat * F.sz) (F.e a) := by
  obtain ⟨ad, c, rfl, hc, hcell⟩ := hs
  obtain ⟨b, o, rfl, hcl⟩ := hcell _ _ hx
  exact ⟨b, o, c, rfl, by have := (List.getElem?_eq_some_iff.1 hx).1; omega, hcl⟩
theorem w_get (h : isSliceT P t = true) (he : known P (elemT P t) = true) (hz : sizeT P (elemT P t) = F.sz) (hf : fieldOff P st f = some x) (hg : isAggT P ft = false) (hk : known P ft = true)
    (hs : IsSl F w v l) (h0 : 0 ≤ i) (hx : l[i.toNat]? = some a) (hu : (F.e a)[x]? = some u) :
    opW P (Instr.indexAt t v (.int q i)) (fun p w => opW P (Instr.fieldAt st p f) (fun p w => opW P (Instr.loadAt ft p) k w) w) w = k u w := by
  obtain ⟨b, o, c, rfl, hlt, hcl⟩ := hs.at h0 hx
  rw [opW_ok (run_index h he h0 hlt w), hz, w_field hf, w_load hg hk (by rw [hcl x u hu])]
theorem t_get (h : isSliceT P t = true) (he : known P (elemT P t) = true) (hz : sizeT P (elemT P t) = F.sz) (hf : fieldOff P st f = some x) (hg : isAggT P ft = false) (hk : known P ft = true)
    (hs : IsSl F w v l) (h0 : 0 ≤ i) (hx : l[i.toNat]? = some a) (hu : (F.e a)[x]? = some u) :
    takeW P anyW (Instr.indexAt t v (.int q i)) (fun p => takeW P anyW (Instr.fieldAt st p f) (fun p => takeW P (sameW w) (Instr.loadAt ft p) K w) w) w = K u := by
  obtain ⟨b, o, c, rfl, hlt, hcl⟩ := hs.at h0 hx
  rw [takeW_pure (fun w => run_index h he h0 hlt w), hz, t_field hf, x_load hg hk (by rw [hcl x u hu])]
theorem w_getE (h : isSliceT P t = true) (he : known P (elemT P t) = true) (hz : sizeT P (elemT P t) = F.sz) (hg : isAggT P ft = false) (hk : known P ft = true)
    (hs : IsSl F w v l) (h0 : 0 ≤ i) (hx : l[i.toNat]? = some a) (hu : (F.e a)[0]? = some u) :
    opW P (Instr.indexAt t v (.int q i)) (fun p w => opW P (Instr.loadAt ft p) k w) w = k u w := by
  obtain ⟨b, o, c, rfl, hlt, hcl⟩ := hs.at h0 hx
  rw [opW_ok (run_index h he h0 hlt w), hz, w_load hg hk (by rw [← hcl 0 u hu]; rfl)]
theorem t_getE (h : isSliceT P t = true) (he : known P (elemT P t) = true) (hz : sizeT P (elemT P t) = F.sz) (hg : isAggT P ft = false) (hk : known P ft = true)
    (hs : IsSl F w v l) (h0 : 0 ≤ i) (hx : l[i.toNat]? = some a) (hu : (F.e a)[0]? = some u) :
    takeW P anyW (Instr.indexAt t v (.int q i)) (fun p => takeW P (sameW w) (Instr.loadAt ft p) K w) w = K u := by
  obtain ⟨b, o, c, rfl, hlt, hcl⟩ := hs.at h0 hx
  rw [takeW_pure (fun w => run_index h he h0 hlt w), hz, x_load hg hk (by rw [← hcl 0 u hu]; rfl)]
theorem w_getA (h : isSliceT P t = true) (he : known P (elemT P t) = true) (hz : sizeT P (elemT P t) = F.sz) (hg : isAggT P ft = true) (hk : known P ft = true) (hft : sizeT P ft = F.sz)
    (hs : IsSl F w v l) (h0 : 0 ≤ i) (hx : l[i.toNat]? = some a) :
    opW P (Instr.indexAt t v (.int q i)) (fun p w => opW P (Instr.loadAt ft p) k w) w = k (.agg (F.e a).toArray) w := by
  obtain ⟨b, o, c, rfl, hlt, hcl⟩ := hs.at h0 hx
  rw [opW_ok (run_index h he h0 hlt w), hz, w_loadAgg hg hk (by rw [hft, F.len]) hcl]
theorem t_getA (h : isSliceT P t = true) (he : known P (elemT P t) = true) (hz : sizeT P (elemT P t) = F.sz) (hg : isAggT P ft = true) (hk : known P ft = true) (hft : sizeT P ft = F.sz)
    (hs : IsSl F w v l) (h0 : 0 ≤ i) (hx : l[i.toNat]? = some a) :
    takeW P anyW (Instr.indexAt t v (.int q i)) (fun p => takeW P (sameW w) (Instr.loadAt ft p) K w) w = K (.agg (F.e a).toArray) := by
  obtain ⟨b, o, c, rfl, hlt, hcl⟩ := hs.at h0 hx
  rw [takeW_pure (fun w => run_index h he h0 hlt w), hz, x_loadAgg hg hk (by rw [hft, F.len]) hcl]
end

/-! ### slices of the call's own, nil or at the head of their block -/
section
variable {P : Program} {k : Value → World → Prop} {w w' : World} {α : Type} {F : Fl α} {v : Value} {l : List α} {t e : TypeId} {B : Nat}
/-- the block of v -/
def isOf (v : Value) (b : Nat) : Prop := v.ownBlock = some b
theorem run_append_own2 {size bytes : Nat} {z : Value} {ty : TypeId} (h : STy P t e size bytes z) {n : Nat} {xs : List Value} (hown : w.ownsRow B e size v n xs)
    (a : Addr) (m c : Nat) (news : List Value) (hl : news.length = m * size) (hnews : ∀ j u, news[j]? = some u → w.cell? (a.add j) = some u) (h1 : ∀ u ∈ news, u.oneCell' = true)
    (h63 : n + m ≤ maxLen) (hbytes : (n + m) * bytes ≤ 140737488355328) (hbase : B ≤ w.heap.size) :
    ∃ v' w', (Builtin.append_ #[t, t] ty #[v, .slice (some a) m c]).run P w = .ok v' w' ∧ w'.ownsRow B e size v' (n + m) (xs ++ news) ∧ w.grownBy w' v.ownBlock ∧ (∀ b, isOf v' b → isOf v b ∨ w.heap.size ≤ b) ∧
      (v' = .slice none 0 0 ↔ v = .slice none 0 0 ∧ m = 0) := by
  obtain ⟨i, hi, hz, hs, hby⟩ := h.info
  obtain ⟨v', w', hr, ho, hg, hnn⟩ := run_append_own (P := P) w (ty := ty) B t e i z size bytes h.u hi hz hs hby h.zs h.pos v n xs hown a m c news hl hnews h1 h63 hbytes hbase
  refine ⟨v', w', hr, ho, hg, fun b hb => ?_, hnn⟩
  have hm : maxLen ≤ 9223372036854775807 := by decide
  rcases hown.2 with ⟨rfl, hn⟩ | ⟨g, cap, cur, rfl, hgb, hgg, hnc, hcm, hcs, htk⟩
  · subst hn
    obtain ⟨v2, w2, hr2, ho2, _, _⟩ := run_append_own (P := P) w (ty := ty) w.heap.size t e i z size bytes h.u hi hz hs hby h.zs h.pos (.slice none 0 0) 0 [] (World.ownsRow_nil w _ e size) a m c news hl hnews h1 (by omega) hbytes (Nat.le_refl _)
    rw [hr] at hr2
    simp only [Result.ok.injEq] at hr2
    obtain ⟨rfl, rfl⟩ := hr2
    exact .inr (World.ownsRow.lt ho2 b hb).1
  · by_cases hroom : n + m ≤ cap
    · have := run_append_room (P := P) w t ty e i h.u hi g n cap cur hgg a m c news (by rw [hs]; exact hl) hnews h1 hroom (by rw [hs, hl, ← Nat.add_mul, hcs]; exact Nat.mul_le_mul_right _ hroom)
      rw [hr] at this
      simp only [Result.ok.injEq] at this
      rw [this.1] at hb
      exact .inl hb
    · have := run_append_grow (P := P) w t ty e i z h.u hi hz ⟨g, 0, none⟩ n cap xs (by rw [hown.1, hs]) (fun j y hy => hown.cells (g := g) rfl j y hy) a m c news (by rw [hs]; exact hl) hnews (by omega) (by omega) (growslice_fits (by omega) (by rw [hby]; exact hbytes))
      rw [hr] at this
      simp only [Result.ok.injEq] at this
      rw [this.1] at hb
      unfold isOf Value.ownBlock at hb
      simp at hb
      exact .inr (by omega)
def Mine (F : Fl α) (e : TypeId) (w : World) (B : Nat) (v : Value) (l : List α) : Prop := w.ownsRow B e F.sz v l.length (flat F l)
theorem Mine.nil (w : World) (B : Nat) : Mine F e w B (.slice none 0 0) [] := World.ownsRow_nil w B e F.sz
theorem Mine.sl (h : Mine F e w B v l) : IsSl F w v l := IsSl.of_own h
theorem Mine.ge (h : Mine F e w B v l) {b : Nat} (hb : isOf v b) : B ≤ b ∧ b < w.heap.size := World.ownsRow.lt h b hb
theorem Mine.grown {row : Option Nat} (h : Mine F e w B v l) (hg : w.grownBy w' row) (hne : ∀ b, isOf v b → row ≠ some b) : Mine F e w' B v l := by
  refine World.ownsRow.kept h hg ?_
  cases hv : v.ownBlock with
  | none => exact .inl rfl
  | some b => exact .inr fun hh => hne b hv hh.symm
theorem Mine.below (h : Mine F e w B v l) (hb : Below w.heap.size w w') : Mine F e w' B v l :=
  Mine.grown (row := none) h ⟨hb.os, hb.tape, hb.output, hb.size, fun k hk _ => hb.block k hk⟩ (by simp)
theorem Mine.off {p : Nat → Prop} (h : Mine F e w B v l) (ho : Off p w w') (hp : ∀ b, isOf v b → ¬ p b) : Mine F e w' B v l := by
  refine ⟨h.1, ?_⟩
  rcases h.2 with hn | ⟨g, cap, cur, rfl, hb, hgg, rest⟩
  · exact .inl hn
  · exact .inr ⟨g, cap, cur, rfl, hb, (ho.block g (Array.getElem?_eq_some_iff.1 hgg).1 (hp g rfl)).trans hgg, rest⟩
theorem Mine.at (h : Mine F e w B v l) (hne : l ≠ []) : ∃ g c, v = .slice (some ⟨g, 0, none⟩) l.length c ∧ isOf v g ∧ OwnS F w B e g c l := by
  have h0 := h
  rcases h.2 with ⟨_, hn⟩ | ⟨g, cap, cur, rfl, _⟩
  · exact absurd (List.eq_nil_of_length_eq_zero hn) hne
  · exact ⟨g, cap, rfl, rfl, h0⟩
/-- one more element: a slice of one, appended -/
theorem Mine.push {bytes : Nat} {z xv : Value} {x : α} {ty : TypeId} {K : Value → World → Prop} (h : STy P t e F.sz bytes z) (hone : ∀ u ∈ F.e x, u.oneCell' = true) (hxc : xv.cells.toList = F.e x) (hsm : F.sz ≤ 16777216)
    (hown : Mine F e w B v l) (hB : B ≤ w.heap.size) (hl : l.length + 1 ≤ maxLen) (hbytes : (l.length + 1) * bytes ≤ 140737488355328)
    (hk : ∀ v' w', Mine F e w' B v' (l ++ [x]) → Below B w w' → Off (isOf v) w w' → (∀ b, isOf v' b → isOf v b ∨ w.heap.size ≤ b) → K v' w') :
    opW P (Instr.buildSlice t 1 #[(0, xv)]) (fun s w => opW P (Builtin.append_ #[t, t] ty #[v, s]) (fun r w => K r w) w) w := by
  have hcs : xv.cells.size = F.sz := by rw [← F.len x, ← hxc]; simp
  rw [w_one h hcs hsm]
  have hb1 : Below w.heap.size w (w.alloc (.cells xv.cells e (0, 0))) := (Below.refl _ _).alloc (Nat.le_refl _) _
  have ho1 := hown.below hb1
  obtain ⟨v', w', hr, ho, hg, hnew, _⟩ := run_append_own2 (P := P) (ty := ty) h ho1 ⟨w.heap.size, 0, none⟩ 1 1 (F.e x) (by simp [F.len]) (fun j u hu => by
      rw [← hxc] at hu
      rw [add_none]
      simp only [World.cell?, World.alloc_heap_new]
      simpa using hu) hone hl hbytes (Nat.le_trans hB hb1.size)
  rw [opW_ok hr]
  refine hk v' w' ?_ ?_ ?_ ?_
  · unfold Mine
    rw [List.length_append, flat_append, flat_one]; exact ho
  · exact (hb1.mono hB).grown hg (Nat.le_trans hB hb1.size) fun b hb => (ho1.ge hb).1
  · exact (Off.below hb1).trans (Off.grown hg fun b hb => hb)
  · intro b hb
    rcases hnew b hb with h | h
    · exact .inl h
    · exact .inr (Nat.le_trans hb1.size h)
/-- a store of one cell into one's own -/
theorem Mine.setE {ft : TypeId} {q : IntKind} {i : Int} {x y : α} {u : Value} {K : Value → World → Prop} (h : isSliceT P t = true) (he : known P (elemT P t) = true) (hz : sizeT P (elemT P t) = F.sz) (hF : F.sz = 1) (hs : sizeT P ft = 1) (hkn : known P ft = true)
    (hown : Mine F e w B v l) (h0 : 0 ≤ i) (hx : l[i.toNat]? = some x) (hu : F.e y = [u]) (hu1 : u.oneCell' = true)
    (hk : ∀ w', Mine F e w' B v (l.set i.toNat y) → Below B w w' → Off (isOf v) w w' → K undef w') :
    opW P (Instr.indexAt t v (.int q i)) (fun p w => opU P (Instr.storeAt ft p u) K w) w := by
  have hne : l ≠ [] := fun hh => by rw [hh] at hx; simp at hx
  obtain ⟨g, c, rfl, hof, ho⟩ := hown.at hne
  have hlt : i < l.length := by have := (List.getElem?_eq_some_iff.1 hx).1; omega
  rw [opW_ok (run_index h he h0 hlt w), hz, hF, Nat.mul_one, Nat.zero_add]
  obtain ⟨ho', hg', old, hold⟩ := ho.store hF hx hu
  rw [w_store hu1 hs hkn hold (ho.free _)]
  refine hk _ ?_ ?_ (Off.set hof)
  · unfold OwnS at ho'
    rw [List.length_set] at ho'
    unfold Mine
    rw [List.length_set]; exact ho'
  · exact (Below.refl _ _).setCell (ho.ge.1) _
end
end Go.V
/- More of slices: a head of one, appending nothing, an element of several cells stored; bools compared. -/
set_option linter.unusedSimpArgs false
set_option linter.unusedVariables false
namespace Go.V
open Go Go.RowKit
section
variable {P : Program} {k : Value → World → Prop} {K : Value → Prop} {w w' : World} {α : Type} {F : Fl α} {v : Value} {l : List α} {t e : TypeId} {B : Nat}
theorem run_append_zero {ty : TypeId} {size bytes : Nat} {z : Value} (h : STy P t e size bytes z) {g o n cap c : Nat} {b : Option Addr} (hn : n ≤ cap) :
    (Builtin.append_ #[t, t] ty #[.slice (some ⟨g, o, none⟩) n cap, .slice b 0 c]).run P w = .ok (.slice (some ⟨g, o, none⟩) n cap) w := by
  obtain ⟨i, hi, hz, hs, hby⟩ := h.info
  have hf : (Builtin.firstCells i.size 0 (.slice b 0 c)).run P w = .ok #[] w := by
    cases b with
    | none => simp [Builtin.firstCells]
    | some a => simpa using run_firstCells_some (P := P) w i.size 0 a 0 c [] (by simp) (by simp)
  simp [Builtin.append_, run_underlying h.u, sizeOf, run_typeInfo hi, Builtin.lenOf, hn, hf, Sem.run_bind, Result.andThen, storeCells]
theorem t_loadAgg {S : World → Prop} {ft : TypeId} {b o : Nat} {vs : List Value} (h : isAggT P ft = true) (hk : known P ft = true) (hs : sizeT P ft = vs.length) (hw : Cells w b o vs) (hS : ∀ w', S w' → Cells w' b o vs) :
    takeW P S (Instr.loadAt ft (.pointer (some ⟨b, o, none⟩))) K w = K (.agg vs.toArray) :=
  takeW_eq (run_of_eq fun k => w_loadAgg h hk hs hw) fun w' hw' => run_of_eq fun k => w_loadAgg h hk hs (hS w' hw')
theorem rowAt_setMid {b : Nat} {e : TypeId} : ∀ (vs pre old post : List Value) (w : World), RowAt w b e (pre ++ old ++ post) → vs.length = old.length → RowAt (setCells w b pre.length vs) b e (pre ++ vs ++ post)
  | [], pre, old, post, w, h, hl => by
    have : old = [] := List.eq_nil_of_length_eq_zero hl.symm
    subst this; exact h
  | v :: r, pre, [], post, w, h, hl => by simp at hl
  | v :: r, pre, u :: old, post, w, h, hl => by
    have h1 := h.set pre.length v
    rw [List.append_assoc, List.set_append_right _ _ (Nat.le_refl _), Nat.sub_self, List.cons_append, List.set_cons_zero] at h1
    have h2 := rowAt_setMid r (pre ++ [v]) old post _ (by simpa using h1) (by simpa using hl)
    simpa [setCells] using h2
theorem flat_split {l : List α} {i : Nat} {x : α} (hx : l[i]? = some x) : flat F l = flat F (l.take i) ++ F.e x ++ flat F (l.drop (i + 1)) := by
  have hlt : i < l.length := (List.getElem?_eq_some_iff.1 hx).1
  have : l = l.take i ++ [x] ++ l.drop (i + 1) := by
    rw [List.getElem?_eq_getElem hlt] at hx
    rw [← Option.some.inj hx, ← List.take_succ_eq_append_getElem hlt, List.take_append_drop]
  conv => lhs; rw [this]
  rw [flat_append, flat_append, flat_one]
/-- an element of several cells stored into one's own -/
theorem Mine.setA {ft : TypeId} {q : IntKind} {i : Int} {x y : α} {K : Value → World → Prop} (h : isSliceT P t = true) (he : known P (elemT P t) = true) (hz : sizeT P (elemT P t) = F.sz) (hs : sizeT P ft = F.sz) (hkn : known P ft = true)
    (hown : Mine F e w B v l) (h0 : 0 ≤ i) (hx : l[i.toNat]? = some x) (hu1 : ∀ u ∈ F.e y, u.oneCell' = true)
    (hk : ∀ w', Mine F e w' B v (l.set i.toNat y) → Below B w w' → Off (isOf v) w w' → K undef w') :
    opW P (Instr.indexAt t v (.int q i)) (fun p w => opU P (Instr.storeAt ft p (.agg (F.e y).toArray)) K w) w := by
  have hne : l ≠ [] := fun hh => by rw [hh] at hx; simp at hx
  have hlt : i < l.length := by have := (List.getElem?_eq_some_iff.1 hx).1; omega
  have hlen := hown.1
  rcases hown.2 with ⟨_, hn⟩ | ⟨g, cap, cur, rfl, hb, hgg, hnc, hcm, hcs, htk⟩
  · exact absurd (List.eq_nil_of_length_eq_zero hn) hne
  rw [opW_ok (run_index h he h0 hlt w), hz, Nat.zero_add]
  have hrow : RowAt w g e (flat F (l.take i.toNat) ++ F.e x ++ (flat F (l.drop (i.toNat + 1)) ++ cur.toList.drop (l.length * F.sz))) := by
    unfold RowAt
    rw [← List.append_assoc, ← flat_split hx, ← htk, List.take_append_drop]; exact hgg
  have hpl : (flat F (l.take i.toNat)).length = i.toNat * F.sz := by rw [flat_length, List.length_take, Nat.min_eq_left (by omega)]
  rw [w_storeAgg hu1 (by rw [hs, F.len]) hkn (fun j hj => by
    have hin : i.toNat * F.sz + j < (flat F (l.take i.toNat) ++ F.e x ++ (flat F (l.drop (i.toNat + 1)) ++ cur.toList.drop (l.length * F.sz))).length := by
      rw [F.len] at hj
      simp only [List.length_append, hpl, F.len]; omega
    exact ⟨_, hrow.cell (List.getElem?_eq_getElem hin)⟩) (fun j hj => hrow.free _)]
  have hrow' := rowAt_setMid (F.e y) _ (F.e x) _ w hrow (by rw [F.len, F.len])
  rw [hpl] at hrow'
  have honly := only_setCells (b := g) (F.e y) (i.toNat * F.sz) w
  refine hk _ ?_ (honly.rest _ hb) (Off.only honly rfl)
  have hset : flat F (l.set i.toNat y) = flat F (l.take i.toNat) ++ F.e y ++ flat F (l.drop (i.toNat + 1)) := by
    have hy : (l.set i.toNat y)[i.toNat]? = some y := by rw [List.getElem?_set_self (by omega)]
    rw [flat_split hy, List.take_set, List.drop_set, if_pos (by omega), List.set_eq_of_length_le (by rw [List.length_take]; omega)]
  unfold Mine
  refine ⟨by rw [flat_length], .inr ⟨g, cap, (flat F (l.take i.toNat) ++ F.e y ++ (flat F (l.drop (i.toNat + 1)) ++ cur.toList.drop (l.length * F.sz))).toArray, by rw [List.length_set], hb, hrow', by rw [List.length_set]; exact hnc, hcm, ?_, ?_⟩⟩
  · have e1 : (flat F (l.take i.toNat) ++ F.e x ++ (flat F (l.drop (i.toNat + 1)) ++ cur.toList.drop (l.length * F.sz))).length = cur.size := by
      rw [← List.append_assoc, ← flat_split hx, ← htk, List.take_append_drop]; simp
    rw [← hcs, ← e1]
    simp [F.len]
  · rw [hset, List.length_set, ← List.append_assoc, ← hset]
    refine List.take_left' ?_
    rw [flat_length, List.length_set]
theorem Mine.setAT {ft : TypeId} {q : IntKind} {i : Int} {x y : α} {K : Value → World → Prop} (h : isSliceT P t = true) (he : known P (elemT P t) = true) (hz : sizeT P (elemT P t) = F.sz) (hs : sizeT P ft = F.sz) (hkn : known P ft = true)
    (hown : Mine F e w B v l) (h0 : 0 ≤ i) (hx : l[i.toNat]? = some x) (hu1 : ∀ u ∈ F.e y, u.oneCell' = true)
    (hk : ∀ w', Mine F e w' B v (l.set i.toNat y) → Below B w w' → Off (isOf v) w w' → K undef w') :
    takeW P anyW (Instr.indexAt t v (.int q i)) (fun p => opU P (Instr.storeAt ft p (.agg (F.e y).toArray)) K w) w := by
  have hne : l ≠ [] := fun hh => by rw [hh] at hx; simp at hx
  have hlt : i < l.length := by have := (List.getElem?_eq_some_iff.1 hx).1; omega
  have := hown.setA (K := K) (q := q) h he hz hs hkn h0 hx hu1 hk
  obtain ⟨g, c, rfl, hof, ho⟩ := hown.at hne
  rw [opW_ok (run_index h he h0 hlt w)] at this
  rw [takeW_pure fun w => run_index h he h0 hlt w]
  exact this
end
end Go.V
/- Strings; structs compared; slices of slices of elements. -/
set_option linter.unusedSimpArgs false
set_option linter.unusedVariables false
namespace Go.V
open Go Go.RowKit
section
variable {P : Program} {k : Value → World → Prop} {K : Value → Prop} {S : World → Prop} {w : World} {t ty : TypeId} {ox oy : Operand} {a b s : ByteArray}
theorem beqBytes (a b : ByteArray) : (a.toList == b.toList) = decide (a = b) := by
  have e : ∀ x y : ByteArray, x.toList = y.toList → x = y := fun x y h => by
    rw [ByteArray.toList_eq, ByteArray.toList_eq] at h
    obtain ⟨⟨x⟩⟩ := x
    obtain ⟨⟨y⟩⟩ := y
    simp at h
    subst h; rfl
  by_cases h : a = b
  · subst h; simp
  · rw [decide_eq_false h]
    simp only [beq_eq_false_iff_ne, ne_eq]
    exact fun hh => h (e a b hh)
theorem run_lenStr (h : P.underlying t = some .string) (w : World) : (Builtin.len_ #[t] ty #[.string s]).run P w = .ok (.int .i64 s.size) w := run_len_string w t ty s h
theorem w_lenStr (h : P.underlying t = some .string) : opW P (Builtin.len_ #[t] ty #[.string s]) k w = k (.int .i64 s.size) w := opW_ok (run_lenStr h w)
theorem t_lenStr (h : P.underlying t = some .string) : takeW P S (Builtin.len_ #[t] ty #[.string s]) K w = K (.int .i64 s.size) := takeW_pure fun w => run_lenStr h w
theorem run_eqlStr (h : P.underlying t = some .string) (w : World) : (binS .eql t ox oy (.string a) (.string b)).run P w = .ok (.bool (decide (a = b))) w := by
  have h1 := beqBytes a b
  simp [binS, eqGuard, binOp, Op.stringOp, h1, Sem.run_bind, Result.andThen]
theorem w_eqlStr (h : P.underlying t = some .string) : opW P (binS .eql t ox oy (.string a) (.string b)) k w = k (.bool (decide (a = b))) w := opW_ok (run_eqlStr h w)
theorem run_neqStr (h : P.underlying t = some .string) (w : World) : (binS .neq t ox oy (.string a) (.string b)).run P w = .ok (.bool (!decide (a = b))) w := by
  have h1 := beqBytes a b
  simp [binS, eqGuard, binOp, Op.stringOp, h1, bne, Sem.run_bind, Result.andThen]
theorem w_neqStr (h : P.underlying t = some .string) : opW P (binS .neq t ox oy (.string a) (.string b)) k w = k (.bool (!decide (a = b))) w := opW_ok (run_neqStr h w)
/-- a field of one cell that is compared -/
def OneEq (P : Program) (t : TypeId) (x y : Value) (b : Bool) : Prop := isAggT P t = false ∧ known P t = true ∧ ∀ d w, (Op.equalIn (d + 1) t x y).run P w = .ok b w
theorem OneEq.int {q q' : IntKind} {x y : Int} (h : P.underlying t = some (.int q')) (hk : known P t = true) : OneEq P t (.int q x) (.int q y) (decide (x = y)) :=
  ⟨by simp [isAggT, h], hk, fun d w => by rw [run_equalIn_int w d t q q' x y h]; rfl⟩
theorem run_isAgg {t : TypeId} (h : isAggT P t = false) (hk : known P t = true) (w : World) : (isAgg t).run P w = .ok false w := by
  simp only [known, Bool.and_eq_true] at hk
  cases hu : P.underlying t with
  | none => rw [hu] at hk; simp at hk
  | some d =>
    simp only [isAgg, Sem.run_bind, Result.andThen, run_underlying hu]
    unfold isAggT at h
    rw [hu] at h
    cases d <;> first | rfl | (simp at h)
theorem run_part {t : TypeId} {cs : Array Value} {off : Nat} {v : Value} (h : isAggT P t = false) (hk : known P t = true) (hv : cs[off]? = some v) (w : World) : (part t cs off).run P w = .ok v w := by
  simp [part, Sem.run_bind, Result.andThen, run_isAgg h hk, hv]
theorem run_eqFields {xs ys : Array Value} {d : Nat} (w : World) : ∀ (fs : List Field) (bs : List Bool), bs.length = fs.length → (∀ (i : Nat) (f : Field) (b : Bool), fs[i]? = some f → bs[i]? = some b → f.name ≠ "_" ∧ ∃ x y, xs[f.offset]? = some x ∧ ys[f.offset]? = some y ∧ OneEq P f.type x y b) →
    (Op.eqFields (d + 1) xs ys fs).run P w = .ok (bs.all id) w
  | [], bs, hl, _ => by
    have : bs = [] := List.eq_nil_of_length_eq_zero hl
    subst this
    simp [Op.eqFields]
  | f :: fs, [], hl, _ => by simp at hl
  | f :: fs, b :: bs, hl, h => by
    obtain ⟨hn, x, y, hx, hy, h1, h2, h3⟩ := h 0 f b rfl rfl
    have ih := run_eqFields (d := d) w fs bs (by simpa using hl) (fun i f' b' hf hb => h (i + 1) f' b' (by simpa using hf) (by simpa using hb))
    simp only [Op.eqFields, hn, ne_eq, not_false_eq_true, if_true, Sem.run_bind, run_part h1 h2 hx, run_part h1 h2 hy, h3, Result.andThen]
    cases b
    · simp
    · simpa using ih
def fieldsL (P : Program) (t : TypeId) : List (Bool × Nat × Nat) := mapL (fun f => (f.name != "_", f.type, f.offset)) (P.fieldsOf t).toList
theorem run_eqlAgg {L : List (Nat × Nat)} {xs ys : Array Value} (hu : (match P.underlying t with | some (.struct _) => true | _ => false) = true) (hp : P.stoodInHeld t = false) (hf : fieldsL P t = L.map fun x => (true, x.1, x.2)) (hg : P.eqGuardType P.depth t = false)
    (bs : List Bool) (hl : bs.length = L.length) (h : ∀ (i : Nat) (f : Nat × Nat) (b : Bool), L[i]? = some f → bs[i]? = some b → ∃ x y, xs[f.2]? = some x ∧ ys[f.2]? = some y ∧ OneEq P f.1 x y b) (w : World) :
    (Op.equalIn 10000 t (.agg xs) (.agg ys)).run P w = .ok (bs.all id) w ∧ (∀ op, (eqGuard op t ox oy (.agg xs) (.agg ys)).run P w = .ok () w) := by
  refine ⟨?_, fun op => run_eqGuard_agg w op t ox oy xs ys hg⟩
  have hu' : P.underlying t = some (.struct (P.fieldsOf t)) := by
    split at hu
    · rename_i fs hfs; simp [Program.fieldsOf, hfs]
    · cases hu
  rw [run_equalIn_agg w 9999 t xs ys hu' hp]
  unfold fieldsL at hf
  rw [mapL_eq] at hf
  have hlen : (P.fieldsOf t).toList.length = L.length := by have := congrArg List.length hf; simpa using this
  refine run_eqFields w _ bs (by omega) fun i f b hfi hb => ?_
  have := congrArg (fun l => l[i]?) hf
  simp only [List.getElem?_map, hfi, Option.map_some] at this
  cases hL : L[i]? with
  | none => rw [hL] at this; simp at this
  | some z =>
    rw [hL] at this
    simp only [Option.map_some, Option.some.injEq, Prod.mk.injEq, bne_iff_ne, ne_eq] at this
    obtain ⟨h1, h2, h3⟩ := this
    obtain ⟨x, y, hx, hy, ho⟩ := h i z b hL hb
    exact ⟨h1, x, y, by rw [h3]; exact hx, by rw [h3]; exact hy, by rw [h2]; exact ho⟩
theorem w_neqAgg {xs ys : Array Value} {r : Bool} (h1 : (Op.equalIn 10000 t (.agg xs) (.agg ys)).run P w = .ok r w) (h2 : ∀ op, (eqGuard op t ox oy (.agg xs) (.agg ys)).run P w = .ok () w) :
    opW P (binS .neq t ox oy (.agg xs) (.agg ys)) k w = k (.bool (!r)) w := opW_ok (by
  unfold binS
  rw [Sem.run_bind, h2 .neq]
  simp only [Result.andThen]
  rw [run_neq_struct, h1]; rfl)
theorem w_addStr (h : a.size + b.size ≤ 9223372036854775807) : opW P (binS .add t ox oy (.string a) (.string b)) k w = k (.string (a ++ b)) w := opW_ok (by
  have h1 := run_string_add_sum (P := P) w a b h
  simp only [binS, eqGuard, binOp_string_add, h1, Sem.run_bind, Result.andThen]
  simp [Result.andThen, h1])
theorem w_sliceStr {q q' : IntKind} {i j : Int} (h : P.underlying t = some .string) (h0 : 0 ≤ i) (h1 : i ≤ j) (h2 : j ≤ s.size) : opW P (Instr.sliceAt t (.string s) (some (.int q i)) (some (.int q' j)) none) k w = k (.string (s.extract i.toNat j.toNat)) w := opW_ok (by
  rw [run_sliceAt_string _ _ _ _ _ _ h, run_slice_string w t s q q' i j h h0 h1 h2])
theorem w_headStr {q : IntKind} {j : Int} (h : P.underlying t = some .string) (h1 : 0 ≤ j) (h2 : j ≤ s.size) : opW P (Instr.sliceAt t (.string s) none (some (.int q j)) none) k w = k (.string (s.extract 0 j.toNat)) w := opW_ok (by
  rw [run_sliceAt_string _ _ _ _ _ _ h, run_slice_string_to_if w t s q j h, if_pos ⟨h1, h2⟩])
/-- worlds in which whatever was there at w is as it was -/
def after (w w' : World) : Prop := Below w.heap.size w w'
theorem after_refl (w : World) : after w w := Below.refl _ _
theorem r_get {b o ft st f x : Nat} {u : Value} (hf : fieldOff P st f = some x) (hg : isAggT P ft = false) (hk : known P ft = true) (hc : w.cell? ⟨b, o + x, none⟩ = some u) :
    opW P (Instr.fieldAt st (.pointer (some ⟨b, o, none⟩)) f) (fun p w => opW P (Instr.loadAt ft p) k w) w = k u w := by
  rw [w_field hf, w_load hg hk hc]
theorem r_getT {b o ft st f x : Nat} {u : Value} (hf : fieldOff P st f = some x) (hg : isAggT P ft = false) (hk : known P ft = true) (hc : w.cell? ⟨b, o + x, none⟩ = some u) :
    takeW P anyW (Instr.fieldAt st (.pointer (some ⟨b, o, none⟩)) f) (fun p => takeW P (sameW w) (Instr.loadAt ft p) K w) w = K u := by
  rw [t_field hf, x_load hg hk hc]
theorem r_getA {w0 : World} {b o ft st f x : Nat} {u : Value} (hf : fieldOff P st f = some x) (hg : isAggT P ft = false) (hk : known P ft = true) (hc : w0.cell? ⟨b, o + x, none⟩ = some u) (ha : after w0 w) :
    takeW P anyW (Instr.fieldAt st (.pointer (some ⟨b, o, none⟩)) f) (fun p => takeW P (after w0) (Instr.loadAt ft p) K w) w = K u := by
  have h0 : ∀ w', after w0 w' → w'.cell? ⟨b, o + x, none⟩ = some u := fun w' h => by
    rw [← hc]; exact World.cell?_of_block (a := ⟨b, o + x, none⟩) (h.block b (World.block_lt_of_cell? w0 _ hc))
  rw [t_field hf, t_load hg hk (h0 w ha) (fun w' h => by rw [h0 w' h, h0 w ha])]
theorem r_loadA {w0 : World} {a : Addr} {ft : Nat} {u : Value} (hg : isAggT P ft = false) (hk : known P ft = true) (hc : w0.cell? a = some u) (ha : after w0 w) : takeW P (after w0) (Instr.loadAt ft (.pointer (some a))) K w = K u := by
  have h0 : ∀ w', after w0 w' → w'.cell? a = some u := fun w' h => by
    rw [← hc]; exact World.cell?_of_block (h.block a.block (World.block_lt_of_cell? w0 _ hc))
  exact t_load hg hk (h0 w ha) (fun w' h => by rw [h0 w' h, h0 w ha])
theorem r_aggA {w0 : World} {b o ft : Nat} {vs : List Value} (hg : isAggT P ft = true) (hk : known P ft = true) (hs : sizeT P ft = vs.length) (hc : Cells w0 b o vs) (hne : vs ≠ []) (ha : after w0 w) : takeW P (after w0) (Instr.loadAt ft (.pointer (some ⟨b, o, none⟩))) K w = K (.agg vs.toArray) :=
  t_loadAgg hg hk hs (hc.below ha (hc.lt hne)) fun w' h => hc.below h (hc.lt hne)
/-- worlds in which all that was there at w0, but the blocks of p, is as it was: the class 'Off p w0' -/
theorem cell_off {p : Nat → Prop} {w0 w : World} {a : Addr} {u : Value} (hc : w0.cell? a = some u) (hp : ¬ p a.block) (ha : Off p w0 w) : w.cell? a = some u := by
  rw [← hc]; exact World.cell?_of_block (ha.block a.block (World.block_lt_of_cell? w0 _ hc) hp)
theorem Cells.off {p : Nat → Prop} {w0 w : World} {b o : Nat} {vs : List Value} (hc : Cells w0 b o vs) (hp : ¬ p b) (ha : Off p w0 w) : Cells w b o vs := fun j u hu => cell_off (hc j u hu) hp ha
theorem r_getO {p : Nat → Prop} {w0 : World} {b o ft st f x : Nat} {u : Value} (hf : fieldOff P st f = some x) (hg : isAggT P ft = false) (hk : known P ft = true) (hc : w0.cell? ⟨b, o + x, none⟩ = some u) (hp : ¬ p b) (ha : Off p w0 w) :
    takeW P anyW (Instr.fieldAt st (.pointer (some ⟨b, o, none⟩)) f) (fun q => takeW P (Off p w0) (Instr.loadAt ft q) K w) w = K u := by
  rw [t_field hf, t_load hg hk (cell_off hc hp ha) (fun w' h => by rw [cell_off hc hp h, cell_off hc hp ha])]
theorem r_loadO {p : Nat → Prop} {w0 : World} {a : Addr} {ft : Nat} {u : Value} (hg : isAggT P ft = false) (hk : known P ft = true) (hc : w0.cell? a = some u) (hp : ¬ p a.block) (ha : Off p w0 w) : takeW P (Off p w0) (Instr.loadAt ft (.pointer (some a))) K w = K u :=
  t_load hg hk (cell_off hc hp ha) (fun w' h => by rw [cell_off hc hp h, cell_off hc hp ha])
theorem r_aggO {p : Nat → Prop} {w0 : World} {b o ft : Nat} {vs : List Value} (hg : isAggT P ft = true) (hk : known P ft = true) (hs : sizeT P ft = vs.length) (hc : Cells w0 b o vs) (hp : ¬ p b) (ha : Off p w0 w) : takeW P (Off p w0) (Instr.loadAt ft (.pointer (some ⟨b, o, none⟩))) K w = K (.agg vs.toArray) :=
  t_loadAgg hg hk hs (hc.off hp ha) fun w' h => hc.off hp h
theorem run_loadVarA {t : TypeId} {b : Nat} {vs : List Value} (h : isAggT P t = true) (hk : known P t = true) (hs : sizeT P t = vs.length) (hc : Cells w b 0 vs) : (loadVar t ⟨b, 0, none⟩).run P w = .ok (.agg vs.toArray) w := by
  have hk' := hk
  simp only [known, Bool.and_eq_true] at hk
  cases hu : P.underlying t with
  | none => rw [hu] at hk; simp at hk
  | some d =>
    have : (isAgg t).run P w = .ok true w := by
      simp only [isAgg, Sem.run_bind, Result.andThen, run_underlying hu]
      unfold isAggT at h
      rw [hu] at h
      cases d <;> first | rfl | (simp at h)
    have hl := run_loadCellsFrom (P := P) (w := w) (b := b) (o := 0) vs 0 #[] (by simpa using hc)
    simp [loadVar, Sem.run_bind, Result.andThen, this, loadCells, run_sizeOf hk', hs, hl]
theorem resCell_agg {t : TypeId} {b : Nat} {vs : List Value} (h : isAggT P t = true) (hk : known P t = true) (hs : sizeT P t = vs.length) (hc : Cells w b 0 vs) : resCell P t (.pointer (some ⟨b, 0, none⟩)) K w = K (.agg vs.toArray) :=
  propext ⟨fun hh => by have := hh.out; simp only [opW_ok (run_loadVarA h hk hs hc)] at this; exact this.2, fun hh => ⟨by simp only [opW_ok (run_loadVarA h hk hs hc)]; exact ⟨trivial, hh⟩⟩⟩
/-- a slice's block, if the slice has elements -/
theorem IsSl.ofLt {α : Type} {F : Fl α} {w : World} {v : Value} {l : List α} (h : IsSl F w v l) (hp : 0 < F.sz) (hne : l ≠ []) {b : Nat} (hb : isOf v b) : b < w.heap.size := by
  obtain ⟨b', o, c, rfl, hcl⟩ := h.flatAt hne
  simp only [isOf, Value.ownBlock, Option.some.injEq] at hb
  subst hb
  refine hcl.lt fun hh => ?_
  have := flat_length (F := F) l
  rw [hh] at this
  have h1 : 0 < l.length := List.length_pos_iff.2 hne
  have := Nat.mul_pos h1 hp
  simp at *
  omega
end
end Go.V
/- Reading an element, or a field of an element, in one step, at this program's types: printed by program. -/
set_option linter.unusedVariables false
namespace Go.Proofs.YtfkfkldhcignbaaGreatDoor
open Go Go.V Go.RowKit
section
variable {k : Value → World → Prop} {w : World} {K : Value → Prop} {α : Type} {F : Fl α} {v u : Value} {l : List α} {q : IntKind} {i : Int} {a : α}
theorem ga22 (hz : F.sz = 9) (hs : IsSl F w v l) (h0 : 0 ≤ i) (hx : l[i.toNat]? = some a) : opW Tryz.prog (Instr.indexAt 22 v (.int q i)) (fun p w => opW Tryz.prog (Instr.loadAt 84 p) k w) w = k (.agg (F.e a).toArray) w := w_getA (by kernel_rfl) (by kernel_rfl) (by rw [hz]; kernel_rfl) (by kernel_rfl) (by kernel_rfl) (by rw [hz]; kernel_rfl) hs h0 hx
theorem ga23 (hz : F.sz = 5) (hs : IsSl F w v l) (h0 : 0 ≤ i) (hx : l[i.toNat]? = some a) : opW Tryz.prog (Instr.indexAt 23 v (.int q i)) (fun p w => opW Tryz.prog (Instr.loadAt 82 p) k w) w = k (.agg (F.e a).toArray) w := w_getA (by kernel_rfl) (by kernel_rfl) (by rw [hz]; kernel_rfl) (by kernel_rfl) (by kernel_rfl) (by rw [hz]; kernel_rfl) hs h0 hx
theorem ga24 (hz : F.sz = 9) (hs : IsSl F w v l) (h0 : 0 ≤ i) (hx : l[i.toNat]? = some a) : opW Tryz.prog (Instr.indexAt 24 v (.int q i)) (fun p w => opW Tryz.prog (Instr.loadAt 63 p) k w) w = k (.agg (F.e a).toArray) w := w_getA (by kernel_rfl) (by kernel_rfl) (by rw [hz]; kernel_rfl) (by kernel_rfl) (by kernel_rfl) (by rw [hz]; kernel_rfl) hs h0 hx
theorem gta24 (hz : F.sz = 9) (hs : IsSl F w v l) (h0 : 0 ≤ i) (hx : l[i.toNat]? = some a) : takeW Tryz.prog anyW (Instr.indexAt 24 v (.int q i)) (fun p => takeW Tryz.prog (sameW w) (Instr.loadAt 63 p) K w) w = K (.agg (F.e a).toArray) := t_getA (by kernel_rfl) (by kernel_rfl) (by rw [hz]; kernel_rfl) (by kernel_rfl) (by kernel_rfl) (by rw [hz]; kernel_rfl) hs h0 hx
theorem gt24_0 (hz : F.sz = 9) (hs : IsSl F w v l) (h0 : 0 ≤ i) (hx : l[i.toNat]? = some a) (hu : (F.e a)[0]? = some u) : takeW Tryz.prog anyW (Instr.indexAt 24 v (.int q i)) (fun p => takeW Tryz.prog anyW (Instr.fieldAt 63 p 0) (fun p => takeW Tryz.prog (sameW w) (Instr.loadAt 3 p) K w) w) w = K u := t_get (x := 0) (by kernel_rfl) (by kernel_rfl) (by rw [hz]; kernel_rfl) (by kernel_rfl) (by kernel_rfl) (by kernel_rfl) hs h0 hx hu
theorem gt24_2 (hz : F.sz = 9) (hs : IsSl F w v l) (h0 : 0 ≤ i) (hx : l[i.toNat]? = some a) (hu : (F.e a)[7]? = some u) : takeW Tryz.prog anyW (Instr.indexAt 24 v (.int q i)) (fun p => takeW Tryz.prog anyW (Instr.fieldAt 63 p 2) (fun p => takeW Tryz.prog (sameW w) (Instr.loadAt 3 p) K w) w) w = K u := t_get (x := 7) (by kernel_rfl) (by kernel_rfl) (by rw [hz]; kernel_rfl) (by kernel_rfl) (by kernel_rfl) (by kernel_rfl) hs h0 hx hu
theorem gw24_3 (hz : F.sz = 9) (hs : IsSl F w v l) (h0 : 0 ≤ i) (hx : l[i.toNat]? = some a) (hu : (F.e a)[8]? = some u) : opW Tryz.prog (Instr.indexAt 24 v (.int q i)) (fun p w => opW Tryz.prog (Instr.fieldAt 63 p 3) (fun p w => opW Tryz.prog (Instr.loadAt 9 p) k w) w) w = k u w := w_get (x := 8) (by kernel_rfl) (by kernel_rfl) (by rw [hz]; kernel_rfl) (by kernel_rfl) (by kernel_rfl) (by kernel_rfl) hs h0 hx hu
theorem gw25 (hz : F.sz = 1) (hs : IsSl F w v l) (h0 : 0 ≤ i) (hx : l[i.toNat]? = some a) (hu : (F.e a)[0]? = some u) : opW Tryz.prog (Instr.indexAt 25 v (.int q i)) (fun p w => opW Tryz.prog (Instr.loadAt 3 p) k w) w = k u w := w_getE (by kernel_rfl) (by kernel_rfl) (by rw [hz]; kernel_rfl) (by kernel_rfl) (by kernel_rfl) hs h0 hx hu
theorem gt25 (hz : F.sz = 1) (hs : IsSl F w v l) (h0 : 0 ≤ i) (hx : l[i.toNat]? = some a) (hu : (F.e a)[0]? = some u) : takeW Tryz.prog anyW (Instr.indexAt 25 v (.int q i)) (fun p => takeW Tryz.prog (sameW w) (Instr.loadAt 3 p) K w) w = K u := t_getE (by kernel_rfl) (by kernel_rfl) (by rw [hz]; kernel_rfl) (by kernel_rfl) (by kernel_rfl) hs h0 hx hu
theorem ga26 (hz : F.sz = 2) (hs : IsSl F w v l) (h0 : 0 ≤ i) (hx : l[i.toNat]? = some a) : opW Tryz.prog (Instr.indexAt 26 v (.int q i)) (fun p w => opW Tryz.prog (Instr.loadAt 121 p) k w) w = k (.agg (F.e a).toArray) w := w_getA (by kernel_rfl) (by kernel_rfl) (by rw [hz]; kernel_rfl) (by kernel_rfl) (by kernel_rfl) (by rw [hz]; kernel_rfl) hs h0 hx
theorem gta26 (hz : F.sz = 2) (hs : IsSl F w v l) (h0 : 0 ≤ i) (hx : l[i.toNat]? = some a) : takeW Tryz.prog anyW (Instr.indexAt 26 v (.int q i)) (fun p => takeW Tryz.prog (sameW w) (Instr.loadAt 121 p) K w) w = K (.agg (F.e a).toArray) := t_getA (by kernel_rfl) (by kernel_rfl) (by rw [hz]; kernel_rfl) (by kernel_rfl) (by kernel_rfl) (by rw [hz]; kernel_rfl) hs h0 hx
theorem gw26_0 (hz : F.sz = 2) (hs : IsSl F w v l) (h0 : 0 ≤ i) (hx : l[i.toNat]? = some a) (hu : (F.e a)[0]? = some u) : opW Tryz.prog (Instr.indexAt 26 v (.int q i)) (fun p w => opW Tryz.prog (Instr.fieldAt 121 p 0) (fun p w => opW Tryz.prog (Instr.loadAt 3 p) k w) w) w = k u w := w_get (x := 0) (by kernel_rfl) (by kernel_rfl) (by rw [hz]; kernel_rfl) (by kernel_rfl) (by kernel_rfl) (by kernel_rfl) hs h0 hx hu
theorem gt26_0 (hz : F.sz = 2) (hs : IsSl F w v l) (h0 : 0 ≤ i) (hx : l[i.toNat]? = some a) (hu : (F.e a)[0]? = some u) : takeW Tryz.prog anyW (Instr.indexAt 26 v (.int q i)) (fun p => takeW Tryz.prog anyW (Instr.fieldAt 121 p 0) (fun p => takeW Tryz.prog (sameW w) (Instr.loadAt 3 p) K w) w) w = K u := t_get (x := 0) (by kernel_rfl) (by kernel_rfl) (by rw [hz]; kernel_rfl) (by kernel_rfl) (by kernel_rfl) (by kernel_rfl) hs h0 hx hu
theorem gw26_1 (hz : F.sz = 2) (hs : IsSl F w v l) (h0 : 0 ≤ i) (hx : l[i.toNat]? = some a) (hu : (F.e a)[1]? = some u) : opW Tryz.prog (Instr.indexAt 26 v (.int q i)) (fun p w => opW Tryz.prog (Instr.fieldAt 121 p 1) (fun p w => opW Tryz.prog (Instr.loadAt 3 p) k w) w) w = k u w := w_get (x := 1) (by kernel_rfl) (by kernel_rfl) (by rw [hz]; kernel_rfl) (by kernel_rfl) (by kernel_rfl) (by kernel_rfl) hs h0 hx hu
theorem gt26_1 (hz : F.sz = 2) (hs : IsSl F w v l) (h0 : 0 ≤ i) (hx : l[i.toNat]? = some a) (hu : (F.e a)[1]? = some u) : takeW Tryz.prog anyW (Instr.indexAt 26 v (.int q i)) (fun p => takeW Tryz.prog anyW (Instr.fieldAt 121 p 1) (fun p => takeW Tryz.prog (sameW w) (Instr.loadAt 3 p) K w) w) w = K u := t_get (x := 1) (by kernel_rfl) (by kernel_rfl) (by rw [hz]; kernel_rfl) (by kernel_rfl) (by kernel_rfl) (by kernel_rfl) hs h0 hx hu
theorem gw31 (hz : F.sz = 1) (hs : IsSl F w v l) (h0 : 0 ≤ i) (hx : l[i.toNat]? = some a) (hu : (F.e a)[0]? = some u) : opW Tryz.prog (Instr.indexAt 31 v (.int q i)) (fun p w => opW Tryz.prog (Instr.loadAt 9 p) k w) w = k u w := w_getE (by kernel_rfl) (by kernel_rfl) (by rw [hz]; kernel_rfl) (by kernel_rfl) (by kernel_rfl) hs h0 hx hu
theorem gt31 (hz : F.sz = 1) (hs : IsSl F w v l) (h0 : 0 ≤ i) (hx : l[i.toNat]? = some a) (hu : (F.e a)[0]? = some u) : takeW Tryz.prog anyW (Instr.indexAt 31 v (.int q i)) (fun p => takeW Tryz.prog (sameW w) (Instr.loadAt 9 p) K w) w = K u := t_getE (by kernel_rfl) (by kernel_rfl) (by rw [hz]; kernel_rfl) (by kernel_rfl) (by kernel_rfl) hs h0 hx hu
theorem ga33 (hz : F.sz = 5) (hs : IsSl F w v l) (h0 : 0 ≤ i) (hx : l[i.toNat]? = some a) : opW Tryz.prog (Instr.indexAt 33 v (.int q i)) (fun p w => opW Tryz.prog (Instr.loadAt 28 p) k w) w = k (.agg (F.e a).toArray) w := w_getA (by kernel_rfl) (by kernel_rfl) (by rw [hz]; kernel_rfl) (by kernel_rfl) (by kernel_rfl) (by rw [hz]; kernel_rfl) hs h0 hx
theorem gta33 (hz : F.sz = 5) (hs : IsSl F w v l) (h0 : 0 ≤ i) (hx : l[i.toNat]? = some a) : takeW Tryz.prog anyW (Instr.indexAt 33 v (.int q i)) (fun p => takeW Tryz.prog (sameW w) (Instr.loadAt 28 p) K w) w = K (.agg (F.e a).toArray) := t_getA (by kernel_rfl) (by kernel_rfl) (by rw [hz]; kernel_rfl) (by kernel_rfl) (by kernel_rfl) (by rw [hz]; kernel_rfl) hs h0 hx
theorem gt33_0 (hz : F.sz = 5) (hs : IsSl F w v l) (h0 : 0 ≤ i) (hx : l[i.toNat]? = some a) (hu : (F.e a)[0]? = some u) : takeW Tryz.prog anyW (Instr.indexAt 33 v (.int q i)) (fun p => takeW Tryz.prog anyW (Instr.fieldAt 28 p 0) (fun p => takeW Tryz.prog (sameW w) (Instr.loadAt 3 p) K w) w) w = K u := t_get (x := 0) (by kernel_rfl) (by kernel_rfl) (by rw [hz]; kernel_rfl) (by kernel_rfl) (by kernel_rfl) (by kernel_rfl) hs h0 hx hu
theorem gw39 (hz : F.sz = 1) (hs : IsSl F w v l) (h0 : 0 ≤ i) (hx : l[i.toNat]? = some a) (hu : (F.e a)[0]? = some u) : opW Tryz.prog (Instr.indexAt 39 v (.int q i)) (fun p w => opW Tryz.prog (Instr.loadAt 24 p) k w) w = k u w := w_getE (by kernel_rfl) (by kernel_rfl) (by rw [hz]; kernel_rfl) (by kernel_rfl) (by kernel_rfl) hs h0 hx hu
theorem gw40 (hz : F.sz = 1) (hs : IsSl F w v l) (h0 : 0 ≤ i) (hx : l[i.toNat]? = some a) (hu : (F.e a)[0]? = some u) : opW Tryz.prog (Instr.indexAt 40 v (.int q i)) (fun p w => opW Tryz.prog (Instr.loadAt 33 p) k w) w = k u w := w_getE (by kernel_rfl) (by kernel_rfl) (by rw [hz]; kernel_rfl) (by kernel_rfl) (by kernel_rfl) hs h0 hx hu
theorem ga41 (hz : F.sz = 2) (hs : IsSl F w v l) (h0 : 0 ≤ i) (hx : l[i.toNat]? = some a) : opW Tryz.prog (Instr.indexAt 41 v (.int q i)) (fun p w => opW Tryz.prog (Instr.loadAt 30 p) k w) w = k (.agg (F.e a).toArray) w := w_getA (by kernel_rfl) (by kernel_rfl) (by rw [hz]; kernel_rfl) (by kernel_rfl) (by kernel_rfl) (by rw [hz]; kernel_rfl) hs h0 hx
theorem ga59 (hz : F.sz = 2) (hs : IsSl F w v l) (h0 : 0 ≤ i) (hx : l[i.toNat]? = some a) : opW Tryz.prog (Instr.indexAt 59 v (.int q i)) (fun p w => opW Tryz.prog (Instr.loadAt 87 p) k w) w = k (.agg (F.e a).toArray) w := w_getA (by kernel_rfl) (by kernel_rfl) (by rw [hz]; kernel_rfl) (by kernel_rfl) (by kernel_rfl) (by rw [hz]; kernel_rfl) hs h0 hx
theorem gta59 (hz : F.sz = 2) (hs : IsSl F w v l) (h0 : 0 ≤ i) (hx : l[i.toNat]? = some a) : takeW Tryz.prog anyW (Instr.indexAt 59 v (.int q i)) (fun p => takeW Tryz.prog (sameW w) (Instr.loadAt 87 p) K w) w = K (.agg (F.e a).toArray) := t_getA (by kernel_rfl) (by kernel_rfl) (by rw [hz]; kernel_rfl) (by kernel_rfl) (by kernel_rfl) (by rw [hz]; kernel_rfl) hs h0 hx
theorem gw59_0 (hz : F.sz = 2) (hs : IsSl F w v l) (h0 : 0 ≤ i) (hx : l[i.toNat]? = some a) (hu : (F.e a)[0]? = some u) : opW Tryz.prog (Instr.indexAt 59 v (.int q i)) (fun p w => opW Tryz.prog (Instr.fieldAt 87 p 0) (fun p w => opW Tryz.prog (Instr.loadAt 3 p) k w) w) w = k u w := w_get (x := 0) (by kernel_rfl) (by kernel_rfl) (by rw [hz]; kernel_rfl) (by kernel_rfl) (by kernel_rfl) (by kernel_rfl) hs h0 hx hu
theorem gw59_1 (hz : F.sz = 2) (hs : IsSl F w v l) (h0 : 0 ≤ i) (hx : l[i.toNat]? = some a) (hu : (F.e a)[1]? = some u) : opW Tryz.prog (Instr.indexAt 59 v (.int q i)) (fun p w => opW Tryz.prog (Instr.fieldAt 87 p 1) (fun p w => opW Tryz.prog (Instr.loadAt 25 p) k w) w) w = k u w := w_get (x := 1) (by kernel_rfl) (by kernel_rfl) (by rw [hz]; kernel_rfl) (by kernel_rfl) (by kernel_rfl) (by kernel_rfl) hs h0 hx hu
theorem gt59_1 (hz : F.sz = 2) (hs : IsSl F w v l) (h0 : 0 ≤ i) (hx : l[i.toNat]? = some a) (hu : (F.e a)[1]? = some u) : takeW Tryz.prog anyW (Instr.indexAt 59 v (.int q i)) (fun p => takeW Tryz.prog anyW (Instr.fieldAt 87 p 1) (fun p => takeW Tryz.prog (sameW w) (Instr.loadAt 25 p) K w) w) w = K u := t_get (x := 1) (by kernel_rfl) (by kernel_rfl) (by rw [hz]; kernel_rfl) (by kernel_rfl) (by kernel_rfl) (by kernel_rfl) hs h0 hx hu
theorem gw89 (hz : F.sz = 1) (hs : IsSl F w v l) (h0 : 0 ≤ i) (hx : l[i.toNat]? = some a) (hu : (F.e a)[0]? = some u) : opW Tryz.prog (Instr.indexAt 89 v (.int q i)) (fun p w => opW Tryz.prog (Instr.loadAt 4 p) k w) w = k u w := w_getE (by kernel_rfl) (by kernel_rfl) (by rw [hz]; kernel_rfl) (by kernel_rfl) (by kernel_rfl) hs h0 hx hu
theorem gt89 (hz : F.sz = 1) (hs : IsSl F w v l) (h0 : 0 ≤ i) (hx : l[i.toNat]? = some a) (hu : (F.e a)[0]? = some u) : takeW Tryz.prog anyW (Instr.indexAt 89 v (.int q i)) (fun p => takeW Tryz.prog (sameW w) (Instr.loadAt 4 p) K w) w = K u := t_getE (by kernel_rfl) (by kernel_rfl) (by rw [hz]; kernel_rfl) (by kernel_rfl) (by kernel_rfl) hs h0 hx hu
theorem gw95 (hz : F.sz = 1) (hs : IsSl F w v l) (h0 : 0 ≤ i) (hx : l[i.toNat]? = some a) (hu : (F.e a)[0]? = some u) : opW Tryz.prog (Instr.indexAt 95 v (.int q i)) (fun p w => opW Tryz.prog (Instr.loadAt 96 p) k w) w = k u w := w_getE (by kernel_rfl) (by kernel_rfl) (by rw [hz]; kernel_rfl) (by kernel_rfl) (by kernel_rfl) hs h0 hx hu
theorem gt95 (hz : F.sz = 1) (hs : IsSl F w v l) (h0 : 0 ≤ i) (hx : l[i.toNat]? = some a) (hu : (F.e a)[0]? = some u) : takeW Tryz.prog anyW (Instr.indexAt 95 v (.int q i)) (fun p => takeW Tryz.prog (sameW w) (Instr.loadAt 96 p) K w) w = K u := t_getE (by kernel_rfl) (by kernel_rfl) (by rw [hz]; kernel_rfl) (by kernel_rfl) (by kernel_rfl) hs h0 hx hu
theorem ga158 (hz : F.sz = 2) (hs : IsSl F w v l) (h0 : 0 ≤ i) (hx : l[i.toNat]? = some a) : opW Tryz.prog (Instr.indexAt 158 v (.int q i)) (fun p w => opW Tryz.prog (Instr.loadAt 161 p) k w) w = k (.agg (F.e a).toArray) w := w_getA (by kernel_rfl) (by kernel_rfl) (by rw [hz]; kernel_rfl) (by kernel_rfl) (by kernel_rfl) (by rw [hz]; kernel_rfl) hs h0 hx
theorem rw28_0 {b o : Nat} (hc : w.cell? ⟨b, o, none⟩ = some u) : opW Tryz.prog (Instr.fieldAt 28 (.pointer (some ⟨b, o, none⟩)) 0) (fun p w => opW Tryz.prog (Instr.loadAt 3 p) k w) w = k u w := r_get (x := 0) (by kernel_rfl) (by kernel_rfl) (by kernel_rfl) hc
theorem rt28_0 {b o : Nat} (hc : w.cell? ⟨b, o, none⟩ = some u) : takeW Tryz.prog anyW (Instr.fieldAt 28 (.pointer (some ⟨b, o, none⟩)) 0) (fun p => takeW Tryz.prog (sameW w) (Instr.loadAt 3 p) K w) w = K u := r_getT (x := 0) (by kernel_rfl) (by kernel_rfl) (by kernel_rfl) hc
theorem ra28_0 {w0 : World} {b o : Nat} (hc : w0.cell? ⟨b, o, none⟩ = some u) (ha : after w0 w) : takeW Tryz.prog anyW (Instr.fieldAt 28 (.pointer (some ⟨b, o, none⟩)) 0) (fun p => takeW Tryz.prog (after w0) (Instr.loadAt 3 p) K w) w = K u := r_getA (x := 0) (by kernel_rfl) (by kernel_rfl) (by kernel_rfl) hc ha
theorem ro28_0 {p : Nat → Prop} {w0 : World} {b o : Nat} (hc : w0.cell? ⟨b, o, none⟩ = some u) (hp : ¬ p b) (ha : Off p w0 w) : takeW Tryz.prog anyW (Instr.fieldAt 28 (.pointer (some ⟨b, o, none⟩)) 0) (fun q => takeW Tryz.prog (Off p w0) (Instr.loadAt 3 q) K w) w = K u := r_getO (x := 0) (by kernel_rfl) (by kernel_rfl) (by kernel_rfl) hc hp ha
theorem rw28_1 {b o : Nat} (hc : w.cell? ⟨b, o + 1, none⟩ = some u) : opW Tryz.prog (Instr.fieldAt 28 (.pointer (some ⟨b, o, none⟩)) 1) (fun p w => opW Tryz.prog (Instr.loadAt 3 p) k w) w = k u w := r_get (x := 1) (by kernel_rfl) (by kernel_rfl) (by kernel_rfl) hc
theorem rt28_1 {b o : Nat} (hc : w.cell? ⟨b, o + 1, none⟩ = some u) : takeW Tryz.prog anyW (Instr.fieldAt 28 (.pointer (some ⟨b, o, none⟩)) 1) (fun p => takeW Tryz.prog (sameW w) (Instr.loadAt 3 p) K w) w = K u := r_getT (x := 1) (by kernel_rfl) (by kernel_rfl) (by kernel_rfl) hc
theorem ro28_1 {p : Nat → Prop} {w0 : World} {b o : Nat} (hc : w0.cell? ⟨b, o + 1, none⟩ = some u) (hp : ¬ p b) (ha : Off p w0 w) : takeW Tryz.prog anyW (Instr.fieldAt 28 (.pointer (some ⟨b, o, none⟩)) 1) (fun q => takeW Tryz.prog (Off p w0) (Instr.loadAt 3 q) K w) w = K u := r_getO (x := 1) (by kernel_rfl) (by kernel_rfl) (by kernel_rfl) hc hp ha
theorem rw28_2 {b o : Nat} (hc : w.cell? ⟨b, o + 2, none⟩ = some u) : opW Tryz.prog (Instr.fieldAt 28 (.pointer (some ⟨b, o, none⟩)) 2) (fun p w => opW Tryz.prog (Instr.loadAt 25 p) k w) w = k u w := r_get (x := 2) (by kernel_rfl) (by kernel_rfl) (by kernel_rfl) hc
theorem rt28_2 {b o : Nat} (hc : w.cell? ⟨b, o + 2, none⟩ = some u) : takeW Tryz.prog anyW (Instr.fieldAt 28 (.pointer (some ⟨b, o, none⟩)) 2) (fun p => takeW Tryz.prog (sameW w) (Instr.loadAt 25 p) K w) w = K u := r_getT (x := 2) (by kernel_rfl) (by kernel_rfl) (by kernel_rfl) hc
theorem ra28_2 {w0 : World} {b o : Nat} (hc : w0.cell? ⟨b, o + 2, none⟩ = some u) (ha : after w0 w) : takeW Tryz.prog anyW (Instr.fieldAt 28 (.pointer (some ⟨b, o, none⟩)) 2) (fun p => takeW Tryz.prog (after w0) (Instr.loadAt 25 p) K w) w = K u := r_getA (x := 2) (by kernel_rfl) (by kernel_rfl) (by kernel_rfl) hc ha
theorem ro28_2 {p : Nat → Prop} {w0 : World} {b o : Nat} (hc : w0.cell? ⟨b, o + 2, none⟩ = some u) (hp : ¬ p b) (ha : Off p w0 w) : takeW Tryz.prog anyW (Instr.fieldAt 28 (.pointer (some ⟨b, o, none⟩)) 2) (fun q => takeW Tryz.prog (Off p w0) (Instr.loadAt 25 q) K w) w = K u := r_getO (x := 2) (by kernel_rfl) (by kernel_rfl) (by kernel_rfl) hc hp ha
theorem rw28_3 {b o : Nat} (hc : w.cell? ⟨b, o + 3, none⟩ = some u) : opW Tryz.prog (Instr.fieldAt 28 (.pointer (some ⟨b, o, none⟩)) 3) (fun p w => opW Tryz.prog (Instr.loadAt 26 p) k w) w = k u w := r_get (x := 3) (by kernel_rfl) (by kernel_rfl) (by kernel_rfl) hc
theorem rt28_3 {b o : Nat} (hc : w.cell? ⟨b, o + 3, none⟩ = some u) : takeW Tryz.prog anyW (Instr.fieldAt 28 (.pointer (some ⟨b, o, none⟩)) 3) (fun p => takeW Tryz.prog (sameW w) (Instr.loadAt 26 p) K w) w = K u := r_getT (x := 3) (by kernel_rfl) (by kernel_rfl) (by kernel_rfl) hc
theorem ro28_3 {p : Nat → Prop} {w0 : World} {b o : Nat} (hc : w0.cell? ⟨b, o + 3, none⟩ = some u) (hp : ¬ p b) (ha : Off p w0 w) : takeW Tryz.prog anyW (Instr.fieldAt 28 (.pointer (some ⟨b, o, none⟩)) 3) (fun q => takeW Tryz.prog (Off p w0) (Instr.loadAt 26 q) K w) w = K u := r_getO (x := 3) (by kernel_rfl) (by kernel_rfl) (by kernel_rfl) hc hp ha
theorem rw28_4 {b o : Nat} (hc : w.cell? ⟨b, o + 4, none⟩ = some u) : opW Tryz.prog (Instr.fieldAt 28 (.pointer (some ⟨b, o, none⟩)) 4) (fun p w => opW Tryz.prog (Instr.loadAt 25 p) k w) w = k u w := r_get (x := 4) (by kernel_rfl) (by kernel_rfl) (by kernel_rfl) hc
theorem rt28_4 {b o : Nat} (hc : w.cell? ⟨b, o + 4, none⟩ = some u) : takeW Tryz.prog anyW (Instr.fieldAt 28 (.pointer (some ⟨b, o, none⟩)) 4) (fun p => takeW Tryz.prog (sameW w) (Instr.loadAt 25 p) K w) w = K u := r_getT (x := 4) (by kernel_rfl) (by kernel_rfl) (by kernel_rfl) hc
theorem ra28_4 {w0 : World} {b o : Nat} (hc : w0.cell? ⟨b, o + 4, none⟩ = some u) (ha : after w0 w) : takeW Tryz.prog anyW (Instr.fieldAt 28 (.pointer (some ⟨b, o, none⟩)) 4) (fun p => takeW Tryz.prog (after w0) (Instr.loadAt 25 p) K w) w = K u := r_getA (x := 4) (by kernel_rfl) (by kernel_rfl) (by kernel_rfl) hc ha
theorem ro28_4 {p : Nat → Prop} {w0 : World} {b o : Nat} (hc : w0.cell? ⟨b, o + 4, none⟩ = some u) (hp : ¬ p b) (ha : Off p w0 w) : takeW Tryz.prog anyW (Instr.fieldAt 28 (.pointer (some ⟨b, o, none⟩)) 4) (fun q => takeW Tryz.prog (Off p w0) (Instr.loadAt 25 q) K w) w = K u := r_getO (x := 4) (by kernel_rfl) (by kernel_rfl) (by kernel_rfl) hc hp ha
theorem rw30_0 {b o : Nat} (hc : w.cell? ⟨b, o, none⟩ = some u) : opW Tryz.prog (Instr.fieldAt 30 (.pointer (some ⟨b, o, none⟩)) 0) (fun p w => opW Tryz.prog (Instr.loadAt 3 p) k w) w = k u w := r_get (x := 0) (by kernel_rfl) (by kernel_rfl) (by kernel_rfl) hc
theorem rt30_0 {b o : Nat} (hc : w.cell? ⟨b, o, none⟩ = some u) : takeW Tryz.prog anyW (Instr.fieldAt 30 (.pointer (some ⟨b, o, none⟩)) 0) (fun p => takeW Tryz.prog (sameW w) (Instr.loadAt 3 p) K w) w = K u := r_getT (x := 0) (by kernel_rfl) (by kernel_rfl) (by kernel_rfl) hc
theorem ra30_0 {w0 : World} {b o : Nat} (hc : w0.cell? ⟨b, o, none⟩ = some u) (ha : after w0 w) : takeW Tryz.prog anyW (Instr.fieldAt 30 (.pointer (some ⟨b, o, none⟩)) 0) (fun p => takeW Tryz.prog (after w0) (Instr.loadAt 3 p) K w) w = K u := r_getA (x := 0) (by kernel_rfl) (by kernel_rfl) (by kernel_rfl) hc ha
theorem rw30_1 {b o : Nat} (hc : w.cell? ⟨b, o + 1, none⟩ = some u) : opW Tryz.prog (Instr.fieldAt 30 (.pointer (some ⟨b, o, none⟩)) 1) (fun p w => opW Tryz.prog (Instr.loadAt 3 p) k w) w = k u w := r_get (x := 1) (by kernel_rfl) (by kernel_rfl) (by kernel_rfl) hc
theorem rt30_1 {b o : Nat} (hc : w.cell? ⟨b, o + 1, none⟩ = some u) : takeW Tryz.prog anyW (Instr.fieldAt 30 (.pointer (some ⟨b, o, none⟩)) 1) (fun p => takeW Tryz.prog (sameW w) (Instr.loadAt 3 p) K w) w = K u := r_getT (x := 1) (by kernel_rfl) (by kernel_rfl) (by kernel_rfl) hc
theorem ra30_1 {w0 : World} {b o : Nat} (hc : w0.cell? ⟨b, o + 1, none⟩ = some u) (ha : after w0 w) : takeW Tryz.prog anyW (Instr.fieldAt 30 (.pointer (some ⟨b, o, none⟩)) 1) (fun p => takeW Tryz.prog (after w0) (Instr.loadAt 3 p) K w) w = K u := r_getA (x := 1) (by kernel_rfl) (by kernel_rfl) (by kernel_rfl) hc ha
theorem rw61_0 {b o : Nat} (hc : w.cell? ⟨b, o, none⟩ = some u) : opW Tryz.prog (Instr.fieldAt 61 (.pointer (some ⟨b, o, none⟩)) 0) (fun p w => opW Tryz.prog (Instr.loadAt 3 p) k w) w = k u w := r_get (x := 0) (by kernel_rfl) (by kernel_rfl) (by kernel_rfl) hc
theorem rt61_0 {b o : Nat} (hc : w.cell? ⟨b, o, none⟩ = some u) : takeW Tryz.prog anyW (Instr.fieldAt 61 (.pointer (some ⟨b, o, none⟩)) 0) (fun p => takeW Tryz.prog (sameW w) (Instr.loadAt 3 p) K w) w = K u := r_getT (x := 0) (by kernel_rfl) (by kernel_rfl) (by kernel_rfl) hc
theorem rw61_1 {b o : Nat} (hc : w.cell? ⟨b, o + 1, none⟩ = some u) : opW Tryz.prog (Instr.fieldAt 61 (.pointer (some ⟨b, o, none⟩)) 1) (fun p w => opW Tryz.prog (Instr.loadAt 25 p) k w) w = k u w := r_get (x := 1) (by kernel_rfl) (by kernel_rfl) (by kernel_rfl) hc
theorem ra61_1 {w0 : World} {b o : Nat} (hc : w0.cell? ⟨b, o + 1, none⟩ = some u) (ha : after w0 w) : takeW Tryz.prog anyW (Instr.fieldAt 61 (.pointer (some ⟨b, o, none⟩)) 1) (fun p => takeW Tryz.prog (after w0) (Instr.loadAt 25 p) K w) w = K u := r_getA (x := 1) (by kernel_rfl) (by kernel_rfl) (by kernel_rfl) hc ha
theorem rw61_2 {b o : Nat} (hc : w.cell? ⟨b, o + 2, none⟩ = some u) : opW Tryz.prog (Instr.fieldAt 61 (.pointer (some ⟨b, o, none⟩)) 2) (fun p w => opW Tryz.prog (Instr.loadAt 26 p) k w) w = k u w := r_get (x := 2) (by kernel_rfl) (by kernel_rfl) (by kernel_rfl) hc
theorem rt61_2 {b o : Nat} (hc : w.cell? ⟨b, o + 2, none⟩ = some u) : takeW Tryz.prog anyW (Instr.fieldAt 61 (.pointer (some ⟨b, o, none⟩)) 2) (fun p => takeW Tryz.prog (sameW w) (Instr.loadAt 26 p) K w) w = K u := r_getT (x := 2) (by kernel_rfl) (by kernel_rfl) (by kernel_rfl) hc
theorem ra61_2 {w0 : World} {b o : Nat} (hc : w0.cell? ⟨b, o + 2, none⟩ = some u) (ha : after w0 w) : takeW Tryz.prog anyW (Instr.fieldAt 61 (.pointer (some ⟨b, o, none⟩)) 2) (fun p => takeW Tryz.prog (after w0) (Instr.loadAt 26 p) K w) w = K u := r_getA (x := 2) (by kernel_rfl) (by kernel_rfl) (by kernel_rfl) hc ha
theorem ro61_2 {p : Nat → Prop} {w0 : World} {b o : Nat} (hc : w0.cell? ⟨b, o + 2, none⟩ = some u) (hp : ¬ p b) (ha : Off p w0 w) : takeW Tryz.prog anyW (Instr.fieldAt 61 (.pointer (some ⟨b, o, none⟩)) 2) (fun q => takeW Tryz.prog (Off p w0) (Instr.loadAt 26 q) K w) w = K u := r_getO (x := 2) (by kernel_rfl) (by kernel_rfl) (by kernel_rfl) hc hp ha
theorem rw61_3 {b o : Nat} (hc : w.cell? ⟨b, o + 3, none⟩ = some u) : opW Tryz.prog (Instr.fieldAt 61 (.pointer (some ⟨b, o, none⟩)) 3) (fun p w => opW Tryz.prog (Instr.loadAt 3 p) k w) w = k u w := r_get (x := 3) (by kernel_rfl) (by kernel_rfl) (by kernel_rfl) hc
theorem rt61_3 {b o : Nat} (hc : w.cell? ⟨b, o + 3, none⟩ = some u) : takeW Tryz.prog anyW (Instr.fieldAt 61 (.pointer (some ⟨b, o, none⟩)) 3) (fun p => takeW Tryz.prog (sameW w) (Instr.loadAt 3 p) K w) w = K u := r_getT (x := 3) (by kernel_rfl) (by kernel_rfl) (by kernel_rfl) hc
theorem rw61_4 {b o : Nat} (hc : w.cell? ⟨b, o + 4, none⟩ = some u) : opW Tryz.prog (Instr.fieldAt 61 (.pointer (some ⟨b, o, none⟩)) 4) (fun p w => opW Tryz.prog (Instr.loadAt 3 p) k w) w = k u w := r_get (x := 4) (by kernel_rfl) (by kernel_rfl) (by kernel_rfl) hc
theorem rt61_4 {b o : Nat} (hc : w.cell? ⟨b, o + 4, none⟩ = some u) : takeW Tryz.prog anyW (Instr.fieldAt 61 (.pointer (some ⟨b, o, none⟩)) 4) (fun p => takeW Tryz.prog (sameW w) (Instr.loadAt 3 p) K w) w = K u := r_getT (x := 4) (by kernel_rfl) (by kernel_rfl) (by kernel_rfl) hc
theorem rw61_5 {b o : Nat} (hc : w.cell? ⟨b, o + 5, none⟩ = some u) : opW Tryz.prog (Instr.fieldAt 61 (.pointer (some ⟨b, o, none⟩)) 5) (fun p w => opW Tryz.prog (Instr.loadAt 59 p) k w) w = k u w := r_get (x := 5) (by kernel_rfl) (by kernel_rfl) (by kernel_rfl) hc
theorem rt61_5 {b o : Nat} (hc : w.cell? ⟨b, o + 5, none⟩ = some u) : takeW Tryz.prog anyW (Instr.fieldAt 61 (.pointer (some ⟨b, o, none⟩)) 5) (fun p => takeW Tryz.prog (sameW w) (Instr.loadAt 59 p) K w) w = K u := r_getT (x := 5) (by kernel_rfl) (by kernel_rfl) (by kernel_rfl) hc
theorem ra61_5 {w0 : World} {b o : Nat} (hc : w0.cell? ⟨b, o + 5, none⟩ = some u) (ha : after w0 w) : takeW Tryz.prog anyW (Instr.fieldAt 61 (.pointer (some ⟨b, o, none⟩)) 5) (fun p => takeW Tryz.prog (after w0) (Instr.loadAt 59 p) K w) w = K u := r_getA (x := 5) (by kernel_rfl) (by kernel_rfl) (by kernel_rfl) hc ha
theorem rw63_0 {b o : Nat} (hc : w.cell? ⟨b, o, none⟩ = some u) : opW Tryz.prog (Instr.fieldAt 63 (.pointer (some ⟨b, o, none⟩)) 0) (fun p w => opW Tryz.prog (Instr.loadAt 3 p) k w) w = k u w := r_get (x := 0) (by kernel_rfl) (by kernel_rfl) (by kernel_rfl) hc
theorem rt63_0 {b o : Nat} (hc : w.cell? ⟨b, o, none⟩ = some u) : takeW Tryz.prog anyW (Instr.fieldAt 63 (.pointer (some ⟨b, o, none⟩)) 0) (fun p => takeW Tryz.prog (sameW w) (Instr.loadAt 3 p) K w) w = K u := r_getT (x := 0) (by kernel_rfl) (by kernel_rfl) (by kernel_rfl) hc
theorem rw63_2 {b o : Nat} (hc : w.cell? ⟨b, o + 7, none⟩ = some u) : opW Tryz.prog (Instr.fieldAt 63 (.pointer (some ⟨b, o, none⟩)) 2) (fun p w => opW Tryz.prog (Instr.loadAt 3 p) k w) w = k u w := r_get (x := 7) (by kernel_rfl) (by kernel_rfl) (by kernel_rfl) hc
theorem ra63_2 {w0 : World} {b o : Nat} (hc : w0.cell? ⟨b, o + 7, none⟩ = some u) (ha : after w0 w) : takeW Tryz.prog anyW (Instr.fieldAt 63 (.pointer (some ⟨b, o, none⟩)) 2) (fun p => takeW Tryz.prog (after w0) (Instr.loadAt 3 p) K w) w = K u := r_getA (x := 7) (by kernel_rfl) (by kernel_rfl) (by kernel_rfl) hc ha
theorem rw63_3 {b o : Nat} (hc : w.cell? ⟨b, o + 8, none⟩ = some u) : opW Tryz.prog (Instr.fieldAt 63 (.pointer (some ⟨b, o, none⟩)) 3) (fun p w => opW Tryz.prog (Instr.loadAt 9 p) k w) w = k u w := r_get (x := 8) (by kernel_rfl) (by kernel_rfl) (by kernel_rfl) hc
theorem ra63_3 {w0 : World} {b o : Nat} (hc : w0.cell? ⟨b, o + 8, none⟩ = some u) (ha : after w0 w) : takeW Tryz.prog anyW (Instr.fieldAt 63 (.pointer (some ⟨b, o, none⟩)) 3) (fun p => takeW Tryz.prog (after w0) (Instr.loadAt 9 p) K w) w = K u := r_getA (x := 8) (by kernel_rfl) (by kernel_rfl) (by kernel_rfl) hc ha
theorem rw87_0 {b o : Nat} (hc : w.cell? ⟨b, o, none⟩ = some u) : opW Tryz.prog (Instr.fieldAt 87 (.pointer (some ⟨b, o, none⟩)) 0) (fun p w => opW Tryz.prog (Instr.loadAt 3 p) k w) w = k u w := r_get (x := 0) (by kernel_rfl) (by kernel_rfl) (by kernel_rfl) hc
theorem ra87_0 {w0 : World} {b o : Nat} (hc : w0.cell? ⟨b, o, none⟩ = some u) (ha : after w0 w) : takeW Tryz.prog anyW (Instr.fieldAt 87 (.pointer (some ⟨b, o, none⟩)) 0) (fun p => takeW Tryz.prog (after w0) (Instr.loadAt 3 p) K w) w = K u := r_getA (x := 0) (by kernel_rfl) (by kernel_rfl) (by kernel_rfl) hc ha
theorem rw87_1 {b o : Nat} (hc : w.cell? ⟨b, o + 1, none⟩ = some u) : opW Tryz.prog (Instr.fieldAt 87 (.pointer (some ⟨b, o, none⟩)) 1) (fun p w => opW Tryz.prog (Instr.loadAt 25 p) k w) w = k u w := r_get (x := 1) (by kernel_rfl) (by kernel_rfl) (by kernel_rfl) hc
theorem ra87_1 {w0 : World} {b o : Nat} (hc : w0.cell? ⟨b, o + 1, none⟩ = some u) (ha : after w0 w) : takeW Tryz.prog anyW (Instr.fieldAt 87 (.pointer (some ⟨b, o, none⟩)) 1) (fun p => takeW Tryz.prog (after w0) (Instr.loadAt 25 p) K w) w = K u := r_getA (x := 1) (by kernel_rfl) (by kernel_rfl) (by kernel_rfl) hc ha
theorem ra98_1 {w0 : World} {b o : Nat} (hc : w0.cell? ⟨b, o + 9, none⟩ = some u) (ha : after w0 w) : takeW Tryz.prog anyW (Instr.fieldAt 98 (.pointer (some ⟨b, o, none⟩)) 1) (fun p => takeW Tryz.prog (after w0) (Instr.loadAt 3 p) K w) w = K u := r_getA (x := 9) (by kernel_rfl) (by kernel_rfl) (by kernel_rfl) hc ha
theorem rw98_2 {b o : Nat} (hc : w.cell? ⟨b, o + 10, none⟩ = some u) : opW Tryz.prog (Instr.fieldAt 98 (.pointer (some ⟨b, o, none⟩)) 2) (fun p w => opW Tryz.prog (Instr.loadAt 3 p) k w) w = k u w := r_get (x := 10) (by kernel_rfl) (by kernel_rfl) (by kernel_rfl) hc
theorem rt98_2 {b o : Nat} (hc : w.cell? ⟨b, o + 10, none⟩ = some u) : takeW Tryz.prog anyW (Instr.fieldAt 98 (.pointer (some ⟨b, o, none⟩)) 2) (fun p => takeW Tryz.prog (sameW w) (Instr.loadAt 3 p) K w) w = K u := r_getT (x := 10) (by kernel_rfl) (by kernel_rfl) (by kernel_rfl) hc
theorem ra98_2 {w0 : World} {b o : Nat} (hc : w0.cell? ⟨b, o + 10, none⟩ = some u) (ha : after w0 w) : takeW Tryz.prog anyW (Instr.fieldAt 98 (.pointer (some ⟨b, o, none⟩)) 2) (fun p => takeW Tryz.prog (after w0) (Instr.loadAt 3 p) K w) w = K u := r_getA (x := 10) (by kernel_rfl) (by kernel_rfl) (by kernel_rfl) hc ha
theorem rw111_0 {b o : Nat} (hc : w.cell? ⟨b, o, none⟩ = some u) : opW Tryz.prog (Instr.fieldAt 111 (.pointer (some ⟨b, o, none⟩)) 0) (fun p w => opW Tryz.prog (Instr.loadAt 107 p) k w) w = k u w := r_get (x := 0) (by kernel_rfl) (by kernel_rfl) (by kernel_rfl) hc
theorem rw111_1 {b o : Nat} (hc : w.cell? ⟨b, o + 1, none⟩ = some u) : opW Tryz.prog (Instr.fieldAt 111 (.pointer (some ⟨b, o, none⟩)) 1) (fun p w => opW Tryz.prog (Instr.loadAt 108 p) k w) w = k u w := r_get (x := 1) (by kernel_rfl) (by kernel_rfl) (by kernel_rfl) hc
theorem rw121_0 {b o : Nat} (hc : w.cell? ⟨b, o, none⟩ = some u) : opW Tryz.prog (Instr.fieldAt 121 (.pointer (some ⟨b, o, none⟩)) 0) (fun p w => opW Tryz.prog (Instr.loadAt 3 p) k w) w = k u w := r_get (x := 0) (by kernel_rfl) (by kernel_rfl) (by kernel_rfl) hc
theorem rt121_0 {b o : Nat} (hc : w.cell? ⟨b, o, none⟩ = some u) : takeW Tryz.prog anyW (Instr.fieldAt 121 (.pointer (some ⟨b, o, none⟩)) 0) (fun p => takeW Tryz.prog (sameW w) (Instr.loadAt 3 p) K w) w = K u := r_getT (x := 0) (by kernel_rfl) (by kernel_rfl) (by kernel_rfl) hc
theorem ra121_0 {w0 : World} {b o : Nat} (hc : w0.cell? ⟨b, o, none⟩ = some u) (ha : after w0 w) : takeW Tryz.prog anyW (Instr.fieldAt 121 (.pointer (some ⟨b, o, none⟩)) 0) (fun p => takeW Tryz.prog (after w0) (Instr.loadAt 3 p) K w) w = K u := r_getA (x := 0) (by kernel_rfl) (by kernel_rfl) (by kernel_rfl) hc ha
theorem rw121_1 {b o : Nat} (hc : w.cell? ⟨b, o + 1, none⟩ = some u) : opW Tryz.prog (Instr.fieldAt 121 (.pointer (some ⟨b, o, none⟩)) 1) (fun p w => opW Tryz.prog (Instr.loadAt 3 p) k w) w = k u w := r_get (x := 1) (by kernel_rfl) (by kernel_rfl) (by kernel_rfl) hc
theorem rt121_1 {b o : Nat} (hc : w.cell? ⟨b, o + 1, none⟩ = some u) : takeW Tryz.prog anyW (Instr.fieldAt 121 (.pointer (some ⟨b, o, none⟩)) 1) (fun p => takeW Tryz.prog (sameW w) (Instr.loadAt 3 p) K w) w = K u := r_getT (x := 1) (by kernel_rfl) (by kernel_rfl) (by kernel_rfl) hc
theorem rw161_0 {b o : Nat} (hc : w.cell? ⟨b, o, none⟩ = some u) : opW Tryz.prog (Instr.fieldAt 161 (.pointer (some ⟨b, o, none⟩)) 0) (fun p w => opW Tryz.prog (Instr.loadAt 3 p) k w) w = k u w := r_get (x := 0) (by kernel_rfl) (by kernel_rfl) (by kernel_rfl) hc
theorem rw161_1 {b o : Nat} (hc : w.cell? ⟨b, o + 1, none⟩ = some u) : opW Tryz.prog (Instr.fieldAt 161 (.pointer (some ⟨b, o, none⟩)) 1) (fun p w => opW Tryz.prog (Instr.loadAt 159 p) k w) w = k u w := r_get (x := 1) (by kernel_rfl) (by kernel_rfl) (by kernel_rfl) hc
theorem rc28 {b : Nat} {vs : List Value} (hl : vs.length = 5) (hc : Cells w b 0 vs) : resCell Tryz.prog 28 (.pointer (some ⟨b, 0, none⟩)) K w = K (.agg vs.toArray) := resCell_agg (by kernel_rfl) (by kernel_rfl) (by rw [hl]; kernel_rfl) hc
theorem la28 {w0 : World} {b o : Nat} {vs : List Value} (hl : vs.length = 5) (hc : Cells w0 b o vs) (ha : after w0 w) : takeW Tryz.prog (after w0) (Instr.loadAt 28 (.pointer (some ⟨b, o, none⟩))) K w = K (.agg vs.toArray) := r_aggA (by kernel_rfl) (by kernel_rfl) (by rw [hl]; kernel_rfl) hc (by intro h; rw [h] at hl; cases hl) ha
theorem la30 {w0 : World} {b o : Nat} {vs : List Value} (hl : vs.length = 2) (hc : Cells w0 b o vs) (ha : after w0 w) : takeW Tryz.prog (after w0) (Instr.loadAt 30 (.pointer (some ⟨b, o, none⟩))) K w = K (.agg vs.toArray) := r_aggA (by kernel_rfl) (by kernel_rfl) (by rw [hl]; kernel_rfl) hc (by intro h; rw [h] at hl; cases hl) ha
theorem lo31 {p : Nat → Prop} {w0 : World} {ad : Addr} (hc : w0.cell? ad = some u) (hp : ¬ p ad.block) (ha : Off p w0 w) : takeW Tryz.prog (Off p w0) (Instr.loadAt 31 (.pointer (some ad))) K w = K u := r_loadO (by kernel_rfl) (by kernel_rfl) hc hp ha
theorem rc61 {b : Nat} {vs : List Value} (hl : vs.length = 6) (hc : Cells w b 0 vs) : resCell Tryz.prog 61 (.pointer (some ⟨b, 0, none⟩)) K w = K (.agg vs.toArray) := resCell_agg (by kernel_rfl) (by kernel_rfl) (by rw [hl]; kernel_rfl) hc
theorem rc63 {b : Nat} {vs : List Value} (hl : vs.length = 9) (hc : Cells w b 0 vs) : resCell Tryz.prog 63 (.pointer (some ⟨b, 0, none⟩)) K w = K (.agg vs.toArray) := resCell_agg (by kernel_rfl) (by kernel_rfl) (by rw [hl]; kernel_rfl) hc
theorem lo94 {p : Nat → Prop} {w0 : World} {b o : Nat} {vs : List Value} (hl : vs.length = 8) (hc : Cells w0 b o vs) (hp : ¬ p b) (ha : Off p w0 w) : takeW Tryz.prog (Off p w0) (Instr.loadAt 94 (.pointer (some ⟨b, o, none⟩))) K w = K (.agg vs.toArray) := r_aggO (by kernel_rfl) (by kernel_rfl) (by rw [hl]; kernel_rfl) hc hp ha
theorem la94 {w0 : World} {b o : Nat} {vs : List Value} (hl : vs.length = 8) (hc : Cells w0 b o vs) (ha : after w0 w) : takeW Tryz.prog (after w0) (Instr.loadAt 94 (.pointer (some ⟨b, o, none⟩))) K w = K (.agg vs.toArray) := r_aggA (by kernel_rfl) (by kernel_rfl) (by rw [hl]; kernel_rfl) hc (by intro h; rw [h] at hl; cases hl) ha
theorem lo109 {p : Nat → Prop} {w0 : World} {ad : Addr} (hc : w0.cell? ad = some u) (hp : ¬ p ad.block) (ha : Off p w0 w) : takeW Tryz.prog (Off p w0) (Instr.loadAt 109 (.pointer (some ad))) K w = K u := r_loadO (by kernel_rfl) (by kernel_rfl) hc hp ha
theorem sr28 {b : Nat} {vs old : List Value} (hl : vs.length = 5) (hr : RowAt w b 28 old) (ho : old.length = 5) (hv : ∀ v ∈ vs, v.oneCell' = true) (h : ∀ w', Only b w w' → RowAt w' b 28 vs → k undef w') : opU Tryz.prog (Instr.storeAt 28 (.pointer (some ⟨b, 0, none⟩)) (.agg vs.toArray)) k w := w_storeRow hr (by rw [hl, ho]) hv (by rw [hl]; kernel_rfl) (by kernel_rfl) h
theorem sr30 {b : Nat} {vs old : List Value} (hl : vs.length = 2) (hr : RowAt w b 30 old) (ho : old.length = 2) (hv : ∀ v ∈ vs, v.oneCell' = true) (h : ∀ w', Only b w w' → RowAt w' b 30 vs → k undef w') : opU Tryz.prog (Instr.storeAt 30 (.pointer (some ⟨b, 0, none⟩)) (.agg vs.toArray)) k w := w_storeRow hr (by rw [hl, ho]) hv (by rw [hl]; kernel_rfl) (by kernel_rfl) h
theorem sr61 {b : Nat} {vs old : List Value} (hl : vs.length = 6) (hr : RowAt w b 61 old) (ho : old.length = 6) (hv : ∀ v ∈ vs, v.oneCell' = true) (h : ∀ w', Only b w w' → RowAt w' b 61 vs → k undef w') : opU Tryz.prog (Instr.storeAt 61 (.pointer (some ⟨b, 0, none⟩)) (.agg vs.toArray)) k w := w_storeRow hr (by rw [hl, ho]) hv (by rw [hl]; kernel_rfl) (by kernel_rfl) h
theorem sr63 {b : Nat} {vs old : List Value} (hl : vs.length = 9) (hr : RowAt w b 63 old) (ho : old.length = 9) (hv : ∀ v ∈ vs, v.oneCell' = true) (h : ∀ w', Only b w w' → RowAt w' b 63 vs → k undef w') : opU Tryz.prog (Instr.storeAt 63 (.pointer (some ⟨b, 0, none⟩)) (.agg vs.toArray)) k w := w_storeRow hr (by rw [hl, ho]) hv (by rw [hl]; kernel_rfl) (by kernel_rfl) h
theorem sr84 {b : Nat} {vs old : List Value} (hl : vs.length = 9) (hr : RowAt w b 84 old) (ho : old.length = 9) (hv : ∀ v ∈ vs, v.oneCell' = true) (h : ∀ w', Only b w w' → RowAt w' b 84 vs → k undef w') : opU Tryz.prog (Instr.storeAt 84 (.pointer (some ⟨b, 0, none⟩)) (.agg vs.toArray)) k w := w_storeRow hr (by rw [hl, ho]) hv (by rw [hl]; kernel_rfl) (by kernel_rfl) h
theorem sr87 {b : Nat} {vs old : List Value} (hl : vs.length = 2) (hr : RowAt w b 87 old) (ho : old.length = 2) (hv : ∀ v ∈ vs, v.oneCell' = true) (h : ∀ w', Only b w w' → RowAt w' b 87 vs → k undef w') : opU Tryz.prog (Instr.storeAt 87 (.pointer (some ⟨b, 0, none⟩)) (.agg vs.toArray)) k w := w_storeRow hr (by rw [hl, ho]) hv (by rw [hl]; kernel_rfl) (by kernel_rfl) h
theorem sr94 {b : Nat} {vs old : List Value} (hl : vs.length = 8) (hr : RowAt w b 94 old) (ho : old.length = 8) (hv : ∀ v ∈ vs, v.oneCell' = true) (h : ∀ w', Only b w w' → RowAt w' b 94 vs → k undef w') : opU Tryz.prog (Instr.storeAt 94 (.pointer (some ⟨b, 0, none⟩)) (.agg vs.toArray)) k w := w_storeRow hr (by rw [hl, ho]) hv (by rw [hl]; kernel_rfl) (by kernel_rfl) h
theorem sr111 {b : Nat} {vs old : List Value} (hl : vs.length = 3) (hr : RowAt w b 111 old) (ho : old.length = 3) (hv : ∀ v ∈ vs, v.oneCell' = true) (h : ∀ w', Only b w w' → RowAt w' b 111 vs → k undef w') : opU Tryz.prog (Instr.storeAt 111 (.pointer (some ⟨b, 0, none⟩)) (.agg vs.toArray)) k w := w_storeRow hr (by rw [hl, ho]) hv (by rw [hl]; kernel_rfl) (by kernel_rfl) h
theorem nta24 {i : Nat} (hz : F.sz = 9) (hs : IsSl F w v l) (hx : l[i]? = some a) : takeW Tryz.prog anyW (Instr.indexAt 24 v (.int q (i : Int))) (fun p => takeW Tryz.prog (sameW w) (Instr.loadAt 63 p) K w) w = K (.agg (F.e a).toArray) := gta24 (i := (i : Int)) hz hs (by omega) hx
theorem nw25 {i : Nat} (hz : F.sz = 1) (hs : IsSl F w v l) (hx : l[i]? = some a) (hu : (F.e a)[0]? = some u) : opW Tryz.prog (Instr.indexAt 25 v (.int q (i : Int))) (fun p w => opW Tryz.prog (Instr.loadAt 3 p) k w) w = k u w := gw25 (i := (i : Int)) hz hs (by omega) hx hu
theorem nt25 {i : Nat} (hz : F.sz = 1) (hs : IsSl F w v l) (hx : l[i]? = some a) (hu : (F.e a)[0]? = some u) : takeW Tryz.prog anyW (Instr.indexAt 25 v (.int q (i : Int))) (fun p => takeW Tryz.prog (sameW w) (Instr.loadAt 3 p) K w) w = K u := gt25 (i := (i : Int)) hz hs (by omega) hx hu
theorem nta26 {i : Nat} (hz : F.sz = 2) (hs : IsSl F w v l) (hx : l[i]? = some a) : takeW Tryz.prog anyW (Instr.indexAt 26 v (.int q (i : Int))) (fun p => takeW Tryz.prog (sameW w) (Instr.loadAt 121 p) K w) w = K (.agg (F.e a).toArray) := gta26 (i := (i : Int)) hz hs (by omega) hx
theorem nt31 {i : Nat} (hz : F.sz = 1) (hs : IsSl F w v l) (hx : l[i]? = some a) (hu : (F.e a)[0]? = some u) : takeW Tryz.prog anyW (Instr.indexAt 31 v (.int q (i : Int))) (fun p => takeW Tryz.prog (sameW w) (Instr.loadAt 9 p) K w) w = K u := gt31 (i := (i : Int)) hz hs (by omega) hx hu
theorem nta33 {i : Nat} (hz : F.sz = 5) (hs : IsSl F w v l) (hx : l[i]? = some a) : takeW Tryz.prog anyW (Instr.indexAt 33 v (.int q (i : Int))) (fun p => takeW Tryz.prog (sameW w) (Instr.loadAt 28 p) K w) w = K (.agg (F.e a).toArray) := gta33 (i := (i : Int)) hz hs (by omega) hx
theorem nt33_0 {i : Nat} (hz : F.sz = 5) (hs : IsSl F w v l) (hx : l[i]? = some a) (hu : (F.e a)[0]? = some u) : takeW Tryz.prog anyW (Instr.indexAt 33 v (.int q (i : Int))) (fun p => takeW Tryz.prog anyW (Instr.fieldAt 28 p 0) (fun p => takeW Tryz.prog (sameW w) (Instr.loadAt 3 p) K w) w) w = K u := gt33_0 (i := (i : Int)) hz hs (by omega) hx hu
theorem nw39 {i : Nat} (hz : F.sz = 1) (hs : IsSl F w v l) (hx : l[i]? = some a) (hu : (F.e a)[0]? = some u) : opW Tryz.prog (Instr.indexAt 39 v (.int q (i : Int))) (fun p w => opW Tryz.prog (Instr.loadAt 24 p) k w) w = k u w := gw39 (i := (i : Int)) hz hs (by omega) hx hu
theorem nw40 {i : Nat} (hz : F.sz = 1) (hs : IsSl F w v l) (hx : l[i]? = some a) (hu : (F.e a)[0]? = some u) : opW Tryz.prog (Instr.indexAt 40 v (.int q (i : Int))) (fun p w => opW Tryz.prog (Instr.loadAt 33 p) k w) w = k u w := gw40 (i := (i : Int)) hz hs (by omega) hx hu
theorem na41 {i : Nat} (hz : F.sz = 2) (hs : IsSl F w v l) (hx : l[i]? = some a) : opW Tryz.prog (Instr.indexAt 41 v (.int q (i : Int))) (fun p w => opW Tryz.prog (Instr.loadAt 30 p) k w) w = k (.agg (F.e a).toArray) w := ga41 (i := (i : Int)) hz hs (by omega) hx
theorem nta59 {i : Nat} (hz : F.sz = 2) (hs : IsSl F w v l) (hx : l[i]? = some a) : takeW Tryz.prog anyW (Instr.indexAt 59 v (.int q (i : Int))) (fun p => takeW Tryz.prog (sameW w) (Instr.loadAt 87 p) K w) w = K (.agg (F.e a).toArray) := gta59 (i := (i : Int)) hz hs (by omega) hx
theorem nt59_1 {i : Nat} (hz : F.sz = 2) (hs : IsSl F w v l) (hx : l[i]? = some a) (hu : (F.e a)[1]? = some u) : takeW Tryz.prog anyW (Instr.indexAt 59 v (.int q (i : Int))) (fun p => takeW Tryz.prog anyW (Instr.fieldAt 87 p 1) (fun p => takeW Tryz.prog (sameW w) (Instr.loadAt 25 p) K w) w) w = K u := gt59_1 (i := (i : Int)) hz hs (by omega) hx hu
theorem nt95 {i : Nat} (hz : F.sz = 1) (hs : IsSl F w v l) (hx : l[i]? = some a) (hu : (F.e a)[0]? = some u) : takeW Tryz.prog anyW (Instr.indexAt 95 v (.int q (i : Int))) (fun p => takeW Tryz.prog (sameW w) (Instr.loadAt 96 p) K w) w = K u := gt95 (i := (i : Int)) hz hs (by omega) hx hu
end
end Go.Proofs.YtfkfkldhcignbaaGreatDoor
/- The insertion sort of slices of structs, by its condition. -/
set_option linter.unusedSimpArgs false
set_option linter.unusedVariables false
namespace Go.V
open Go Go.RowKit
/-- the condition of slices.insertionSortCmpFunc at a slice type t of structs e, as the printer lays it -/
def InsS (P : Program) (t e : Nat) (data_1 a_2 b_3 cmp_4 : Value) (k : Value → World → Prop) (w : World) : Prop :=
   opW P (binS BinOp.add 3 (Operand.tmp 10) (Operand.const (Value.int IntKind.i64 1)) a_2 (Value.int IntKind.i64 1)) (fun t11_5 w =>
   Loop1 (fun i_7 w K_8 =>
   opW P (binS BinOp.lss 3 (Operand.tmp 12) (Operand.tmp 13) i_7 b_3) (fun t14_10 w =>
   condW t14_10
   (Loop1 (fun j_13 w K_14 =>
   drewW w (fun w =>
   takeW P anyW (binS BinOp.gtr 3 (Operand.tmp 18) (Operand.tmp 19) j_13 a_2) (fun t20_17 =>
   guardT (some t20_17, true) (fun k => k cmp_4) (fun t22_18 =>
   guardT (some t20_17, true) (fun k => k data_1) (fun t23_19 =>
   guardT (some t20_17, true) (fun k => k j_13) (fun t24_20 =>
   guardT (some t20_17, true) (fun k => takeW P anyW (Instr.indexAt t t23_19 t24_20) k w) (fun t25_21 =>
   guardT (some t20_17, true) (fun k => takeW P (sameW w) (Instr.loadAt e t25_21) k w) (fun t26_22 =>
   guardT (some t20_17, true) (fun k => k data_1) (fun t27_23 =>
   guardT (some t20_17, true) (fun k => k j_13) (fun t28_24 =>
   guardT (some t20_17, true) (fun k => takeW P anyW (binS BinOp.sub 3 (Operand.tmp 28) (Operand.const (Value.int IntKind.i64 1)) t28_24 (Value.int IntKind.i64 1)) k w) (fun t29_25 =>
   guardT (some t20_17, true) (fun k => takeW P anyW (Instr.indexAt t t27_23 t29_25) k w) (fun t30_26 =>
   guardT (some t20_17, true) (fun k => takeW P (sameW w) (Instr.loadAt e t30_26) k w) (fun t31_27 =>
   guardW (some t20_17, true) (fun k w => callW P t22_18 #[t26_22, t31_27] k w) (fun t32_28 w =>
   guardT (some t20_17, true) (fun k => takeW P anyW (binS BinOp.lss 3 (Operand.tmp 32) (Operand.const (Value.int IntKind.i64 0)) t32_28 (Value.int IntKind.i64 0)) k w) (fun t33_29 =>
   pickT t20_17 t33_29 (Value.bool false) (fun t34_30 =>
   condW t34_30
   (drewW w (fun w =>
   takeW P anyW (binS BinOp.sub 3 (Operand.tmp 40) (Operand.const (Value.int IntKind.i64 1)) j_13 (Value.int IntKind.i64 1)) (fun t41_33 =>
   takeW P anyW (binS BinOp.sub 3 (Operand.tmp 43) (Operand.const (Value.int IntKind.i64 1)) j_13 (Value.int IntKind.i64 1)) (fun t44_34 =>
   takeW P anyW (Instr.indexAt t data_1 t44_34) (fun t45_35 =>
   takeW P (sameW w) (Instr.loadAt e t45_35) (fun t46_36 =>
   takeW P anyW (Instr.indexAt t data_1 j_13) (fun t49_37 =>
   takeW P (sameW w) (Instr.loadAt e t49_37) (fun t50_38 =>
   takeW P anyW (Instr.indexAt t data_1 j_13) (fun t51_39 =>
   opU P (Instr.storeAt e t51_39 t46_36) (fun _ w =>
   takeW P anyW (Instr.indexAt t data_1 t41_33) (fun t52_40 =>
   opU P (Instr.storeAt e t52_40 t50_38) (fun _ w =>
   opW P (binS BinOp.sub 3 (Operand.tmp 35) (Operand.const (Value.int IntKind.i64 1)) j_13 (Value.int IntKind.i64 1)) (fun t36_41 w =>
   loopK [] [] [data_1, a_2, b_3, cmp_4, i_7] [data_1, a_2, b_3, cmp_4, i_7] (K_14 t36_41 w)) w) w) w) w) w) w) w) w) w) w) w))
   (opW P (binS BinOp.add 3 (Operand.tmp 15) (Operand.const (Value.int IntKind.i64 1)) i_7 (Value.int IntKind.i64 1)) (fun t16_42 w =>
   loopK [] [] [data_1, a_2, b_3, cmp_4] [data_1, a_2, b_3, cmp_4] (K_8 t16_42 w)) w)))) w))))))))))) w)) i_7 w)
   (k (Value.tuple #[]) w)) w) t11_5 w) w

structure CmpLaw {α : Type} (c : α → α → Int) : Prop where
  asym : ∀ x y, c x y < 0 → ¬ c y x < 0
  nt : ∀ x y z, ¬ c z y < 0 → ¬ c y x < 0 → ¬ c z x < 0
def SortedBut {α : Type} (c : α → α → Int) (M : List α) (i j : Nat) : Prop := ∀ p q x y, p < q → q < i → q ≠ j → M[p]? = some x → M[q]? = some y → ¬ c y x < 0
theorem off_drew (p : Nat → Prop) (w : World) : Off p w w.drew := ⟨Nat.le_refl _, fun _ _ _ => rfl⟩
/-- the element type e of slices of type t, as F lays its elements -/
structure ETy {α : Type} (P : Program) (t e : Nat) (F : Fl α) : Prop where
  isl : isSliceT P t = true
  kn : known P (elemT P t) = true
  sz : sizeT P (elemT P t) = F.sz
  agg : isAggT P e = true
  kne : known P e = true
  se : sizeT P e = F.sz
  one : ∀ x, ∀ u ∈ F.e x, u.oneCell' = true
section
variable {P : Program} {k : Value → World → Prop} {w : World} {α : Type} {F : Fl α} {t e e' : Nat} {v f : Value} {c : α → α → Int} {L : List α} {B : Nat}
theorem setT (h : ETy P t e F) {K : Value → World → Prop} {q : IntKind} {l : List α} {x y : α} {i : Nat} (hs : Mine F e' w B v l) (hx : l[i]? = some x)
    (hk : ∀ w', Mine F e' w' B v (l.set i y) → Below B w w' → Off (isOf v) w w' → K undef w') :
    takeW P anyW (Instr.indexAt t v (.int q (i : Int))) (fun p => opU P (Instr.storeAt e p (.agg (F.e y).toArray)) K w) w :=
  Mine.setAT (i := (i : Int)) h.isl h.kn h.sz h.se h.kne hs (by omega) hx (h.one y) hk
end

section
variable {P : Program} {k : Value → World → Prop} {w w0 : World} {α : Type} {F : Fl α} {t e e' ty : Nat} {v u f : Value} {l m : List α} {B : Nat}
theorem Mine.pushS {S : World → Prop} {bytes : Nat} {z xv : Value} {x : α} {K : Value → World → Prop} (h : STy P t e F.sz bytes z) (hone : ∀ u ∈ F.e x, u.oneCell' = true) (hxc : xv.cells.toList = F.e x) (hsm : F.sz ≤ 16777216)
    (hown : Mine F e w B v l) (hB : B ≤ w.heap.size) (hl : l.length + 1 ≤ maxLen) (hbytes : (l.length + 1) * bytes ≤ 140737488355328) (hS : ∀ w', Below w.heap.size w w' → S w')
    (hk : ∀ v' w', Mine F e w' B v' (l ++ [x]) → Below B w w' → Off (isOf v) w w' → (∀ b, isOf v' b → isOf v b ∨ w.heap.size ≤ b) → S w' ∧ K v' w') :
    opW P (Instr.buildSlice t 1 #[(0, xv)]) (fun s w => keepS S (fun w => opW P (Builtin.append_ #[t, t] ty #[v, s]) (fun r w => keepS S (fun w => K r w) w) w) w) w := by
  have hcs : xv.cells.size = F.sz := by rw [← F.len x, ← hxc]; simp
  have hp := Mine.push (ty := ty) (K := fun r w => keepS S (fun w => K r w) w) h hone hxc hsm hown hB hl hbytes (fun v' w' h1 h2 h3 h4 => by rw [keepS_eq]; exact hk v' w' h1 h2 h3 h4)
  rw [w_one h hcs hsm] at hp ⊢
  rw [keepS_eq]
  exact ⟨hS _ ((Below.refl _ _).alloc (Nat.le_refl _) _), hp⟩
theorem run_append_zero_nil {size bytes : Nat} {z : Value} (h : STy P t e size bytes z) {c : Nat} {b : Option Addr} :
    (Builtin.append_ #[t, t] ty #[.slice none 0 0, .slice b 0 c]).run P w = .ok (.slice none 0 0) w := by
  obtain ⟨i, hi, hz, hs, hby⟩ := h.info
  have hf : (Builtin.firstCells i.size 0 (.slice b 0 c)).run P w = .ok #[] w := by
    cases b with
    | none => simp [Builtin.firstCells]
    | some a => simpa using run_firstCells_some (P := P) w i.size 0 a 0 c [] (by simp) (by simp)
  simp [Builtin.append_, run_underlying h.u, sizeOf, run_typeInfo hi, Builtin.lenOf, hf, Sem.run_bind, Result.andThen, storeCells]
/-- whatever elements, appended to one's own -/
theorem Mine.append {bytes : Nat} {z : Value} {K : Value → World → Prop} (h : STy P t e F.sz bytes z) (hone : ∀ x, ∀ u ∈ F.e x, u.oneCell' = true)
    (hown : Mine F e w B v l) (hs : IsSl F w u m) (hB : B ≤ w.heap.size) (hl : l.length + m.length ≤ maxLen) (hbytes : (l.length + m.length) * bytes ≤ 140737488355328)
    (hk : ∀ v' w', Mine F e w' B v' (l ++ m) → Below B w w' → Off (isOf v) w w' → (∀ b, isOf v' b → isOf v b ∨ w.heap.size ≤ b) → K v' w') :
    opW P (Builtin.append_ #[t, t] ty #[v, u]) K w := by
  cases m with
  | nil =>
    obtain ⟨a, c, rfl, _⟩ := hs
    simp only [List.length_nil]
    have h0 := hown
    rcases hown.2 with ⟨rfl, hn⟩ | ⟨g, cap, cur, rfl, hb, hgg, hnc, hcm, hcs, htk⟩
    · rw [opW_ok (run_append_zero_nil h)]
      exact hk _ _ (by simpa using h0) (Below.refl _ _) (Off.refl _ _) (fun b hb => .inl hb)
    · rw [opW_ok (run_append_zero h hnc)]
      exact hk _ _ (by simpa using h0) (Below.refl _ _) (Off.refl _ _) (fun b hb => .inl hb)
  | cons x r =>
    obtain ⟨b, o, c, rfl, hcl⟩ := hs.flatAt (by simp)
    obtain ⟨v', w', hr, ho, hg, hnew, _⟩ := run_append_own2 (P := P) (ty := ty) h hown ⟨b, o, none⟩ (x :: r).length c (flat F (x :: r)) (flat_length _) (fun j u hu => by rw [add_none]; exact hcl j u hu) (oneCell_flat hone _) hl hbytes hB
    rw [opW_ok hr]
    refine hk v' w' ?_ ?_ (Off.grown hg fun b hb => hb) hnew
    · unfold Mine
      rw [List.length_append, flat_append]; exact ho
    · exact (Below.refl _ _).grown hg hB fun b hb => (hown.ge hb).1
end
end Go.V
/- Iterators: functions that hand values to a yield; a range over one. -/
set_option linter.unusedSimpArgs false
set_option linter.unusedVariables false
namespace Go.V
open Go Go.RowKit
theorem below_putObj {B r : Nat} {w : World} {o : Obj} (h : B ≤ r) : Below B w (w.putObj r o) := ⟨rfl, rfl, rfl, by simp, fun k hk => World.putObj_heap_other (by omega)⟩
theorem off_putObj {p : Nat → Prop} {r : Nat} {w : World} {o : Obj} (h : p r) : Off p w (w.putObj r o) := ⟨by simp, fun b _ hb => World.putObj_heap_other fun hh => hb (hh ▸ h)⟩
theorem enterW_calls {P : Program} {f : FuncId} {first caps args : Array Value} {k : Value → World → Prop} {w : World} (hf : callOk P f = true) (h : Calls P f (first ++ args ++ caps) w (retP k)) : enterW P k (callRun P (.func (.func f) first caps) args w) := by
  unfold callOk at hf
  split at hf
  · rename_i fn hfn
    split at hf
    · rename_i h1 h2
      have h1' : ¬ fn.name = "runtime.NumGoroutine" := by simpa using h1
      have hr : callRun P (.func (.func f) first caps) args w = .ok (.enter f (first ++ args ++ caps)) w := by
        simp [callRun, Deferred.ofValue, Sem.run_bind, Result.andThen, invoke, callFunc, program, Sem.run, hfn, h1', h2]
      rw [hr]
      exact h
    · cases hf
  · cases hf
end Go.V
/- Appending to one's own slice: what was there is read as before. -/
set_option linter.unusedSimpArgs false
set_option linter.unusedVariables false
namespace Go.V
open Go Go.RowKit
theorem Mine.base {α : Type} {F : Fl α} {e : Nat} {w : World} {b b' : Nat} {v : Value} {l : List α} (h : Mine F e w b v l) (hb : b' ≤ b) : Mine F e w b' v l := by
  refine ⟨h.1, ?_⟩
  rcases h.2 with h' | ⟨g', cap, cur, h1, h2, h3⟩
  · exact .inl h'
  · exact .inr ⟨g', cap, cur, h1, Nat.le_trans hb h2, h3⟩
section
variable {P : Program} {w w' : World} {α : Type} {F : Fl α} {v u v' : Value} {l m : List α} {t e B ty : Nat}
theorem IsSl.slicedTo {a : Option Addr} {c lo hi mx : Nat} (hs : IsSl F w (.slice a l.length c) l) (h1 : lo ≤ hi) (h2 : hi ≤ l.length) (h3 : hi ≤ mx) : IsSl F w (sliced a lo hi mx F.sz) ((l.drop lo).take (hi - lo)) := by
  obtain ⟨a', c', e, hc, hx⟩ := hs
  cases e
  have hlen : ((l.drop lo).take (hi - lo)).length = hi - lo := by rw [List.length_take, List.length_drop]; omega
  refine ⟨_, _, by rw [hlen]; rfl, by omega, fun i x hi' => ?_⟩
  have hlt := (List.getElem?_eq_some_iff.1 hi').1
  rw [hlen] at hlt
  have hget : l[lo + i]? = some x := by
    rw [List.getElem?_take] at hi'
    rw [if_pos hlt, List.getElem?_drop] at hi'
    exact hi'
  obtain ⟨b, o, rfl, hcl⟩ := hx _ _ hget
  refine ⟨b, o + lo * F.sz, by rw [if_neg (by omega)]; simp [Addr.add_lit], ?_⟩
  rw [Nat.add_assoc, ← Nat.add_mul]; exact hcl
end
end Go.V
/- Laws of whatever program, gathered. -/
set_option linter.unusedSimpArgs false
set_option linter.unusedVariables false
namespace Go.V
open Go Go.RowKit
def fB : Fl UInt8 := ⟨1, fun b => [.int .u8 b.toNat], fun _ => rfl⟩
def bV (x : UInt8) : Value := .int .u8 x.toNat
theorem wrap8 (n : Int) : IntKind.u8.wrap n = n % 256 := by simp [IntKind.wrap, IntKind.signed, IntKind.bits]
def bI (x : Int) : UInt8 := UInt8.ofNat (x % 256).toNat
theorem conv_bI {x : Int} : Value.int .u8 (IntKind.u8.wrap x) = bV (bI x) := by
  unfold bV bI
  rw [wrap8, UInt8.toNat_ofNat', Nat.mod_eq_of_lt (by omega)]
  congr 1; omega
section
variable {P : Program} {k : Value → World → Prop} {w w0 : World} {α : Type} {F : Fl α} {t e ty : Nat}
end
section
theorem w_indexStr {P : Program} {k : Value → World → Prop} {w : World} {t : TypeId} {s : ByteArray} {q : IntKind} {i : Int} {b : UInt8} (h : P.underlying t = some .string) (h0 : 0 ≤ i) (hb : s[i.toNat]? = some b) : opW P (Instr.index t (.string s) (.int q i)) k w = k (.int .u8 b.toNat) w :=
  opW_ok (by simp [Instr.index, Sem.run_bind, Result.andThen, run_underlying h, asIntOf, h0, hb])
end
section
end
section
theorem mkSl {P : Program} {w : World} {t e : Nat} {K : Value → World → Prop} {α : Type} {F : Fl α} {bytes : Nat} {z : Value} (h : STy P t e F.sz bytes z)
    (hk : ∀ v w', Below w.heap.size w w' → Mine F e w' w.heap.size v [] → (∀ b, isOf v b → b = w.heap.size) → w'.heap.size = w.heap.size + 1 → K v w') : opW P (Instr.buildSlice t 0 #[]) K w := by
  rw [w_build0 h]
  refine hk _ _ ((Below.refl _ _).alloc (Nat.le_refl _) _) ⟨by simp [flat], .inr ⟨w.heap.size, 0, #[], rfl, Nat.le_refl _, World.alloc_heap_new _ _, Nat.le_refl _, by unfold maxLen; omega, by simp, by simp [flat]⟩⟩ (fun b hb => by simp [isOf, Value.ownBlock] at hb; exact hb.symm) (by simp)
end
section
theorem t_getFA {P : Program} {K : Value → Prop} {w w0 : World} {α : Type} {F : Fl α} {v u : Value} {l : List α} {t st ft : TypeId} {f x : Nat} {q : IntKind} {i : Nat} {a : α} (h : isSliceT P t = true) (he : known P (elemT P t) = true) (hz : sizeT P (elemT P t) = F.sz) (hf : fieldOff P st f = some x) (hg : isAggT P ft = false) (hk : known P ft = true)
    (hs : IsSl F w0 v l) (hx : l[i]? = some a) (hu : (F.e a)[x]? = some u) (ha : after w0 w) :
    takeW P anyW (Instr.indexAt t v (.int q (i : Int))) (fun p => takeW P anyW (Instr.fieldAt st p f) (fun p => takeW P (after w0) (Instr.loadAt ft p) K w) w) w = K u := by
  obtain ⟨b, o, c, rfl, hlt, hcl⟩ := hs.at (i := (i : Int)) (by omega) (by simpa using hx)
  rw [takeW_pure (fun w => run_index h he (by omega) hlt w), hz, r_getA hf hg hk (by rw [hcl x u hu]) ha]
end
section
section
variable {P : Program} {k : Value → World → Prop} {K : Value → Prop} {S : World → Prop} {w w0 : World} {t e ft : TypeId} {b n : Nat} {q : IntKind} {i : Nat} {u : Value} {ox oy : Operand}
theorem t_addStr {x y : ByteArray} (h : x.size + y.size ≤ 9223372036854775807) : takeW P S (binS .add t ox oy (.string x) (.string y)) K w = K (.string (x ++ y)) := takeW_pure fun w => run_of_eq fun k => w_addStr h
theorem r_arr {i : Int} {j : Nat} (hij : i = j) (ht : P.underlying t = some (.array n e)) (he : known P e = true) (hs : sizeT P e = 1) (hg : isAggT P ft = false) (hk : known P ft = true) (hi : j < n) (hc : w.cell? ⟨b, j, none⟩ = some u) :
    opW P (Instr.indexAt t (.pointer (some ⟨b, 0, none⟩)) (.int q i)) (fun p w => opW P (Instr.loadAt ft p) k w) w = k u w := by
  subst hij
  rw [opW_ok (run_indexArr ht he (by omega) (by omega) w), hs, Nat.mul_one, Nat.zero_add, Int.toNat_natCast, w_load hg hk hc]
theorem r_arrA {i : Int} {j : Nat} (hij : i = j) (ht : P.underlying t = some (.array n e)) (he : known P e = true) (hs : sizeT P e = 1) (hg : isAggT P ft = false) (hk : known P ft = true) (hi : j < n) (hc : w0.cell? ⟨b, j, none⟩ = some u) (ha : after w0 w) :
    takeW P anyW (Instr.indexAt t (.pointer (some ⟨b, 0, none⟩)) (.int q i)) (fun p => takeW P (after w0) (Instr.loadAt ft p) K w) w = K u := by
  subst hij
  rw [takeW_pure (run_indexArr ht he (by omega) (by omega)), hs, Nat.mul_one, Nat.zero_add, Int.toNat_natCast]
  exact r_loadA hg hk hc ha
end
end
section
section
variable {P : Program} {k : Value → World → Prop} {w : World} {t e d : TypeId}
theorem t_getFAi {K : Value → Prop} {w0 : World} {α : Type} {F : Fl α} {v u : Value} {l : List α} {st ft : TypeId} {f x : Nat} {q : IntKind} {m : Int} {i : Nat} {a : α} (hm : m = (i : Int)) (h : isSliceT P t = true) (he : known P (elemT P t) = true) (hz : sizeT P (elemT P t) = F.sz) (hf : fieldOff P st f = some x) (hg : isAggT P ft = false) (hk : known P ft = true)
    (hs : IsSl F w0 v l) (hx : l[i]? = some a) (hu : (F.e a)[x]? = some u) (ha : after w0 w) :
    takeW P anyW (Instr.indexAt t v (.int q m)) (fun p => takeW P anyW (Instr.fieldAt st p f) (fun p => takeW P (after w0) (Instr.loadAt ft p) K w) w) w = K u := by
  subst hm; exact t_getFA h he hz hf hg hk hs hx hu ha
end
end
section
end
section
end
section
section
variable {P : Program} {k : Value → World → Prop} {K : Value → Prop} {w w0 : World} {α : Type} {F : Fl α} {v u : Value} {l : List α} {t at' e ft : TypeId} {n : Nat} {q q' : IntKind} {i j : Nat} {m : Int} {a : α}
theorem w_getArr (hm : m = (j : Int)) (h : isSliceT P t = true) (he : known P (elemT P t) = true) (hz : sizeT P (elemT P t) = F.sz) (ht : P.underlying at' = some (.array n e)) (hke : known P e = true) (hse : sizeT P e = 1) (hg : isAggT P ft = false) (hk : known P ft = true)
    (hs : IsSl F w v l) (hx : l[i]? = some a) (hj : j < n) (hu : (F.e a)[j]? = some u) :
    opW P (Instr.indexAt t v (.int q (i : Int))) (fun p w => opW P (Instr.indexAt at' p (.int q' m)) (fun p w => opW P (Instr.loadAt ft p) k w) w) w = k u w := by
  subst hm
  obtain ⟨b, o, c, rfl, hlt, hcl⟩ := hs.at (i := (i : Int)) (by omega) (by simpa using hx)
  rw [opW_ok (run_index h he (by omega) hlt w), hz, opW_ok (run_indexArr ht hke (by omega) (by omega) w), hse, Nat.mul_one]
  simp only [Int.toNat_natCast] at hcl ⊢
  rw [w_load hg hk (by rw [hcl j u hu])]
end
end
section
end
section
theorem t_headS {P : Program} {w0 w : World} {t : TypeId} {S : World → Prop} {K : Value → Prop} {α : Type} {F : Fl α} {v : Value} {l : List α} {q : IntKind} {i : Int} {m : Nat} (him : i = (m : Int)) (ht : P.underlying t = some (.slice (P.elem t))) (hkn : known P (P.elem t) = true) (hs : IsSl F w0 v l) (hm : m ≤ l.length)
    (hk : ∀ v', IsSl F w0 v' (l.take m) → K v') : takeW P S (Instr.sliceAt t v none (some (.int q i)) none) K w := by
  subst him
  obtain ⟨a, c, rfl, hc, hx⟩ := hs
  rw [takeW_pure (fun w => show (Instr.sliceAt t (.slice a l.length c) none (some (.int q m)) none).run P w = .ok (sliced a 0 m c (sizeT P (P.elem t))) w by
    rw [run_sliceAt_slice _ _ _ _ _ _ ht, run_slice_h w t _ _ c ht q m (by omega) (by omega), run_sizeOf hkn]
    simp [Result.andThen])]
  refine hk _ ⟨if c = 0 then a else a.map (·.add 0), c, by simp [sliced, List.length_take, Nat.min_eq_left hm], by rw [List.length_take]; omega, fun i x hi => ?_⟩
  have hi' : l[i]? = some x := by
    rw [List.getElem?_take] at hi
    split at hi
    · exact hi
    · cases hi
  obtain ⟨b, o, rfl, hcl⟩ := hx i x hi'
  refine ⟨b, o, ?_, hcl⟩
  split
  · rfl
  · simp [add_none]
end
section
theorem w_headX {P : Program} {k : Value → World → Prop} {w : World} {t : TypeId} {α : Type} {F : Fl α} {v : Value} {l : List α} {q : IntKind} {x : Int} {m : Nat} (hx : x = m) (ht : P.underlying t = some (.slice (P.elem t))) (hkn : known P (P.elem t) = true) (hz : sizeT P (P.elem t) = F.sz) (hs : IsSl F w v l) (hm : m ≤ l.length)
    (hk : ∀ v', (∀ w1, IsSl F w1 v l → IsSl F w1 v' (l.take m)) → k v' w) : opW P (Instr.sliceAt t v none (some (.int q x)) none) k w := by
  subst hx
  obtain ⟨a, c, rfl, hc, _⟩ := hs
  rw [opW_ok (show (Instr.sliceAt t (.slice a l.length c) none (some (.int q m)) none).run P w = .ok (sliced a 0 m c (sizeT P (P.elem t))) w by
    rw [run_sliceAt_slice _ _ _ _ _ _ ht, run_slice_h w t _ _ c ht q m (by omega) (by omega), run_sizeOf hkn]
    simp [Result.andThen])]
  rw [hz]
  exact hk _ fun w1 h1 => by simpa using h1.slicedTo (lo := 0) (hi := m) (mx := c) (by omega) hm (by omega)
end
section
variable {P : Program} {k : Value → World → Prop} {w : World} {t d e : TypeId}
theorem w_toStr {v : Value} {l : List UInt8} (hs : P.underlying t = some (.slice e)) (he : P.underlying e = some (.int .u8)) (hd : P.underlying d = some .string) (hv : IsSl fB w v l) (hne : l ≠ []) : opW P (convert t d v) k w = k (.string ⟨l.toArray⟩) w := by
  obtain ⟨a, c, rfl, hc, hx⟩ := hv
  cases a with
  | none =>
    obtain ⟨x, r, rfl⟩ := List.exists_cons_of_ne_nil hne
    obtain ⟨b, o, h, _⟩ := hx 0 x rfl
    cases h
  | some ad =>
    refine opW_ok (run_convert_bytes_back w t d e ad c l hs he hd fun j hj => ?_)
    obtain ⟨b, o, h, hcl⟩ := hx j _ (List.getElem?_eq_getElem hj)
    cases h
    have := hcl 0 _ rfl
    rw [add_none]
    simpa [fB] using this
end
theorem slAlloc {α : Type} {F : Fl α} {e : Nat} {l : List α} {w : World} {cs : Array Value} (h : cs.toList = flat F l) (hl : l.length ≤ maxLen) : Mine F e (w.alloc (.cells cs e (0, 0))) w.heap.size (.slice (some ⟨w.heap.size, 0, none⟩) l.length l.length) l := by
  have hsz : cs.size = l.length * F.sz := by rw [← flat_length, ← h]; simp
  exact ⟨flat_length l, .inr ⟨w.heap.size, l.length, cs, rfl, Nat.le_refl _, World.alloc_heap_new _ _, Nat.le_refl _, hl, hsz, by rw [← flat_length l, ← h]; exact List.take_length⟩⟩
theorem w_parts {P : Program} {k : Value → World → Prop} {w : World} {t e n bytes : Nat} {z : Value} {α : Type} {F : Fl α} {l : List α} {cs : Array Value} {parts : Array (Nat × Value)} (h : STy P t e F.sz bytes z) (hn : l.length = n) (h0 : 0 < n) (hsm : n * F.sz ≤ 16777216)
    (hf : Instr.fill (fun i => some (i * F.sz, F.sz)) ((Array.range (n * F.sz)).map (z.cells[· % z.cells.size]!)) parts.toList = some cs) (hc : cs.toList = flat F l)
    (hk : ∀ w', Below w.heap.size w w' → w'.heap.size = w.heap.size + 1 → Mine F e w' w.heap.size (.slice (some ⟨w.heap.size, 0, none⟩) n n) l → k (.slice (some ⟨w.heap.size, 0, none⟩) n n) w') : opW P (Instr.buildSlice t n parts) k w := by
  obtain ⟨i, hi, hz, hs, hby⟩ := h.info
  have hpos := h.pos
  rw [opW_ok (run_buildSlice (P := P) w t e n parts cs i z h.u hi hz (by rw [hs]; omega) (by rw [hs]; have := Nat.mul_pos h0 hpos; omega) (by rw [hs]; exact hf))]
  have hm := slAlloc (F := F) (e := e) (w := w) hc (by unfold maxLen; have := Nat.mul_le_mul (Nat.le_refl n) (show 1 ≤ F.sz by omega); omega)
  rw [hn] at hm
  exact hk _ ((Below.refl _ _).alloc (Nat.le_refl _) _) (by simp) hm
theorem below_trans {a b c : World} (h : Below a.heap.size a b) (k : Below b.heap.size b c) : Below a.heap.size a c := h.trans (k.mono h.size)
theorem below_drew (w : World) : Below w.heap.size w w.drew := (Below.refl _ w).drew
theorem slOld {α : Type} {F : Fl α} {n : Nat} {w w' : World} {v : Value} {l : List α} (h : IsSl F w v l) (hp : 0 < F.sz) (hn : w.heap.size ≤ n) (ho : Off (fun b => n ≤ b) w w') : IsSl F w' v l := by
  obtain ⟨a, c, rfl, hc, hx⟩ := h
  refine ⟨a, c, rfl, hc, fun i x hi => ?_⟩
  obtain ⟨b, o, ha, hcell⟩ := hx i x hi
  refine ⟨b, o, ha, fun j u hu => ?_⟩
  have hlt := World.block_lt_of_cell? w _ (hcell j u hu)
  rw [World.cell?_of_block (a := ⟨b, _, none⟩) (ho.block b hlt (by simp only at hlt; omega))]; exact hcell j u hu
end Go.V
/- Labels: numbers in bounds, rising lists, counts; the comparisons of locks. -/
set_option linter.unusedSimpArgs false
set_option linter.unusedVariables false
set_option maxRecDepth 4000
namespace Go.Proofs.YtfkfkldhcignbaaGreatDoor
open Go Go.V Go.RowKit
abbrev I (n : Int) : Value := .int .i64 n
def in64 (x : Int) : Prop := -9223372036854775808 ≤ x ∧ x ≤ 9223372036854775807
theorem iffF {P : Prop} (h : ¬ P) : (false = true ↔ P) := ⟨(fun h => by cases h), fun h' => absurd h' h⟩
theorem iffT {P : Prop} (h : P) : (true = true ↔ P) := ⟨fun _ => h, fun _ => rfl⟩
def RisingP (l : List Int) (most : Int) : Prop := ∀ (i : Nat) (x : Int), l[i]? = some x → (0 ≤ x ∧ x ≤ most) ∧ ∀ y, 0 < i → l[i - 1]? = some y → y < x
structure CW where
  fact : Int
  count : Int
def fC : Fl CW := ⟨2, fun c => [I c.fact, I c.count], fun _ => rfl⟩
def CountsP (l : List CW) (least : Int) : Prop := ∀ (i : Nat) (x : CW), l[i]? = some x → (0 ≤ x.fact ∧ x.fact ≤ 15) ∧ (least ≤ x.count ∧ x.count ≤ 12) ∧ ∀ y, 0 < i → l[i - 1]? = some y → y.fact < x.fact
section
variable {k : Value → World → Prop} {w : World}
theorem c86 {n lo hi : Int} (hk : k (.bool (decide (lo ≤ n ∧ n ≤ hi))) w) : callW Tryz.prog (.func (.func 86) #[] #[]) #[I n, I lo, I hi] k w := C86 _ _ _ _ _ (by
  unfold S86
  rw [w_geq]
  by_cases h1 : lo ≤ n
  · rw [decide_eq_true h1]
    simp only [guardW_tt]
    rw [w_leq]
    simp only [pickW_true]
    simpa [h1] using hk
  · rw [decide_eq_false h1]
    simp only [guardW_ft, guardW_u, pickW_false]
    simpa [h1] using hk)
theorem c90 {n lo hi : Int} (hk : k (.bool (decide (lo ≤ n ∧ n ≤ hi))) w) : callW Tryz.prog (.func (.func 90) #[] #[]) #[I n, I lo, I hi] k w := C90 _ _ _ _ _ (by
  unfold S90
  rw [w_geq]
  by_cases h1 : lo ≤ n
  · rw [decide_eq_true h1]
    simp only [guardW_tt]
    rw [w_leq]
    simp only [pickW_true]
    simpa [h1] using hk
  · rw [decide_eq_false h1]
    simp only [guardW_ft, guardW_u, pickW_false]
    simpa [h1] using hk)
theorem c87 {v : Value} {l : List Int} {most : Int} (hs : IsSl fI w v l) (hl : l.length ≤ maxLen) (hk : ∀ b, (b = true ↔ RisingP l most) → k (.bool b) w) : callW Tryz.prog (.func (.func 87) #[] #[]) #[v, I most] k w := C87 _ _ _ _ (by
  unfold S87
  have hml : maxLen ≤ 9223372036854775807 := by decide
  refine (len25 hs).mpr ?_
  refine Loop1.intro (fun n a w' => ∃ i : Nat, a = I i ∧ i ≤ l.length ∧ n = l.length - i ∧ w' = w ∧ ∀ (j : Nat) (x : Int), j < i → l[j]? = some x → (0 ≤ x ∧ x ≤ most) ∧ ∀ y, 0 < j → l[j - 1]? = some y → y < x) _ ⟨0, rfl, by omega, rfl, rfl, by omega⟩ ?_
  rintro n _ _ ⟨i, rfl, hi, rfl, rfl, hP⟩
  rw [w_lss]
  by_cases hlt : i < l.length
  case' neg =>
    rw [decide_eq_false (by omega), condW_false]
    exact hk true (iffT fun i x hx => hP i x (by have := (List.getElem?_eq_some_iff.1 hx).1; omega) hx)
  rw [decide_eq_true (by omega), condW_true]
  obtain ⟨x, hx⟩ : ∃ x, l[i]? = some x := ⟨_, List.getElem?_eq_getElem hlt⟩
  rw [gw25 (F := fI) rfl hs (by omega) (by simpa using hx) rfl]
  refine c86 ?_
  rw [w_not]
  by_cases h1 : 0 ≤ x ∧ x ≤ most
  case' neg =>
    rw [decide_eq_false h1]
    simp only [Bool.not_false, guardW_tf, guardW_u, pickW_true, condW_true]
    exact hk false (iffF fun h => h1 (h i x hx).1)
  rw [decide_eq_true h1]
  simp only [Bool.not_true, guardW_ff]
  rw [w_gtr]
  by_cases h0 : 0 < i
  case' neg =>
    rw [decide_eq_false (by omega)]
    simp only [guardW_ft, guardW_u, pickW_false, condW_false]
    rw [w_add, wrap_id (by omega), loopK_self]
    refine ⟨l.length - (i + 1), by omega, i + 1, by simp [I], by omega, rfl, rfl, fun j z hj hz => ?_⟩
    by_cases hji : j = i
    · subst hji; rw [hx] at hz; cases hz; exact ⟨h1, fun y hy => by omega⟩
    · exact hP j z (by omega) hz
  rw [decide_eq_true (by omega)]
  simp only [guardW_tt]
  obtain ⟨y, hy⟩ : ∃ y, l[i - 1]? = some y := ⟨_, List.getElem?_eq_getElem (by omega)⟩
  rw [w_sub, wrap_id (by omega), gw25 (F := fI) rfl hs (by omega) (by rw [show ((i : Int) - 1).toNat = i - 1 by omega]; exact hy) rfl, w_geq]
  simp only [pickW_true, pickW_false]
  by_cases h2 : y < x
  · rw [decide_eq_false (by omega), condW_false, w_add, wrap_id (by omega), loopK_self]
    refine ⟨l.length - (i + 1), by omega, i + 1, by simp [I], by omega, rfl, rfl, fun j z hj hz => ?_⟩
    by_cases hji : j = i
    · subst hji; rw [hx] at hz; cases hz; exact ⟨h1, fun y' hy0 hy' => by rw [hy] at hy'; cases hy'; exact h2⟩
    · exact hP j z (by omega) hz
  · rw [decide_eq_true (by omega), condW_true]
    exact hk false (iffF fun h => h2 ((h i x hx).2 y h0 hy)))
theorem c88 {v : Value} {l : List CW} {least : Int} (hs : IsSl fC w v l) (hl : l.length ≤ maxLen) (hk : ∀ b w', Below w.heap.size w w' → (b = true ↔ CountsP l least) → k (.bool b) w') : callW Tryz.prog (.func (.func 88) #[] #[]) #[v, I least] k w := C88 _ _ _ _ (by
  unfold S88
  have hml : maxLen ≤ 9223372036854775807 := by decide
  refine (len26 hs).mpr ?_
  refine Loop1.intro (fun n a w' => ∃ i : Nat, a = I i ∧ i ≤ l.length ∧ n = l.length - i ∧ Below w.heap.size w w' ∧ ∀ (j : Nat) (x : CW), j < i → l[j]? = some x → (0 ≤ x.fact ∧ x.fact ≤ 15) ∧ (least ≤ x.count ∧ x.count ≤ 12) ∧ ∀ y, 0 < j → l[j - 1]? = some y → y.fact < x.fact) _ ⟨0, rfl, by omega, rfl, Below.refl _ _, by omega⟩ ?_
  rintro n _ w1 ⟨i, rfl, hi, rfl, hb1, hP⟩
  rw [w_lss]
  by_cases hlt : i < l.length
  case' neg =>
    rw [decide_eq_false (by omega), condW_false]
    exact hk true _ hb1 (iffT fun i x hx => hP i x (by have := (List.getElem?_eq_some_iff.1 hx).1; omega) hx)
  rw [decide_eq_true (by omega), condW_true]
  obtain ⟨x, hx⟩ : ∃ x, l[i]? = some x := ⟨_, List.getElem?_eq_getElem hlt⟩
  have next : ∀ w', Below w.heap.size w w' → ((0 ≤ x.fact ∧ x.fact ≤ 15) ∧ (least ≤ x.count ∧ x.count ≤ 12) ∧ ∀ y, 0 < i → l[i - 1]? = some y → y.fact < x.fact) → ∃ m, m < l.length - i ∧ ∃ i' : Nat, I (i + 1 : Nat) = I i' ∧ i' ≤ l.length ∧ m = l.length - i' ∧ Below w.heap.size w w' ∧ ∀ (j : Nat) (x : CW), j < i' → l[j]? = some x → (0 ≤ x.fact ∧ x.fact ≤ 15) ∧ (least ≤ x.count ∧ x.count ≤ 12) ∧ ∀ y, 0 < j → l[j - 1]? = some y → y.fact < x.fact := fun w' hb h =>
    ⟨l.length - (i + 1), by omega, i + 1, rfl, by omega, rfl, hb, fun j z hj hz => by
      by_cases hji : j = i
      · subst hji; rw [hx] at hz; cases hz; exact h
      · exact hP j z (by omega) hz⟩
  rw [ga26 (F := fC) rfl (hs.below hb1) (by omega) (a := x) (by simpa using hx)]
  refine w_var (vs := fC.e x) hz121 (by rw [zc121]; rfl) (fun u hu => by simp [fC] at hu; rcases hu with rfl | rfl <;> rfl) size121 known121 fun w2 hb2 hsz2 hr2 => ?_
  have hb02 := hb1.trans (hb2.mono hb1.size)
  rw [drewW_eq]
  have hb02 := hb02.trans (Below.refl _ w2).drew
  replace hr2 := hr2.drew
  generalize w2.drew = w3 at *
  have a3 := after_refl w3
  refine ⟨after w3, a3, ?_⟩
  rw [ra121_0 (hr2.cell (i := 0) rfl) a3]
  refine c86 ?_
  rw [t_not]
  by_cases h1 : 0 ≤ x.fact ∧ x.fact ≤ 15
  case' neg =>
    rw [decide_eq_false h1]
    simp only [Bool.not_false, guardT_tf, guardT_u, guardW_tf, guardW_u, keepS_eq, pickT_true, guardT_tt, condW_true]
    exact ⟨a3, hk false _ hb02 (iffF fun h => h1 (h i x hx).1)⟩
  rw [decide_eq_true h1]
  simp only [Bool.not_true, guardT_ff, guardW_ff]
  rw [rt121_1 (hr2.cell (i := 1) rfl)]
  refine c86 ?_
  rw [keepS_eq]
  refine ⟨a3, ?_⟩
  rw [t_not]
  by_cases h2 : least ≤ x.count ∧ x.count ≤ 12
  case' neg =>
    rw [decide_eq_false h2]
    simp only [Bool.not_false, pickT_false, pickT_true, guardT_tf, guardT_u, condW_true]
    exact hk false _ hb02 (iffF fun h => h2 (h i x hx).2.1)
  rw [decide_eq_true h2]
  simp only [Bool.not_true, pickT_false, guardT_ff]
  rw [t_gtr]
  by_cases h0 : 0 < i
  case' neg =>
    rw [decide_eq_false (by omega)]
    simp only [guardT_ft, guardT_u, pickT_false, condW_false]
    rw [w_add, wrap_id (by omega), loopK_self]
    exact next _ hb02 ⟨h1, h2, fun y hy => absurd hy h0⟩
  rw [decide_eq_true (by omega)]
  simp only [guardT_tt]
  obtain ⟨y, hy⟩ : ∃ y, l[i - 1]? = some y := ⟨_, List.getElem?_eq_getElem (by omega)⟩
  rw [t_sub, wrap_id (by omega), gt26_0 (F := fC) (u := I y.fact) rfl (hs.below hb02) (by omega) (by rw [show ((i : Int) - 1).toNat = i - 1 by omega]; exact hy) rfl, rt121_0 (hr2.cell (i := 0) rfl), t_geq]
  simp only [pickT_true, pickT_false]
  by_cases h3 : y.fact < x.fact
  · rw [decide_eq_false (by omega), condW_false, w_add, wrap_id (by omega), loopK_self]
    exact next _ hb02 ⟨h1, h2, fun y' _ hy' => by rw [hy] at hy'; cases hy'; exact h3⟩
  · rw [decide_eq_true (by omega), condW_true]
    exact hk false _ hb02 (iffF fun h => h3 ((h i x hx).2.2 y h0 hy)))
end
end Go.Proofs.YtfkfkldhcignbaaGreatDoor
