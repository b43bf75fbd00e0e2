/- The conditions of the functions, printed by program out of the loaded code, each with the contract that follows from it. -/
import Derived.Test.YtidnjppalebbfaaF
import Derived.KernelRfl
set_option linter.unusedVariables false
set_option maxRecDepth 100000
namespace Go.Proofs.Ytidnjppalebbfaa
open Go Go.V
noncomputable section

/-! newswire/newswireref24.Divide -/
def ann25 : Ann := [(61, Note.keep [0, 1, 6]), (122, Note.loop [6, 7] [0, 1]), (254, Note.keep [0, 1, 8]), (508, Note.loop [8, 9] [0, 1]), (978, Note.keep [0, 1, 6, 7]), (2033, Note.keep [0, 1, 8, 9]), (2045, Note.keep [1, 8, 13]), (4090, Note.loop [13, 14] [1, 8]), (8189, Note.keep [15]), (16378, Note.loop [13, 15, 16] [1, 8]), (32722, Note.keep [1, 8, 13, 14]), (65069, Note.keep [0, 1, 8, 9, 10, 11]), (130138, Note.loop [11, 12] [0, 1, 8, 9, 10]), (131026, Note.keep [1, 8, 13, 15, 16]), (1041106, Note.keep [0, 1, 8, 9, 10, 11, 12])]
def S25 (bytes_1 wants_2 : Value) (k : Value → World → Prop) (w : World) : Prop :=
   callW Try.prog (Value.func (Fn.func 36) #[] #[]) #[bytes_1, (Value.int IntKind.i64 0), (Value.int IntKind.i64 1000000)] (fun t19_3 w =>
   opW Try.prog (Op.unary UnOp.not t19_3) (fun t20_4 w =>
   guardW (some t20_4, false) (fun k w => k wants_2 w) (fun t22_5 w =>
   guardW (some t20_4, false) (fun k w => opW Try.prog (Builtin.len_ #[26] 3 #[t22_5]) k w) (fun t23_6 w =>
   guardW (some t20_4, false) (fun k w => opW Try.prog (binS BinOp.gtr 3 (Operand.tmp 23) (Operand.const (Value.int IntKind.i64 8)) t23_6 (Value.int IntKind.i64 8)) k w) (fun t24_7 w =>
   pickW t20_4 (Value.bool true) t24_7 (fun t25_8 w =>
   condW t25_8
   (k (Value.tuple #[(Value.slice none 0 0), (Value.int IntKind.i64 240)]) w)
   (Loop2 (fun most_10 i_11 w K_12 =>
   opW Try.prog (Builtin.len_ #[26] 3 #[wants_2]) (fun t28_13 w =>
   opW Try.prog (binS BinOp.lss 3 (Operand.tmp 26) (Operand.tmp 28) i_11 t28_13) (fun t29_14 w =>
   condW t29_14
   (opW Try.prog (Instr.indexAt 26 wants_2 i_11) (fun t34_16 w =>
   opW Try.prog (Instr.loadAt 3 t34_16) (fun t35_17 w =>
   callW Try.prog (Value.func (Fn.func 36) #[] #[]) #[t35_17, (Value.int IntKind.i64 0), (Value.int IntKind.i64 1000000)] (fun t36_18 w =>
   opW Try.prog (Op.unary UnOp.not t36_18) (fun t37_19 w =>
   condW t37_19
   (k (Value.tuple #[(Value.slice none 0 0), (Value.int IntKind.i64 240)]) w)
   (opW Try.prog (Instr.indexAt 26 wants_2 i_11) (fun t41_20 w =>
   opW Try.prog (Instr.loadAt 3 t41_20) (fun t42_21 w =>
   opW Try.prog (Builtin.max_ #[3, 3] 3 #[most_10, t42_21]) (fun t43_22 w =>
   opW Try.prog (binS BinOp.add 3 (Operand.tmp 30) (Operand.const (Value.int IntKind.i64 1)) i_11 (Value.int IntKind.i64 1)) (fun t31_23 w =>
   loopK [] [] [bytes_1, wants_2] [bytes_1, wants_2] (K_12 t43_22 t31_23 w)) w) w) w) w)) w) w) w) w)
   (Loop2 (fun low_25 high_26 w K_27 =>
   opW Try.prog (binS BinOp.lss 3 (Operand.tmp 45) (Operand.tmp 46) low_25 high_26) (fun t47_28 w =>
   condW t47_28
   (joinW (fun low_47 high_48 w =>
   loopK [] [] [bytes_1, wants_2] [bytes_1, wants_2] (K_27 low_47 high_48 w)) (fun J_29 =>
   opW Try.prog (binS BinOp.add 3 (Operand.tmp 48) (Operand.tmp 49) low_25 high_26) (fun t50_30 w =>
   opW Try.prog (binS BinOp.add 3 (Operand.tmp 50) (Operand.const (Value.int IntKind.i64 1)) t50_30 (Value.int IntKind.i64 1)) (fun t51_31 w =>
   opW Try.prog (binS BinOp.quo 3 (Operand.tmp 51) (Operand.const (Value.int IntKind.i64 2)) t51_31 (Value.int IntKind.i64 2)) (fun t52_32 w =>
   Loop2 (fun sum_34 i_35 w K_36 =>
   opW Try.prog (Builtin.len_ #[26] 3 #[wants_2]) (fun t55_37 w =>
   opW Try.prog (binS BinOp.lss 3 (Operand.tmp 53) (Operand.tmp 55) i_35 t55_37) (fun t56_38 w =>
   condW t56_38
   (opW Try.prog (Instr.indexAt 26 wants_2 i_35) (fun t62_40 w =>
   opW Try.prog (Instr.loadAt 3 t62_40) (fun t63_41 w =>
   opW Try.prog (Builtin.min_ #[3, 3] 3 #[t63_41, t52_32]) (fun t65_42 w =>
   opW Try.prog (binS BinOp.add 3 (Operand.tmp 59) (Operand.tmp 65) sum_34 t65_42) (fun t66_43 w =>
   opW Try.prog (binS BinOp.add 3 (Operand.tmp 57) (Operand.const (Value.int IntKind.i64 1)) i_35 (Value.int IntKind.i64 1)) (fun t58_44 w =>
   loopK [] [] [bytes_1, wants_2, low_25, high_26, t52_32] [bytes_1, wants_2, low_25, high_26, t52_32] (K_36 t66_43 t58_44 w)) w) w) w) w) w)
   (opW Try.prog (binS BinOp.leq 3 (Operand.tmp 67) (Operand.tmp 68) sum_34 bytes_1) (fun t69_45 w =>
   condW t69_45
   (J_29 t52_32 high_26 w)
   (opW Try.prog (binS BinOp.sub 3 (Operand.tmp 71) (Operand.const (Value.int IntKind.i64 1)) t52_32 (Value.int IntKind.i64 1)) (fun t72_46 w =>
   J_29 low_25 t72_46 w) w)) w)) w) w) (Value.int IntKind.i64 0) (Value.int IntKind.i64 0) w) w) w) w))
   (Loop2 (fun left_50 i_51 w K_52 =>
   opW Try.prog (Builtin.len_ #[26] 3 #[wants_2]) (fun t76_53 w =>
   opW Try.prog (binS BinOp.lss 3 (Operand.tmp 74) (Operand.tmp 76) i_51 t76_53) (fun t77_54 w =>
   condW t77_54
   (opW Try.prog (Instr.indexAt 26 wants_2 i_51) (fun t83_56 w =>
   opW Try.prog (Instr.loadAt 3 t83_56) (fun t84_57 w =>
   opW Try.prog (Builtin.min_ #[3, 3] 3 #[t84_57, low_25]) (fun t86_58 w =>
   opW Try.prog (binS BinOp.sub 3 (Operand.tmp 80) (Operand.tmp 86) left_50 t86_58) (fun t87_59 w =>
   opW Try.prog (binS BinOp.add 3 (Operand.tmp 78) (Operand.const (Value.int IntKind.i64 1)) i_51 (Value.int IntKind.i64 1)) (fun t79_60 w =>
   loopK [] [] [wants_2, low_25] [wants_2, low_25] (K_52 t87_59 t79_60 w)) w) w) w) w) w)
   (Loop3 (fun left_62 out_63 i_64 w K_65 =>
   opW Try.prog (Builtin.len_ #[26] 3 #[wants_2]) (fun t90_66 w =>
   opW Try.prog (binS BinOp.lss 3 (Operand.tmp 88) (Operand.tmp 90) i_64 t90_66) (fun t91_67 w =>
   condW t91_67
   (joinW (fun left_84 out_85 w =>
   opW Try.prog (binS BinOp.add 3 (Operand.tmp 92) (Operand.const (Value.int IntKind.i64 1)) i_64 (Value.int IntKind.i64 1)) (fun t93_86 w =>
   loopK [] [] [wants_2, low_25] [wants_2, low_25] (K_65 left_84 out_85 t93_86 w)) w) (fun J_68 =>
   opW Try.prog (Instr.indexAt 26 wants_2 i_64) (fun t96_69 w =>
   opW Try.prog (Instr.loadAt 3 t96_69) (fun t97_70 w =>
   opW Try.prog (Builtin.min_ #[3, 3] 3 #[t97_70, low_25]) (fun t99_71 w =>
   opW Try.prog (Instr.indexAt 26 wants_2 i_64) (fun t102_72 w =>
   opW Try.prog (Instr.loadAt 3 t102_72) (fun t103_73 w =>
   opW Try.prog (binS BinOp.gtr 3 (Operand.tmp 103) (Operand.tmp 104) t103_73 low_25) (fun t105_74 w =>
   guardW (some t105_74, true) (fun k w => k left_62 w) (fun t107_75 w =>
   guardW (some t105_74, true) (fun k w => opW Try.prog (binS BinOp.gtr 3 (Operand.tmp 107) (Operand.const (Value.int IntKind.i64 0)) t107_75 (Value.int IntKind.i64 0)) k w) (fun t108_76 w =>
   pickW t105_74 t108_76 (Value.bool false) (fun t109_77 w =>
   condW t109_77
   (opW Try.prog (binS BinOp.add 3 (Operand.tmp 110) (Operand.const (Value.int IntKind.i64 1)) t99_71 (Value.int IntKind.i64 1)) (fun t111_78 w =>
   opW Try.prog (binS BinOp.sub 3 (Operand.tmp 112) (Operand.const (Value.int IntKind.i64 1)) left_62 (Value.int IntKind.i64 1)) (fun t113_79 w =>
   opW Try.prog (Instr.buildSlice 26 1 #[(0, t111_78)]) (fun t116_80 w =>
   opW Try.prog (Builtin.append_ #[26, 26] 26 #[out_63, t116_80]) (fun t117_81 w =>
   J_68 t113_79 t117_81 w) w) w) w) w)
   (opW Try.prog (Instr.buildSlice 26 1 #[(0, t99_71)]) (fun t116_82 w =>
   opW Try.prog (Builtin.append_ #[26, 26] 26 #[out_63, t116_82]) (fun t117_83 w =>
   J_68 left_62 t117_83 w) w) w)) w) w) w) w) w) w) w) w) w))
   (k (Value.tuple #[out_63, (Value.int IntKind.i64 0)]) w)) w) w) left_50 (Value.slice none 0 0) (Value.int IntKind.i64 0) w)) w) w) bytes_1 (Value.int IntKind.i64 0) w)) w) (Value.int IntKind.i64 0) most_10 w)) w) w) (Value.int IntKind.i64 0) (Value.int IntKind.i64 0) w)) w) w) w) w) w) w
theorem S25_vc (bytes_1 wants_2 : Value) (k : Value → World → Prop) (w : World) : vc Try.prog Try.f25.ntmps ann25 none ((Try.f25.body).getD Code.skip) 1 (params 0 [bytes_1, wants_2]) [] (finQ Try.prog Try.f25.results.toList k) w = S25 bytes_1 wants_2 k w := by kernel_rfl
theorem S25_calls (bytes_1 wants_2 : Value) (k : Value → World → Prop) (w : World) (h : S25 bytes_1 wants_2 k w) : Calls Try.prog 25 #[bytes_1, wants_2] w (retP k) :=
  calls_of_vc (fn := Try.f25) (c := (Try.f25.body).getD Code.skip) ann25 Try.func25 (by kernel_rfl) [bytes_1, wants_2] w k (by kernel_rfl) ((S25_vc bytes_1 wants_2 k w).symm ▸ h)
theorem C25 (bytes_1 wants_2 : Value) (k : Value → World → Prop) (w : World) (h : S25 bytes_1 wants_2 k w) : callW Try.prog (.func (.func 25) #[] #[]) #[bytes_1, wants_2] k w :=
  callW_calls ok25 (by simpa using S25_calls bytes_1 wants_2 k w h)

/-! newswire/newswireref24.Before -/
def ann26 : Ann := [(6, Note.plan (Plan.takeP 0 (Plan.takeP 1 (Plan.takeP 2 (Plan.takeP 3 (Plan.takeX 4 (Plan.takeP 5 (Plan.takeP 6 (Plan.takeP 7 (Plan.takeP 8 (Plan.takeX 9 (Plan.takeP 10 (Plan.takeP 11 (Plan.takeP 12 (Plan.takeP 13 (Plan.takeP 14 (Plan.takeP 15 (Plan.takeX 16 (Plan.takeP 17 (Plan.takeP 18 (Plan.takeP 19 (Plan.takeP 20 (Plan.takeX 21 (Plan.takeP 22 (Plan.takeP 23 (Plan.takeP 24 (Plan.takeP 25 (Plan.takeP 26 (Plan.takeP 27 (Plan.takeP 28 (Plan.takeP 29 Plan.done)))))))))))))))))))))))))))))))]
def S26 (l_1 a_2 b_3 : Value) (k : Value → World → Prop) (w : World) : Prop :=
   drewW w (fun w =>
   takeW Try.prog anyW (Instr.indexAt 22 l_1 a_2) (fun t9_5 =>
   takeW Try.prog anyW (Instr.fieldAt 34 t9_5 0) (fun t10_6 =>
   takeW Try.prog (sameW w) (Instr.loadAt 3 t10_6) (fun t11_7 =>
   takeW Try.prog anyW (Instr.indexAt 22 l_1 b_3) (fun t14_8 =>
   takeW Try.prog anyW (Instr.fieldAt 34 t14_8 0) (fun t15_9 =>
   takeW Try.prog (sameW w) (Instr.loadAt 3 t15_9) (fun t16_10 =>
   takeW Try.prog anyW (binS BinOp.lss 3 (Operand.tmp 11) (Operand.tmp 16) t11_7 t16_10) (fun t17_11 =>
   guardT (some t17_11, false) (fun k => k l_1) (fun t19_12 =>
   guardT (some t17_11, false) (fun k => k a_2) (fun t20_13 =>
   guardT (some t17_11, false) (fun k => takeW Try.prog anyW (Instr.indexAt 22 t19_12 t20_13) k w) (fun t21_14 =>
   guardT (some t17_11, false) (fun k => takeW Try.prog anyW (Instr.fieldAt 34 t21_14 0) k w) (fun t22_15 =>
   guardT (some t17_11, false) (fun k => takeW Try.prog (sameW w) (Instr.loadAt 3 t22_15) k w) (fun t23_16 =>
   guardT (some t17_11, false) (fun k => k l_1) (fun t24_17 =>
   guardT (some t17_11, false) (fun k => k b_3) (fun t25_18 =>
   guardT (some t17_11, false) (fun k => takeW Try.prog anyW (Instr.indexAt 22 t24_17 t25_18) k w) (fun t26_19 =>
   guardT (some t17_11, false) (fun k => takeW Try.prog anyW (Instr.fieldAt 34 t26_19 0) k w) (fun t27_20 =>
   guardT (some t17_11, false) (fun k => takeW Try.prog (sameW w) (Instr.loadAt 3 t27_20) k w) (fun t28_21 =>
   guardT (some t17_11, false) (fun k => takeW Try.prog anyW (binS BinOp.eql 3 (Operand.tmp 23) (Operand.tmp 28) t23_16 t28_21) k w) (fun t29_22 =>
   guardT (some t17_11, false) (fun k => k t29_22) (fun t30_23 =>
   guardT (some t30_23, true) (fun k => k a_2) (fun t31_24 =>
   guardT (some t30_23, true) (fun k => k b_3) (fun t32_25 =>
   guardT (some t30_23, true) (fun k => takeW Try.prog anyW (binS BinOp.lss 3 (Operand.tmp 31) (Operand.tmp 32) t31_24 t32_25) k w) (fun t33_26 =>
   guardT (some t17_11, false) (fun k => pickT t30_23 t33_26 (Value.bool false) k) (fun t34_27 =>
   pickT t17_11 (Value.bool true) t34_27 (fun t35_28 =>
   k t35_28 w)))))))))))))))))) w) w) w) w) w) w) w)
theorem S26_vc (l_1 a_2 b_3 : Value) (k : Value → World → Prop) (w : World) : vc Try.prog Try.f26.ntmps ann26 none ((Try.f26.body).getD Code.skip) 1 (params 0 [l_1, a_2, b_3]) [] (finQ Try.prog Try.f26.results.toList k) w = S26 l_1 a_2 b_3 k w := by kernel_rfl
theorem S26_calls (l_1 a_2 b_3 : Value) (k : Value → World → Prop) (w : World) (h : S26 l_1 a_2 b_3 k w) : Calls Try.prog 26 #[l_1, a_2, b_3] w (retP k) :=
  calls_of_vc (fn := Try.f26) (c := (Try.f26.body).getD Code.skip) ann26 Try.func26 (by kernel_rfl) [l_1, a_2, b_3] w k (by kernel_rfl) ((S26_vc l_1 a_2 b_3 k w).symm ▸ h)
theorem C26 (l_1 a_2 b_3 : Value) (k : Value → World → Prop) (w : World) (h : S26 l_1 a_2 b_3 k w) : callW Try.prog (.func (.func 26) #[] #[]) #[l_1, a_2, b_3] k w :=
  callW_calls ok26 (by simpa using S26_calls l_1 a_2 b_3 k w h)

/-! newswire/newswirelaw24.without -/
def ann27 : Ann := [(29, Note.keep [5]), (58, Note.loop [5, 6] [0, 3]), (466, Note.keep [0, 3, 5, 6])]
def S27 (a_1 gone_2 : Value) (k : Value → World → Prop) (w : World) : Prop :=
   opW Try.prog (Instr.box 50 gone_2) (fun gone_3 w =>
   Loop2 (fun out_5 i_6 w K_7 =>
   opW Try.prog (Builtin.len_ #[23] 3 #[a_1]) (fun t9_8 w =>
   opW Try.prog (binS BinOp.lss 3 (Operand.tmp 7) (Operand.tmp 9) i_6 t9_8) (fun t10_9 w =>
   condW t10_9
   (joinW (fun out_21 w =>
   opW Try.prog (binS BinOp.add 3 (Operand.tmp 11) (Operand.const (Value.int IntKind.i64 1)) i_6 (Value.int IntKind.i64 1)) (fun t12_22 w =>
   loopK [] [] [a_1, gone_3] [a_1, gone_3] (K_7 out_21 t12_22 w)) w) (fun J_10 =>
   opW Try.prog (Instr.indexAt 23 a_1 i_6) (fun t15_11 w =>
   opW Try.prog (Instr.fieldAt 31 t15_11 0) (fun t16_12 w =>
   opW Try.prog (Instr.loadAt 3 t16_12) (fun t17_13 w =>
   opW Try.prog (Instr.indexAt 50 gone_3 t17_13) (fun t18_14 w =>
   opW Try.prog (Instr.loadAt 4 t18_14) (fun t19_15 w =>
   opW Try.prog (Op.unary UnOp.not t19_15) (fun t20_16 w =>
   condW t20_16
   (opW Try.prog (Instr.indexAt 23 a_1 i_6) (fun t24_17 w =>
   opW Try.prog (Instr.loadAt 31 t24_17) (fun t25_18 w =>
   opW Try.prog (Instr.buildSlice 23 1 #[(0, t25_18)]) (fun t26_19 w =>
   opW Try.prog (Builtin.append_ #[23, 23] 23 #[out_5, t26_19]) (fun t27_20 w =>
   J_10 t27_20 w) w) w) w) w)
   (J_10 out_5 w)) w) w) w) w) w) w))
   (k out_5 w)) w) w) (Value.slice none 0 0) (Value.int IntKind.i64 0) w) w
theorem S27_vc (a_1 gone_2 : Value) (k : Value → World → Prop) (w : World) : vc Try.prog Try.f27.ntmps ann27 none ((Try.f27.body).getD Code.skip) 1 (params 0 [a_1, gone_2]) [] (finQ Try.prog Try.f27.results.toList k) w = S27 a_1 gone_2 k w := by kernel_rfl
theorem S27_calls (a_1 gone_2 : Value) (k : Value → World → Prop) (w : World) (h : S27 a_1 gone_2 k w) : Calls Try.prog 27 #[a_1, gone_2] w (retP k) :=
  calls_of_vc (fn := Try.f27) (c := (Try.f27.body).getD Code.skip) ann27 Try.func27 (by kernel_rfl) [a_1, gone_2] w k (by kernel_rfl) ((S27_vc a_1 gone_2 k w).symm ▸ h)
theorem C27 (a_1 gone_2 : Value) (k : Value → World → Prop) (w : World) (h : S27 a_1 gone_2 k w) : callW Try.prog (.func (.func 27) #[] #[]) #[a_1, gone_2] k w :=
  callW_calls ok27 (by simpa using S27_calls a_1 gone_2 k w h)

/-! newswire/newswirelaw24.example -/
def ann28 : Ann := []
def S28 (k : Value → World → Prop) (w : World) : Prop :=
   opW Try.prog (Instr.build 34 #[(0, (Value.int IntKind.i64 3)), (1, (Value.int IntKind.i64 4)), (2, (Value.int IntKind.i64 20))]) (fun t1_1 w =>
   opW Try.prog (Instr.build 34 #[(0, (Value.int IntKind.i64 1)), (1, (Value.int IntKind.i64 2)), (2, (Value.int IntKind.i64 10))]) (fun t2_2 w =>
   opW Try.prog (Instr.buildSlice 22 2 #[(0, t1_1), (1, t2_2)]) (fun t3_3 w =>
   k t3_3 w) w) w) w
theorem S28_vc (k : Value → World → Prop) (w : World) : vc Try.prog Try.f28.ntmps ann28 none ((Try.f28.body).getD Code.skip) 1 (params 0 []) [] (finQ Try.prog Try.f28.results.toList k) w = S28 k w := by kernel_rfl
theorem S28_calls (k : Value → World → Prop) (w : World) (h : S28 k w) : Calls Try.prog 28 #[] w (retP k) :=
  calls_of_vc (fn := Try.f28) (c := (Try.f28.body).getD Code.skip) ann28 Try.func28 (by kernel_rfl) [] w k (by kernel_rfl) ((S28_vc k w).symm ▸ h)
theorem C28 (k : Value → World → Prop) (w : World) (h : S28 k w) : callW Try.prog (.func (.func 28) #[] #[]) #[] k w :=
  callW_calls ok28 (by simpa using S28_calls k w h)

/-! newswire/newswireref24.pick -/
def ann29 : Ann := []
def S29 (c_1 n_2 : Value) (k : Value → World → Prop) (w : World) : Prop :=
   opW Try.prog (binS BinOp.lss 3 (Operand.tmp 5) (Operand.const (Value.int IntKind.i64 0)) c_1 (Value.int IntKind.i64 0)) (fun t6_3 w =>
   condW t6_3
   (opW Try.prog (binS BinOp.add 3 (Operand.tmp 7) (Operand.const (Value.int IntKind.i64 1)) c_1 (Value.int IntKind.i64 1)) (fun t8_4 w =>
   opW Try.prog (Op.unary UnOp.neg t8_4) (fun t9_5 w =>
   opW Try.prog (binS BinOp.rem 3 (Operand.tmp 10) (Operand.tmp 11) t9_5 n_2) (fun t12_6 w =>
   k t12_6 w) w) w) w)
   (opW Try.prog (binS BinOp.rem 3 (Operand.tmp 10) (Operand.tmp 11) c_1 n_2) (fun t12_7 w =>
   k t12_7 w) w)) w
theorem S29_vc (c_1 n_2 : Value) (k : Value → World → Prop) (w : World) : vc Try.prog Try.f29.ntmps ann29 none ((Try.f29.body).getD Code.skip) 1 (params 0 [c_1, n_2]) [] (finQ Try.prog Try.f29.results.toList k) w = S29 c_1 n_2 k w := by kernel_rfl
theorem S29_calls (c_1 n_2 : Value) (k : Value → World → Prop) (w : World) (h : S29 c_1 n_2 k w) : Calls Try.prog 29 #[c_1, n_2] w (retP k) :=
  calls_of_vc (fn := Try.f29) (c := (Try.f29.body).getD Code.skip) ann29 Try.func29 (by kernel_rfl) [c_1, n_2] w k (by kernel_rfl) ((S29_vc c_1 n_2 k w).symm ▸ h)
theorem C29 (c_1 n_2 : Value) (k : Value → World → Prop) (w : World) (h : S29 c_1 n_2 k w) : callW Try.prog (.func (.func 29) #[] #[]) #[c_1, n_2] k w :=
  callW_calls ok29 (by simpa using S29_calls c_1 n_2 k w h)

/-! slices.Clone[[]newswire/api.Stream,newswire/api.Stream] -/
def ann30 : Ann := []
def S30 (s_1 : Value) (k : Value → World → Prop) (w : World) : Prop :=
   opW Try.prog (binS BinOp.eql 22 (Operand.tmp 3) (Operand.const (Value.slice none 0 0)) s_1 (Value.slice none 0 0)) (fun t4_2 w =>
   condW t4_2
   (k (Value.slice none 0 0) w)
   (opW Try.prog (Instr.buildSlice 22 0 #[]) (fun t5_3 w =>
   opW Try.prog (Builtin.append_ #[22, 22] 22 #[t5_3, s_1]) (fun t7_4 w =>
   k t7_4 w) w) w)) w
theorem S30_vc (s_1 : Value) (k : Value → World → Prop) (w : World) : vc Try.prog Try.f30.ntmps ann30 none ((Try.f30.body).getD Code.skip) 1 (params 0 [s_1]) [] (finQ Try.prog Try.f30.results.toList k) w = S30 s_1 k w := by kernel_rfl
theorem S30_calls (s_1 : Value) (k : Value → World → Prop) (w : World) (h : S30 s_1 k w) : Calls Try.prog 30 #[s_1] w (retP k) :=
  calls_of_vc (fn := Try.f30) (c := (Try.f30.body).getD Code.skip) ann30 Try.func30 (by kernel_rfl) [s_1] w k (by kernel_rfl) ((S30_vc s_1 k w).symm ▸ h)
theorem C30 (s_1 : Value) (k : Value → World → Prop) (w : World) (h : S30 s_1 k w) : callW Try.prog (.func (.func 30) #[] #[]) #[s_1] k w :=
  callW_calls ok30 (by simpa using S30_calls s_1 k w h)

/-! (newswire/sched.streams).compare -/
def ann31 : Ann := [(6, Note.plan (Plan.takeP 0 (Plan.takeP 1 (Plan.takeP 2 (Plan.takeP 3 (Plan.takeS 4 (Plan.takeP 5 (Plan.takeP 6 (Plan.takeP 7 (Plan.takeP 8 (Plan.takeS 9 (Plan.takeP 11 (Plan.takeP 12 (Plan.run 10 (Plan.run 13 (Plan.run 14 (Plan.run 15 (Plan.takeP 16 Plan.done))))))))))))))))))]
def S31 (l_1 a_2 b_3 : Value) (k : Value → World → Prop) (w : World) : Prop :=
   drewW w (fun w =>
   ∃ S : World → Prop, S w ∧
   takeW Try.prog anyW (Instr.indexAt 59 l_1 a_2) (fun t9_5 =>
   takeW Try.prog anyW (Instr.fieldAt 34 t9_5 0) (fun t10_6 =>
   takeW Try.prog S (Instr.loadAt 3 t10_6) (fun t11_7 =>
   takeW Try.prog anyW (Instr.indexAt 59 l_1 b_3) (fun t14_8 =>
   takeW Try.prog anyW (Instr.fieldAt 34 t14_8 0) (fun t15_9 =>
   takeW Try.prog S (Instr.loadAt 3 t15_9) (fun t16_10 =>
   callW Try.prog (Value.func (Fn.func 44) #[] #[]) #[t11_7, t16_10] (fun t17_11 w => keepS S (fun w =>
   callW Try.prog (Value.func (Fn.func 44) #[] #[]) #[a_2, b_3] (fun t20_12 w => keepS S (fun w =>
   opW Try.prog (Instr.buildSlice 26 2 #[(0, t17_11), (1, t20_12)]) (fun t21_13 w => keepS S (fun w =>
   callW Try.prog (Value.func (Fn.func 43) #[] #[]) #[t21_13] (fun t22_14 w => keepS S (fun w =>
   k t22_14 w) w) w) w) w) w) w) w) w) w) w) w) w) w) w)
theorem S31_vc (l_1 a_2 b_3 : Value) (k : Value → World → Prop) (w : World) : vc Try.prog Try.f31.ntmps ann31 none ((Try.f31.body).getD Code.skip) 1 (params 0 [l_1, a_2, b_3]) [] (finQ Try.prog Try.f31.results.toList k) w = S31 l_1 a_2 b_3 k w := by kernel_rfl
theorem S31_calls (l_1 a_2 b_3 : Value) (k : Value → World → Prop) (w : World) (h : S31 l_1 a_2 b_3 k w) : Calls Try.prog 31 #[l_1, a_2, b_3] w (retP k) :=
  calls_of_vc (fn := Try.f31) (c := (Try.f31.body).getD Code.skip) ann31 Try.func31 (by kernel_rfl) [l_1, a_2, b_3] w k (by kernel_rfl) ((S31_vc l_1 a_2 b_3 k w).symm ▸ h)
theorem C31 (l_1 a_2 b_3 : Value) (k : Value → World → Prop) (w : World) (h : S31 l_1 a_2 b_3 k w) : callW Try.prog (.func (.func 31) #[] #[]) #[l_1, a_2, b_3] k w :=
  callW_calls ok31 (by simpa using S31_calls l_1 a_2 b_3 k w h)

/-! newswire/sched.Response$1 -/
def ann32 : Ann := [(29, Note.keep [5]), (58, Note.loop [5, 12] [0, 10, 11]), (934, Note.keep [0, 5, 10, 11, 12]), (3737, Note.plan (Plan.takeP 0 (Plan.takeP 1 (Plan.takeX 2 (Plan.takeP 3 (Plan.takeP 4 (Plan.takeX 5 (Plan.takeP 6 (Plan.takeP 7 (Plan.takeP 8 (Plan.takeX 9 (Plan.takeP 10 (Plan.takeP 11 (Plan.takeP 12 (Plan.takeP 13 Plan.done)))))))))))))))]
def S32 (r_1 x1_2 x2_3 : Value) (k : Value → World → Prop) (w : World) : Prop :=
   opW Try.prog (Instr.fieldAt 34 x1_2 1) (fun t8_4 w =>
   opW Try.prog (Instr.loadAt 3 t8_4) (fun t9_5 w =>
   opW Try.prog (Instr.loadAt 22 x2_3) (fun t10_6 w =>
   opW Try.prog (Builtin.len_ #[22] 3 #[t10_6]) (fun t11_7 w =>
   Loop2 (fun sum_9 t12_10 w K_11 =>
   opW Try.prog (binS BinOp.lss 3 (Operand.tmp 12) (Operand.tmp 11) t12_10 t11_7) (fun t13_12 w =>
   condW t13_12
   (opW Try.prog (Instr.indexAt 22 t10_6 t12_10) (fun t14_14 w =>
   opW Try.prog (Instr.loadAt 34 t14_14) (fun t15_15 w =>
   opW Try.prog (Instr.alloc 34 true (Value.tuple #[])) (fun x_16 w =>
   opU Try.prog (Instr.storeAt 34 x_16 t15_15) (fun _ w =>
   drewW w (fun w =>
   takeW Try.prog anyW (Instr.fieldAt 34 x_16 1) (fun t17_18 =>
   takeW Try.prog (sameW w) (Instr.loadAt 3 t17_18) (fun t18_19 =>
   takeW Try.prog anyW (Instr.fieldAt 34 x_16 2) (fun t20_20 =>
   takeW Try.prog (sameW w) (Instr.loadAt 3 t20_20) (fun t21_21 =>
   takeW Try.prog anyW (binS BinOp.add 3 (Operand.tmp 19) (Operand.tmp 21) r_1 t21_21) (fun t22_22 =>
   takeW Try.prog anyW (binS BinOp.sub 3 (Operand.tmp 22) (Operand.const (Value.int IntKind.i64 1)) t22_22 (Value.int IntKind.i64 1)) (fun t23_23 =>
   takeW Try.prog anyW (Instr.fieldAt 34 x_16 2) (fun t24_24 =>
   takeW Try.prog (sameW w) (Instr.loadAt 3 t24_24) (fun t25_25 =>
   takeW Try.prog anyW (binS BinOp.quo 3 (Operand.tmp 23) (Operand.tmp 25) t23_23 t25_25) (fun t26_26 =>
   takeW Try.prog anyW (binS BinOp.mul 3 (Operand.tmp 18) (Operand.tmp 26) t18_19 t26_26) (fun t27_27 =>
   takeW Try.prog anyW (binS BinOp.add 3 (Operand.tmp 16) (Operand.tmp 27) sum_9 t27_27) (fun t28_28 =>
   opW Try.prog (binS BinOp.add 3 (Operand.tmp 12) (Operand.const (Value.int IntKind.i64 1)) t12_10 (Value.int IntKind.i64 1)) (fun t29_29 w =>
   loopK [] [] [r_1, t10_6, t11_7] [r_1, t10_6, t11_7] (K_11 t28_28 t29_29 w)) w) w) w) w) w) w) w) w) w) w) w) w)) w) w) w) w)
   (k sum_9 w)) w) t9_5 (Value.int IntKind.i64 0) w) w) w) w) w
theorem S32_vc (r_1 x1_2 x2_3 : Value) (k : Value → World → Prop) (w : World) : vc Try.prog Try.f32.ntmps ann32 none ((Try.f32.body).getD Code.skip) 1 (params 0 [r_1, x1_2, x2_3]) [] (finQ Try.prog Try.f32.results.toList k) w = S32 r_1 x1_2 x2_3 k w := by kernel_rfl
theorem S32_calls (r_1 x1_2 x2_3 : Value) (k : Value → World → Prop) (w : World) (h : S32 r_1 x1_2 x2_3 k w) : Calls Try.prog 32 #[r_1, x1_2, x2_3] w (retP k) :=
  calls_of_vc (fn := Try.f32) (c := (Try.f32.body).getD Code.skip) ann32 Try.func32 (by kernel_rfl) [r_1, x1_2, x2_3] w k (by kernel_rfl) ((S32_vc r_1 x1_2 x2_3 k w).symm ▸ h)
theorem C32 (r_1 x1_2 x2_3 : Value) (k : Value → World → Prop) (w : World) (h : S32 r_1 x1_2 x2_3 k w) : callW Try.prog (.func (.func 32) #[] #[x1_2, x2_3]) #[r_1] k w :=
  callW_calls ok32 (by simpa using S32_calls r_1 x1_2 x2_3 k w h)

/-! newswire/sched.Valid$1 -/
def ann33 : Ann := []
def S33 (s_1 : Value) (k : Value → World → Prop) (w : World) : Prop :=
   opW Try.prog (Instr.box 34 s_1) (fun s_2 w =>
   opW Try.prog (Instr.fieldAt 34 s_2 0) (fun t3_3 w =>
   opW Try.prog (Instr.loadAt 3 t3_3) (fun t4_4 w =>
   callW Try.prog (Value.func (Fn.func 34) #[] #[]) #[t4_4, (Value.int IntKind.i64 1), (Value.int IntKind.i64 3)] (fun t5_5 w =>
   opW Try.prog (Op.unary UnOp.not t5_5) (fun t6_6 w =>
   guardW (some t6_6, false) (fun k w => opW Try.prog (Instr.fieldAt 34 s_2 1) k w) (fun t8_7 w =>
   guardW (some t6_6, false) (fun k w => opW Try.prog (Instr.loadAt 3 t8_7) k w) (fun t9_8 w =>
   guardW (some t6_6, false) (fun k w => callW Try.prog (Value.func (Fn.func 34) #[] #[]) #[t9_8, (Value.int IntKind.i64 1), (Value.int IntKind.i64 50)] k w) (fun t10_9 w =>
   guardW (some t6_6, false) (fun k w => opW Try.prog (Op.unary UnOp.not t10_9) k w) (fun t11_10 w =>
   pickW t6_6 (Value.bool true) t11_10 (fun t12_11 w =>
   guardW (some t12_11, false) (fun k w => opW Try.prog (Instr.fieldAt 34 s_2 2) k w) (fun t14_12 w =>
   guardW (some t12_11, false) (fun k w => opW Try.prog (Instr.loadAt 3 t14_12) k w) (fun t15_13 w =>
   guardW (some t12_11, false) (fun k w => callW Try.prog (Value.func (Fn.func 34) #[] #[]) #[t15_13, (Value.int IntKind.i64 1), (Value.int IntKind.i64 1000)] k w) (fun t16_14 w =>
   guardW (some t12_11, false) (fun k w => opW Try.prog (Op.unary UnOp.not t16_14) k w) (fun t17_15 w =>
   pickW t12_11 (Value.bool true) t17_15 (fun t18_16 w =>
   k t18_16 w) w) w) w) w) w) w) w) w) w) w) w) w) w) w) w
theorem S33_vc (s_1 : Value) (k : Value → World → Prop) (w : World) : vc Try.prog Try.f33.ntmps ann33 none ((Try.f33.body).getD Code.skip) 1 (params 0 [s_1]) [] (finQ Try.prog Try.f33.results.toList k) w = S33 s_1 k w := by kernel_rfl
theorem S33_calls (s_1 : Value) (k : Value → World → Prop) (w : World) (h : S33 s_1 k w) : Calls Try.prog 33 #[s_1] w (retP k) :=
  calls_of_vc (fn := Try.f33) (c := (Try.f33.body).getD Code.skip) ann33 Try.func33 (by kernel_rfl) [s_1] w k (by kernel_rfl) ((S33_vc s_1 k w).symm ▸ h)
theorem C33 (s_1 : Value) (k : Value → World → Prop) (w : World) (h : S33 s_1 k w) : callW Try.prog (.func (.func 33) #[] #[]) #[s_1] k w :=
  callW_calls ok33 (by simpa using S33_calls s_1 k w h)

/-! newswire/sched.isIn[int] -/
def ann34 : Ann := []
def S34 (x_1 low_2 high_3 : Value) (k : Value → World → Prop) (w : World) : Prop :=
   opW Try.prog (binS BinOp.leq 3 (Operand.tmp 7) (Operand.tmp 8) low_2 x_1) (fun t9_4 w =>
   guardW (some t9_4, true) (fun k w => k x_1 w) (fun t11_5 w =>
   guardW (some t9_4, true) (fun k w => k high_3 w) (fun t12_6 w =>
   guardW (some t9_4, true) (fun k w => opW Try.prog (binS BinOp.leq 3 (Operand.tmp 11) (Operand.tmp 12) t11_5 t12_6) k w) (fun t13_7 w =>
   pickW t9_4 t13_7 (Value.bool false) (fun t14_8 w =>
   k t14_8 w) w) w) w) w) w
theorem S34_vc (x_1 low_2 high_3 : Value) (k : Value → World → Prop) (w : World) : vc Try.prog Try.f34.ntmps ann34 none ((Try.f34.body).getD Code.skip) 1 (params 0 [x_1, low_2, high_3]) [] (finQ Try.prog Try.f34.results.toList k) w = S34 x_1 low_2 high_3 k w := by kernel_rfl
theorem S34_calls (x_1 low_2 high_3 : Value) (k : Value → World → Prop) (w : World) (h : S34 x_1 low_2 high_3 k w) : Calls Try.prog 34 #[x_1, low_2, high_3] w (retP k) :=
  calls_of_vc (fn := Try.f34) (c := (Try.f34.body).getD Code.skip) ann34 Try.func34 (by kernel_rfl) [x_1, low_2, high_3] w k (by kernel_rfl) ((S34_vc x_1 low_2 high_3 k w).symm ▸ h)
theorem C34 (x_1 low_2 high_3 : Value) (k : Value → World → Prop) (w : World) (h : S34 x_1 low_2 high_3 k w) : callW Try.prog (.func (.func 34) #[] #[]) #[x_1, low_2, high_3] k w :=
  callW_calls ok34 (by simpa using S34_calls x_1 low_2 high_3 k w h)

/-! slices.ContainsFunc[[]newswire/api.Stream,newswire/api.Stream] -/
def ann35 : Ann := []
def S35 (s_1 f_2 : Value) (k : Value → World → Prop) (w : World) : Prop :=
   callW Try.prog (Value.func (Fn.func 45) #[] #[]) #[s_1, f_2] (fun t7_3 w =>
   opW Try.prog (binS BinOp.geq 3 (Operand.tmp 7) (Operand.const (Value.int IntKind.i64 0)) t7_3 (Value.int IntKind.i64 0)) (fun t8_4 w =>
   k t8_4 w) w) w
theorem S35_vc (s_1 f_2 : Value) (k : Value → World → Prop) (w : World) : vc Try.prog Try.f35.ntmps ann35 none ((Try.f35.body).getD Code.skip) 1 (params 0 [s_1, f_2]) [] (finQ Try.prog Try.f35.results.toList k) w = S35 s_1 f_2 k w := by kernel_rfl
theorem S35_calls (s_1 f_2 : Value) (k : Value → World → Prop) (w : World) (h : S35 s_1 f_2 k w) : Calls Try.prog 35 #[s_1, f_2] w (retP k) :=
  calls_of_vc (fn := Try.f35) (c := (Try.f35.body).getD Code.skip) ann35 Try.func35 (by kernel_rfl) [s_1, f_2] w k (by kernel_rfl) ((S35_vc s_1 f_2 k w).symm ▸ h)
theorem C35 (s_1 f_2 : Value) (k : Value → World → Prop) (w : World) (h : S35 s_1 f_2 k w) : callW Try.prog (.func (.func 35) #[] #[]) #[s_1, f_2] k w :=
  callW_calls ok35 (by simpa using S35_calls s_1 f_2 k w h)

/-! newswire/newswireref24.in -/
def ann36 : Ann := []
def S36 (n_1 low_2 high_3 : Value) (k : Value → World → Prop) (w : World) : Prop :=
   opW Try.prog (binS BinOp.geq 3 (Operand.tmp 7) (Operand.tmp 8) n_1 low_2) (fun t9_4 w =>
   guardW (some t9_4, true) (fun k w => k n_1 w) (fun t11_5 w =>
   guardW (some t9_4, true) (fun k w => k high_3 w) (fun t12_6 w =>
   guardW (some t9_4, true) (fun k w => opW Try.prog (binS BinOp.leq 3 (Operand.tmp 11) (Operand.tmp 12) t11_5 t12_6) k w) (fun t13_7 w =>
   pickW t9_4 t13_7 (Value.bool false) (fun t14_8 w =>
   k t14_8 w) w) w) w) w) w
theorem S36_vc (n_1 low_2 high_3 : Value) (k : Value → World → Prop) (w : World) : vc Try.prog Try.f36.ntmps ann36 none ((Try.f36.body).getD Code.skip) 1 (params 0 [n_1, low_2, high_3]) [] (finQ Try.prog Try.f36.results.toList k) w = S36 n_1 low_2 high_3 k w := by kernel_rfl
theorem S36_calls (n_1 low_2 high_3 : Value) (k : Value → World → Prop) (w : World) (h : S36 n_1 low_2 high_3 k w) : Calls Try.prog 36 #[n_1, low_2, high_3] w (retP k) :=
  calls_of_vc (fn := Try.f36) (c := (Try.f36.body).getD Code.skip) ann36 Try.func36 (by kernel_rfl) [n_1, low_2, high_3] w k (by kernel_rfl) ((S36_vc n_1 low_2 high_3 k w).symm ▸ h)
theorem C36 (n_1 low_2 high_3 : Value) (k : Value → World → Prop) (w : World) (h : S36 n_1 low_2 high_3 k w) : callW Try.prog (.func (.func 36) #[] #[]) #[n_1, low_2, high_3] k w :=
  callW_calls ok36 (by simpa using S36_calls n_1 low_2 high_3 k w h)

/-! newswire/sched.ticks -/
def ann37 : Ann := []
def S37 (l_1 a_2 : Value) (k : Value → World → Prop) (w : World) : Prop :=
   opW Try.prog (Instr.box 59 l_1) (fun l_3 w =>
   opW Try.prog (Instr.box 23 a_2) (fun a_4 w =>
   opW Try.prog (Instr.makeFunc (Fn.func 46) #[] #[l_3, a_4]) (fun t5_5 w =>
   k t5_5 w) w) w) w
theorem S37_vc (l_1 a_2 : Value) (k : Value → World → Prop) (w : World) : vc Try.prog Try.f37.ntmps ann37 none ((Try.f37.body).getD Code.skip) 1 (params 0 [l_1, a_2]) [] (finQ Try.prog Try.f37.results.toList k) w = S37 l_1 a_2 k w := by kernel_rfl
theorem S37_calls (l_1 a_2 : Value) (k : Value → World → Prop) (w : World) (h : S37 l_1 a_2 k w) : Calls Try.prog 37 #[l_1, a_2] w (retP k) :=
  calls_of_vc (fn := Try.f37) (c := (Try.f37.body).getD Code.skip) ann37 Try.func37 (by kernel_rfl) [l_1, a_2] w k (by kernel_rfl) ((S37_vc l_1 a_2 k w).symm ▸ h)
theorem C37 (l_1 a_2 : Value) (k : Value → World → Prop) (w : World) (h : S37 l_1 a_2 k w) : callW Try.prog (.func (.func 37) #[] #[]) #[l_1, a_2] k w :=
  callW_calls ok37 (by simpa using S37_calls l_1 a_2 k w h)

/-! newswire/sched.Divide$1 -/
def ann38 : Ann := []
def S38 (n_1 : Value) (k : Value → World → Prop) (w : World) : Prop :=
   callW Try.prog (Value.func (Fn.func 34) #[] #[]) #[n_1, (Value.int IntKind.i64 0), (Value.int IntKind.i64 1000000)] (fun t4_2 w =>
   opW Try.prog (Op.unary UnOp.not t4_2) (fun t5_3 w =>
   k t5_3 w) w) w
theorem S38_vc (n_1 : Value) (k : Value → World → Prop) (w : World) : vc Try.prog Try.f38.ntmps ann38 none ((Try.f38.body).getD Code.skip) 1 (params 0 [n_1]) [] (finQ Try.prog Try.f38.results.toList k) w = S38 n_1 k w := by kernel_rfl
theorem S38_calls (n_1 : Value) (k : Value → World → Prop) (w : World) (h : S38 n_1 k w) : Calls Try.prog 38 #[n_1] w (retP k) :=
  calls_of_vc (fn := Try.f38) (c := (Try.f38.body).getD Code.skip) ann38 Try.func38 (by kernel_rfl) [n_1] w k (by kernel_rfl) ((S38_vc n_1 k w).symm ▸ h)
theorem C38 (n_1 : Value) (k : Value → World → Prop) (w : World) (h : S38 n_1 k w) : callW Try.prog (.func (.func 38) #[] #[]) #[n_1] k w :=
  callW_calls ok38 (by simpa using S38_calls n_1 k w h)

/-! slices.ContainsFunc[[]int,int] -/
def ann39 : Ann := []
def S39 (s_1 f_2 : Value) (k : Value → World → Prop) (w : World) : Prop :=
   callW Try.prog (Value.func (Fn.func 48) #[] #[]) #[s_1, f_2] (fun t7_3 w =>
   opW Try.prog (binS BinOp.geq 3 (Operand.tmp 7) (Operand.const (Value.int IntKind.i64 0)) t7_3 (Value.int IntKind.i64 0)) (fun t8_4 w =>
   k t8_4 w) w) w
theorem S39_vc (s_1 f_2 : Value) (k : Value → World → Prop) (w : World) : vc Try.prog Try.f39.ntmps ann39 none ((Try.f39.body).getD Code.skip) 1 (params 0 [s_1, f_2]) [] (finQ Try.prog Try.f39.results.toList k) w = S39 s_1 f_2 k w := by kernel_rfl
theorem S39_calls (s_1 f_2 : Value) (k : Value → World → Prop) (w : World) (h : S39 s_1 f_2 k w) : Calls Try.prog 39 #[s_1, f_2] w (retP k) :=
  calls_of_vc (fn := Try.f39) (c := (Try.f39.body).getD Code.skip) ann39 Try.func39 (by kernel_rfl) [s_1, f_2] w k (by kernel_rfl) ((S39_vc s_1 f_2 k w).symm ▸ h)
theorem C39 (s_1 f_2 : Value) (k : Value → World → Prop) (w : World) (h : S39 s_1 f_2 k w) : callW Try.prog (.func (.func 39) #[] #[]) #[s_1, f_2] k w :=
  callW_calls ok39 (by simpa using S39_calls s_1 f_2 k w h)

/-! newswire/sched.Divide$2 -/
def ann40 : Ann := [(13, Note.keep [3]), (26, Note.loop [3, 8] [0, 6, 7]), (422, Note.keep [0, 3, 6, 7, 8])]
def S40 (level_1 x1_2 : Value) (k : Value → World → Prop) (w : World) : Prop :=
   opW Try.prog (Instr.loadAt 26 x1_2) (fun t6_3 w =>
   opW Try.prog (Builtin.len_ #[26] 3 #[t6_3]) (fun t7_4 w =>
   Loop2 (fun sum_6 t8_7 w K_8 =>
   opW Try.prog (binS BinOp.lss 3 (Operand.tmp 8) (Operand.tmp 7) t8_7 t7_4) (fun t9_9 w =>
   condW t9_9
   (opW Try.prog (Instr.indexAt 26 t6_3 t8_7) (fun t10_11 w =>
   opW Try.prog (Instr.loadAt 3 t10_11) (fun t11_12 w =>
   opW Try.prog (Builtin.min_ #[3, 3] 3 #[t11_12, level_1]) (fun t15_13 w =>
   opW Try.prog (binS BinOp.add 3 (Operand.tmp 12) (Operand.tmp 15) sum_6 t15_13) (fun t16_14 w =>
   opW Try.prog (binS BinOp.add 3 (Operand.tmp 8) (Operand.const (Value.int IntKind.i64 1)) t8_7 (Value.int IntKind.i64 1)) (fun t17_15 w =>
   loopK [] [] [level_1, t6_3, t7_4] [level_1, t6_3, t7_4] (K_8 t16_14 t17_15 w)) w) w) w) w) w)
   (k sum_6 w)) w) (Value.int IntKind.i64 0) (Value.int IntKind.i64 0) w) w) w
theorem S40_vc (level_1 x1_2 : Value) (k : Value → World → Prop) (w : World) : vc Try.prog Try.f40.ntmps ann40 none ((Try.f40.body).getD Code.skip) 1 (params 0 [level_1, x1_2]) [] (finQ Try.prog Try.f40.results.toList k) w = S40 level_1 x1_2 k w := by kernel_rfl
theorem S40_calls (level_1 x1_2 : Value) (k : Value → World → Prop) (w : World) (h : S40 level_1 x1_2 k w) : Calls Try.prog 40 #[level_1, x1_2] w (retP k) :=
  calls_of_vc (fn := Try.f40) (c := (Try.f40.body).getD Code.skip) ann40 Try.func40 (by kernel_rfl) [level_1, x1_2] w k (by kernel_rfl) ((S40_vc level_1 x1_2 k w).symm ▸ h)
theorem C40 (level_1 x1_2 : Value) (k : Value → World → Prop) (w : World) (h : S40 level_1 x1_2 k w) : callW Try.prog (.func (.func 40) #[] #[x1_2]) #[level_1] k w :=
  callW_calls ok40 (by simpa using S40_calls level_1 x1_2 k w h)

/-! sort.Search -/
def ann41 : Ann := [(14, Note.keep [5]), (28, Note.loop [5, 6] [1]), (113, Note.keep [1, 5, 6])]
def S41 (n_1 f_2 : Value) (k : Value → World → Prop) (w : World) : Prop :=
   Loop2 (fun i_4 j_5 w K_6 =>
   opW Try.prog (binS BinOp.lss 3 (Operand.tmp 9) (Operand.tmp 10) i_4 j_5) (fun t11_7 w =>
   condW t11_7
   (joinW (fun i_16 j_17 w =>
   loopK [] [] [f_2] [f_2] (K_6 i_16 j_17 w)) (fun J_8 =>
   opW Try.prog (binS BinOp.add 3 (Operand.tmp 12) (Operand.tmp 13) i_4 j_5) (fun t14_9 w =>
   opW Try.prog (convert 3 74 t14_9) (fun t15_10 w =>
   opW Try.prog (binS BinOp.shr 74 (Operand.tmp 15) (Operand.const (Value.int IntKind.u64 1)) t15_10 (Value.int IntKind.u64 1)) (fun t16_11 w =>
   opW Try.prog (convert 74 3 t16_11) (fun t17_12 w =>
   callW Try.prog f_2 #[t17_12] (fun t20_13 w =>
   opW Try.prog (Op.unary UnOp.not t20_13) (fun t21_14 w =>
   condW t21_14
   (opW Try.prog (binS BinOp.add 3 (Operand.tmp 22) (Operand.const (Value.int IntKind.i64 1)) t17_12 (Value.int IntKind.i64 1)) (fun t23_15 w =>
   J_8 t23_15 j_5 w) w)
   (J_8 i_4 t17_12 w)) w) w) w) w) w) w))
   (k i_4 w)) w) (Value.int IntKind.i64 0) n_1 w
theorem S41_vc (n_1 f_2 : Value) (k : Value → World → Prop) (w : World) : vc Try.prog Try.f41.ntmps ann41 none ((Try.f41.body).getD Code.skip) 1 (params 0 [n_1, f_2]) [] (finQ Try.prog Try.f41.results.toList k) w = S41 n_1 f_2 k w := by kernel_rfl
theorem S41_calls (n_1 f_2 : Value) (k : Value → World → Prop) (w : World) (h : S41 n_1 f_2 k w) : Calls Try.prog 41 #[n_1, f_2] w (retP k) :=
  calls_of_vc (fn := Try.f41) (c := (Try.f41.body).getD Code.skip) ann41 Try.func41 (by kernel_rfl) [n_1, f_2] w k (by kernel_rfl) ((S41_vc n_1 f_2 k w).symm ▸ h)
theorem C41 (n_1 f_2 : Value) (k : Value → World → Prop) (w : World) (h : S41 n_1 f_2 k w) : callW Try.prog (.func (.func 41) #[] #[]) #[n_1, f_2] k w :=
  callW_calls ok41 (by simpa using S41_calls n_1 f_2 k w h)

/-! newswire/sched.Divide$3 -/
def ann42 : Ann := [(6, Note.plan (Plan.takeX 0 (Plan.takeP 1 (Plan.takeP 2 (Plan.takeS 4 (Plan.run 3 (Plan.takeP 5 (Plan.takeP 6 Plan.done))))))))]
def S42 (n_1 x1_2 x2_3 : Value) (k : Value → World → Prop) (w : World) : Prop :=
   drewW w (fun w =>
   ∃ S : World → Prop, S w ∧
   takeW Try.prog (sameW w) (Instr.loadAt 60 x1_2) (fun t5_5 =>
   takeW Try.prog anyW (binS BinOp.add 3 (Operand.tmp 6) (Operand.const (Value.int IntKind.i64 1)) n_1 (Value.int IntKind.i64 1)) (fun t7_6 =>
   takeW Try.prog S (Instr.loadAt 3 x2_3) (fun t9_7 =>
   callW Try.prog t5_5 #[t7_6] (fun t8_8 w => keepS S (fun w =>
   takeW Try.prog anyW (binS BinOp.gtr 3 (Operand.tmp 8) (Operand.tmp 9) t8_8 t9_7) (fun t10_9 =>
   k t10_9 w) w) w) w) w) w) w)
theorem S42_vc (n_1 x1_2 x2_3 : Value) (k : Value → World → Prop) (w : World) : vc Try.prog Try.f42.ntmps ann42 none ((Try.f42.body).getD Code.skip) 1 (params 0 [n_1, x1_2, x2_3]) [] (finQ Try.prog Try.f42.results.toList k) w = S42 n_1 x1_2 x2_3 k w := by kernel_rfl
theorem S42_calls (n_1 x1_2 x2_3 : Value) (k : Value → World → Prop) (w : World) (h : S42 n_1 x1_2 x2_3 k w) : Calls Try.prog 42 #[n_1, x1_2, x2_3] w (retP k) :=
  calls_of_vc (fn := Try.f42) (c := (Try.f42.body).getD Code.skip) ann42 Try.func42 (by kernel_rfl) [n_1, x1_2, x2_3] w k (by kernel_rfl) ((S42_vc n_1 x1_2 x2_3 k w).symm ▸ h)
theorem C42 (n_1 x1_2 x2_3 : Value) (k : Value → World → Prop) (w : World) (h : S42 n_1 x1_2 x2_3 k w) : callW Try.prog (.func (.func 42) #[] #[x1_2, x2_3]) #[n_1] k w :=
  callW_calls ok42 (by simpa using S42_calls n_1 x1_2 x2_3 k w h)

/-! cmp.Or[int] -/
def ann43 : Ann := [(29, Note.keep [3]), (58, Note.loop [8] [3, 6, 7]), (934, Note.keep [3, 6, 7, 8])]
def S43 (vals_1 : Value) (k : Value → World → Prop) (w : World) : Prop :=
   opW Try.prog (Builtin.len_ #[26] 3 #[vals_1]) (fun t7_2 w =>
   Loop1 (fun t8_4 w K_5 =>
   opW Try.prog (binS BinOp.lss 3 (Operand.tmp 8) (Operand.tmp 7) t8_4 t7_2) (fun t9_6 w =>
   condW t9_6
   (opW Try.prog (Instr.indexAt 26 vals_1 t8_4) (fun t10_8 w =>
   opW Try.prog (Instr.loadAt 3 t10_8) (fun t11_9 w =>
   opW Try.prog (binS BinOp.neq 3 (Operand.tmp 12) (Operand.tmp 13) t11_9 (Value.int IntKind.i64 0)) (fun t14_10 w =>
   condW t14_10
   (k t11_9 w)
   (opW Try.prog (binS BinOp.add 3 (Operand.tmp 8) (Operand.const (Value.int IntKind.i64 1)) t8_4 (Value.int IntKind.i64 1)) (fun t16_11 w =>
   loopK [] [] [(Value.int IntKind.i64 0), vals_1, t7_2] [(Value.int IntKind.i64 0), vals_1, t7_2] (K_5 t16_11 w)) w)) w) w) w)
   (k (Value.int IntKind.i64 0) w)) w) (Value.int IntKind.i64 0) w) w
theorem S43_vc (vals_1 : Value) (k : Value → World → Prop) (w : World) : vc Try.prog Try.f43.ntmps ann43 none ((Try.f43.body).getD Code.skip) 1 (params 0 [vals_1]) [] (finQ Try.prog Try.f43.results.toList k) w = S43 vals_1 k w := by kernel_rfl
theorem S43_calls (vals_1 : Value) (k : Value → World → Prop) (w : World) (h : S43 vals_1 k w) : Calls Try.prog 43 #[vals_1] w (retP k) :=
  calls_of_vc (fn := Try.f43) (c := (Try.f43.body).getD Code.skip) ann43 Try.func43 (by kernel_rfl) [vals_1] w k (by kernel_rfl) ((S43_vc vals_1 k w).symm ▸ h)
theorem C43 (vals_1 : Value) (k : Value → World → Prop) (w : World) (h : S43 vals_1 k w) : callW Try.prog (.func (.func 43) #[] #[]) #[vals_1] k w :=
  callW_calls ok43 (by simpa using S43_calls vals_1 k w h)

/-! cmp.Compare[int] -/
def ann44 : Ann := []
def S44 (x_1 y_2 : Value) (k : Value → World → Prop) (w : World) : Prop :=
   callW Try.prog (Value.func (Fn.func 49) #[] #[]) #[x_1] (fun t8_3 w =>
   callW Try.prog (Value.func (Fn.func 49) #[] #[]) #[y_2] (fun t10_4 w =>
   condW t8_3
   (condW t10_4
   (k (Value.int IntKind.i64 0) w)
   (k (Value.int IntKind.i64 (-1)) w))
   (condW t10_4
   (k (Value.int IntKind.i64 1) w)
   (opW Try.prog (binS BinOp.lss 3 (Operand.tmp 14) (Operand.tmp 15) x_1 y_2) (fun t16_5 w =>
   condW t16_5
   (k (Value.int IntKind.i64 (-1)) w)
   (opW Try.prog (binS BinOp.gtr 3 (Operand.tmp 17) (Operand.tmp 18) x_1 y_2) (fun t19_6 w =>
   condW t19_6
   (k (Value.int IntKind.i64 1) w)
   (k (Value.int IntKind.i64 0) w)) w)) w))) w) w
theorem S44_vc (x_1 y_2 : Value) (k : Value → World → Prop) (w : World) : vc Try.prog Try.f44.ntmps ann44 none ((Try.f44.body).getD Code.skip) 1 (params 0 [x_1, y_2]) [] (finQ Try.prog Try.f44.results.toList k) w = S44 x_1 y_2 k w := by kernel_rfl
theorem S44_calls (x_1 y_2 : Value) (k : Value → World → Prop) (w : World) (h : S44 x_1 y_2 k w) : Calls Try.prog 44 #[x_1, y_2] w (retP k) :=
  calls_of_vc (fn := Try.f44) (c := (Try.f44.body).getD Code.skip) ann44 Try.func44 (by kernel_rfl) [x_1, y_2] w k (by kernel_rfl) ((S44_vc x_1 y_2 k w).symm ▸ h)
theorem C44 (x_1 y_2 : Value) (k : Value → World → Prop) (w : World) (h : S44 x_1 y_2 k w) : callW Try.prog (.func (.func 44) #[] #[]) #[x_1, y_2] k w :=
  callW_calls ok44 (by simpa using S44_calls x_1 y_2 k w h)

/-! slices.IndexFunc[[]newswire/api.Stream,newswire/api.Stream] -/
def ann45 : Ann := [(13, Note.keep []), (26, Note.loop [8] [0, 1, 7]), (422, Note.keep [0, 1, 7, 8])]
def S45 (s_1 f_2 : Value) (k : Value → World → Prop) (w : World) : Prop :=
   opW Try.prog (Builtin.len_ #[22] 3 #[s_1]) (fun t7_3 w =>
   Loop1 (fun t8_5 w K_6 =>
   opW Try.prog (binS BinOp.lss 3 (Operand.tmp 8) (Operand.tmp 7) t8_5 t7_3) (fun t9_7 w =>
   condW t9_7
   (opW Try.prog (Instr.indexAt 22 s_1 t8_5) (fun t14_9 w =>
   opW Try.prog (Instr.loadAt 34 t14_9) (fun t15_10 w =>
   callW Try.prog f_2 #[t15_10] (fun t16_11 w =>
   condW t16_11
   (k t8_5 w)
   (opW Try.prog (binS BinOp.add 3 (Operand.tmp 8) (Operand.const (Value.int IntKind.i64 1)) t8_5 (Value.int IntKind.i64 1)) (fun t18_12 w =>
   loopK [] [] [s_1, f_2, t7_3] [s_1, f_2, t7_3] (K_6 t18_12 w)) w)) w) w) w)
   (k (Value.int IntKind.i64 (-1)) w)) w) (Value.int IntKind.i64 0) w) w
theorem S45_vc (s_1 f_2 : Value) (k : Value → World → Prop) (w : World) : vc Try.prog Try.f45.ntmps ann45 none ((Try.f45.body).getD Code.skip) 1 (params 0 [s_1, f_2]) [] (finQ Try.prog Try.f45.results.toList k) w = S45 s_1 f_2 k w := by kernel_rfl
theorem S45_calls (s_1 f_2 : Value) (k : Value → World → Prop) (w : World) (h : S45 s_1 f_2 k w) : Calls Try.prog 45 #[s_1, f_2] w (retP k) :=
  calls_of_vc (fn := Try.f45) (c := (Try.f45.body).getD Code.skip) ann45 Try.func45 (by kernel_rfl) [s_1, f_2] w k (by kernel_rfl) ((S45_vc s_1 f_2 k w).symm ▸ h)
theorem C45 (s_1 f_2 : Value) (k : Value → World → Prop) (w : World) (h : S45 s_1 f_2 k w) : callW Try.prog (.func (.func 45) #[] #[]) #[s_1, f_2] k w :=
  callW_calls ok45 (by simpa using S45_calls s_1 f_2 k w h)

/-! newswire/sched.ticks$1 -/
def ann46 : Ann := [(10, Note.plan (Plan.takeS 0 (Plan.takeP 1 (Plan.takeS 3 (Plan.takeP 4 (Plan.alt (Plan.run 2 (Plan.takeP 6 (Plan.run 5 (Plan.takeP 7 Plan.done)))) (Plan.run 5 (Plan.run 2 (Plan.takeP 6 (Plan.takeP 7 Plan.done)))))))))), (95, Note.keep []), (190, Note.loop [7, 8, 9] [0, 1, 2, 4, 5, 6]), (1522, Note.keep [0, 1, 2, 4, 5, 6, 7, 8, 9]), (6088, Note.keep [0, 1, 2, 4, 5, 6, 7, 8, 9]), (12176, Note.loop [7, 8] [0, 1, 2, 4, 5, 6, 9]), (24357, Note.keep [0, 1, 2, 4, 5, 6, 7, 8, 9]), (48714, Note.loop [8, 86] [0, 1, 2, 4, 5, 6, 7, 9, 84, 85]), (97410, Note.keep [0, 1, 2, 4, 5, 6, 7, 8, 9]), (779430, Note.keep [0, 1, 2, 4, 5, 6, 7, 8, 9, 84, 85, 86]), (3117130, Note.plan (Plan.takeP 0 (Plan.takeP 1 (Plan.takeX 2 (Plan.takeX 3 (Plan.takeP 4 (Plan.takeP 5 (Plan.takeP 6 (Plan.takeX 7 (Plan.takeP 8 (Plan.takeP 9 (Plan.takeX 10 (Plan.takeP 11 (Plan.run 12 Plan.done)))))))))))))), (199534188, Note.plan (Plan.takeP 0 (Plan.takeP 1 (Plan.takeP 2 (Plan.takeP 3 (Plan.takeP 4 (Plan.takeP 5 (Plan.takeS 6 (Plan.takeS 7 (Plan.takeP 8 (Plan.takeP 9 (Plan.takeX 10 (Plan.takeP 11 (Plan.takeP 12 (Plan.takeX 13 (Plan.takeP 14 (Plan.takeP 15 (Plan.takeX 16 (Plan.takeP 17 (Plan.run 18 (Plan.takeP 19 (Plan.run 20 Plan.done))))))))))))))))))))))]
def S46 (yield_1 x1_2 x2_3 : Value) (k : Value → World → Prop) (w : World) : Prop :=
   opW Try.prog (Instr.loadAt 59 x1_2) (fun t13_4 w =>
   callW Try.prog (Value.func (Fn.func 47) #[] #[]) #[t13_4] (fun t14_5 w =>
   joinW (fun waiting_15 left_16 w =>
   Loop3 (fun next_18 open_19 t_20 w K_21 =>
   opW Try.prog (Instr.loadAt 23 x2_3) (fun t22_22 w =>
   opW Try.prog (Builtin.len_ #[23] 3 #[t22_22]) (fun t23_23 w =>
   opW Try.prog (binS BinOp.lss 3 (Operand.tmp 21) (Operand.tmp 23) next_18 t23_23) (fun t24_24 w =>
   guardW (some t24_24, false) (fun k w => k open_19 w) (fun t26_25 w =>
   guardW (some t24_24, false) (fun k w => opW Try.prog (binS BinOp.gtr 3 (Operand.tmp 26) (Operand.const (Value.int IntKind.i64 0)) t26_25 (Value.int IntKind.i64 0)) k w) (fun t27_26 w =>
   pickW t24_24 (Value.bool true) t27_26 (fun t28_27 w =>
   condW t28_27
   (joinW (fun next_123 open_124 w =>
   opW Try.prog (binS BinOp.add 3 (Operand.tmp 29) (Operand.const (Value.int IntKind.i64 1)) t_20 (Value.int IntKind.i64 1)) (fun t30_125 w =>
   loopK [] [] [yield_1, x1_2, x2_3, t14_5, waiting_15, left_16] [yield_1, x1_2, x2_3, t14_5, waiting_15, left_16] (K_21 next_123 open_124 t30_125 w)) w) (fun J_28 =>
   Loop2 (fun next_30 open_31 w K_32 =>
   opW Try.prog (Instr.loadAt 23 x2_3) (fun t32_33 w =>
   opW Try.prog (Builtin.len_ #[23] 3 #[t32_33]) (fun t33_34 w =>
   opW Try.prog (binS BinOp.lss 3 (Operand.tmp 31) (Operand.tmp 33) next_30 t33_34) (fun t34_35 w =>
   guardW (some t34_35, true) (fun k w => opW Try.prog (Instr.loadAt 23 x2_3) k w) (fun t36_36 w =>
   guardW (some t34_35, true) (fun k w => k next_30 w) (fun t37_37 w =>
   guardW (some t34_35, true) (fun k w => opW Try.prog (Instr.indexAt 23 t36_36 t37_37) k w) (fun t38_38 w =>
   guardW (some t34_35, true) (fun k w => opW Try.prog (Instr.fieldAt 31 t38_38 1) k w) (fun t39_39 w =>
   guardW (some t34_35, true) (fun k w => opW Try.prog (Instr.loadAt 3 t39_39) k w) (fun t40_40 w =>
   guardW (some t34_35, true) (fun k w => k t_20 w) (fun t41_41 w =>
   guardW (some t34_35, true) (fun k w => opW Try.prog (binS BinOp.leq 3 (Operand.tmp 40) (Operand.tmp 41) t40_40 t41_41) k w) (fun t42_42 w =>
   pickW t34_35 t42_42 (Value.bool false) (fun t43_43 w =>
   condW t43_43
   (joinW (fun open_77 w =>
   opW Try.prog (binS BinOp.add 3 (Operand.tmp 44) (Operand.const (Value.int IntKind.i64 1)) next_30 (Value.int IntKind.i64 1)) (fun t45_78 w =>
   loopK [] [] [yield_1, x1_2, x2_3, t14_5, waiting_15, left_16, t_20] [yield_1, x1_2, x2_3, t14_5, waiting_15, left_16, t_20] (K_32 t45_78 open_77 w)) w) (fun J_44 =>
   opW Try.prog (Instr.loadAt 23 x2_3) (fun t47_45 w =>
   opW Try.prog (Instr.indexAt 23 t47_45 next_30) (fun t49_46 w =>
   opW Try.prog (Instr.fieldAt 31 t49_46 0) (fun t50_47 w =>
   opW Try.prog (Instr.loadAt 3 t50_47) (fun t51_48 w =>
   opW Try.prog (Instr.indexAt 26 t14_5 t51_48) (fun t52_49 w =>
   opW Try.prog (Instr.loadAt 3 t52_49) (fun t53_50 w =>
   opW Try.prog (Instr.indexAt 44 waiting_15 t53_50) (fun t56_51 w =>
   opW Try.prog (Instr.loadAt 26 t56_51) (fun t57_52 w =>
   opW Try.prog (Builtin.len_ #[26] 3 #[t57_52]) (fun t58_53 w =>
   opW Try.prog (binS BinOp.eql 3 (Operand.tmp 58) (Operand.const (Value.int IntKind.i64 0)) t58_53 (Value.int IntKind.i64 0)) (fun t59_54 w =>
   condW t59_54
   (drewW w (fun w =>
   takeW Try.prog (sameW w) (Instr.loadAt 59 x1_2) (fun t62_56 =>
   takeW Try.prog (sameW w) (Instr.loadAt 23 x2_3) (fun t63_57 =>
   takeW Try.prog anyW (Instr.indexAt 23 t63_57 next_30) (fun t65_58 =>
   takeW Try.prog anyW (Instr.fieldAt 31 t65_58 0) (fun t66_59 =>
   takeW Try.prog (sameW w) (Instr.loadAt 3 t66_59) (fun t67_60 =>
   takeW Try.prog anyW (Instr.indexAt 59 t62_56 t67_60) (fun t68_61 =>
   takeW Try.prog anyW (Instr.fieldAt 34 t68_61 1) (fun t69_62 =>
   takeW Try.prog (sameW w) (Instr.loadAt 3 t69_62) (fun t70_63 =>
   takeW Try.prog anyW (Instr.indexAt 26 left_16 t53_50) (fun t71_64 =>
   opU Try.prog (Instr.storeAt 3 t71_64 t70_63) (fun _ w =>
   opW Try.prog (Instr.indexAt 44 waiting_15 t53_50) (fun t76_65 w =>
   opW Try.prog (Instr.loadAt 26 t76_65) (fun t77_66 w =>
   opW Try.prog (Instr.buildSlice 26 1 #[(0, next_30)]) (fun t79_67 w =>
   opW Try.prog (Builtin.append_ #[26, 26] 26 #[t77_66, t79_67]) (fun t80_68 w =>
   opW Try.prog (Instr.indexAt 44 waiting_15 t53_50) (fun t81_69 w =>
   opU Try.prog (Instr.storeAt 26 t81_69 t80_68) (fun _ w =>
   opW Try.prog (binS BinOp.add 3 (Operand.tmp 82) (Operand.const (Value.int IntKind.i64 1)) open_31 (Value.int IntKind.i64 1)) (fun t83_70 w =>
   J_44 t83_70 w) w) w) w) w) w) w) w) w) w) w) w) w) w) w) w) w) w))
   (opW Try.prog (Instr.indexAt 44 waiting_15 t53_50) (fun t76_71 w =>
   opW Try.prog (Instr.loadAt 26 t76_71) (fun t77_72 w =>
   opW Try.prog (Instr.buildSlice 26 1 #[(0, next_30)]) (fun t79_73 w =>
   opW Try.prog (Builtin.append_ #[26, 26] 26 #[t77_72, t79_73]) (fun t80_74 w =>
   opW Try.prog (Instr.indexAt 44 waiting_15 t53_50) (fun t81_75 w =>
   opU Try.prog (Instr.storeAt 26 t81_75 t80_74) (fun _ w =>
   opW Try.prog (binS BinOp.add 3 (Operand.tmp 82) (Operand.const (Value.int IntKind.i64 1)) open_31 (Value.int IntKind.i64 1)) (fun t83_76 w =>
   J_44 t83_76 w) w) w) w) w) w) w) w)) w) w) w) w) w) w) w) w) w) w))
   (opW Try.prog (Builtin.len_ #[44] 3 #[waiting_15]) (fun t85_79 w =>
   Loop2 (fun open_81 t86_82 w K_83 =>
   opW Try.prog (binS BinOp.lss 3 (Operand.tmp 86) (Operand.tmp 85) t86_82 t85_79) (fun t87_84 w =>
   condW t87_84
   (opW Try.prog (Instr.indexAt 44 waiting_15 t86_82) (fun t89_86 w =>
   opW Try.prog (Instr.loadAt 26 t89_86) (fun t90_87 w =>
   opW Try.prog (Builtin.len_ #[26] 3 #[t90_87]) (fun t92_88 w =>
   opW Try.prog (binS BinOp.eql 3 (Operand.tmp 92) (Operand.const (Value.int IntKind.i64 0)) t92_88 (Value.int IntKind.i64 0)) (fun t93_89 w =>
   condW t93_89
   (opW Try.prog (binS BinOp.add 3 (Operand.tmp 86) (Operand.const (Value.int IntKind.i64 1)) t86_82 (Value.int IntKind.i64 1)) (fun t133_120 w =>
   loopK [] [] [yield_1, x1_2, x2_3, t14_5, waiting_15, left_16, next_30, t_20, waiting_15, t85_79] [yield_1, x1_2, x2_3, t14_5, waiting_15, left_16, next_30, t_20, waiting_15, t85_79] (K_83 open_81 t133_120 w)) w)
   (opW Try.prog (Instr.indexAt 26 left_16 t86_82) (fun t96_90 w =>
   opW Try.prog (Instr.loadAt 3 t96_90) (fun t97_91 w =>
   opW Try.prog (binS BinOp.sub 3 (Operand.tmp 97) (Operand.const (Value.int IntKind.i64 1)) t97_91 (Value.int IntKind.i64 1)) (fun t98_92 w =>
   opW Try.prog (Instr.indexAt 26 left_16 t86_82) (fun t99_93 w =>
   opU Try.prog (Instr.storeAt 3 t99_93 t98_92) (fun _ w =>
   opW Try.prog (Instr.indexAt 26 left_16 t86_82) (fun t102_94 w =>
   opW Try.prog (Instr.loadAt 3 t102_94) (fun t103_95 w =>
   opW Try.prog (binS BinOp.eql 3 (Operand.tmp 103) (Operand.const (Value.int IntKind.i64 0)) t103_95 (Value.int IntKind.i64 0)) (fun t104_96 w =>
   condW t104_96
   (drewW w (fun w =>
   ∃ S : World → Prop, S w ∧
   takeW Try.prog anyW (Instr.sliceAt 26 t90_87 (some (Value.int IntKind.i64 1)) none none) (fun t110_98 =>
   takeW Try.prog S (Instr.loadAt 59 x1_2) (fun t111_99 =>
   takeW Try.prog S (Instr.loadAt 23 x2_3) (fun t112_100 =>
   takeW Try.prog anyW (Instr.indexAt 26 t90_87 (Value.int IntKind.i64 0)) (fun t114_101 =>
   takeW Try.prog (sameW w) (Instr.loadAt 3 t114_101) (fun t115_102 =>
   takeW Try.prog anyW (Instr.indexAt 23 t112_100 t115_102) (fun t116_103 =>
   takeW Try.prog anyW (Instr.fieldAt 31 t116_103 0) (fun t117_104 =>
   takeW Try.prog (sameW w) (Instr.loadAt 3 t117_104) (fun t118_105 =>
   takeW Try.prog anyW (Instr.indexAt 59 t111_99 t118_105) (fun t119_106 =>
   takeW Try.prog anyW (Instr.fieldAt 34 t119_106 1) (fun t120_107 =>
   takeW Try.prog (sameW w) (Instr.loadAt 3 t120_107) (fun t121_108 =>
   takeW Try.prog anyW (Instr.indexAt 44 waiting_15 t86_82) (fun t122_109 =>
   opU Try.prog (Instr.storeAt 26 t122_109 t110_98) (fun _ w => keepS S (fun w =>
   takeW Try.prog anyW (Instr.indexAt 26 left_16 t86_82) (fun t123_110 =>
   opU Try.prog (Instr.storeAt 3 t123_110 t121_108) (fun _ w => keepS S (fun w =>
   opW Try.prog (binS BinOp.sub 3 (Operand.tmp 124) (Operand.const (Value.int IntKind.i64 1)) open_81 (Value.int IntKind.i64 1)) (fun t125_111 w =>
   opW Try.prog (Instr.indexAt 26 t90_87 (Value.int IntKind.i64 0)) (fun t129_112 w =>
   opW Try.prog (Instr.loadAt 3 t129_112) (fun t130_113 w =>
   callW Try.prog yield_1 #[t_20, t130_113] (fun t131_114 w =>
   opW Try.prog (Op.unary UnOp.not t131_114) (fun t132_115 w =>
   condW t132_115
   (k (Value.tuple #[]) w)
   (J_28 next_30 t125_111 w)) w) w) w) w) w) w) w) w) w) w) w) w) w) w) w) w) w) w) w) w) w) w))
   (opW Try.prog (Instr.indexAt 26 t90_87 (Value.int IntKind.i64 0)) (fun t129_116 w =>
   opW Try.prog (Instr.loadAt 3 t129_116) (fun t130_117 w =>
   callW Try.prog yield_1 #[t_20, t130_117] (fun t131_118 w =>
   opW Try.prog (Op.unary UnOp.not t131_118) (fun t132_119 w =>
   condW t132_119
   (k (Value.tuple #[]) w)
   (J_28 next_30 open_81 w)) w) w) w) w)) w) w) w) w) w) w) w) w)) w) w) w) w)
   (callW Try.prog yield_1 #[t_20, (Value.int IntKind.i64 (-1))] (fun t136_121 w =>
   opW Try.prog (Op.unary UnOp.not t136_121) (fun t137_122 w =>
   condW t137_122
   (k (Value.tuple #[]) w)
   (J_28 next_30 open_81 w)) w) w)) w) open_31 (Value.int IntKind.i64 0) w) w)) w) w) w) w) w) w) w) w) w) w) w) next_18 open_19 w))
   (k (Value.tuple #[]) w)) w) w) w) w) w) w) (Value.int IntKind.i64 0) (Value.int IntKind.i64 0) (Value.int IntKind.i64 0) w) (fun J_6 =>
   drewW w (fun w =>
   ∃ S : World → Prop, S w ∧
   takeW Try.prog S (Instr.loadAt 59 x1_2) (fun t15_7 =>
   takeW Try.prog anyW (Builtin.len_ #[59] 3 #[t15_7]) (fun t16_8 =>
   takeW Try.prog S (Instr.loadAt 59 x1_2) (fun t18_9 =>
   takeW Try.prog anyW (Builtin.len_ #[59] 3 #[t18_9]) (fun t19_10 =>
   (opW Try.prog (Instr.makeSlice 44 t16_8 t16_8) (fun t17_11 w => keepS S (fun w =>
   opW Try.prog (Instr.makeSlice 26 t19_10 t19_10) (fun t20_12 w => keepS S (fun w =>
   J_6 t17_11 t20_12 w) w) w) w) w) ∧ (opW Try.prog (Instr.makeSlice 26 t19_10 t19_10) (fun t20_13 w => keepS S (fun w =>
   opW Try.prog (Instr.makeSlice 44 t16_8 t16_8) (fun t17_14 w => keepS S (fun w =>
   J_6 t17_14 t20_13 w) w) w) w) w)) w) w) w) w))) w) w
theorem S46_vc (yield_1 x1_2 x2_3 : Value) (k : Value → World → Prop) (w : World) : vc Try.prog Try.f46.ntmps ann46 none ((Try.f46.body).getD Code.skip) 1 (params 0 [yield_1, x1_2, x2_3]) [] (finQ Try.prog Try.f46.results.toList k) w = S46 yield_1 x1_2 x2_3 k w := by kernel_rfl
theorem S46_calls (yield_1 x1_2 x2_3 : Value) (k : Value → World → Prop) (w : World) (h : S46 yield_1 x1_2 x2_3 k w) : Calls Try.prog 46 #[yield_1, x1_2, x2_3] w (retP k) :=
  calls_of_vc (fn := Try.f46) (c := (Try.f46.body).getD Code.skip) ann46 Try.func46 (by kernel_rfl) [yield_1, x1_2, x2_3] w k (by kernel_rfl) ((S46_vc yield_1 x1_2 x2_3 k w).symm ▸ h)
theorem C46 (yield_1 x1_2 x2_3 : Value) (k : Value → World → Prop) (w : World) (h : S46 yield_1 x1_2 x2_3 k w) : callW Try.prog (.func (.func 46) #[] #[x1_2, x2_3]) #[yield_1] k w :=
  callW_calls ok46 (by simpa using S46_calls yield_1 x1_2 x2_3 k w h)

/-! (newswire/sched.streams).ranks -/
def ann47 : Ann := [(29, Note.keep [0, 3]), (58, Note.loop [13] [0, 3, 12]), (253, Note.keep [5]), (506, Note.loop [30] [5, 28, 29]), (934, Note.keep [0, 3, 12, 13]), (8102, Note.keep [5, 28, 29, 30])]
def S47 (l_1 : Value) (k : Value → World → Prop) (w : World) : Prop :=
   opW Try.prog (Builtin.len_ #[59] 3 #[l_1]) (fun t9_2 w =>
   opW Try.prog (Instr.makeSlice 26 t9_2 t9_2) (fun t10_3 w =>
   opW Try.prog (Builtin.len_ #[26] 3 #[t10_3]) (fun t12_4 w =>
   Loop1 (fun t13_6 w K_7 =>
   opW Try.prog (binS BinOp.lss 3 (Operand.tmp 13) (Operand.tmp 12) t13_6 t12_4) (fun t14_8 w =>
   condW t14_8
   (opW Try.prog (Instr.indexAt 26 t10_3 t13_6) (fun t19_10 w =>
   opU Try.prog (Instr.storeAt 3 t19_10 t13_6) (fun _ w =>
   opW Try.prog (binS BinOp.add 3 (Operand.tmp 13) (Operand.const (Value.int IntKind.i64 1)) t13_6 (Value.int IntKind.i64 1)) (fun t20_11 w =>
   loopK [] [] [l_1, t10_3, t12_4] [l_1, t10_3, t12_4] (K_7 t20_11 w)) w) w) w)
   (opW Try.prog (Instr.makeFunc (Fn.func 31) #[l_1] #[]) (fun t23_12 w =>
   callW Try.prog (Value.func (Fn.func 50) #[] #[]) #[t10_3, t23_12] (fun t24_13 w =>
   opW Try.prog (Builtin.len_ #[59] 3 #[l_1]) (fun t26_14 w =>
   opW Try.prog (Instr.makeSlice 26 t26_14 t26_14) (fun t27_15 w =>
   opW Try.prog (Builtin.len_ #[26] 3 #[t10_3]) (fun t29_16 w =>
   Loop1 (fun t30_18 w K_19 =>
   opW Try.prog (binS BinOp.lss 3 (Operand.tmp 30) (Operand.tmp 29) t30_18 t29_16) (fun t31_20 w =>
   condW t31_20
   (opW Try.prog (Instr.indexAt 26 t10_3 t30_18) (fun t33_22 w =>
   opW Try.prog (Instr.loadAt 3 t33_22) (fun t34_23 w =>
   opW Try.prog (Instr.indexAt 26 t27_15 t34_23) (fun t38_24 w =>
   opU Try.prog (Instr.storeAt 3 t38_24 t30_18) (fun _ w =>
   opW Try.prog (binS BinOp.add 3 (Operand.tmp 30) (Operand.const (Value.int IntKind.i64 1)) t30_18 (Value.int IntKind.i64 1)) (fun t39_25 w =>
   loopK [] [] [t27_15, t10_3, t29_16] [t27_15, t10_3, t29_16] (K_19 t39_25 w)) w) w) w) w) w)
   (k t27_15 w)) w) (Value.int IntKind.i64 0) w) w) w) w) w) w)) w) (Value.int IntKind.i64 0) w) w) w) w
theorem S47_vc (l_1 : Value) (k : Value → World → Prop) (w : World) : vc Try.prog Try.f47.ntmps ann47 none ((Try.f47.body).getD Code.skip) 1 (params 0 [l_1]) [] (finQ Try.prog Try.f47.results.toList k) w = S47 l_1 k w := by kernel_rfl
theorem S47_calls (l_1 : Value) (k : Value → World → Prop) (w : World) (h : S47 l_1 k w) : Calls Try.prog 47 #[l_1] w (retP k) :=
  calls_of_vc (fn := Try.f47) (c := (Try.f47.body).getD Code.skip) ann47 Try.func47 (by kernel_rfl) [l_1] w k (by kernel_rfl) ((S47_vc l_1 k w).symm ▸ h)
theorem C47 (l_1 : Value) (k : Value → World → Prop) (w : World) (h : S47 l_1 k w) : callW Try.prog (.func (.func 47) #[] #[]) #[l_1] k w :=
  callW_calls ok47 (by simpa using S47_calls l_1 k w h)

/-! slices.IndexFunc[[]int,int] -/
def ann48 : Ann := [(13, Note.keep []), (26, Note.loop [8] [0, 1, 7]), (422, Note.keep [0, 1, 7, 8])]
def S48 (s_1 f_2 : Value) (k : Value → World → Prop) (w : World) : Prop :=
   opW Try.prog (Builtin.len_ #[26] 3 #[s_1]) (fun t7_3 w =>
   Loop1 (fun t8_5 w K_6 =>
   opW Try.prog (binS BinOp.lss 3 (Operand.tmp 8) (Operand.tmp 7) t8_5 t7_3) (fun t9_7 w =>
   condW t9_7
   (opW Try.prog (Instr.indexAt 26 s_1 t8_5) (fun t14_9 w =>
   opW Try.prog (Instr.loadAt 3 t14_9) (fun t15_10 w =>
   callW Try.prog f_2 #[t15_10] (fun t16_11 w =>
   condW t16_11
   (k t8_5 w)
   (opW Try.prog (binS BinOp.add 3 (Operand.tmp 8) (Operand.const (Value.int IntKind.i64 1)) t8_5 (Value.int IntKind.i64 1)) (fun t18_12 w =>
   loopK [] [] [s_1, f_2, t7_3] [s_1, f_2, t7_3] (K_6 t18_12 w)) w)) w) w) w)
   (k (Value.int IntKind.i64 (-1)) w)) w) (Value.int IntKind.i64 0) w) w
theorem S48_vc (s_1 f_2 : Value) (k : Value → World → Prop) (w : World) : vc Try.prog Try.f48.ntmps ann48 none ((Try.f48.body).getD Code.skip) 1 (params 0 [s_1, f_2]) [] (finQ Try.prog Try.f48.results.toList k) w = S48 s_1 f_2 k w := by kernel_rfl
theorem S48_calls (s_1 f_2 : Value) (k : Value → World → Prop) (w : World) (h : S48 s_1 f_2 k w) : Calls Try.prog 48 #[s_1, f_2] w (retP k) :=
  calls_of_vc (fn := Try.f48) (c := (Try.f48.body).getD Code.skip) ann48 Try.func48 (by kernel_rfl) [s_1, f_2] w k (by kernel_rfl) ((S48_vc s_1 f_2 k w).symm ▸ h)
theorem C48 (s_1 f_2 : Value) (k : Value → World → Prop) (w : World) (h : S48 s_1 f_2 k w) : callW Try.prog (.func (.func 48) #[] #[]) #[s_1, f_2] k w :=
  callW_calls ok48 (by simpa using S48_calls s_1 f_2 k w h)

/-! cmp.isNaN[int] -/
def ann49 : Ann := []
def S49 (x_1 : Value) (k : Value → World → Prop) (w : World) : Prop :=
   opW Try.prog (binS BinOp.neq 3 (Operand.tmp 3) (Operand.tmp 4) x_1 x_1) (fun t5_2 w =>
   k t5_2 w) w
theorem S49_vc (x_1 : Value) (k : Value → World → Prop) (w : World) : vc Try.prog Try.f49.ntmps ann49 none ((Try.f49.body).getD Code.skip) 1 (params 0 [x_1]) [] (finQ Try.prog Try.f49.results.toList k) w = S49 x_1 k w := by kernel_rfl
theorem S49_calls (x_1 : Value) (k : Value → World → Prop) (w : World) (h : S49 x_1 k w) : Calls Try.prog 49 #[x_1] w (retP k) :=
  calls_of_vc (fn := Try.f49) (c := (Try.f49.body).getD Code.skip) ann49 Try.func49 (by kernel_rfl) [x_1] w k (by kernel_rfl) ((S49_vc x_1 k w).symm ▸ h)
theorem C49 (x_1 : Value) (k : Value → World → Prop) (w : World) (h : S49 x_1 k w) : callW Try.prog (.func (.func 49) #[] #[]) #[x_1] k w :=
  callW_calls ok49 (by simpa using S49_calls x_1 k w h)

/-! slices.SortFunc[[]int,int] -/
def ann50 : Ann := []
def S50 (x_1 cmp_2 : Value) (k : Value → World → Prop) (w : World) : Prop :=
   opW Try.prog (Builtin.len_ #[26] 3 #[x_1]) (fun t6_3 w =>
   opW Try.prog (convert 3 74 t6_3) (fun t10_4 w =>
   callW Try.prog (Value.func (Fn.func 52) #[] #[]) #[t10_4] (fun t11_5 w =>
   callW Try.prog (Value.func (Fn.func 51) #[] #[]) #[x_1, (Value.int IntKind.i64 0), t6_3, t11_5, cmp_2] (fun t13_6 w =>
   k (Value.tuple #[]) w) w) w) w) w
theorem S50_vc (x_1 cmp_2 : Value) (k : Value → World → Prop) (w : World) : vc Try.prog Try.f50.ntmps ann50 none ((Try.f50.body).getD Code.skip) 1 (params 0 [x_1, cmp_2]) [] (finQ Try.prog Try.f50.results.toList k) w = S50 x_1 cmp_2 k w := by kernel_rfl
theorem S50_calls (x_1 cmp_2 : Value) (k : Value → World → Prop) (w : World) (h : S50 x_1 cmp_2 k w) : Calls Try.prog 50 #[x_1, cmp_2] w (retP k) :=
  calls_of_vc (fn := Try.f50) (c := (Try.f50.body).getD Code.skip) ann50 Try.func50 (by kernel_rfl) [x_1, cmp_2] w k (by kernel_rfl) ((S50_vc x_1 cmp_2 k w).symm ▸ h)
theorem C50 (x_1 cmp_2 : Value) (k : Value → World → Prop) (w : World) (h : S50 x_1 cmp_2 k w) : callW Try.prog (.func (.func 50) #[] #[]) #[x_1, cmp_2] k w :=
  callW_calls ok50 (by simpa using S50_calls x_1 cmp_2 k w h)

/-! slices.pdqsortCmpFunc[int] -/
def ann51 : Ann := [(7, Note.keep []), (14, Note.loop [1, 2, 3, 10, 11] [0, 4]), (28, Note.keep [0, 1, 2, 3, 4, 10, 11]), (29180, Note.plan (Plan.takeP 0 (Plan.takeP 1 (Plan.takeP 2 (Plan.takeP 3 (Plan.takeP 4 (Plan.takeP 5 (Plan.takeP 6 (Plan.takeP 7 (Plan.takeX 8 (Plan.takeP 9 (Plan.takeP 10 (Plan.takeP 11 (Plan.takeX 12 (Plan.run 13 (Plan.takeP 14 (Plan.takeP 15 (Plan.takeP 16 Plan.done))))))))))))))))))]
def S51 (data_1 a_2 b_3 limit_4 cmp_5 : Value) (k : Value → World → Prop) (w : World) : Prop :=
   Loop5 (fun a_7 b_8 limit_9 wasBalanced_10 wasPartitioned_11 w K_12 =>
   joinW (fun a_302 b_303 limit_304 wasBalanced_305 wasPartitioned_306 w =>
   loopK [] [] [data_1, cmp_5] [data_1, cmp_5] (K_12 a_302 b_303 limit_304 wasBalanced_305 wasPartitioned_306 w)) (fun J_13 =>
   opW Try.prog (binS BinOp.sub 3 (Operand.tmp 21) (Operand.tmp 22) b_8 a_7) (fun t23_14 w =>
   opW Try.prog (binS BinOp.leq 3 (Operand.tmp 24) (Operand.const (Value.int IntKind.i64 12)) t23_14 (Value.int IntKind.i64 12)) (fun t25_15 w =>
   condW t25_15
   (callW Try.prog (Value.func (Fn.func 53) #[] #[]) #[data_1, a_7, b_8, cmp_5] (fun t30_16 w =>
   k (Value.tuple #[]) w) w)
   (opW Try.prog (binS BinOp.eql 3 (Operand.tmp 31) (Operand.const (Value.int IntKind.i64 0)) limit_9 (Value.int IntKind.i64 0)) (fun t32_17 w =>
   condW t32_17
   (callW Try.prog (Value.func (Fn.func 54) #[] #[]) #[data_1, a_7, b_8, cmp_5] (fun t37_18 w =>
   k (Value.tuple #[]) w) w)
   (opW Try.prog (Op.unary UnOp.not wasBalanced_10) (fun t39_19 w =>
   condW t39_19
   (callW Try.prog (Value.func (Fn.func 55) #[] #[]) #[data_1, a_7, b_8, cmp_5] (fun t44_20 w =>
   opW Try.prog (binS BinOp.sub 3 (Operand.tmp 45) (Operand.const (Value.int IntKind.i64 1)) limit_9 (Value.int IntKind.i64 1)) (fun t46_21 w =>
   callW Try.prog (Value.func (Fn.func 56) #[] #[]) #[data_1, a_7, b_8, cmp_5] (fun t52_22 w =>
   opW Try.prog (Instr.extract t52_22 0) (fun t53_23 w =>
   opW Try.prog (Instr.extract t52_22 1) (fun t54_24 w =>
   opW Try.prog (binS BinOp.eql 79 (Operand.tmp 55) (Operand.const (Value.int IntKind.i64 2)) t54_24 (Value.int IntKind.i64 2)) (fun t56_25 w =>
   condW t56_25
   (callW Try.prog (Value.func (Fn.func 57) #[] #[]) #[data_1, a_7, b_8, cmp_5] (fun t61_26 w =>
   opW Try.prog (binS BinOp.sub 3 (Operand.tmp 62) (Operand.const (Value.int IntKind.i64 1)) b_8 (Value.int IntKind.i64 1)) (fun t63_27 w =>
   opW Try.prog (binS BinOp.sub 3 (Operand.tmp 64) (Operand.tmp 65) t53_23 a_7) (fun t66_28 w =>
   opW Try.prog (binS BinOp.sub 3 (Operand.tmp 63) (Operand.tmp 66) t63_27 t66_28) (fun t67_29 w =>
   guardW (some wasBalanced_10, true) (fun k w => k wasPartitioned_11 w) (fun t70_30 w =>
   pickW wasBalanced_10 t70_30 (Value.bool false) (fun t71_31 w =>
   guardW (some t71_31, true) (fun k w => k (Value.int IntKind.i64 1) w) (fun t73_32 w =>
   guardW (some t71_31, true) (fun k w => opW Try.prog (binS BinOp.eql 79 (Operand.tmp 73) (Operand.const (Value.int IntKind.i64 1)) t73_32 (Value.int IntKind.i64 1)) k w) (fun t74_33 w =>
   pickW t71_31 t74_33 (Value.bool false) (fun t75_34 w =>
   condW t75_34
   (callW Try.prog (Value.func (Fn.func 58) #[] #[]) #[data_1, a_7, b_8, cmp_5] (fun t80_35 w =>
   condW t80_35
   (k (Value.tuple #[]) w)
   (drewW w (fun w =>
   takeW Try.prog anyW (binS BinOp.gtr 3 (Operand.tmp 81) (Operand.const (Value.int IntKind.i64 0)) a_7 (Value.int IntKind.i64 0)) (fun t82_37 =>
   guardT (some t82_37, true) (fun k => k cmp_5) (fun t84_38 =>
   guardT (some t82_37, true) (fun k => k data_1) (fun t85_39 =>
   guardT (some t82_37, true) (fun k => k a_7) (fun t86_40 =>
   guardT (some t82_37, true) (fun k => takeW Try.prog anyW (binS BinOp.sub 3 (Operand.tmp 86) (Operand.const (Value.int IntKind.i64 1)) t86_40 (Value.int IntKind.i64 1)) k w) (fun t87_41 =>
   guardT (some t82_37, true) (fun k => takeW Try.prog anyW (Instr.indexAt 26 t85_39 t87_41) k w) (fun t88_42 =>
   guardT (some t82_37, true) (fun k => takeW Try.prog (sameW w) (Instr.loadAt 3 t88_42) k w) (fun t89_43 =>
   guardT (some t82_37, true) (fun k => k data_1) (fun t90_44 =>
   guardT (some t82_37, true) (fun k => k t67_29) (fun t91_45 =>
   guardT (some t82_37, true) (fun k => takeW Try.prog anyW (Instr.indexAt 26 t90_44 t91_45) k w) (fun t92_46 =>
   guardT (some t82_37, true) (fun k => takeW Try.prog (sameW w) (Instr.loadAt 3 t92_46) k w) (fun t93_47 =>
   guardW (some t82_37, true) (fun k w => callW Try.prog t84_38 #[t89_43, t93_47] k w) (fun t94_48 w =>
   guardT (some t82_37, true) (fun k => takeW Try.prog anyW (binS BinOp.lss 3 (Operand.tmp 94) (Operand.const (Value.int IntKind.i64 0)) t94_48 (Value.int IntKind.i64 0)) k w) (fun t95_49 =>
   guardT (some t82_37, true) (fun k => takeW Try.prog anyW (Op.unary UnOp.not t95_49) k w) (fun t96_50 =>
   pickT t82_37 t96_50 (Value.bool false) (fun t97_51 =>
   condW t97_51
   (callW Try.prog (Value.func (Fn.func 59) #[] #[]) #[data_1, a_7, b_8, t67_29, cmp_5] (fun t103_52 w =>
   J_13 t103_52 b_8 t46_21 wasBalanced_10 wasPartitioned_11 w) w)
   (callW Try.prog (Value.func (Fn.func 60) #[] #[]) #[data_1, a_7, b_8, t67_29, cmp_5] (fun t111_53 w =>
   opW Try.prog (Instr.extract t111_53 0) (fun t112_54 w =>
   opW Try.prog (Instr.extract t111_53 1) (fun t113_55 w =>
   opW Try.prog (binS BinOp.sub 3 (Operand.tmp 115) (Operand.tmp 116) t112_54 a_7) (fun t117_56 w =>
   opW Try.prog (binS BinOp.sub 3 (Operand.tmp 118) (Operand.tmp 119) b_8 t112_54) (fun t120_57 w =>
   opW Try.prog (binS BinOp.quo 3 (Operand.tmp 121) (Operand.const (Value.int IntKind.i64 8)) t23_14 (Value.int IntKind.i64 8)) (fun t122_58 w =>
   opW Try.prog (binS BinOp.lss 3 (Operand.tmp 123) (Operand.tmp 124) t117_56 t120_57) (fun t125_59 w =>
   condW t125_59
   (opW Try.prog (binS BinOp.geq 3 (Operand.tmp 126) (Operand.tmp 127) t117_56 t122_58) (fun t128_60 w =>
   callW Try.prog (Value.func (Fn.func 51) #[] #[]) #[data_1, a_7, t112_54, t46_21, cmp_5] (fun t134_61 w =>
   opW Try.prog (binS BinOp.add 3 (Operand.tmp 135) (Operand.const (Value.int IntKind.i64 1)) t112_54 (Value.int IntKind.i64 1)) (fun t136_62 w =>
   J_13 t136_62 b_8 t46_21 t128_60 t113_55 w) w) w) w)
   (opW Try.prog (binS BinOp.geq 3 (Operand.tmp 137) (Operand.tmp 138) t120_57 t122_58) (fun t139_63 w =>
   opW Try.prog (binS BinOp.add 3 (Operand.tmp 141) (Operand.const (Value.int IntKind.i64 1)) t112_54 (Value.int IntKind.i64 1)) (fun t142_64 w =>
   callW Try.prog (Value.func (Fn.func 51) #[] #[]) #[data_1, t142_64, b_8, t46_21, cmp_5] (fun t146_65 w =>
   J_13 a_7 t112_54 t46_21 t139_63 t113_55 w) w) w) w)) w) w) w) w) w) w) w))))) w))))))))))) w))) w)
   (drewW w (fun w =>
   takeW Try.prog anyW (binS BinOp.gtr 3 (Operand.tmp 81) (Operand.const (Value.int IntKind.i64 0)) a_7 (Value.int IntKind.i64 0)) (fun t82_67 =>
   guardT (some t82_67, true) (fun k => k cmp_5) (fun t84_68 =>
   guardT (some t82_67, true) (fun k => k data_1) (fun t85_69 =>
   guardT (some t82_67, true) (fun k => k a_7) (fun t86_70 =>
   guardT (some t82_67, true) (fun k => takeW Try.prog anyW (binS BinOp.sub 3 (Operand.tmp 86) (Operand.const (Value.int IntKind.i64 1)) t86_70 (Value.int IntKind.i64 1)) k w) (fun t87_71 =>
   guardT (some t82_67, true) (fun k => takeW Try.prog anyW (Instr.indexAt 26 t85_69 t87_71) k w) (fun t88_72 =>
   guardT (some t82_67, true) (fun k => takeW Try.prog (sameW w) (Instr.loadAt 3 t88_72) k w) (fun t89_73 =>
   guardT (some t82_67, true) (fun k => k data_1) (fun t90_74 =>
   guardT (some t82_67, true) (fun k => k t67_29) (fun t91_75 =>
   guardT (some t82_67, true) (fun k => takeW Try.prog anyW (Instr.indexAt 26 t90_74 t91_75) k w) (fun t92_76 =>
   guardT (some t82_67, true) (fun k => takeW Try.prog (sameW w) (Instr.loadAt 3 t92_76) k w) (fun t93_77 =>
   guardW (some t82_67, true) (fun k w => callW Try.prog t84_68 #[t89_73, t93_77] k w) (fun t94_78 w =>
   guardT (some t82_67, true) (fun k => takeW Try.prog anyW (binS BinOp.lss 3 (Operand.tmp 94) (Operand.const (Value.int IntKind.i64 0)) t94_78 (Value.int IntKind.i64 0)) k w) (fun t95_79 =>
   guardT (some t82_67, true) (fun k => takeW Try.prog anyW (Op.unary UnOp.not t95_79) k w) (fun t96_80 =>
   pickT t82_67 t96_80 (Value.bool false) (fun t97_81 =>
   condW t97_81
   (callW Try.prog (Value.func (Fn.func 59) #[] #[]) #[data_1, a_7, b_8, t67_29, cmp_5] (fun t103_82 w =>
   J_13 t103_82 b_8 t46_21 wasBalanced_10 wasPartitioned_11 w) w)
   (callW Try.prog (Value.func (Fn.func 60) #[] #[]) #[data_1, a_7, b_8, t67_29, cmp_5] (fun t111_83 w =>
   opW Try.prog (Instr.extract t111_83 0) (fun t112_84 w =>
   opW Try.prog (Instr.extract t111_83 1) (fun t113_85 w =>
   opW Try.prog (binS BinOp.sub 3 (Operand.tmp 115) (Operand.tmp 116) t112_84 a_7) (fun t117_86 w =>
   opW Try.prog (binS BinOp.sub 3 (Operand.tmp 118) (Operand.tmp 119) b_8 t112_84) (fun t120_87 w =>
   opW Try.prog (binS BinOp.quo 3 (Operand.tmp 121) (Operand.const (Value.int IntKind.i64 8)) t23_14 (Value.int IntKind.i64 8)) (fun t122_88 w =>
   opW Try.prog (binS BinOp.lss 3 (Operand.tmp 123) (Operand.tmp 124) t117_86 t120_87) (fun t125_89 w =>
   condW t125_89
   (opW Try.prog (binS BinOp.geq 3 (Operand.tmp 126) (Operand.tmp 127) t117_86 t122_88) (fun t128_90 w =>
   callW Try.prog (Value.func (Fn.func 51) #[] #[]) #[data_1, a_7, t112_84, t46_21, cmp_5] (fun t134_91 w =>
   opW Try.prog (binS BinOp.add 3 (Operand.tmp 135) (Operand.const (Value.int IntKind.i64 1)) t112_84 (Value.int IntKind.i64 1)) (fun t136_92 w =>
   J_13 t136_92 b_8 t46_21 t128_90 t113_85 w) w) w) w)
   (opW Try.prog (binS BinOp.geq 3 (Operand.tmp 137) (Operand.tmp 138) t120_87 t122_88) (fun t139_93 w =>
   opW Try.prog (binS BinOp.add 3 (Operand.tmp 141) (Operand.const (Value.int IntKind.i64 1)) t112_84 (Value.int IntKind.i64 1)) (fun t142_94 w =>
   callW Try.prog (Value.func (Fn.func 51) #[] #[]) #[data_1, t142_94, b_8, t46_21, cmp_5] (fun t146_95 w =>
   J_13 a_7 t112_84 t46_21 t139_93 t113_85 w) w) w) w)) w) w) w) w) w) w) w))))) w))))))))))) w))) w) w) w) w) w) w) w) w) w)
   (guardW (some wasBalanced_10, true) (fun k w => k wasPartitioned_11 w) (fun t70_96 w =>
   pickW wasBalanced_10 t70_96 (Value.bool false) (fun t71_97 w =>
   guardW (some t71_97, true) (fun k w => k t54_24 w) (fun t73_98 w =>
   guardW (some t71_97, true) (fun k w => opW Try.prog (binS BinOp.eql 79 (Operand.tmp 73) (Operand.const (Value.int IntKind.i64 1)) t73_98 (Value.int IntKind.i64 1)) k w) (fun t74_99 w =>
   pickW t71_97 t74_99 (Value.bool false) (fun t75_100 w =>
   condW t75_100
   (callW Try.prog (Value.func (Fn.func 58) #[] #[]) #[data_1, a_7, b_8, cmp_5] (fun t80_101 w =>
   condW t80_101
   (k (Value.tuple #[]) w)
   (drewW w (fun w =>
   takeW Try.prog anyW (binS BinOp.gtr 3 (Operand.tmp 81) (Operand.const (Value.int IntKind.i64 0)) a_7 (Value.int IntKind.i64 0)) (fun t82_103 =>
   guardT (some t82_103, true) (fun k => k cmp_5) (fun t84_104 =>
   guardT (some t82_103, true) (fun k => k data_1) (fun t85_105 =>
   guardT (some t82_103, true) (fun k => k a_7) (fun t86_106 =>
   guardT (some t82_103, true) (fun k => takeW Try.prog anyW (binS BinOp.sub 3 (Operand.tmp 86) (Operand.const (Value.int IntKind.i64 1)) t86_106 (Value.int IntKind.i64 1)) k w) (fun t87_107 =>
   guardT (some t82_103, true) (fun k => takeW Try.prog anyW (Instr.indexAt 26 t85_105 t87_107) k w) (fun t88_108 =>
   guardT (some t82_103, true) (fun k => takeW Try.prog (sameW w) (Instr.loadAt 3 t88_108) k w) (fun t89_109 =>
   guardT (some t82_103, true) (fun k => k data_1) (fun t90_110 =>
   guardT (some t82_103, true) (fun k => k t53_23) (fun t91_111 =>
   guardT (some t82_103, true) (fun k => takeW Try.prog anyW (Instr.indexAt 26 t90_110 t91_111) k w) (fun t92_112 =>
   guardT (some t82_103, true) (fun k => takeW Try.prog (sameW w) (Instr.loadAt 3 t92_112) k w) (fun t93_113 =>
   guardW (some t82_103, true) (fun k w => callW Try.prog t84_104 #[t89_109, t93_113] k w) (fun t94_114 w =>
   guardT (some t82_103, true) (fun k => takeW Try.prog anyW (binS BinOp.lss 3 (Operand.tmp 94) (Operand.const (Value.int IntKind.i64 0)) t94_114 (Value.int IntKind.i64 0)) k w) (fun t95_115 =>
   guardT (some t82_103, true) (fun k => takeW Try.prog anyW (Op.unary UnOp.not t95_115) k w) (fun t96_116 =>
   pickT t82_103 t96_116 (Value.bool false) (fun t97_117 =>
   condW t97_117
   (callW Try.prog (Value.func (Fn.func 59) #[] #[]) #[data_1, a_7, b_8, t53_23, cmp_5] (fun t103_118 w =>
   J_13 t103_118 b_8 t46_21 wasBalanced_10 wasPartitioned_11 w) w)
   (callW Try.prog (Value.func (Fn.func 60) #[] #[]) #[data_1, a_7, b_8, t53_23, cmp_5] (fun t111_119 w =>
   opW Try.prog (Instr.extract t111_119 0) (fun t112_120 w =>
   opW Try.prog (Instr.extract t111_119 1) (fun t113_121 w =>
   opW Try.prog (binS BinOp.sub 3 (Operand.tmp 115) (Operand.tmp 116) t112_120 a_7) (fun t117_122 w =>
   opW Try.prog (binS BinOp.sub 3 (Operand.tmp 118) (Operand.tmp 119) b_8 t112_120) (fun t120_123 w =>
   opW Try.prog (binS BinOp.quo 3 (Operand.tmp 121) (Operand.const (Value.int IntKind.i64 8)) t23_14 (Value.int IntKind.i64 8)) (fun t122_124 w =>
   opW Try.prog (binS BinOp.lss 3 (Operand.tmp 123) (Operand.tmp 124) t117_122 t120_123) (fun t125_125 w =>
   condW t125_125
   (opW Try.prog (binS BinOp.geq 3 (Operand.tmp 126) (Operand.tmp 127) t117_122 t122_124) (fun t128_126 w =>
   callW Try.prog (Value.func (Fn.func 51) #[] #[]) #[data_1, a_7, t112_120, t46_21, cmp_5] (fun t134_127 w =>
   opW Try.prog (binS BinOp.add 3 (Operand.tmp 135) (Operand.const (Value.int IntKind.i64 1)) t112_120 (Value.int IntKind.i64 1)) (fun t136_128 w =>
   J_13 t136_128 b_8 t46_21 t128_126 t113_121 w) w) w) w)
   (opW Try.prog (binS BinOp.geq 3 (Operand.tmp 137) (Operand.tmp 138) t120_123 t122_124) (fun t139_129 w =>
   opW Try.prog (binS BinOp.add 3 (Operand.tmp 141) (Operand.const (Value.int IntKind.i64 1)) t112_120 (Value.int IntKind.i64 1)) (fun t142_130 w =>
   callW Try.prog (Value.func (Fn.func 51) #[] #[]) #[data_1, t142_130, b_8, t46_21, cmp_5] (fun t146_131 w =>
   J_13 a_7 t112_120 t46_21 t139_129 t113_121 w) w) w) w)) w) w) w) w) w) w) w))))) w))))))))))) w))) w)
   (drewW w (fun w =>
   takeW Try.prog anyW (binS BinOp.gtr 3 (Operand.tmp 81) (Operand.const (Value.int IntKind.i64 0)) a_7 (Value.int IntKind.i64 0)) (fun t82_133 =>
   guardT (some t82_133, true) (fun k => k cmp_5) (fun t84_134 =>
   guardT (some t82_133, true) (fun k => k data_1) (fun t85_135 =>
   guardT (some t82_133, true) (fun k => k a_7) (fun t86_136 =>
   guardT (some t82_133, true) (fun k => takeW Try.prog anyW (binS BinOp.sub 3 (Operand.tmp 86) (Operand.const (Value.int IntKind.i64 1)) t86_136 (Value.int IntKind.i64 1)) k w) (fun t87_137 =>
   guardT (some t82_133, true) (fun k => takeW Try.prog anyW (Instr.indexAt 26 t85_135 t87_137) k w) (fun t88_138 =>
   guardT (some t82_133, true) (fun k => takeW Try.prog (sameW w) (Instr.loadAt 3 t88_138) k w) (fun t89_139 =>
   guardT (some t82_133, true) (fun k => k data_1) (fun t90_140 =>
   guardT (some t82_133, true) (fun k => k t53_23) (fun t91_141 =>
   guardT (some t82_133, true) (fun k => takeW Try.prog anyW (Instr.indexAt 26 t90_140 t91_141) k w) (fun t92_142 =>
   guardT (some t82_133, true) (fun k => takeW Try.prog (sameW w) (Instr.loadAt 3 t92_142) k w) (fun t93_143 =>
   guardW (some t82_133, true) (fun k w => callW Try.prog t84_134 #[t89_139, t93_143] k w) (fun t94_144 w =>
   guardT (some t82_133, true) (fun k => takeW Try.prog anyW (binS BinOp.lss 3 (Operand.tmp 94) (Operand.const (Value.int IntKind.i64 0)) t94_144 (Value.int IntKind.i64 0)) k w) (fun t95_145 =>
   guardT (some t82_133, true) (fun k => takeW Try.prog anyW (Op.unary UnOp.not t95_145) k w) (fun t96_146 =>
   pickT t82_133 t96_146 (Value.bool false) (fun t97_147 =>
   condW t97_147
   (callW Try.prog (Value.func (Fn.func 59) #[] #[]) #[data_1, a_7, b_8, t53_23, cmp_5] (fun t103_148 w =>
   J_13 t103_148 b_8 t46_21 wasBalanced_10 wasPartitioned_11 w) w)
   (callW Try.prog (Value.func (Fn.func 60) #[] #[]) #[data_1, a_7, b_8, t53_23, cmp_5] (fun t111_149 w =>
   opW Try.prog (Instr.extract t111_149 0) (fun t112_150 w =>
   opW Try.prog (Instr.extract t111_149 1) (fun t113_151 w =>
   opW Try.prog (binS BinOp.sub 3 (Operand.tmp 115) (Operand.tmp 116) t112_150 a_7) (fun t117_152 w =>
   opW Try.prog (binS BinOp.sub 3 (Operand.tmp 118) (Operand.tmp 119) b_8 t112_150) (fun t120_153 w =>
   opW Try.prog (binS BinOp.quo 3 (Operand.tmp 121) (Operand.const (Value.int IntKind.i64 8)) t23_14 (Value.int IntKind.i64 8)) (fun t122_154 w =>
   opW Try.prog (binS BinOp.lss 3 (Operand.tmp 123) (Operand.tmp 124) t117_152 t120_153) (fun t125_155 w =>
   condW t125_155
   (opW Try.prog (binS BinOp.geq 3 (Operand.tmp 126) (Operand.tmp 127) t117_152 t122_154) (fun t128_156 w =>
   callW Try.prog (Value.func (Fn.func 51) #[] #[]) #[data_1, a_7, t112_150, t46_21, cmp_5] (fun t134_157 w =>
   opW Try.prog (binS BinOp.add 3 (Operand.tmp 135) (Operand.const (Value.int IntKind.i64 1)) t112_150 (Value.int IntKind.i64 1)) (fun t136_158 w =>
   J_13 t136_158 b_8 t46_21 t128_156 t113_151 w) w) w) w)
   (opW Try.prog (binS BinOp.geq 3 (Operand.tmp 137) (Operand.tmp 138) t120_153 t122_154) (fun t139_159 w =>
   opW Try.prog (binS BinOp.add 3 (Operand.tmp 141) (Operand.const (Value.int IntKind.i64 1)) t112_150 (Value.int IntKind.i64 1)) (fun t142_160 w =>
   callW Try.prog (Value.func (Fn.func 51) #[] #[]) #[data_1, t142_160, b_8, t46_21, cmp_5] (fun t146_161 w =>
   J_13 a_7 t112_150 t46_21 t139_159 t113_151 w) w) w) w)) w) w) w) w) w) w) w))))) w))))))))))) w))) w) w) w) w) w)) w) w) w) w) w) w)
   (callW Try.prog (Value.func (Fn.func 56) #[] #[]) #[data_1, a_7, b_8, cmp_5] (fun t52_162 w =>
   opW Try.prog (Instr.extract t52_162 0) (fun t53_163 w =>
   opW Try.prog (Instr.extract t52_162 1) (fun t54_164 w =>
   opW Try.prog (binS BinOp.eql 79 (Operand.tmp 55) (Operand.const (Value.int IntKind.i64 2)) t54_164 (Value.int IntKind.i64 2)) (fun t56_165 w =>
   condW t56_165
   (callW Try.prog (Value.func (Fn.func 57) #[] #[]) #[data_1, a_7, b_8, cmp_5] (fun t61_166 w =>
   opW Try.prog (binS BinOp.sub 3 (Operand.tmp 62) (Operand.const (Value.int IntKind.i64 1)) b_8 (Value.int IntKind.i64 1)) (fun t63_167 w =>
   opW Try.prog (binS BinOp.sub 3 (Operand.tmp 64) (Operand.tmp 65) t53_163 a_7) (fun t66_168 w =>
   opW Try.prog (binS BinOp.sub 3 (Operand.tmp 63) (Operand.tmp 66) t63_167 t66_168) (fun t67_169 w =>
   guardW (some wasBalanced_10, true) (fun k w => k wasPartitioned_11 w) (fun t70_170 w =>
   pickW wasBalanced_10 t70_170 (Value.bool false) (fun t71_171 w =>
   guardW (some t71_171, true) (fun k w => k (Value.int IntKind.i64 1) w) (fun t73_172 w =>
   guardW (some t71_171, true) (fun k w => opW Try.prog (binS BinOp.eql 79 (Operand.tmp 73) (Operand.const (Value.int IntKind.i64 1)) t73_172 (Value.int IntKind.i64 1)) k w) (fun t74_173 w =>
   pickW t71_171 t74_173 (Value.bool false) (fun t75_174 w =>
   condW t75_174
   (callW Try.prog (Value.func (Fn.func 58) #[] #[]) #[data_1, a_7, b_8, cmp_5] (fun t80_175 w =>
   condW t80_175
   (k (Value.tuple #[]) w)
   (drewW w (fun w =>
   takeW Try.prog anyW (binS BinOp.gtr 3 (Operand.tmp 81) (Operand.const (Value.int IntKind.i64 0)) a_7 (Value.int IntKind.i64 0)) (fun t82_177 =>
   guardT (some t82_177, true) (fun k => k cmp_5) (fun t84_178 =>
   guardT (some t82_177, true) (fun k => k data_1) (fun t85_179 =>
   guardT (some t82_177, true) (fun k => k a_7) (fun t86_180 =>
   guardT (some t82_177, true) (fun k => takeW Try.prog anyW (binS BinOp.sub 3 (Operand.tmp 86) (Operand.const (Value.int IntKind.i64 1)) t86_180 (Value.int IntKind.i64 1)) k w) (fun t87_181 =>
   guardT (some t82_177, true) (fun k => takeW Try.prog anyW (Instr.indexAt 26 t85_179 t87_181) k w) (fun t88_182 =>
   guardT (some t82_177, true) (fun k => takeW Try.prog (sameW w) (Instr.loadAt 3 t88_182) k w) (fun t89_183 =>
   guardT (some t82_177, true) (fun k => k data_1) (fun t90_184 =>
   guardT (some t82_177, true) (fun k => k t67_169) (fun t91_185 =>
   guardT (some t82_177, true) (fun k => takeW Try.prog anyW (Instr.indexAt 26 t90_184 t91_185) k w) (fun t92_186 =>
   guardT (some t82_177, true) (fun k => takeW Try.prog (sameW w) (Instr.loadAt 3 t92_186) k w) (fun t93_187 =>
   guardW (some t82_177, true) (fun k w => callW Try.prog t84_178 #[t89_183, t93_187] k w) (fun t94_188 w =>
   guardT (some t82_177, true) (fun k => takeW Try.prog anyW (binS BinOp.lss 3 (Operand.tmp 94) (Operand.const (Value.int IntKind.i64 0)) t94_188 (Value.int IntKind.i64 0)) k w) (fun t95_189 =>
   guardT (some t82_177, true) (fun k => takeW Try.prog anyW (Op.unary UnOp.not t95_189) k w) (fun t96_190 =>
   pickT t82_177 t96_190 (Value.bool false) (fun t97_191 =>
   condW t97_191
   (callW Try.prog (Value.func (Fn.func 59) #[] #[]) #[data_1, a_7, b_8, t67_169, cmp_5] (fun t103_192 w =>
   J_13 t103_192 b_8 limit_9 wasBalanced_10 wasPartitioned_11 w) w)
   (callW Try.prog (Value.func (Fn.func 60) #[] #[]) #[data_1, a_7, b_8, t67_169, cmp_5] (fun t111_193 w =>
   opW Try.prog (Instr.extract t111_193 0) (fun t112_194 w =>
   opW Try.prog (Instr.extract t111_193 1) (fun t113_195 w =>
   opW Try.prog (binS BinOp.sub 3 (Operand.tmp 115) (Operand.tmp 116) t112_194 a_7) (fun t117_196 w =>
   opW Try.prog (binS BinOp.sub 3 (Operand.tmp 118) (Operand.tmp 119) b_8 t112_194) (fun t120_197 w =>
   opW Try.prog (binS BinOp.quo 3 (Operand.tmp 121) (Operand.const (Value.int IntKind.i64 8)) t23_14 (Value.int IntKind.i64 8)) (fun t122_198 w =>
   opW Try.prog (binS BinOp.lss 3 (Operand.tmp 123) (Operand.tmp 124) t117_196 t120_197) (fun t125_199 w =>
   condW t125_199
   (opW Try.prog (binS BinOp.geq 3 (Operand.tmp 126) (Operand.tmp 127) t117_196 t122_198) (fun t128_200 w =>
   callW Try.prog (Value.func (Fn.func 51) #[] #[]) #[data_1, a_7, t112_194, limit_9, cmp_5] (fun t134_201 w =>
   opW Try.prog (binS BinOp.add 3 (Operand.tmp 135) (Operand.const (Value.int IntKind.i64 1)) t112_194 (Value.int IntKind.i64 1)) (fun t136_202 w =>
   J_13 t136_202 b_8 limit_9 t128_200 t113_195 w) w) w) w)
   (opW Try.prog (binS BinOp.geq 3 (Operand.tmp 137) (Operand.tmp 138) t120_197 t122_198) (fun t139_203 w =>
   opW Try.prog (binS BinOp.add 3 (Operand.tmp 141) (Operand.const (Value.int IntKind.i64 1)) t112_194 (Value.int IntKind.i64 1)) (fun t142_204 w =>
   callW Try.prog (Value.func (Fn.func 51) #[] #[]) #[data_1, t142_204, b_8, limit_9, cmp_5] (fun t146_205 w =>
   J_13 a_7 t112_194 limit_9 t139_203 t113_195 w) w) w) w)) w) w) w) w) w) w) w))))) w))))))))))) w))) w)
   (drewW w (fun w =>
   takeW Try.prog anyW (binS BinOp.gtr 3 (Operand.tmp 81) (Operand.const (Value.int IntKind.i64 0)) a_7 (Value.int IntKind.i64 0)) (fun t82_207 =>
   guardT (some t82_207, true) (fun k => k cmp_5) (fun t84_208 =>
   guardT (some t82_207, true) (fun k => k data_1) (fun t85_209 =>
   guardT (some t82_207, true) (fun k => k a_7) (fun t86_210 =>
   guardT (some t82_207, true) (fun k => takeW Try.prog anyW (binS BinOp.sub 3 (Operand.tmp 86) (Operand.const (Value.int IntKind.i64 1)) t86_210 (Value.int IntKind.i64 1)) k w) (fun t87_211 =>
   guardT (some t82_207, true) (fun k => takeW Try.prog anyW (Instr.indexAt 26 t85_209 t87_211) k w) (fun t88_212 =>
   guardT (some t82_207, true) (fun k => takeW Try.prog (sameW w) (Instr.loadAt 3 t88_212) k w) (fun t89_213 =>
   guardT (some t82_207, true) (fun k => k data_1) (fun t90_214 =>
   guardT (some t82_207, true) (fun k => k t67_169) (fun t91_215 =>
   guardT (some t82_207, true) (fun k => takeW Try.prog anyW (Instr.indexAt 26 t90_214 t91_215) k w) (fun t92_216 =>
   guardT (some t82_207, true) (fun k => takeW Try.prog (sameW w) (Instr.loadAt 3 t92_216) k w) (fun t93_217 =>
   guardW (some t82_207, true) (fun k w => callW Try.prog t84_208 #[t89_213, t93_217] k w) (fun t94_218 w =>
   guardT (some t82_207, true) (fun k => takeW Try.prog anyW (binS BinOp.lss 3 (Operand.tmp 94) (Operand.const (Value.int IntKind.i64 0)) t94_218 (Value.int IntKind.i64 0)) k w) (fun t95_219 =>
   guardT (some t82_207, true) (fun k => takeW Try.prog anyW (Op.unary UnOp.not t95_219) k w) (fun t96_220 =>
   pickT t82_207 t96_220 (Value.bool false) (fun t97_221 =>
   condW t97_221
   (callW Try.prog (Value.func (Fn.func 59) #[] #[]) #[data_1, a_7, b_8, t67_169, cmp_5] (fun t103_222 w =>
   J_13 t103_222 b_8 limit_9 wasBalanced_10 wasPartitioned_11 w) w)
   (callW Try.prog (Value.func (Fn.func 60) #[] #[]) #[data_1, a_7, b_8, t67_169, cmp_5] (fun t111_223 w =>
   opW Try.prog (Instr.extract t111_223 0) (fun t112_224 w =>
   opW Try.prog (Instr.extract t111_223 1) (fun t113_225 w =>
   opW Try.prog (binS BinOp.sub 3 (Operand.tmp 115) (Operand.tmp 116) t112_224 a_7) (fun t117_226 w =>
   opW Try.prog (binS BinOp.sub 3 (Operand.tmp 118) (Operand.tmp 119) b_8 t112_224) (fun t120_227 w =>
   opW Try.prog (binS BinOp.quo 3 (Operand.tmp 121) (Operand.const (Value.int IntKind.i64 8)) t23_14 (Value.int IntKind.i64 8)) (fun t122_228 w =>
   opW Try.prog (binS BinOp.lss 3 (Operand.tmp 123) (Operand.tmp 124) t117_226 t120_227) (fun t125_229 w =>
   condW t125_229
   (opW Try.prog (binS BinOp.geq 3 (Operand.tmp 126) (Operand.tmp 127) t117_226 t122_228) (fun t128_230 w =>
   callW Try.prog (Value.func (Fn.func 51) #[] #[]) #[data_1, a_7, t112_224, limit_9, cmp_5] (fun t134_231 w =>
   opW Try.prog (binS BinOp.add 3 (Operand.tmp 135) (Operand.const (Value.int IntKind.i64 1)) t112_224 (Value.int IntKind.i64 1)) (fun t136_232 w =>
   J_13 t136_232 b_8 limit_9 t128_230 t113_225 w) w) w) w)
   (opW Try.prog (binS BinOp.geq 3 (Operand.tmp 137) (Operand.tmp 138) t120_227 t122_228) (fun t139_233 w =>
   opW Try.prog (binS BinOp.add 3 (Operand.tmp 141) (Operand.const (Value.int IntKind.i64 1)) t112_224 (Value.int IntKind.i64 1)) (fun t142_234 w =>
   callW Try.prog (Value.func (Fn.func 51) #[] #[]) #[data_1, t142_234, b_8, limit_9, cmp_5] (fun t146_235 w =>
   J_13 a_7 t112_224 limit_9 t139_233 t113_225 w) w) w) w)) w) w) w) w) w) w) w))))) w))))))))))) w))) w) w) w) w) w) w) w) w) w)
   (guardW (some wasBalanced_10, true) (fun k w => k wasPartitioned_11 w) (fun t70_236 w =>
   pickW wasBalanced_10 t70_236 (Value.bool false) (fun t71_237 w =>
   guardW (some t71_237, true) (fun k w => k t54_164 w) (fun t73_238 w =>
   guardW (some t71_237, true) (fun k w => opW Try.prog (binS BinOp.eql 79 (Operand.tmp 73) (Operand.const (Value.int IntKind.i64 1)) t73_238 (Value.int IntKind.i64 1)) k w) (fun t74_239 w =>
   pickW t71_237 t74_239 (Value.bool false) (fun t75_240 w =>
   condW t75_240
   (callW Try.prog (Value.func (Fn.func 58) #[] #[]) #[data_1, a_7, b_8, cmp_5] (fun t80_241 w =>
   condW t80_241
   (k (Value.tuple #[]) w)
   (drewW w (fun w =>
   takeW Try.prog anyW (binS BinOp.gtr 3 (Operand.tmp 81) (Operand.const (Value.int IntKind.i64 0)) a_7 (Value.int IntKind.i64 0)) (fun t82_243 =>
   guardT (some t82_243, true) (fun k => k cmp_5) (fun t84_244 =>
   guardT (some t82_243, true) (fun k => k data_1) (fun t85_245 =>
   guardT (some t82_243, true) (fun k => k a_7) (fun t86_246 =>
   guardT (some t82_243, true) (fun k => takeW Try.prog anyW (binS BinOp.sub 3 (Operand.tmp 86) (Operand.const (Value.int IntKind.i64 1)) t86_246 (Value.int IntKind.i64 1)) k w) (fun t87_247 =>
   guardT (some t82_243, true) (fun k => takeW Try.prog anyW (Instr.indexAt 26 t85_245 t87_247) k w) (fun t88_248 =>
   guardT (some t82_243, true) (fun k => takeW Try.prog (sameW w) (Instr.loadAt 3 t88_248) k w) (fun t89_249 =>
   guardT (some t82_243, true) (fun k => k data_1) (fun t90_250 =>
   guardT (some t82_243, true) (fun k => k t53_163) (fun t91_251 =>
   guardT (some t82_243, true) (fun k => takeW Try.prog anyW (Instr.indexAt 26 t90_250 t91_251) k w) (fun t92_252 =>
   guardT (some t82_243, true) (fun k => takeW Try.prog (sameW w) (Instr.loadAt 3 t92_252) k w) (fun t93_253 =>
   guardW (some t82_243, true) (fun k w => callW Try.prog t84_244 #[t89_249, t93_253] k w) (fun t94_254 w =>
   guardT (some t82_243, true) (fun k => takeW Try.prog anyW (binS BinOp.lss 3 (Operand.tmp 94) (Operand.const (Value.int IntKind.i64 0)) t94_254 (Value.int IntKind.i64 0)) k w) (fun t95_255 =>
   guardT (some t82_243, true) (fun k => takeW Try.prog anyW (Op.unary UnOp.not t95_255) k w) (fun t96_256 =>
   pickT t82_243 t96_256 (Value.bool false) (fun t97_257 =>
   condW t97_257
   (callW Try.prog (Value.func (Fn.func 59) #[] #[]) #[data_1, a_7, b_8, t53_163, cmp_5] (fun t103_258 w =>
   J_13 t103_258 b_8 limit_9 wasBalanced_10 wasPartitioned_11 w) w)
   (callW Try.prog (Value.func (Fn.func 60) #[] #[]) #[data_1, a_7, b_8, t53_163, cmp_5] (fun t111_259 w =>
   opW Try.prog (Instr.extract t111_259 0) (fun t112_260 w =>
   opW Try.prog (Instr.extract t111_259 1) (fun t113_261 w =>
   opW Try.prog (binS BinOp.sub 3 (Operand.tmp 115) (Operand.tmp 116) t112_260 a_7) (fun t117_262 w =>
   opW Try.prog (binS BinOp.sub 3 (Operand.tmp 118) (Operand.tmp 119) b_8 t112_260) (fun t120_263 w =>
   opW Try.prog (binS BinOp.quo 3 (Operand.tmp 121) (Operand.const (Value.int IntKind.i64 8)) t23_14 (Value.int IntKind.i64 8)) (fun t122_264 w =>
   opW Try.prog (binS BinOp.lss 3 (Operand.tmp 123) (Operand.tmp 124) t117_262 t120_263) (fun t125_265 w =>
   condW t125_265
   (opW Try.prog (binS BinOp.geq 3 (Operand.tmp 126) (Operand.tmp 127) t117_262 t122_264) (fun t128_266 w =>
   callW Try.prog (Value.func (Fn.func 51) #[] #[]) #[data_1, a_7, t112_260, limit_9, cmp_5] (fun t134_267 w =>
   opW Try.prog (binS BinOp.add 3 (Operand.tmp 135) (Operand.const (Value.int IntKind.i64 1)) t112_260 (Value.int IntKind.i64 1)) (fun t136_268 w =>
   J_13 t136_268 b_8 limit_9 t128_266 t113_261 w) w) w) w)
   (opW Try.prog (binS BinOp.geq 3 (Operand.tmp 137) (Operand.tmp 138) t120_263 t122_264) (fun t139_269 w =>
   opW Try.prog (binS BinOp.add 3 (Operand.tmp 141) (Operand.const (Value.int IntKind.i64 1)) t112_260 (Value.int IntKind.i64 1)) (fun t142_270 w =>
   callW Try.prog (Value.func (Fn.func 51) #[] #[]) #[data_1, t142_270, b_8, limit_9, cmp_5] (fun t146_271 w =>
   J_13 a_7 t112_260 limit_9 t139_269 t113_261 w) w) w) w)) w) w) w) w) w) w) w))))) w))))))))))) w))) w)
   (drewW w (fun w =>
   takeW Try.prog anyW (binS BinOp.gtr 3 (Operand.tmp 81) (Operand.const (Value.int IntKind.i64 0)) a_7 (Value.int IntKind.i64 0)) (fun t82_273 =>
   guardT (some t82_273, true) (fun k => k cmp_5) (fun t84_274 =>
   guardT (some t82_273, true) (fun k => k data_1) (fun t85_275 =>
   guardT (some t82_273, true) (fun k => k a_7) (fun t86_276 =>
   guardT (some t82_273, true) (fun k => takeW Try.prog anyW (binS BinOp.sub 3 (Operand.tmp 86) (Operand.const (Value.int IntKind.i64 1)) t86_276 (Value.int IntKind.i64 1)) k w) (fun t87_277 =>
   guardT (some t82_273, true) (fun k => takeW Try.prog anyW (Instr.indexAt 26 t85_275 t87_277) k w) (fun t88_278 =>
   guardT (some t82_273, true) (fun k => takeW Try.prog (sameW w) (Instr.loadAt 3 t88_278) k w) (fun t89_279 =>
   guardT (some t82_273, true) (fun k => k data_1) (fun t90_280 =>
   guardT (some t82_273, true) (fun k => k t53_163) (fun t91_281 =>
   guardT (some t82_273, true) (fun k => takeW Try.prog anyW (Instr.indexAt 26 t90_280 t91_281) k w) (fun t92_282 =>
   guardT (some t82_273, true) (fun k => takeW Try.prog (sameW w) (Instr.loadAt 3 t92_282) k w) (fun t93_283 =>
   guardW (some t82_273, true) (fun k w => callW Try.prog t84_274 #[t89_279, t93_283] k w) (fun t94_284 w =>
   guardT (some t82_273, true) (fun k => takeW Try.prog anyW (binS BinOp.lss 3 (Operand.tmp 94) (Operand.const (Value.int IntKind.i64 0)) t94_284 (Value.int IntKind.i64 0)) k w) (fun t95_285 =>
   guardT (some t82_273, true) (fun k => takeW Try.prog anyW (Op.unary UnOp.not t95_285) k w) (fun t96_286 =>
   pickT t82_273 t96_286 (Value.bool false) (fun t97_287 =>
   condW t97_287
   (callW Try.prog (Value.func (Fn.func 59) #[] #[]) #[data_1, a_7, b_8, t53_163, cmp_5] (fun t103_288 w =>
   J_13 t103_288 b_8 limit_9 wasBalanced_10 wasPartitioned_11 w) w)
   (callW Try.prog (Value.func (Fn.func 60) #[] #[]) #[data_1, a_7, b_8, t53_163, cmp_5] (fun t111_289 w =>
   opW Try.prog (Instr.extract t111_289 0) (fun t112_290 w =>
   opW Try.prog (Instr.extract t111_289 1) (fun t113_291 w =>
   opW Try.prog (binS BinOp.sub 3 (Operand.tmp 115) (Operand.tmp 116) t112_290 a_7) (fun t117_292 w =>
   opW Try.prog (binS BinOp.sub 3 (Operand.tmp 118) (Operand.tmp 119) b_8 t112_290) (fun t120_293 w =>
   opW Try.prog (binS BinOp.quo 3 (Operand.tmp 121) (Operand.const (Value.int IntKind.i64 8)) t23_14 (Value.int IntKind.i64 8)) (fun t122_294 w =>
   opW Try.prog (binS BinOp.lss 3 (Operand.tmp 123) (Operand.tmp 124) t117_292 t120_293) (fun t125_295 w =>
   condW t125_295
   (opW Try.prog (binS BinOp.geq 3 (Operand.tmp 126) (Operand.tmp 127) t117_292 t122_294) (fun t128_296 w =>
   callW Try.prog (Value.func (Fn.func 51) #[] #[]) #[data_1, a_7, t112_290, limit_9, cmp_5] (fun t134_297 w =>
   opW Try.prog (binS BinOp.add 3 (Operand.tmp 135) (Operand.const (Value.int IntKind.i64 1)) t112_290 (Value.int IntKind.i64 1)) (fun t136_298 w =>
   J_13 t136_298 b_8 limit_9 t128_296 t113_291 w) w) w) w)
   (opW Try.prog (binS BinOp.geq 3 (Operand.tmp 137) (Operand.tmp 138) t120_293 t122_294) (fun t139_299 w =>
   opW Try.prog (binS BinOp.add 3 (Operand.tmp 141) (Operand.const (Value.int IntKind.i64 1)) t112_290 (Value.int IntKind.i64 1)) (fun t142_300 w =>
   callW Try.prog (Value.func (Fn.func 51) #[] #[]) #[data_1, t142_300, b_8, limit_9, cmp_5] (fun t146_301 w =>
   J_13 a_7 t112_290 limit_9 t139_299 t113_291 w) w) w) w)) w) w) w) w) w) w) w))))) w))))))))))) w))) w) w) w) w) w)) w) w) w) w)) w)) w)) w) w)) a_2 b_3 limit_4 (Value.bool true) (Value.bool true) w
theorem S51_vc (data_1 a_2 b_3 limit_4 cmp_5 : Value) (k : Value → World → Prop) (w : World) : vc Try.prog Try.f51.ntmps ann51 none ((Try.f51.body).getD Code.skip) 1 (params 0 [data_1, a_2, b_3, limit_4, cmp_5]) [] (finQ Try.prog Try.f51.results.toList k) w = S51 data_1 a_2 b_3 limit_4 cmp_5 k w := by kernel_rfl
theorem S51_calls (data_1 a_2 b_3 limit_4 cmp_5 : Value) (k : Value → World → Prop) (w : World) (h : S51 data_1 a_2 b_3 limit_4 cmp_5 k w) : Calls Try.prog 51 #[data_1, a_2, b_3, limit_4, cmp_5] w (retP k) :=
  calls_of_vc (fn := Try.f51) (c := (Try.f51.body).getD Code.skip) ann51 Try.func51 (by kernel_rfl) [data_1, a_2, b_3, limit_4, cmp_5] w k (by kernel_rfl) ((S51_vc data_1 a_2 b_3 limit_4 cmp_5 k w).symm ▸ h)
theorem C51 (data_1 a_2 b_3 limit_4 cmp_5 : Value) (k : Value → World → Prop) (w : World) (h : S51 data_1 a_2 b_3 limit_4 cmp_5 k w) : callW Try.prog (.func (.func 51) #[] #[]) #[data_1, a_2, b_3, limit_4, cmp_5] k w :=
  callW_calls ok51 (by simpa using S51_calls data_1 a_2 b_3 limit_4 cmp_5 k w h)

/-! math/bits.Len -/
def ann52 : Ann := []
def S52 (x_1 : Value) (k : Value → World → Prop) (w : World) : Prop :=
   condW (Value.bool false)
   (opW Try.prog (convert 74 87 x_1) (fun t4_2 w =>
   callW Try.prog (Value.func (Fn.func 61) #[] #[]) #[t4_2] (fun t5_3 w =>
   k t5_3 w) w) w)
   (callW Try.prog (Value.func (Fn.func 62) #[] #[]) #[x_1] (fun t7_4 w =>
   k t7_4 w) w)
theorem S52_vc (x_1 : Value) (k : Value → World → Prop) (w : World) : vc Try.prog Try.f52.ntmps ann52 none ((Try.f52.body).getD Code.skip) 1 (params 0 [x_1]) [] (finQ Try.prog Try.f52.results.toList k) w = S52 x_1 k w := by kernel_rfl
theorem S52_calls (x_1 : Value) (k : Value → World → Prop) (w : World) (h : S52 x_1 k w) : Calls Try.prog 52 #[x_1] w (retP k) :=
  calls_of_vc (fn := Try.f52) (c := (Try.f52.body).getD Code.skip) ann52 Try.func52 (by kernel_rfl) [x_1] w k (by kernel_rfl) ((S52_vc x_1 k w).symm ▸ h)
theorem C52 (x_1 : Value) (k : Value → World → Prop) (w : World) (h : S52 x_1 k w) : callW Try.prog (.func (.func 52) #[] #[]) #[x_1] k w :=
  callW_calls ok52 (by simpa using S52_calls x_1 k w h)

/-! slices.insertionSortCmpFunc[int] -/
def ann53 : Ann := [(3, Note.keep []), (6, Note.loop [8] [0, 1, 2, 3]), (50, Note.keep [0, 1, 2, 3, 8]), (201, Note.keep [0, 1, 2, 3, 8]), (402, Note.loop [9] [0, 1, 2, 3, 8]), (3216, Note.plan (Plan.takeP 0 (Plan.takeP 1 (Plan.takeP 2 (Plan.takeP 3 (Plan.takeP 4 (Plan.takeP 5 (Plan.takeP 6 (Plan.takeP 7 (Plan.takeX 8 (Plan.takeP 9 (Plan.takeP 10 (Plan.takeP 11 (Plan.takeP 12 (Plan.takeX 13 (Plan.run 14 (Plan.takeP 15 (Plan.takeP 16 Plan.done)))))))))))))))))), (3218, Note.keep [0, 1, 2, 3, 8, 9]), (6436, Note.plan (Plan.takeP 0 (Plan.takeP 1 (Plan.takeP 2 (Plan.takeP 3 (Plan.takeP 4 (Plan.takeP 5 (Plan.takeP 6 (Plan.takeP 7 (Plan.takeP 8 (Plan.takeX 9 (Plan.takeP 10 (Plan.takeP 11 (Plan.takeP 12 (Plan.takeX 13 (Plan.takeP 14 (Plan.run 15 (Plan.takeP 16 (Plan.run 17 Plan.done)))))))))))))))))))]
def S53 (data_1 a_2 b_3 cmp_4 : Value) (k : Value → World → Prop) (w : World) : Prop :=
   opW Try.prog (binS BinOp.add 3 (Operand.tmp 10) (Operand.const (Value.int IntKind.i64 1)) a_2 (Value.int IntKind.i64 1)) (fun t11_5 w =>
   Loop1 (fun i_7 w K_8 =>
   opW Try.prog (binS BinOp.lss 3 (Operand.tmp 12) (Operand.tmp 13) i_7 b_3) (fun t14_9 w =>
   condW t14_9
   (Loop1 (fun j_12 w K_13 =>
   drewW w (fun w =>
   takeW Try.prog anyW (binS BinOp.gtr 3 (Operand.tmp 18) (Operand.tmp 19) j_12 a_2) (fun t20_15 =>
   guardT (some t20_15, true) (fun k => k cmp_4) (fun t22_16 =>
   guardT (some t20_15, true) (fun k => k data_1) (fun t23_17 =>
   guardT (some t20_15, true) (fun k => k j_12) (fun t24_18 =>
   guardT (some t20_15, true) (fun k => takeW Try.prog anyW (Instr.indexAt 26 t23_17 t24_18) k w) (fun t25_19 =>
   guardT (some t20_15, true) (fun k => takeW Try.prog (sameW w) (Instr.loadAt 3 t25_19) k w) (fun t26_20 =>
   guardT (some t20_15, true) (fun k => k data_1) (fun t27_21 =>
   guardT (some t20_15, true) (fun k => k j_12) (fun t28_22 =>
   guardT (some t20_15, true) (fun k => takeW Try.prog anyW (binS BinOp.sub 3 (Operand.tmp 28) (Operand.const (Value.int IntKind.i64 1)) t28_22 (Value.int IntKind.i64 1)) k w) (fun t29_23 =>
   guardT (some t20_15, true) (fun k => takeW Try.prog anyW (Instr.indexAt 26 t27_21 t29_23) k w) (fun t30_24 =>
   guardT (some t20_15, true) (fun k => takeW Try.prog (sameW w) (Instr.loadAt 3 t30_24) k w) (fun t31_25 =>
   guardW (some t20_15, true) (fun k w => callW Try.prog t22_16 #[t26_20, t31_25] k w) (fun t32_26 w =>
   guardT (some t20_15, true) (fun k => takeW Try.prog anyW (binS BinOp.lss 3 (Operand.tmp 32) (Operand.const (Value.int IntKind.i64 0)) t32_26 (Value.int IntKind.i64 0)) k w) (fun t33_27 =>
   pickT t20_15 t33_27 (Value.bool false) (fun t34_28 =>
   condW t34_28
   (drewW w (fun w =>
   takeW Try.prog anyW (binS BinOp.sub 3 (Operand.tmp 40) (Operand.const (Value.int IntKind.i64 1)) j_12 (Value.int IntKind.i64 1)) (fun t41_31 =>
   takeW Try.prog anyW (binS BinOp.sub 3 (Operand.tmp 43) (Operand.const (Value.int IntKind.i64 1)) j_12 (Value.int IntKind.i64 1)) (fun t44_32 =>
   takeW Try.prog anyW (Instr.indexAt 26 data_1 t44_32) (fun t45_33 =>
   takeW Try.prog (sameW w) (Instr.loadAt 3 t45_33) (fun t46_34 =>
   takeW Try.prog anyW (Instr.indexAt 26 data_1 j_12) (fun t49_35 =>
   takeW Try.prog (sameW w) (Instr.loadAt 3 t49_35) (fun t50_36 =>
   takeW Try.prog anyW (Instr.indexAt 26 data_1 j_12) (fun t51_37 =>
   opU Try.prog (Instr.storeAt 3 t51_37 t46_34) (fun _ w =>
   takeW Try.prog anyW (Instr.indexAt 26 data_1 t41_31) (fun t52_38 =>
   opU Try.prog (Instr.storeAt 3 t52_38 t50_36) (fun _ w =>
   opW Try.prog (binS BinOp.sub 3 (Operand.tmp 35) (Operand.const (Value.int IntKind.i64 1)) j_12 (Value.int IntKind.i64 1)) (fun t36_39 w =>
   loopK [] [] [data_1, a_2, b_3, cmp_4, i_7] [data_1, a_2, b_3, cmp_4, i_7] (K_13 t36_39 w)) w) w) w) w) w) w) w) w) w) w) w))
   (opW Try.prog (binS BinOp.add 3 (Operand.tmp 15) (Operand.const (Value.int IntKind.i64 1)) i_7 (Value.int IntKind.i64 1)) (fun t16_40 w =>
   loopK [] [] [data_1, a_2, b_3, cmp_4] [data_1, a_2, b_3, cmp_4] (K_8 t16_40 w)) w)))) w))))))))))) w)) i_7 w)
   (k (Value.tuple #[]) w)) w) t11_5 w) w
theorem S53_vc (data_1 a_2 b_3 cmp_4 : Value) (k : Value → World → Prop) (w : World) : vc Try.prog Try.f53.ntmps ann53 none ((Try.f53.body).getD Code.skip) 1 (params 0 [data_1, a_2, b_3, cmp_4]) [] (finQ Try.prog Try.f53.results.toList k) w = S53 data_1 a_2 b_3 cmp_4 k w := by kernel_rfl
theorem S53_calls (data_1 a_2 b_3 cmp_4 : Value) (k : Value → World → Prop) (w : World) (h : S53 data_1 a_2 b_3 cmp_4 k w) : Calls Try.prog 53 #[data_1, a_2, b_3, cmp_4] w (retP k) :=
  calls_of_vc (fn := Try.f53) (c := (Try.f53.body).getD Code.skip) ann53 Try.func53 (by kernel_rfl) [data_1, a_2, b_3, cmp_4] w k (by kernel_rfl) ((S53_vc data_1 a_2 b_3 cmp_4 k w).symm ▸ h)
theorem C53 (data_1 a_2 b_3 cmp_4 : Value) (k : Value → World → Prop) (w : World) (h : S53 data_1 a_2 b_3 cmp_4 k w) : callW Try.prog (.func (.func 53) #[] #[]) #[data_1, a_2, b_3, cmp_4] k w :=
  callW_calls ok53 (by simpa using S53_calls data_1 a_2 b_3 cmp_4 k w h)

/-! slices.heapSortCmpFunc[int] -/
def ann54 : Ann := [(61, Note.keep [0, 3, 8, 9, 10]), (63, Note.keep []), (122, Note.loop [11] [0, 3, 8, 9, 10]), (126, Note.loop [12] [0, 3, 8, 9]), (978, Note.keep [0, 3, 8, 9, 10, 11]), (1010, Note.keep [0, 3, 8, 9, 12]), (4040, Note.plan (Plan.takeP 0 (Plan.takeP 1 (Plan.takeP 2 (Plan.takeP 3 (Plan.takeP 4 (Plan.takeP 5 (Plan.takeP 6 (Plan.takeP 7 (Plan.takeP 8 (Plan.takeP 9 (Plan.takeP 10 (Plan.takeX 11 (Plan.takeP 12 (Plan.takeP 13 (Plan.takeP 14 (Plan.takeX 15 (Plan.takeP 16 (Plan.run 17 (Plan.takeP 18 (Plan.run 19 Plan.done)))))))))))))))))))))]
def S54 (data_1 a_2 b_3 cmp_4 : Value) (k : Value → World → Prop) (w : World) : Prop :=
   opW Try.prog (binS BinOp.sub 3 (Operand.tmp 14) (Operand.tmp 15) b_3 a_2) (fun t16_5 w =>
   opW Try.prog (binS BinOp.sub 3 (Operand.tmp 17) (Operand.const (Value.int IntKind.i64 1)) t16_5 (Value.int IntKind.i64 1)) (fun t18_6 w =>
   opW Try.prog (binS BinOp.quo 3 (Operand.tmp 18) (Operand.const (Value.int IntKind.i64 2)) t18_6 (Value.int IntKind.i64 2)) (fun t19_7 w =>
   Loop1 (fun i_9 w K_10 =>
   opW Try.prog (binS BinOp.geq 3 (Operand.tmp 20) (Operand.const (Value.int IntKind.i64 0)) i_9 (Value.int IntKind.i64 0)) (fun t21_11 w =>
   condW t21_11
   (callW Try.prog (Value.func (Fn.func 63) #[] #[]) #[data_1, i_9, t16_5, a_2, cmp_4] (fun t29_13 w =>
   opW Try.prog (binS BinOp.sub 3 (Operand.tmp 22) (Operand.const (Value.int IntKind.i64 1)) i_9 (Value.int IntKind.i64 1)) (fun t23_14 w =>
   loopK [] [] [data_1, cmp_4, a_2, (Value.int IntKind.i64 0), t16_5] [data_1, cmp_4, a_2, (Value.int IntKind.i64 0), t16_5] (K_10 t23_14 w)) w) w)
   (opW Try.prog (binS BinOp.sub 3 (Operand.tmp 30) (Operand.const (Value.int IntKind.i64 1)) t16_5 (Value.int IntKind.i64 1)) (fun t31_15 w =>
   Loop1 (fun i_17 w K_18 =>
   opW Try.prog (binS BinOp.geq 3 (Operand.tmp 32) (Operand.const (Value.int IntKind.i64 0)) i_17 (Value.int IntKind.i64 0)) (fun t33_19 w =>
   condW t33_19
   (drewW w (fun w =>
   takeW Try.prog anyW (binS BinOp.add 3 (Operand.tmp 39) (Operand.tmp 40) a_2 i_17) (fun t41_22 =>
   takeW Try.prog anyW (binS BinOp.add 3 (Operand.tmp 43) (Operand.tmp 44) a_2 i_17) (fun t45_23 =>
   takeW Try.prog anyW (Instr.indexAt 26 data_1 t45_23) (fun t46_24 =>
   takeW Try.prog (sameW w) (Instr.loadAt 3 t46_24) (fun t47_25 =>
   takeW Try.prog anyW (Instr.indexAt 26 data_1 a_2) (fun t50_26 =>
   takeW Try.prog (sameW w) (Instr.loadAt 3 t50_26) (fun t51_27 =>
   takeW Try.prog anyW (Instr.indexAt 26 data_1 a_2) (fun t52_28 =>
   opU Try.prog (Instr.storeAt 3 t52_28 t47_25) (fun _ w =>
   takeW Try.prog anyW (Instr.indexAt 26 data_1 t41_22) (fun t53_29 =>
   opU Try.prog (Instr.storeAt 3 t53_29 t51_27) (fun _ w =>
   callW Try.prog (Value.func (Fn.func 63) #[] #[]) #[data_1, (Value.int IntKind.i64 0), i_17, a_2, cmp_4] (fun t59_30 w =>
   opW Try.prog (binS BinOp.sub 3 (Operand.tmp 34) (Operand.const (Value.int IntKind.i64 1)) i_17 (Value.int IntKind.i64 1)) (fun t35_31 w =>
   loopK [] [] [data_1, cmp_4, a_2, (Value.int IntKind.i64 0)] [data_1, cmp_4, a_2, (Value.int IntKind.i64 0)] (K_18 t35_31 w)) w) w) w) w) w) w) w) w) w) w) w) w))
   (k (Value.tuple #[]) w)) w) t31_15 w) w)) w) t19_7 w) w) w) w
theorem S54_vc (data_1 a_2 b_3 cmp_4 : Value) (k : Value → World → Prop) (w : World) : vc Try.prog Try.f54.ntmps ann54 none ((Try.f54.body).getD Code.skip) 1 (params 0 [data_1, a_2, b_3, cmp_4]) [] (finQ Try.prog Try.f54.results.toList k) w = S54 data_1 a_2 b_3 cmp_4 k w := by kernel_rfl
theorem S54_calls (data_1 a_2 b_3 cmp_4 : Value) (k : Value → World → Prop) (w : World) (h : S54 data_1 a_2 b_3 cmp_4 k w) : Calls Try.prog 54 #[data_1, a_2, b_3, cmp_4] w (retP k) :=
  calls_of_vc (fn := Try.f54) (c := (Try.f54.body).getD Code.skip) ann54 Try.func54 (by kernel_rfl) [data_1, a_2, b_3, cmp_4] w k (by kernel_rfl) ((S54_vc data_1 a_2 b_3 cmp_4 k w).symm ▸ h)
theorem C54 (data_1 a_2 b_3 cmp_4 : Value) (k : Value → World → Prop) (w : World) (h : S54 data_1 a_2 b_3 cmp_4 k w) : callW Try.prog (.func (.func 54) #[] #[]) #[data_1, a_2, b_3, cmp_4] k w :=
  callW_calls ok54 (by simpa using S54_calls data_1 a_2 b_3 cmp_4 k w h)

/-! slices.breakPatternsCmpFunc[int] -/
def ann55 : Ann := [(119, Note.keep []), (238, Note.loop [11] [0, 1, 8, 9, 10]), (1906, Note.keep [0, 1, 8, 9, 10, 11]), (15251, Note.plan (Plan.takeP 0 (Plan.takeP 1 (Plan.takeP 2 (Plan.takeP 3 (Plan.takeP 4 (Plan.takeP 5 (Plan.takeP 6 (Plan.takeP 7 (Plan.takeP 8 (Plan.takeP 9 (Plan.takeP 10 (Plan.takeX 11 (Plan.takeP 12 (Plan.takeP 13 (Plan.takeP 14 (Plan.takeX 15 (Plan.takeP 16 (Plan.run 17 (Plan.takeP 18 (Plan.run 19 Plan.done)))))))))))))))))))))]
def S55 (data_1 a_2 b_3 cmp_4 : Value) (k : Value → World → Prop) (w : World) : Prop :=
   opW Try.prog (binS BinOp.sub 3 (Operand.tmp 13) (Operand.tmp 14) b_3 a_2) (fun t15_5 w =>
   opW Try.prog (binS BinOp.geq 3 (Operand.tmp 16) (Operand.const (Value.int IntKind.i64 8)) t15_5 (Value.int IntKind.i64 8)) (fun t17_6 w =>
   condW t17_6
   (opW Try.prog (convert 3 90 t15_5) (fun t19_7 w =>
   opW Try.prog (Instr.alloc 90 true (Value.tuple #[])) (fun random_8 w =>
   opU Try.prog (Instr.storeAt 90 random_8 t19_7) (fun _ w =>
   callW Try.prog (Value.func (Fn.func 64) #[] #[]) #[t15_5] (fun t21_9 w =>
   opW Try.prog (binS BinOp.quo 3 (Operand.tmp 23) (Operand.const (Value.int IntKind.i64 4)) t15_5 (Value.int IntKind.i64 4)) (fun t24_10 w =>
   opW Try.prog (binS BinOp.mul 3 (Operand.tmp 24) (Operand.const (Value.int IntKind.i64 2)) t24_10 (Value.int IntKind.i64 2)) (fun t25_11 w =>
   opW Try.prog (binS BinOp.add 3 (Operand.tmp 22) (Operand.tmp 25) a_2 t25_11) (fun t26_12 w =>
   opW Try.prog (binS BinOp.sub 3 (Operand.tmp 26) (Operand.const (Value.int IntKind.i64 1)) t26_12 (Value.int IntKind.i64 1)) (fun t27_13 w =>
   Loop1 (fun idx_15 w K_16 =>
   opW Try.prog (binS BinOp.quo 3 (Operand.tmp 30) (Operand.const (Value.int IntKind.i64 4)) t15_5 (Value.int IntKind.i64 4)) (fun t31_17 w =>
   opW Try.prog (binS BinOp.mul 3 (Operand.tmp 31) (Operand.const (Value.int IntKind.i64 2)) t31_17 (Value.int IntKind.i64 2)) (fun t32_18 w =>
   opW Try.prog (binS BinOp.add 3 (Operand.tmp 29) (Operand.tmp 32) a_2 t32_18) (fun t33_19 w =>
   opW Try.prog (binS BinOp.add 3 (Operand.tmp 33) (Operand.const (Value.int IntKind.i64 1)) t33_19 (Value.int IntKind.i64 1)) (fun t34_20 w =>
   opW Try.prog (binS BinOp.leq 3 (Operand.tmp 28) (Operand.tmp 34) idx_15 t34_20) (fun t35_21 w =>
   condW t35_21
   (joinW (fun w =>
   opW Try.prog (binS BinOp.add 3 (Operand.tmp 36) (Operand.const (Value.int IntKind.i64 1)) idx_15 (Value.int IntKind.i64 1)) (fun t37_47 w =>
   loopK [] [] [data_1, a_2, t15_5, random_8, t21_9] [data_1, a_2, t15_5, random_8, t21_9] (K_16 t37_47 w)) w) (fun J_22 =>
   callW Try.prog (Value.func (Fn.func 65) #[] #[]) #[random_8] (fun t38_23 w =>
   opW Try.prog (binS BinOp.sub 74 (Operand.tmp 39) (Operand.const (Value.int IntKind.u64 1)) t21_9 (Value.int IntKind.u64 1)) (fun t40_24 w =>
   opW Try.prog (binS BinOp.and 74 (Operand.tmp 38) (Operand.tmp 40) t38_23 t40_24) (fun t41_25 w =>
   opW Try.prog (convert 74 3 t41_25) (fun t42_26 w =>
   opW Try.prog (binS BinOp.geq 3 (Operand.tmp 43) (Operand.tmp 44) t42_26 t15_5) (fun t45_27 w =>
   condW t45_27
   (opW Try.prog (binS BinOp.sub 3 (Operand.tmp 46) (Operand.tmp 47) t42_26 t15_5) (fun t48_28 w =>
   drewW w (fun w =>
   takeW Try.prog anyW (binS BinOp.add 3 (Operand.tmp 52) (Operand.tmp 53) a_2 t48_28) (fun t54_30 =>
   takeW Try.prog anyW (binS BinOp.add 3 (Operand.tmp 56) (Operand.tmp 57) a_2 t48_28) (fun t58_31 =>
   takeW Try.prog anyW (Instr.indexAt 26 data_1 t58_31) (fun t59_32 =>
   takeW Try.prog (sameW w) (Instr.loadAt 3 t59_32) (fun t60_33 =>
   takeW Try.prog anyW (Instr.indexAt 26 data_1 idx_15) (fun t63_34 =>
   takeW Try.prog (sameW w) (Instr.loadAt 3 t63_34) (fun t64_35 =>
   takeW Try.prog anyW (Instr.indexAt 26 data_1 idx_15) (fun t65_36 =>
   opU Try.prog (Instr.storeAt 3 t65_36 t60_33) (fun _ w =>
   takeW Try.prog anyW (Instr.indexAt 26 data_1 t54_30) (fun t66_37 =>
   opU Try.prog (Instr.storeAt 3 t66_37 t64_35) (fun _ w =>
   J_22 w) w) w) w) w) w) w) w) w) w) w)) w)
   (drewW w (fun w =>
   takeW Try.prog anyW (binS BinOp.add 3 (Operand.tmp 52) (Operand.tmp 53) a_2 t42_26) (fun t54_39 =>
   takeW Try.prog anyW (binS BinOp.add 3 (Operand.tmp 56) (Operand.tmp 57) a_2 t42_26) (fun t58_40 =>
   takeW Try.prog anyW (Instr.indexAt 26 data_1 t58_40) (fun t59_41 =>
   takeW Try.prog (sameW w) (Instr.loadAt 3 t59_41) (fun t60_42 =>
   takeW Try.prog anyW (Instr.indexAt 26 data_1 idx_15) (fun t63_43 =>
   takeW Try.prog (sameW w) (Instr.loadAt 3 t63_43) (fun t64_44 =>
   takeW Try.prog anyW (Instr.indexAt 26 data_1 idx_15) (fun t65_45 =>
   opU Try.prog (Instr.storeAt 3 t65_45 t60_42) (fun _ w =>
   takeW Try.prog anyW (Instr.indexAt 26 data_1 t54_39) (fun t66_46 =>
   opU Try.prog (Instr.storeAt 3 t66_46 t64_44) (fun _ w =>
   J_22 w) w) w) w) w) w) w) w) w) w) w))) w) w) w) w) w))
   (k (Value.tuple #[]) w)) w) w) w) w) w) t27_13 w) w) w) w) w) w) w) w) w)
   (k (Value.tuple #[]) w)) w) w
theorem S55_vc (data_1 a_2 b_3 cmp_4 : Value) (k : Value → World → Prop) (w : World) : vc Try.prog Try.f55.ntmps ann55 none ((Try.f55.body).getD Code.skip) 1 (params 0 [data_1, a_2, b_3, cmp_4]) [] (finQ Try.prog Try.f55.results.toList k) w = S55 data_1 a_2 b_3 cmp_4 k w := by kernel_rfl
theorem S55_calls (data_1 a_2 b_3 cmp_4 : Value) (k : Value → World → Prop) (w : World) (h : S55 data_1 a_2 b_3 cmp_4 k w) : Calls Try.prog 55 #[data_1, a_2, b_3, cmp_4] w (retP k) :=
  calls_of_vc (fn := Try.f55) (c := (Try.f55.body).getD Code.skip) ann55 Try.func55 (by kernel_rfl) [data_1, a_2, b_3, cmp_4] w k (by kernel_rfl) ((S55_vc data_1 a_2 b_3 cmp_4 k w).symm ▸ h)
theorem C55 (data_1 a_2 b_3 cmp_4 : Value) (k : Value → World → Prop) (w : World) (h : S55 data_1 a_2 b_3 cmp_4 k w) : callW Try.prog (.func (.func 55) #[] #[]) #[data_1, a_2, b_3, cmp_4] k w :=
  callW_calls ok55 (by simpa using S55_calls data_1 a_2 b_3 cmp_4 k w h)

/-! slices.choosePivotCmpFunc[int] -/
def ann56 : Ann := [(511, Note.keep [8, 9])]
def S56 (data_1 a_2 b_3 cmp_4 : Value) (k : Value → World → Prop) (w : World) : Prop :=
   opW Try.prog (binS BinOp.sub 3 (Operand.tmp 15) (Operand.tmp 16) b_3 a_2) (fun t17_5 w =>
   opW Try.prog (Instr.alloc 3 true (Value.tuple #[])) (fun swaps_6 w =>
   opW Try.prog (binS BinOp.quo 3 (Operand.tmp 19) (Operand.const (Value.int IntKind.i64 4)) t17_5 (Value.int IntKind.i64 4)) (fun t20_7 w =>
   opW Try.prog (binS BinOp.mul 3 (Operand.tmp 20) (Operand.const (Value.int IntKind.i64 1)) t20_7 (Value.int IntKind.i64 1)) (fun t21_8 w =>
   opW Try.prog (binS BinOp.add 3 (Operand.tmp 18) (Operand.tmp 21) a_2 t21_8) (fun t22_9 w =>
   opW Try.prog (binS BinOp.quo 3 (Operand.tmp 24) (Operand.const (Value.int IntKind.i64 4)) t17_5 (Value.int IntKind.i64 4)) (fun t25_10 w =>
   opW Try.prog (binS BinOp.mul 3 (Operand.tmp 25) (Operand.const (Value.int IntKind.i64 2)) t25_10 (Value.int IntKind.i64 2)) (fun t26_11 w =>
   opW Try.prog (binS BinOp.add 3 (Operand.tmp 23) (Operand.tmp 26) a_2 t26_11) (fun t27_12 w =>
   opW Try.prog (binS BinOp.quo 3 (Operand.tmp 29) (Operand.const (Value.int IntKind.i64 4)) t17_5 (Value.int IntKind.i64 4)) (fun t30_13 w =>
   opW Try.prog (binS BinOp.mul 3 (Operand.tmp 30) (Operand.const (Value.int IntKind.i64 3)) t30_13 (Value.int IntKind.i64 3)) (fun t31_14 w =>
   opW Try.prog (binS BinOp.add 3 (Operand.tmp 28) (Operand.tmp 31) a_2 t31_14) (fun t32_15 w =>
   opW Try.prog (binS BinOp.geq 3 (Operand.tmp 33) (Operand.const (Value.int IntKind.i64 8)) t17_5 (Value.int IntKind.i64 8)) (fun t34_16 w =>
   condW t34_16
   (opW Try.prog (binS BinOp.geq 3 (Operand.tmp 35) (Operand.const (Value.int IntKind.i64 50)) t17_5 (Value.int IntKind.i64 50)) (fun t36_17 w =>
   condW t36_17
   (callW Try.prog (Value.func (Fn.func 66) #[] #[]) #[data_1, t22_9, swaps_6, cmp_4] (fun t40_18 w =>
   callW Try.prog (Value.func (Fn.func 66) #[] #[]) #[data_1, t27_12, swaps_6, cmp_4] (fun t44_19 w =>
   callW Try.prog (Value.func (Fn.func 66) #[] #[]) #[data_1, t32_15, swaps_6, cmp_4] (fun t48_20 w =>
   callW Try.prog (Value.func (Fn.func 67) #[] #[]) #[data_1, t40_18, t44_19, t48_20, swaps_6, cmp_4] (fun t54_21 w =>
   opW Try.prog (Instr.loadAt 3 swaps_6) (fun t55_22 w =>
   opW Try.prog (binS BinOp.eql 3 (Operand.tmp 55) (Operand.const (Value.int IntKind.i64 0)) t55_22 (Value.int IntKind.i64 0)) (fun t58_24 w =>
   condW t58_24
   (k (Value.tuple #[t54_21, (Value.int IntKind.i64 1)]) w)
   (opW Try.prog (binS BinOp.eql 3 (Operand.tmp 55) (Operand.const (Value.int IntKind.i64 12)) t55_22 (Value.int IntKind.i64 12)) (fun t61_25 w =>
   condW t61_25
   (k (Value.tuple #[t54_21, (Value.int IntKind.i64 2)]) w)
   (k (Value.tuple #[t54_21, (Value.int IntKind.i64 0)]) w)) w)) w) w) w) w) w) w)
   (callW Try.prog (Value.func (Fn.func 67) #[] #[]) #[data_1, t22_9, t27_12, t32_15, swaps_6, cmp_4] (fun t54_26 w =>
   opW Try.prog (Instr.loadAt 3 swaps_6) (fun t55_27 w =>
   opW Try.prog (binS BinOp.eql 3 (Operand.tmp 55) (Operand.const (Value.int IntKind.i64 0)) t55_27 (Value.int IntKind.i64 0)) (fun t58_29 w =>
   condW t58_29
   (k (Value.tuple #[t54_26, (Value.int IntKind.i64 1)]) w)
   (opW Try.prog (binS BinOp.eql 3 (Operand.tmp 55) (Operand.const (Value.int IntKind.i64 12)) t55_27 (Value.int IntKind.i64 12)) (fun t61_30 w =>
   condW t61_30
   (k (Value.tuple #[t54_26, (Value.int IntKind.i64 2)]) w)
   (k (Value.tuple #[t54_26, (Value.int IntKind.i64 0)]) w)) w)) w) w) w)) w)
   (opW Try.prog (Instr.loadAt 3 swaps_6) (fun t55_31 w =>
   opW Try.prog (binS BinOp.eql 3 (Operand.tmp 55) (Operand.const (Value.int IntKind.i64 0)) t55_31 (Value.int IntKind.i64 0)) (fun t58_33 w =>
   condW t58_33
   (k (Value.tuple #[t27_12, (Value.int IntKind.i64 1)]) w)
   (opW Try.prog (binS BinOp.eql 3 (Operand.tmp 55) (Operand.const (Value.int IntKind.i64 12)) t55_31 (Value.int IntKind.i64 12)) (fun t61_34 w =>
   condW t61_34
   (k (Value.tuple #[t27_12, (Value.int IntKind.i64 2)]) w)
   (k (Value.tuple #[t27_12, (Value.int IntKind.i64 0)]) w)) w)) w) w)) w) w) w) w) w) w) w) w) w) w) w) w
theorem S56_vc (data_1 a_2 b_3 cmp_4 : Value) (k : Value → World → Prop) (w : World) : vc Try.prog Try.f56.ntmps ann56 none ((Try.f56.body).getD Code.skip) 1 (params 0 [data_1, a_2, b_3, cmp_4]) [] (finQ Try.prog Try.f56.results.toList k) w = S56 data_1 a_2 b_3 cmp_4 k w := by kernel_rfl
theorem S56_calls (data_1 a_2 b_3 cmp_4 : Value) (k : Value → World → Prop) (w : World) (h : S56 data_1 a_2 b_3 cmp_4 k w) : Calls Try.prog 56 #[data_1, a_2, b_3, cmp_4] w (retP k) :=
  calls_of_vc (fn := Try.f56) (c := (Try.f56.body).getD Code.skip) ann56 Try.func56 (by kernel_rfl) [data_1, a_2, b_3, cmp_4] w k (by kernel_rfl) ((S56_vc data_1 a_2 b_3 cmp_4 k w).symm ▸ h)
theorem C56 (data_1 a_2 b_3 cmp_4 : Value) (k : Value → World → Prop) (w : World) (h : S56 data_1 a_2 b_3 cmp_4 k w) : callW Try.prog (.func (.func 56) #[] #[]) #[data_1, a_2, b_3, cmp_4] k w :=
  callW_calls ok56 (by simpa using S56_calls data_1 a_2 b_3 cmp_4 k w h)

/-! slices.reverseRangeCmpFunc[int] -/
def ann57 : Ann := [(7, Note.keep []), (14, Note.loop [8, 9] [0]), (57, Note.keep [0, 8, 9]), (228, Note.plan (Plan.takeP 0 (Plan.takeP 1 (Plan.takeP 2 (Plan.takeP 3 (Plan.takeP 4 (Plan.takeP 5 (Plan.takeP 6 (Plan.takeX 7 (Plan.takeP 8 (Plan.takeP 9 (Plan.takeP 10 (Plan.takeX 11 (Plan.takeP 12 (Plan.run 13 (Plan.takeP 14 (Plan.run 15 Plan.done)))))))))))))))))]
def S57 (data_1 a_2 b_3 cmp_4 : Value) (k : Value → World → Prop) (w : World) : Prop :=
   opW Try.prog (binS BinOp.sub 3 (Operand.tmp 11) (Operand.const (Value.int IntKind.i64 1)) b_3 (Value.int IntKind.i64 1)) (fun t12_5 w =>
   Loop2 (fun i_7 j_8 w K_9 =>
   opW Try.prog (binS BinOp.lss 3 (Operand.tmp 13) (Operand.tmp 14) i_7 j_8) (fun t15_10 w =>
   condW t15_10
   (drewW w (fun w =>
   takeW Try.prog anyW (Instr.indexAt 26 data_1 j_8) (fun t22_13 =>
   takeW Try.prog (sameW w) (Instr.loadAt 3 t22_13) (fun t23_14 =>
   takeW Try.prog anyW (Instr.indexAt 26 data_1 i_7) (fun t26_15 =>
   takeW Try.prog (sameW w) (Instr.loadAt 3 t26_15) (fun t27_16 =>
   takeW Try.prog anyW (Instr.indexAt 26 data_1 i_7) (fun t28_17 =>
   opU Try.prog (Instr.storeAt 3 t28_17 t23_14) (fun _ w =>
   takeW Try.prog anyW (Instr.indexAt 26 data_1 j_8) (fun t29_18 =>
   opU Try.prog (Instr.storeAt 3 t29_18 t27_16) (fun _ w =>
   opW Try.prog (binS BinOp.add 3 (Operand.tmp 30) (Operand.const (Value.int IntKind.i64 1)) i_7 (Value.int IntKind.i64 1)) (fun t31_19 w =>
   opW Try.prog (binS BinOp.sub 3 (Operand.tmp 32) (Operand.const (Value.int IntKind.i64 1)) j_8 (Value.int IntKind.i64 1)) (fun t33_20 w =>
   loopK [] [] [data_1] [data_1] (K_9 t31_19 t33_20 w)) w) w) w) w) w) w) w) w) w) w))
   (k (Value.tuple #[]) w)) w) a_2 t12_5 w) w
theorem S57_vc (data_1 a_2 b_3 cmp_4 : Value) (k : Value → World → Prop) (w : World) : vc Try.prog Try.f57.ntmps ann57 none ((Try.f57.body).getD Code.skip) 1 (params 0 [data_1, a_2, b_3, cmp_4]) [] (finQ Try.prog Try.f57.results.toList k) w = S57 data_1 a_2 b_3 cmp_4 k w := by kernel_rfl
theorem S57_calls (data_1 a_2 b_3 cmp_4 : Value) (k : Value → World → Prop) (w : World) (h : S57 data_1 a_2 b_3 cmp_4 k w) : Calls Try.prog 57 #[data_1, a_2, b_3, cmp_4] w (retP k) :=
  calls_of_vc (fn := Try.f57) (c := (Try.f57.body).getD Code.skip) ann57 Try.func57 (by kernel_rfl) [data_1, a_2, b_3, cmp_4] w k (by kernel_rfl) ((S57_vc data_1 a_2 b_3 cmp_4 k w).symm ▸ h)
theorem C57 (data_1 a_2 b_3 cmp_4 : Value) (k : Value → World → Prop) (w : World) (h : S57 data_1 a_2 b_3 cmp_4 k w) : callW Try.prog (.func (.func 57) #[] #[]) #[data_1, a_2, b_3, cmp_4] k w :=
  callW_calls ok57 (by simpa using S57_calls data_1 a_2 b_3 cmp_4 k w h)

/-! slices.partialInsertionSortCmpFunc[int] -/
def ann58 : Ann := [(29, Note.keep []), (58, Note.loop [9, 10] [0, 1, 2, 3]), (466, Note.keep [0, 1, 2, 3, 9, 10]), (1864, Note.keep [0, 1, 2, 3, 9, 10]), (3728, Note.loop [9] [0, 1, 2, 3, 10]), (14913, Note.keep [0, 1, 2, 3, 9, 10]), (14926, Note.plan (Plan.takeP 0 (Plan.takeP 1 (Plan.takeP 2 (Plan.takeP 3 (Plan.takeP 4 (Plan.takeP 5 (Plan.takeP 6 (Plan.takeP 7 (Plan.takeP 8 (Plan.takeX 9 (Plan.takeP 10 (Plan.takeP 11 (Plan.takeP 12 (Plan.takeX 13 (Plan.takeP 14 (Plan.run 15 (Plan.takeP 16 (Plan.run 17 Plan.done))))))))))))))))))), (29824, Note.plan (Plan.takeP 0 (Plan.takeP 1 (Plan.takeP 2 (Plan.takeP 3 (Plan.takeP 4 (Plan.takeP 5 (Plan.takeP 6 (Plan.takeP 7 (Plan.takeX 8 (Plan.takeP 9 (Plan.takeP 10 (Plan.takeP 11 (Plan.takeP 12 (Plan.takeX 13 (Plan.run 14 (Plan.takeP 15 (Plan.takeP 16 (Plan.takeP 17 Plan.done))))))))))))))))))), (238837, Note.keep [0, 1, 2, 3, 9, 10]), (238845, Note.keep [0, 1, 2, 3, 9, 10]), (477674, Note.loop [11] [0, 1, 2, 3, 9, 10]), (477690, Note.loop [12] [0, 1, 2, 3, 9, 10]), (3821394, Note.keep [0, 1, 2, 3, 9, 10, 11]), (3821522, Note.keep [0, 1, 2, 3, 9, 10, 12]), (15285577, Note.plan (Plan.takeP 0 (Plan.takeP 1 (Plan.takeP 2 (Plan.takeP 3 (Plan.takeP 4 (Plan.takeP 5 (Plan.takeP 6 (Plan.takeP 7 (Plan.takeP 8 (Plan.takeX 9 (Plan.takeP 10 (Plan.takeP 11 (Plan.takeP 12 (Plan.takeX 13 (Plan.takeP 14 (Plan.run 15 (Plan.takeP 16 (Plan.run 17 Plan.done))))))))))))))))))), (15286089, Note.plan (Plan.takeP 0 (Plan.takeP 1 (Plan.takeP 2 (Plan.takeP 3 (Plan.takeP 4 (Plan.takeP 5 (Plan.takeP 6 (Plan.takeP 7 (Plan.takeP 8 (Plan.takeX 9 (Plan.takeP 10 (Plan.takeP 11 (Plan.takeP 12 (Plan.takeX 13 (Plan.takeP 14 (Plan.run 15 (Plan.takeP 16 (Plan.run 17 Plan.done))))))))))))))))))), (30571152, Note.plan (Plan.takeP 0 (Plan.takeP 1 (Plan.takeP 2 (Plan.takeP 3 (Plan.takeX 4 (Plan.takeP 5 (Plan.takeP 6 (Plan.takeP 7 (Plan.takeP 8 (Plan.takeX 9 (Plan.run 10 (Plan.takeP 11 (Plan.takeP 12 Plan.done)))))))))))))), (30572176, Note.plan (Plan.takeP 0 (Plan.takeP 1 (Plan.takeP 2 (Plan.takeP 3 (Plan.takeX 4 (Plan.takeP 5 (Plan.takeP 6 (Plan.takeP 7 (Plan.takeP 8 (Plan.takeX 9 (Plan.run 10 (Plan.takeP 11 (Plan.takeP 12 Plan.done))))))))))))))]
def S58 (data_1 a_2 b_3 cmp_4 : Value) (k : Value → World → Prop) (w : World) : Prop :=
   opW Try.prog (binS BinOp.add 3 (Operand.tmp 13) (Operand.const (Value.int IntKind.i64 1)) a_2 (Value.int IntKind.i64 1)) (fun t14_5 w =>
   Loop2 (fun i_7 j_8 w K_9 =>
   opW Try.prog (binS BinOp.lss 3 (Operand.tmp 15) (Operand.const (Value.int IntKind.i64 5)) j_8 (Value.int IntKind.i64 5)) (fun t16_10 w =>
   condW t16_10
   (joinW (fun i_126 w =>
   opW Try.prog (binS BinOp.add 3 (Operand.tmp 17) (Operand.const (Value.int IntKind.i64 1)) j_8 (Value.int IntKind.i64 1)) (fun t18_127 w =>
   loopK [] [] [data_1, a_2, b_3, cmp_4] [data_1, a_2, b_3, cmp_4] (K_9 i_126 t18_127 w)) w) (fun J_11 =>
   Loop1 (fun i_13 w K_14 =>
   drewW w (fun w =>
   takeW Try.prog anyW (binS BinOp.lss 3 (Operand.tmp 19) (Operand.tmp 20) i_13 b_3) (fun t21_16 =>
   guardT (some t21_16, true) (fun k => k cmp_4) (fun t23_17 =>
   guardT (some t21_16, true) (fun k => k data_1) (fun t24_18 =>
   guardT (some t21_16, true) (fun k => k i_13) (fun t25_19 =>
   guardT (some t21_16, true) (fun k => takeW Try.prog anyW (Instr.indexAt 26 t24_18 t25_19) k w) (fun t26_20 =>
   guardT (some t21_16, true) (fun k => takeW Try.prog (sameW w) (Instr.loadAt 3 t26_20) k w) (fun t27_21 =>
   guardT (some t21_16, true) (fun k => k data_1) (fun t28_22 =>
   guardT (some t21_16, true) (fun k => k i_13) (fun t29_23 =>
   guardT (some t21_16, true) (fun k => takeW Try.prog anyW (binS BinOp.sub 3 (Operand.tmp 29) (Operand.const (Value.int IntKind.i64 1)) t29_23 (Value.int IntKind.i64 1)) k w) (fun t30_24 =>
   guardT (some t21_16, true) (fun k => takeW Try.prog anyW (Instr.indexAt 26 t28_22 t30_24) k w) (fun t31_25 =>
   guardT (some t21_16, true) (fun k => takeW Try.prog (sameW w) (Instr.loadAt 3 t31_25) k w) (fun t32_26 =>
   guardW (some t21_16, true) (fun k w => callW Try.prog t23_17 #[t27_21, t32_26] k w) (fun t33_27 w =>
   guardT (some t21_16, true) (fun k => takeW Try.prog anyW (binS BinOp.lss 3 (Operand.tmp 33) (Operand.const (Value.int IntKind.i64 0)) t33_27 (Value.int IntKind.i64 0)) k w) (fun t34_28 =>
   guardT (some t21_16, true) (fun k => takeW Try.prog anyW (Op.unary UnOp.not t34_28) k w) (fun t35_29 =>
   pickT t21_16 t35_29 (Value.bool false) (fun t36_30 =>
   condW t36_30
   (opW Try.prog (binS BinOp.add 3 (Operand.tmp 37) (Operand.const (Value.int IntKind.i64 1)) i_13 (Value.int IntKind.i64 1)) (fun t38_32 w =>
   loopK [] [] [data_1, a_2, b_3, cmp_4, j_8] [data_1, a_2, b_3, cmp_4, j_8] (K_14 t38_32 w)) w)
   (opW Try.prog (binS BinOp.eql 3 (Operand.tmp 39) (Operand.tmp 40) i_13 b_3) (fun t41_33 w =>
   condW t41_33
   (k (Value.bool true) w)
   (opW Try.prog (binS BinOp.sub 3 (Operand.tmp 42) (Operand.tmp 43) b_3 a_2) (fun t44_34 w =>
   opW Try.prog (binS BinOp.lss 3 (Operand.tmp 44) (Operand.const (Value.int IntKind.i64 50)) t44_34 (Value.int IntKind.i64 50)) (fun t45_35 w =>
   condW t45_35
   (k (Value.bool false) w)
   (drewW w (fun w =>
   takeW Try.prog anyW (binS BinOp.sub 3 (Operand.tmp 49) (Operand.const (Value.int IntKind.i64 1)) i_13 (Value.int IntKind.i64 1)) (fun t50_37 =>
   takeW Try.prog anyW (binS BinOp.sub 3 (Operand.tmp 52) (Operand.const (Value.int IntKind.i64 1)) i_13 (Value.int IntKind.i64 1)) (fun t53_38 =>
   takeW Try.prog anyW (Instr.indexAt 26 data_1 t53_38) (fun t54_39 =>
   takeW Try.prog (sameW w) (Instr.loadAt 3 t54_39) (fun t55_40 =>
   takeW Try.prog anyW (Instr.indexAt 26 data_1 i_13) (fun t58_41 =>
   takeW Try.prog (sameW w) (Instr.loadAt 3 t58_41) (fun t59_42 =>
   takeW Try.prog anyW (Instr.indexAt 26 data_1 i_13) (fun t60_43 =>
   opU Try.prog (Instr.storeAt 3 t60_43 t55_40) (fun _ w =>
   takeW Try.prog anyW (Instr.indexAt 26 data_1 t50_37) (fun t61_44 =>
   opU Try.prog (Instr.storeAt 3 t61_44 t59_42) (fun _ w =>
   opW Try.prog (binS BinOp.sub 3 (Operand.tmp 62) (Operand.tmp 63) i_13 a_2) (fun t64_45 w =>
   opW Try.prog (binS BinOp.geq 3 (Operand.tmp 64) (Operand.const (Value.int IntKind.i64 2)) t64_45 (Value.int IntKind.i64 2)) (fun t65_46 w =>
   condW t65_46
   (opW Try.prog (binS BinOp.sub 3 (Operand.tmp 66) (Operand.const (Value.int IntKind.i64 1)) i_13 (Value.int IntKind.i64 1)) (fun t67_47 w =>
   joinW (fun w =>
   opW Try.prog (binS BinOp.sub 3 (Operand.tmp 101) (Operand.tmp 102) b_3 i_13) (fun t103_72 w =>
   opW Try.prog (binS BinOp.geq 3 (Operand.tmp 103) (Operand.const (Value.int IntKind.i64 2)) t103_72 (Value.int IntKind.i64 2)) (fun t104_73 w =>
   condW t104_73
   (opW Try.prog (binS BinOp.add 3 (Operand.tmp 105) (Operand.const (Value.int IntKind.i64 1)) i_13 (Value.int IntKind.i64 1)) (fun t106_74 w =>
   joinW (fun w =>
   J_11 i_13 w) (fun J_75 =>
   Loop1 (fun j_76 w K_77 =>
   opW Try.prog (binS BinOp.lss 3 (Operand.tmp 107) (Operand.tmp 108) j_76 b_3) (fun t109_78 w =>
   condW t109_78
   (drewW w (fun w =>
   takeW Try.prog anyW (Instr.indexAt 26 data_1 j_76) (fun t115_81 =>
   takeW Try.prog (sameW w) (Instr.loadAt 3 t115_81) (fun t116_82 =>
   takeW Try.prog anyW (binS BinOp.sub 3 (Operand.tmp 118) (Operand.const (Value.int IntKind.i64 1)) j_76 (Value.int IntKind.i64 1)) (fun t119_83 =>
   takeW Try.prog anyW (Instr.indexAt 26 data_1 t119_83) (fun t120_84 =>
   takeW Try.prog (sameW w) (Instr.loadAt 3 t120_84) (fun t121_85 =>
   callW Try.prog cmp_4 #[t116_82, t121_85] (fun t122_86 w =>
   takeW Try.prog anyW (binS BinOp.lss 3 (Operand.tmp 122) (Operand.const (Value.int IntKind.i64 0)) t122_86 (Value.int IntKind.i64 0)) (fun t123_87 =>
   takeW Try.prog anyW (Op.unary UnOp.not t123_87) (fun t124_88 =>
   condW t124_88
   (J_75 w)
   (drewW w (fun w =>
   takeW Try.prog anyW (binS BinOp.sub 3 (Operand.tmp 128) (Operand.const (Value.int IntKind.i64 1)) j_76 (Value.int IntKind.i64 1)) (fun t129_90 =>
   takeW Try.prog anyW (binS BinOp.sub 3 (Operand.tmp 131) (Operand.const (Value.int IntKind.i64 1)) j_76 (Value.int IntKind.i64 1)) (fun t132_91 =>
   takeW Try.prog anyW (Instr.indexAt 26 data_1 t132_91) (fun t133_92 =>
   takeW Try.prog (sameW w) (Instr.loadAt 3 t133_92) (fun t134_93 =>
   takeW Try.prog anyW (Instr.indexAt 26 data_1 j_76) (fun t137_94 =>
   takeW Try.prog (sameW w) (Instr.loadAt 3 t137_94) (fun t138_95 =>
   takeW Try.prog anyW (Instr.indexAt 26 data_1 j_76) (fun t139_96 =>
   opU Try.prog (Instr.storeAt 3 t139_96 t134_93) (fun _ w =>
   takeW Try.prog anyW (Instr.indexAt 26 data_1 t129_90) (fun t140_97 =>
   opU Try.prog (Instr.storeAt 3 t140_97 t138_95) (fun _ w =>
   opW Try.prog (binS BinOp.add 3 (Operand.tmp 110) (Operand.const (Value.int IntKind.i64 1)) j_76 (Value.int IntKind.i64 1)) (fun t111_98 w =>
   loopK [] [] [data_1, a_2, b_3, cmp_4, i_13, j_8] [data_1, a_2, b_3, cmp_4, i_13, j_8] (K_77 t111_98 w)) w) w) w) w) w) w) w) w) w) w) w))) w) w) w) w) w) w) w) w))
   (J_75 w)) w) t106_74 w)) w)
   (J_11 i_13 w)) w) w) (fun J_48 =>
   Loop1 (fun j_49 w K_50 =>
   opW Try.prog (binS BinOp.geq 3 (Operand.tmp 68) (Operand.const (Value.int IntKind.i64 1)) j_49 (Value.int IntKind.i64 1)) (fun t69_51 w =>
   condW t69_51
   (drewW w (fun w =>
   takeW Try.prog anyW (Instr.indexAt 26 data_1 j_49) (fun t75_54 =>
   takeW Try.prog (sameW w) (Instr.loadAt 3 t75_54) (fun t76_55 =>
   takeW Try.prog anyW (binS BinOp.sub 3 (Operand.tmp 78) (Operand.const (Value.int IntKind.i64 1)) j_49 (Value.int IntKind.i64 1)) (fun t79_56 =>
   takeW Try.prog anyW (Instr.indexAt 26 data_1 t79_56) (fun t80_57 =>
   takeW Try.prog (sameW w) (Instr.loadAt 3 t80_57) (fun t81_58 =>
   callW Try.prog cmp_4 #[t76_55, t81_58] (fun t82_59 w =>
   takeW Try.prog anyW (binS BinOp.lss 3 (Operand.tmp 82) (Operand.const (Value.int IntKind.i64 0)) t82_59 (Value.int IntKind.i64 0)) (fun t83_60 =>
   takeW Try.prog anyW (Op.unary UnOp.not t83_60) (fun t84_61 =>
   condW t84_61
   (J_48 w)
   (drewW w (fun w =>
   takeW Try.prog anyW (binS BinOp.sub 3 (Operand.tmp 88) (Operand.const (Value.int IntKind.i64 1)) j_49 (Value.int IntKind.i64 1)) (fun t89_63 =>
   takeW Try.prog anyW (binS BinOp.sub 3 (Operand.tmp 91) (Operand.const (Value.int IntKind.i64 1)) j_49 (Value.int IntKind.i64 1)) (fun t92_64 =>
   takeW Try.prog anyW (Instr.indexAt 26 data_1 t92_64) (fun t93_65 =>
   takeW Try.prog (sameW w) (Instr.loadAt 3 t93_65) (fun t94_66 =>
   takeW Try.prog anyW (Instr.indexAt 26 data_1 j_49) (fun t97_67 =>
   takeW Try.prog (sameW w) (Instr.loadAt 3 t97_67) (fun t98_68 =>
   takeW Try.prog anyW (Instr.indexAt 26 data_1 j_49) (fun t99_69 =>
   opU Try.prog (Instr.storeAt 3 t99_69 t94_66) (fun _ w =>
   takeW Try.prog anyW (Instr.indexAt 26 data_1 t89_63) (fun t100_70 =>
   opU Try.prog (Instr.storeAt 3 t100_70 t98_68) (fun _ w =>
   opW Try.prog (binS BinOp.sub 3 (Operand.tmp 70) (Operand.const (Value.int IntKind.i64 1)) j_49 (Value.int IntKind.i64 1)) (fun t71_71 w =>
   loopK [] [] [data_1, a_2, b_3, cmp_4, i_13, j_8] [data_1, a_2, b_3, cmp_4, i_13, j_8] (K_50 t71_71 w)) w) w) w) w) w) w) w) w) w) w) w))) w) w) w) w) w) w) w) w))
   (J_48 w)) w) t67_47 w)) w)
   (opW Try.prog (binS BinOp.sub 3 (Operand.tmp 101) (Operand.tmp 102) b_3 i_13) (fun t103_99 w =>
   opW Try.prog (binS BinOp.geq 3 (Operand.tmp 103) (Operand.const (Value.int IntKind.i64 2)) t103_99 (Value.int IntKind.i64 2)) (fun t104_100 w =>
   condW t104_100
   (opW Try.prog (binS BinOp.add 3 (Operand.tmp 105) (Operand.const (Value.int IntKind.i64 1)) i_13 (Value.int IntKind.i64 1)) (fun t106_101 w =>
   joinW (fun w =>
   J_11 i_13 w) (fun J_102 =>
   Loop1 (fun j_103 w K_104 =>
   opW Try.prog (binS BinOp.lss 3 (Operand.tmp 107) (Operand.tmp 108) j_103 b_3) (fun t109_105 w =>
   condW t109_105
   (drewW w (fun w =>
   takeW Try.prog anyW (Instr.indexAt 26 data_1 j_103) (fun t115_108 =>
   takeW Try.prog (sameW w) (Instr.loadAt 3 t115_108) (fun t116_109 =>
   takeW Try.prog anyW (binS BinOp.sub 3 (Operand.tmp 118) (Operand.const (Value.int IntKind.i64 1)) j_103 (Value.int IntKind.i64 1)) (fun t119_110 =>
   takeW Try.prog anyW (Instr.indexAt 26 data_1 t119_110) (fun t120_111 =>
   takeW Try.prog (sameW w) (Instr.loadAt 3 t120_111) (fun t121_112 =>
   callW Try.prog cmp_4 #[t116_109, t121_112] (fun t122_113 w =>
   takeW Try.prog anyW (binS BinOp.lss 3 (Operand.tmp 122) (Operand.const (Value.int IntKind.i64 0)) t122_113 (Value.int IntKind.i64 0)) (fun t123_114 =>
   takeW Try.prog anyW (Op.unary UnOp.not t123_114) (fun t124_115 =>
   condW t124_115
   (J_102 w)
   (drewW w (fun w =>
   takeW Try.prog anyW (binS BinOp.sub 3 (Operand.tmp 128) (Operand.const (Value.int IntKind.i64 1)) j_103 (Value.int IntKind.i64 1)) (fun t129_117 =>
   takeW Try.prog anyW (binS BinOp.sub 3 (Operand.tmp 131) (Operand.const (Value.int IntKind.i64 1)) j_103 (Value.int IntKind.i64 1)) (fun t132_118 =>
   takeW Try.prog anyW (Instr.indexAt 26 data_1 t132_118) (fun t133_119 =>
   takeW Try.prog (sameW w) (Instr.loadAt 3 t133_119) (fun t134_120 =>
   takeW Try.prog anyW (Instr.indexAt 26 data_1 j_103) (fun t137_121 =>
   takeW Try.prog (sameW w) (Instr.loadAt 3 t137_121) (fun t138_122 =>
   takeW Try.prog anyW (Instr.indexAt 26 data_1 j_103) (fun t139_123 =>
   opU Try.prog (Instr.storeAt 3 t139_123 t134_120) (fun _ w =>
   takeW Try.prog anyW (Instr.indexAt 26 data_1 t129_117) (fun t140_124 =>
   opU Try.prog (Instr.storeAt 3 t140_124 t138_122) (fun _ w =>
   opW Try.prog (binS BinOp.add 3 (Operand.tmp 110) (Operand.const (Value.int IntKind.i64 1)) j_103 (Value.int IntKind.i64 1)) (fun t111_125 w =>
   loopK [] [] [data_1, a_2, b_3, cmp_4, i_13, j_8] [data_1, a_2, b_3, cmp_4, i_13, j_8] (K_104 t111_125 w)) w) w) w) w) w) w) w) w) w) w) w))) w) w) w) w) w) w) w) w))
   (J_102 w)) w) t106_101 w)) w)
   (J_11 i_13 w)) w) w)) w) w) w) w) w) w) w) w) w) w) w) w))) w) w)) w))))) w))))))))))) w)) i_7 w))
   (k (Value.bool false) w)) w) t14_5 (Value.int IntKind.i64 0) w) w
theorem S58_vc (data_1 a_2 b_3 cmp_4 : Value) (k : Value → World → Prop) (w : World) : vc Try.prog Try.f58.ntmps ann58 none ((Try.f58.body).getD Code.skip) 1 (params 0 [data_1, a_2, b_3, cmp_4]) [] (finQ Try.prog Try.f58.results.toList k) w = S58 data_1 a_2 b_3 cmp_4 k w := by kernel_rfl
theorem S58_calls (data_1 a_2 b_3 cmp_4 : Value) (k : Value → World → Prop) (w : World) (h : S58 data_1 a_2 b_3 cmp_4 k w) : Calls Try.prog 58 #[data_1, a_2, b_3, cmp_4] w (retP k) :=
  calls_of_vc (fn := Try.f58) (c := (Try.f58.body).getD Code.skip) ann58 Try.func58 (by kernel_rfl) [data_1, a_2, b_3, cmp_4] w k (by kernel_rfl) ((S58_vc data_1 a_2 b_3 cmp_4 k w).symm ▸ h)
theorem C58 (data_1 a_2 b_3 cmp_4 : Value) (k : Value → World → Prop) (w : World) (h : S58 data_1 a_2 b_3 cmp_4 k w) : callW Try.prog (.func (.func 58) #[] #[]) #[data_1, a_2, b_3, cmp_4] k w :=
  callW_calls ok58 (by simpa using S58_calls data_1 a_2 b_3 cmp_4 k w h)

/-! slices.partitionEqualCmpFunc[int] -/
def ann59 : Ann := [(6, Note.plan (Plan.takeP 0 (Plan.takeP 1 (Plan.takeP 2 (Plan.takeP 3 (Plan.takeP 4 (Plan.takeP 5 (Plan.takeP 6 (Plan.takeX 7 (Plan.takeP 8 (Plan.takeP 9 (Plan.takeP 10 (Plan.takeX 11 (Plan.takeP 12 (Plan.run 13 (Plan.takeP 14 (Plan.run 15 Plan.done))))))))))))))))), (30, Note.keep [11]), (60, Note.loop [11, 12] [0, 1, 4]), (120, Note.keep [0, 1, 4, 11, 12]), (480, Note.keep [0, 1, 4, 11, 12]), (960, Note.loop [11] [0, 1, 4, 12]), (962, Note.keep [0, 1, 4, 11, 12]), (1924, Note.loop [12] [0, 1, 4, 11]), (3841, Note.keep [0, 1, 4, 11, 12]), (3854, Note.plan (Plan.takeP 0 (Plan.takeP 1 (Plan.takeP 2 (Plan.takeP 3 (Plan.takeP 4 (Plan.takeP 5 (Plan.takeP 6 (Plan.takeX 7 (Plan.takeP 8 (Plan.takeP 9 (Plan.takeP 10 (Plan.takeX 11 (Plan.takeP 12 (Plan.run 13 (Plan.takeP 14 (Plan.run 15 Plan.done))))))))))))))))), (7680, Note.plan (Plan.takeP 0 (Plan.takeP 1 (Plan.takeP 2 (Plan.takeP 3 (Plan.takeP 4 (Plan.takeP 5 (Plan.takeP 6 (Plan.takeP 7 (Plan.takeX 8 (Plan.takeP 9 (Plan.takeP 10 (Plan.takeP 11 (Plan.takeX 12 (Plan.run 13 (Plan.takeP 14 (Plan.takeP 15 (Plan.takeP 16 Plan.done)))))))))))))))))), (7697, Note.keep [0, 1, 4, 11, 12]), (15392, Note.plan (Plan.takeP 0 (Plan.takeP 1 (Plan.takeP 2 (Plan.takeP 3 (Plan.takeP 4 (Plan.takeP 5 (Plan.takeP 6 (Plan.takeP 7 (Plan.takeX 8 (Plan.takeP 9 (Plan.takeP 10 (Plan.takeP 11 (Plan.takeX 12 (Plan.run 13 (Plan.takeP 14 (Plan.takeP 15 Plan.done)))))))))))))))))]
def S59 (data_1 a_2 b_3 pivot_4 cmp_5 : Value) (k : Value → World → Prop) (w : World) : Prop :=
   drewW w (fun w =>
   takeW Try.prog anyW (Instr.indexAt 26 data_1 pivot_4) (fun t19_7 =>
   takeW Try.prog (sameW w) (Instr.loadAt 3 t19_7) (fun t20_8 =>
   takeW Try.prog anyW (Instr.indexAt 26 data_1 a_2) (fun t23_9 =>
   takeW Try.prog (sameW w) (Instr.loadAt 3 t23_9) (fun t24_10 =>
   takeW Try.prog anyW (Instr.indexAt 26 data_1 a_2) (fun t25_11 =>
   opU Try.prog (Instr.storeAt 3 t25_11 t20_8) (fun _ w =>
   takeW Try.prog anyW (Instr.indexAt 26 data_1 pivot_4) (fun t26_12 =>
   opU Try.prog (Instr.storeAt 3 t26_12 t24_10) (fun _ w =>
   opW Try.prog (binS BinOp.add 3 (Operand.tmp 27) (Operand.const (Value.int IntKind.i64 1)) a_2 (Value.int IntKind.i64 1)) (fun t28_13 w =>
   opW Try.prog (binS BinOp.sub 3 (Operand.tmp 29) (Operand.const (Value.int IntKind.i64 1)) b_3 (Value.int IntKind.i64 1)) (fun t30_14 w =>
   Loop2 (fun i_16 j_17 w K_18 =>
   Loop1 (fun i_21 w K_22 =>
   drewW w (fun w =>
   takeW Try.prog anyW (binS BinOp.leq 3 (Operand.tmp 31) (Operand.tmp 32) i_21 j_17) (fun t33_24 =>
   guardT (some t33_24, true) (fun k => k cmp_5) (fun t35_25 =>
   guardT (some t33_24, true) (fun k => k data_1) (fun t36_26 =>
   guardT (some t33_24, true) (fun k => k a_2) (fun t37_27 =>
   guardT (some t33_24, true) (fun k => takeW Try.prog anyW (Instr.indexAt 26 t36_26 t37_27) k w) (fun t38_28 =>
   guardT (some t33_24, true) (fun k => takeW Try.prog (sameW w) (Instr.loadAt 3 t38_28) k w) (fun t39_29 =>
   guardT (some t33_24, true) (fun k => k data_1) (fun t40_30 =>
   guardT (some t33_24, true) (fun k => k i_21) (fun t41_31 =>
   guardT (some t33_24, true) (fun k => takeW Try.prog anyW (Instr.indexAt 26 t40_30 t41_31) k w) (fun t42_32 =>
   guardT (some t33_24, true) (fun k => takeW Try.prog (sameW w) (Instr.loadAt 3 t42_32) k w) (fun t43_33 =>
   guardW (some t33_24, true) (fun k w => callW Try.prog t35_25 #[t39_29, t43_33] k w) (fun t44_34 w =>
   guardT (some t33_24, true) (fun k => takeW Try.prog anyW (binS BinOp.lss 3 (Operand.tmp 44) (Operand.const (Value.int IntKind.i64 0)) t44_34 (Value.int IntKind.i64 0)) k w) (fun t45_35 =>
   guardT (some t33_24, true) (fun k => takeW Try.prog anyW (Op.unary UnOp.not t45_35) k w) (fun t46_36 =>
   pickT t33_24 t46_36 (Value.bool false) (fun t47_37 =>
   condW t47_37
   (opW Try.prog (binS BinOp.add 3 (Operand.tmp 48) (Operand.const (Value.int IntKind.i64 1)) i_21 (Value.int IntKind.i64 1)) (fun t49_39 w =>
   loopK [] [] [data_1, a_2, cmp_5, j_17] [data_1, a_2, cmp_5, j_17] (K_22 t49_39 w)) w)
   (Loop1 (fun j_41 w K_42 =>
   drewW w (fun w =>
   takeW Try.prog anyW (binS BinOp.leq 3 (Operand.tmp 50) (Operand.tmp 51) i_21 j_41) (fun t52_44 =>
   guardT (some t52_44, true) (fun k => k cmp_5) (fun t54_45 =>
   guardT (some t52_44, true) (fun k => k data_1) (fun t55_46 =>
   guardT (some t52_44, true) (fun k => k a_2) (fun t56_47 =>
   guardT (some t52_44, true) (fun k => takeW Try.prog anyW (Instr.indexAt 26 t55_46 t56_47) k w) (fun t57_48 =>
   guardT (some t52_44, true) (fun k => takeW Try.prog (sameW w) (Instr.loadAt 3 t57_48) k w) (fun t58_49 =>
   guardT (some t52_44, true) (fun k => k data_1) (fun t59_50 =>
   guardT (some t52_44, true) (fun k => k j_41) (fun t60_51 =>
   guardT (some t52_44, true) (fun k => takeW Try.prog anyW (Instr.indexAt 26 t59_50 t60_51) k w) (fun t61_52 =>
   guardT (some t52_44, true) (fun k => takeW Try.prog (sameW w) (Instr.loadAt 3 t61_52) k w) (fun t62_53 =>
   guardW (some t52_44, true) (fun k w => callW Try.prog t54_45 #[t58_49, t62_53] k w) (fun t63_54 w =>
   guardT (some t52_44, true) (fun k => takeW Try.prog anyW (binS BinOp.lss 3 (Operand.tmp 63) (Operand.const (Value.int IntKind.i64 0)) t63_54 (Value.int IntKind.i64 0)) k w) (fun t64_55 =>
   pickT t52_44 t64_55 (Value.bool false) (fun t65_56 =>
   condW t65_56
   (opW Try.prog (binS BinOp.sub 3 (Operand.tmp 66) (Operand.const (Value.int IntKind.i64 1)) j_41 (Value.int IntKind.i64 1)) (fun t67_58 w =>
   loopK [] [] [data_1, a_2, cmp_5, i_21] [data_1, a_2, cmp_5, i_21] (K_42 t67_58 w)) w)
   (opW Try.prog (binS BinOp.gtr 3 (Operand.tmp 68) (Operand.tmp 69) i_21 j_41) (fun t70_59 w =>
   condW t70_59
   (k i_21 w)
   (drewW w (fun w =>
   takeW Try.prog anyW (Instr.indexAt 26 data_1 j_41) (fun t77_61 =>
   takeW Try.prog (sameW w) (Instr.loadAt 3 t77_61) (fun t78_62 =>
   takeW Try.prog anyW (Instr.indexAt 26 data_1 i_21) (fun t81_63 =>
   takeW Try.prog (sameW w) (Instr.loadAt 3 t81_63) (fun t82_64 =>
   takeW Try.prog anyW (Instr.indexAt 26 data_1 i_21) (fun t83_65 =>
   opU Try.prog (Instr.storeAt 3 t83_65 t78_62) (fun _ w =>
   takeW Try.prog anyW (Instr.indexAt 26 data_1 j_41) (fun t84_66 =>
   opU Try.prog (Instr.storeAt 3 t84_66 t82_64) (fun _ w =>
   opW Try.prog (binS BinOp.add 3 (Operand.tmp 85) (Operand.const (Value.int IntKind.i64 1)) i_21 (Value.int IntKind.i64 1)) (fun t86_67 w =>
   opW Try.prog (binS BinOp.sub 3 (Operand.tmp 87) (Operand.const (Value.int IntKind.i64 1)) j_41 (Value.int IntKind.i64 1)) (fun t88_68 w =>
   loopK [] [] [data_1, a_2, cmp_5] [data_1, a_2, cmp_5] (K_18 t86_67 t88_68 w)) w) w) w) w) w) w) w) w) w) w))) w)))) w)))))))))) w)) j_17 w))))) w)))))))))) w)) i_16 w) t28_13 t30_14 w) w) w) w) w) w) w) w) w) w) w)
theorem S59_vc (data_1 a_2 b_3 pivot_4 cmp_5 : Value) (k : Value → World → Prop) (w : World) : vc Try.prog Try.f59.ntmps ann59 none ((Try.f59.body).getD Code.skip) 1 (params 0 [data_1, a_2, b_3, pivot_4, cmp_5]) [] (finQ Try.prog Try.f59.results.toList k) w = S59 data_1 a_2 b_3 pivot_4 cmp_5 k w := by kernel_rfl
theorem S59_calls (data_1 a_2 b_3 pivot_4 cmp_5 : Value) (k : Value → World → Prop) (w : World) (h : S59 data_1 a_2 b_3 pivot_4 cmp_5 k w) : Calls Try.prog 59 #[data_1, a_2, b_3, pivot_4, cmp_5] w (retP k) :=
  calls_of_vc (fn := Try.f59) (c := (Try.f59.body).getD Code.skip) ann59 Try.func59 (by kernel_rfl) [data_1, a_2, b_3, pivot_4, cmp_5] w k (by kernel_rfl) ((S59_vc data_1 a_2 b_3 pivot_4 cmp_5 k w).symm ▸ h)
theorem C59 (data_1 a_2 b_3 pivot_4 cmp_5 : Value) (k : Value → World → Prop) (w : World) (h : S59 data_1 a_2 b_3 pivot_4 cmp_5 k w) : callW Try.prog (.func (.func 59) #[] #[]) #[data_1, a_2, b_3, pivot_4, cmp_5] k w :=
  callW_calls ok59 (by simpa using S59_calls data_1 a_2 b_3 pivot_4 cmp_5 k w h)

/-! slices.partitionCmpFunc[int] -/
def ann60 : Ann := [(6, Note.plan (Plan.takeP 0 (Plan.takeP 1 (Plan.takeP 2 (Plan.takeP 3 (Plan.takeP 4 (Plan.takeP 5 (Plan.takeP 6 (Plan.takeX 7 (Plan.takeP 8 (Plan.takeP 9 (Plan.takeP 10 (Plan.takeX 11 (Plan.takeP 12 (Plan.run 13 (Plan.takeP 14 (Plan.run 15 Plan.done))))))))))))))))), (30, Note.keep [0, 1, 4, 12, 13]), (60, Note.loop [12] [0, 1, 4, 13]), (62, Note.keep [0, 1, 4, 12, 13]), (124, Note.loop [13] [0, 1, 4, 12]), (241, Note.keep [0, 1, 4, 12, 13]), (254, Note.plan (Plan.takeP 0 (Plan.takeP 1 (Plan.takeP 2 (Plan.takeP 3 (Plan.takeP 4 (Plan.takeP 5 (Plan.takeP 6 (Plan.takeX 7 (Plan.takeP 8 (Plan.takeP 9 (Plan.takeP 10 (Plan.takeX 11 (Plan.takeP 12 (Plan.run 13 (Plan.takeP 14 (Plan.run 15 Plan.done))))))))))))))))), (480, Note.plan (Plan.takeP 0 (Plan.takeP 1 (Plan.takeP 2 (Plan.takeP 3 (Plan.takeP 4 (Plan.takeP 5 (Plan.takeP 6 (Plan.takeP 7 (Plan.takeX 8 (Plan.takeP 9 (Plan.takeP 10 (Plan.takeP 11 (Plan.takeX 12 (Plan.run 13 (Plan.takeP 14 (Plan.takeP 15 Plan.done))))))))))))))))), (497, Note.keep [0, 1, 4, 12, 13]), (992, Note.plan (Plan.takeP 0 (Plan.takeP 1 (Plan.takeP 2 (Plan.takeP 3 (Plan.takeP 4 (Plan.takeP 5 (Plan.takeP 6 (Plan.takeP 7 (Plan.takeX 8 (Plan.takeP 9 (Plan.takeP 10 (Plan.takeP 11 (Plan.takeX 12 (Plan.run 13 (Plan.takeP 14 (Plan.takeP 15 (Plan.takeP 16 Plan.done)))))))))))))))))), (1012, Note.plan (Plan.takeP 0 (Plan.takeP 1 (Plan.takeP 2 (Plan.takeP 3 (Plan.takeP 4 (Plan.takeP 5 (Plan.takeP 6 (Plan.takeX 7 (Plan.takeP 8 (Plan.takeP 9 (Plan.takeP 10 (Plan.takeX 11 (Plan.takeP 12 (Plan.run 13 (Plan.takeP 14 (Plan.run 15 Plan.done))))))))))))))))), (2046, Note.keep [0, 1, 13]), (4092, Note.loop [12, 13] [0, 1, 4]), (4094, Note.plan (Plan.takeP 0 (Plan.takeP 1 (Plan.takeP 2 (Plan.takeP 3 (Plan.takeP 4 (Plan.takeP 5 (Plan.takeP 6 (Plan.takeX 7 (Plan.takeP 8 (Plan.takeP 9 (Plan.takeP 10 (Plan.takeX 11 (Plan.takeP 12 (Plan.run 13 (Plan.takeP 14 (Plan.run 15 Plan.done))))))))))))))))), (8184, Note.keep [0, 1, 4, 12, 13]), (32736, Note.keep [0, 1, 4, 12, 13]), (65472, Note.loop [12] [0, 1, 4, 13]), (65474, Note.keep [0, 1, 4, 12, 13]), (130948, Note.loop [13] [0, 1, 4, 12]), (261889, Note.keep [0, 1, 4, 12, 13]), (261902, Note.plan (Plan.takeP 0 (Plan.takeP 1 (Plan.takeP 2 (Plan.takeP 3 (Plan.takeP 4 (Plan.takeP 5 (Plan.takeP 6 (Plan.takeX 7 (Plan.takeP 8 (Plan.takeP 9 (Plan.takeP 10 (Plan.takeX 11 (Plan.takeP 12 (Plan.run 13 (Plan.takeP 14 (Plan.run 15 Plan.done))))))))))))))))), (523776, Note.plan (Plan.takeP 0 (Plan.takeP 1 (Plan.takeP 2 (Plan.takeP 3 (Plan.takeP 4 (Plan.takeP 5 (Plan.takeP 6 (Plan.takeP 7 (Plan.takeX 8 (Plan.takeP 9 (Plan.takeP 10 (Plan.takeP 11 (Plan.takeX 12 (Plan.run 13 (Plan.takeP 14 (Plan.takeP 15 Plan.done))))))))))))))))), (523793, Note.keep [0, 1, 4, 12, 13]), (1047584, Note.plan (Plan.takeP 0 (Plan.takeP 1 (Plan.takeP 2 (Plan.takeP 3 (Plan.takeP 4 (Plan.takeP 5 (Plan.takeP 6 (Plan.takeP 7 (Plan.takeX 8 (Plan.takeP 9 (Plan.takeP 10 (Plan.takeP 11 (Plan.takeX 12 (Plan.run 13 (Plan.takeP 14 (Plan.takeP 15 (Plan.takeP 16 Plan.done))))))))))))))))))]
def S60 (data_1 a_2 b_3 pivot_4 cmp_5 : Value) (k : Value → World → Prop) (w : World) : Prop :=
   drewW w (fun w =>
   takeW Try.prog anyW (Instr.indexAt 26 data_1 pivot_4) (fun t20_7 =>
   takeW Try.prog (sameW w) (Instr.loadAt 3 t20_7) (fun t21_8 =>
   takeW Try.prog anyW (Instr.indexAt 26 data_1 a_2) (fun t24_9 =>
   takeW Try.prog (sameW w) (Instr.loadAt 3 t24_9) (fun t25_10 =>
   takeW Try.prog anyW (Instr.indexAt 26 data_1 a_2) (fun t26_11 =>
   opU Try.prog (Instr.storeAt 3 t26_11 t21_8) (fun _ w =>
   takeW Try.prog anyW (Instr.indexAt 26 data_1 pivot_4) (fun t27_12 =>
   opU Try.prog (Instr.storeAt 3 t27_12 t25_10) (fun _ w =>
   opW Try.prog (binS BinOp.add 3 (Operand.tmp 28) (Operand.const (Value.int IntKind.i64 1)) a_2 (Value.int IntKind.i64 1)) (fun t29_13 w =>
   opW Try.prog (binS BinOp.sub 3 (Operand.tmp 30) (Operand.const (Value.int IntKind.i64 1)) b_3 (Value.int IntKind.i64 1)) (fun t31_14 w =>
   Loop1 (fun i_16 w K_17 =>
   drewW w (fun w =>
   takeW Try.prog anyW (binS BinOp.leq 3 (Operand.tmp 32) (Operand.tmp 33) i_16 t31_14) (fun t34_19 =>
   guardT (some t34_19, true) (fun k => k cmp_5) (fun t36_20 =>
   guardT (some t34_19, true) (fun k => k data_1) (fun t37_21 =>
   guardT (some t34_19, true) (fun k => k i_16) (fun t38_22 =>
   guardT (some t34_19, true) (fun k => takeW Try.prog anyW (Instr.indexAt 26 t37_21 t38_22) k w) (fun t39_23 =>
   guardT (some t34_19, true) (fun k => takeW Try.prog (sameW w) (Instr.loadAt 3 t39_23) k w) (fun t40_24 =>
   guardT (some t34_19, true) (fun k => k data_1) (fun t41_25 =>
   guardT (some t34_19, true) (fun k => k a_2) (fun t42_26 =>
   guardT (some t34_19, true) (fun k => takeW Try.prog anyW (Instr.indexAt 26 t41_25 t42_26) k w) (fun t43_27 =>
   guardT (some t34_19, true) (fun k => takeW Try.prog (sameW w) (Instr.loadAt 3 t43_27) k w) (fun t44_28 =>
   guardW (some t34_19, true) (fun k w => callW Try.prog t36_20 #[t40_24, t44_28] k w) (fun t45_29 w =>
   guardT (some t34_19, true) (fun k => takeW Try.prog anyW (binS BinOp.lss 3 (Operand.tmp 45) (Operand.const (Value.int IntKind.i64 0)) t45_29 (Value.int IntKind.i64 0)) k w) (fun t46_30 =>
   pickT t34_19 t46_30 (Value.bool false) (fun t47_31 =>
   condW t47_31
   (opW Try.prog (binS BinOp.add 3 (Operand.tmp 48) (Operand.const (Value.int IntKind.i64 1)) i_16 (Value.int IntKind.i64 1)) (fun t49_33 w =>
   loopK [] [] [data_1, a_2, cmp_5, t31_14] [data_1, a_2, cmp_5, t31_14] (K_17 t49_33 w)) w)
   (Loop1 (fun j_35 w K_36 =>
   drewW w (fun w =>
   takeW Try.prog anyW (binS BinOp.leq 3 (Operand.tmp 50) (Operand.tmp 51) i_16 j_35) (fun t52_38 =>
   guardT (some t52_38, true) (fun k => k cmp_5) (fun t54_39 =>
   guardT (some t52_38, true) (fun k => k data_1) (fun t55_40 =>
   guardT (some t52_38, true) (fun k => k j_35) (fun t56_41 =>
   guardT (some t52_38, true) (fun k => takeW Try.prog anyW (Instr.indexAt 26 t55_40 t56_41) k w) (fun t57_42 =>
   guardT (some t52_38, true) (fun k => takeW Try.prog (sameW w) (Instr.loadAt 3 t57_42) k w) (fun t58_43 =>
   guardT (some t52_38, true) (fun k => k data_1) (fun t59_44 =>
   guardT (some t52_38, true) (fun k => k a_2) (fun t60_45 =>
   guardT (some t52_38, true) (fun k => takeW Try.prog anyW (Instr.indexAt 26 t59_44 t60_45) k w) (fun t61_46 =>
   guardT (some t52_38, true) (fun k => takeW Try.prog (sameW w) (Instr.loadAt 3 t61_46) k w) (fun t62_47 =>
   guardW (some t52_38, true) (fun k w => callW Try.prog t54_39 #[t58_43, t62_47] k w) (fun t63_48 w =>
   guardT (some t52_38, true) (fun k => takeW Try.prog anyW (binS BinOp.lss 3 (Operand.tmp 63) (Operand.const (Value.int IntKind.i64 0)) t63_48 (Value.int IntKind.i64 0)) k w) (fun t64_49 =>
   guardT (some t52_38, true) (fun k => takeW Try.prog anyW (Op.unary UnOp.not t64_49) k w) (fun t65_50 =>
   pickT t52_38 t65_50 (Value.bool false) (fun t66_51 =>
   condW t66_51
   (opW Try.prog (binS BinOp.sub 3 (Operand.tmp 67) (Operand.const (Value.int IntKind.i64 1)) j_35 (Value.int IntKind.i64 1)) (fun t68_53 w =>
   loopK [] [] [data_1, a_2, cmp_5, i_16] [data_1, a_2, cmp_5, i_16] (K_36 t68_53 w)) w)
   (opW Try.prog (binS BinOp.gtr 3 (Operand.tmp 69) (Operand.tmp 70) i_16 j_35) (fun t71_54 w =>
   condW t71_54
   (drewW w (fun w =>
   takeW Try.prog anyW (Instr.indexAt 26 data_1 a_2) (fun t78_56 =>
   takeW Try.prog (sameW w) (Instr.loadAt 3 t78_56) (fun t79_57 =>
   takeW Try.prog anyW (Instr.indexAt 26 data_1 j_35) (fun t82_58 =>
   takeW Try.prog (sameW w) (Instr.loadAt 3 t82_58) (fun t83_59 =>
   takeW Try.prog anyW (Instr.indexAt 26 data_1 j_35) (fun t84_60 =>
   opU Try.prog (Instr.storeAt 3 t84_60 t79_57) (fun _ w =>
   takeW Try.prog anyW (Instr.indexAt 26 data_1 a_2) (fun t85_61 =>
   opU Try.prog (Instr.storeAt 3 t85_61 t83_59) (fun _ w =>
   k (Value.tuple #[j_35, (Value.bool true)]) w) w) w) w) w) w) w) w) w))
   (drewW w (fun w =>
   takeW Try.prog anyW (Instr.indexAt 26 data_1 j_35) (fun t93_63 =>
   takeW Try.prog (sameW w) (Instr.loadAt 3 t93_63) (fun t94_64 =>
   takeW Try.prog anyW (Instr.indexAt 26 data_1 i_16) (fun t97_65 =>
   takeW Try.prog (sameW w) (Instr.loadAt 3 t97_65) (fun t98_66 =>
   takeW Try.prog anyW (Instr.indexAt 26 data_1 i_16) (fun t99_67 =>
   opU Try.prog (Instr.storeAt 3 t99_67 t94_64) (fun _ w =>
   takeW Try.prog anyW (Instr.indexAt 26 data_1 j_35) (fun t100_68 =>
   opU Try.prog (Instr.storeAt 3 t100_68 t98_66) (fun _ w =>
   opW Try.prog (binS BinOp.add 3 (Operand.tmp 101) (Operand.const (Value.int IntKind.i64 1)) i_16 (Value.int IntKind.i64 1)) (fun t102_69 w =>
   opW Try.prog (binS BinOp.sub 3 (Operand.tmp 103) (Operand.const (Value.int IntKind.i64 1)) j_35 (Value.int IntKind.i64 1)) (fun t104_70 w =>
   Loop2 (fun i_72 j_73 w K_74 =>
   Loop1 (fun i_77 w K_78 =>
   drewW w (fun w =>
   takeW Try.prog anyW (binS BinOp.leq 3 (Operand.tmp 105) (Operand.tmp 106) i_77 j_73) (fun t107_80 =>
   guardT (some t107_80, true) (fun k => k cmp_5) (fun t109_81 =>
   guardT (some t107_80, true) (fun k => k data_1) (fun t110_82 =>
   guardT (some t107_80, true) (fun k => k i_77) (fun t111_83 =>
   guardT (some t107_80, true) (fun k => takeW Try.prog anyW (Instr.indexAt 26 t110_82 t111_83) k w) (fun t112_84 =>
   guardT (some t107_80, true) (fun k => takeW Try.prog (sameW w) (Instr.loadAt 3 t112_84) k w) (fun t113_85 =>
   guardT (some t107_80, true) (fun k => k data_1) (fun t114_86 =>
   guardT (some t107_80, true) (fun k => k a_2) (fun t115_87 =>
   guardT (some t107_80, true) (fun k => takeW Try.prog anyW (Instr.indexAt 26 t114_86 t115_87) k w) (fun t116_88 =>
   guardT (some t107_80, true) (fun k => takeW Try.prog (sameW w) (Instr.loadAt 3 t116_88) k w) (fun t117_89 =>
   guardW (some t107_80, true) (fun k w => callW Try.prog t109_81 #[t113_85, t117_89] k w) (fun t118_90 w =>
   guardT (some t107_80, true) (fun k => takeW Try.prog anyW (binS BinOp.lss 3 (Operand.tmp 118) (Operand.const (Value.int IntKind.i64 0)) t118_90 (Value.int IntKind.i64 0)) k w) (fun t119_91 =>
   pickT t107_80 t119_91 (Value.bool false) (fun t120_92 =>
   condW t120_92
   (opW Try.prog (binS BinOp.add 3 (Operand.tmp 121) (Operand.const (Value.int IntKind.i64 1)) i_77 (Value.int IntKind.i64 1)) (fun t122_94 w =>
   loopK [] [] [data_1, a_2, cmp_5, j_73] [data_1, a_2, cmp_5, j_73] (K_78 t122_94 w)) w)
   (Loop1 (fun j_96 w K_97 =>
   drewW w (fun w =>
   takeW Try.prog anyW (binS BinOp.leq 3 (Operand.tmp 123) (Operand.tmp 124) i_77 j_96) (fun t125_99 =>
   guardT (some t125_99, true) (fun k => k cmp_5) (fun t127_100 =>
   guardT (some t125_99, true) (fun k => k data_1) (fun t128_101 =>
   guardT (some t125_99, true) (fun k => k j_96) (fun t129_102 =>
   guardT (some t125_99, true) (fun k => takeW Try.prog anyW (Instr.indexAt 26 t128_101 t129_102) k w) (fun t130_103 =>
   guardT (some t125_99, true) (fun k => takeW Try.prog (sameW w) (Instr.loadAt 3 t130_103) k w) (fun t131_104 =>
   guardT (some t125_99, true) (fun k => k data_1) (fun t132_105 =>
   guardT (some t125_99, true) (fun k => k a_2) (fun t133_106 =>
   guardT (some t125_99, true) (fun k => takeW Try.prog anyW (Instr.indexAt 26 t132_105 t133_106) k w) (fun t134_107 =>
   guardT (some t125_99, true) (fun k => takeW Try.prog (sameW w) (Instr.loadAt 3 t134_107) k w) (fun t135_108 =>
   guardW (some t125_99, true) (fun k w => callW Try.prog t127_100 #[t131_104, t135_108] k w) (fun t136_109 w =>
   guardT (some t125_99, true) (fun k => takeW Try.prog anyW (binS BinOp.lss 3 (Operand.tmp 136) (Operand.const (Value.int IntKind.i64 0)) t136_109 (Value.int IntKind.i64 0)) k w) (fun t137_110 =>
   guardT (some t125_99, true) (fun k => takeW Try.prog anyW (Op.unary UnOp.not t137_110) k w) (fun t138_111 =>
   pickT t125_99 t138_111 (Value.bool false) (fun t139_112 =>
   condW t139_112
   (opW Try.prog (binS BinOp.sub 3 (Operand.tmp 140) (Operand.const (Value.int IntKind.i64 1)) j_96 (Value.int IntKind.i64 1)) (fun t141_114 w =>
   loopK [] [] [data_1, a_2, cmp_5, i_77] [data_1, a_2, cmp_5, i_77] (K_97 t141_114 w)) w)
   (opW Try.prog (binS BinOp.gtr 3 (Operand.tmp 142) (Operand.tmp 143) i_77 j_96) (fun t144_115 w =>
   condW t144_115
   (drewW w (fun w =>
   takeW Try.prog anyW (Instr.indexAt 26 data_1 a_2) (fun t169_126 =>
   takeW Try.prog (sameW w) (Instr.loadAt 3 t169_126) (fun t170_127 =>
   takeW Try.prog anyW (Instr.indexAt 26 data_1 j_96) (fun t173_128 =>
   takeW Try.prog (sameW w) (Instr.loadAt 3 t173_128) (fun t174_129 =>
   takeW Try.prog anyW (Instr.indexAt 26 data_1 j_96) (fun t175_130 =>
   opU Try.prog (Instr.storeAt 3 t175_130 t170_127) (fun _ w =>
   takeW Try.prog anyW (Instr.indexAt 26 data_1 a_2) (fun t176_131 =>
   opU Try.prog (Instr.storeAt 3 t176_131 t174_129) (fun _ w =>
   k (Value.tuple #[j_96, (Value.bool false)]) w) w) w) w) w) w) w) w) w))
   (drewW w (fun w =>
   takeW Try.prog anyW (Instr.indexAt 26 data_1 j_96) (fun t151_117 =>
   takeW Try.prog (sameW w) (Instr.loadAt 3 t151_117) (fun t152_118 =>
   takeW Try.prog anyW (Instr.indexAt 26 data_1 i_77) (fun t155_119 =>
   takeW Try.prog (sameW w) (Instr.loadAt 3 t155_119) (fun t156_120 =>
   takeW Try.prog anyW (Instr.indexAt 26 data_1 i_77) (fun t157_121 =>
   opU Try.prog (Instr.storeAt 3 t157_121 t152_118) (fun _ w =>
   takeW Try.prog anyW (Instr.indexAt 26 data_1 j_96) (fun t158_122 =>
   opU Try.prog (Instr.storeAt 3 t158_122 t156_120) (fun _ w =>
   opW Try.prog (binS BinOp.add 3 (Operand.tmp 159) (Operand.const (Value.int IntKind.i64 1)) i_77 (Value.int IntKind.i64 1)) (fun t160_123 w =>
   opW Try.prog (binS BinOp.sub 3 (Operand.tmp 161) (Operand.const (Value.int IntKind.i64 1)) j_96 (Value.int IntKind.i64 1)) (fun t162_124 w =>
   loopK [] [] [data_1, a_2, cmp_5] [data_1, a_2, cmp_5] (K_74 t160_123 t162_124 w)) w) w) w) w) w) w) w) w) w) w))) w))))) w)))))))))) w)) j_73 w)))) w)))))))))) w)) i_72 w) t102_69 t104_70 w) w) w) w) w) w) w) w) w) w) w))) w))))) w)))))))))) w)) t31_14 w)))) w)))))))))) w)) t29_13 w) w) w) w) w) w) w) w) w) w) w)
theorem S60_vc (data_1 a_2 b_3 pivot_4 cmp_5 : Value) (k : Value → World → Prop) (w : World) : vc Try.prog Try.f60.ntmps ann60 none ((Try.f60.body).getD Code.skip) 1 (params 0 [data_1, a_2, b_3, pivot_4, cmp_5]) [] (finQ Try.prog Try.f60.results.toList k) w = S60 data_1 a_2 b_3 pivot_4 cmp_5 k w := by kernel_rfl
theorem S60_calls (data_1 a_2 b_3 pivot_4 cmp_5 : Value) (k : Value → World → Prop) (w : World) (h : S60 data_1 a_2 b_3 pivot_4 cmp_5 k w) : Calls Try.prog 60 #[data_1, a_2, b_3, pivot_4, cmp_5] w (retP k) :=
  calls_of_vc (fn := Try.f60) (c := (Try.f60.body).getD Code.skip) ann60 Try.func60 (by kernel_rfl) [data_1, a_2, b_3, pivot_4, cmp_5] w k (by kernel_rfl) ((S60_vc data_1 a_2 b_3 pivot_4 cmp_5 k w).symm ▸ h)
theorem C60 (data_1 a_2 b_3 pivot_4 cmp_5 : Value) (k : Value → World → Prop) (w : World) (h : S60 data_1 a_2 b_3 pivot_4 cmp_5 k w) : callW Try.prog (.func (.func 60) #[] #[]) #[data_1, a_2, b_3, pivot_4, cmp_5] k w :=
  callW_calls ok60 (by simpa using S60_calls data_1 a_2 b_3 pivot_4 cmp_5 k w h)

/-! math/bits.Len32 -/
def ann61 : Ann := []
def S61 (x_1 : Value) (k : Value → World → Prop) (w : World) : Prop :=
   opW Try.prog (binS BinOp.geq 87 (Operand.tmp 3) (Operand.const (Value.int IntKind.u32 65536)) x_1 (Value.int IntKind.u32 65536)) (fun t4_2 w =>
   condW t4_2
   (opW Try.prog (binS BinOp.shr 87 (Operand.tmp 5) (Operand.const (Value.int IntKind.u64 16)) x_1 (Value.int IntKind.u64 16)) (fun t6_3 w =>
   opW Try.prog (binS BinOp.geq 87 (Operand.tmp 7) (Operand.const (Value.int IntKind.u32 256)) t6_3 (Value.int IntKind.u32 256)) (fun t8_4 w =>
   condW t8_4
   (opW Try.prog (binS BinOp.shr 87 (Operand.tmp 9) (Operand.const (Value.int IntKind.u64 8)) t6_3 (Value.int IntKind.u64 8)) (fun t10_5 w =>
   opW Try.prog (binS BinOp.add 3 (Operand.tmp 11) (Operand.const (Value.int IntKind.i64 8)) (Value.int IntKind.i64 16) (Value.int IntKind.i64 8)) (fun t12_6 w =>
   opW Try.prog (convert 87 5 t10_5) (fun t15_7 w =>
   opW Try.prog (Instr.index 9 (Value.string { data := #[0, 1, 2, 2, 3, 3, 3, 3, 4, 4, 4, 4, 4, 4, 4, 4, 5, 5, 5, 5, 5, 5, 5, 5, 5, 5, 5, 5, 5, 5, 5, 5, 6, 6, 6, 6, 6, 6, 6, 6, 6, 6, 6, 6, 6, 6, 6, 6, 6, 6, 6, 6, 6, 6, 6, 6, 6, 6, 6, 6, 6, 6, 6, 6, 7, 7, 7, 7, 7, 7, 7, 7, 7, 7, 7, 7, 7, 7, 7, 7, 7, 7, 7, 7, 7, 7, 7, 7, 7, 7, 7, 7, 7, 7, 7, 7, 7, 7, 7, 7, 7, 7, 7, 7, 7, 7, 7, 7, 7, 7, 7, 7, 7, 7, 7, 7, 7, 7, 7, 7, 7, 7, 7, 7, 7, 7, 7, 7, 8, 8, 8, 8, 8, 8, 8, 8, 8, 8, 8, 8, 8, 8, 8, 8, 8, 8, 8, 8, 8, 8, 8, 8, 8, 8, 8, 8, 8, 8, 8, 8, 8, 8, 8, 8, 8, 8, 8, 8, 8, 8, 8, 8, 8, 8, 8, 8, 8, 8, 8, 8, 8, 8, 8, 8, 8, 8, 8, 8, 8, 8, 8, 8, 8, 8, 8, 8, 8, 8, 8, 8, 8, 8, 8, 8, 8, 8, 8, 8, 8, 8, 8, 8, 8, 8, 8, 8, 8, 8, 8, 8, 8, 8, 8, 8, 8, 8, 8, 8, 8, 8, 8, 8, 8, 8, 8, 8, 8, 8, 8, 8, 8, 8, 8, 8, 8, 8, 8, 8, 8, 8, 8, 8, 8, 8, 8, 8] }) t15_7) (fun t16_8 w =>
   opW Try.prog (convert 5 3 t16_8) (fun t17_9 w =>
   opW Try.prog (binS BinOp.add 3 (Operand.tmp 13) (Operand.tmp 17) t12_6 t17_9) (fun t18_10 w =>
   k t18_10 w) w) w) w) w) w) w)
   (opW Try.prog (convert 87 5 t6_3) (fun t15_11 w =>
   opW Try.prog (Instr.index 9 (Value.string { data := #[0, 1, 2, 2, 3, 3, 3, 3, 4, 4, 4, 4, 4, 4, 4, 4, 5, 5, 5, 5, 5, 5, 5, 5, 5, 5, 5, 5, 5, 5, 5, 5, 6, 6, 6, 6, 6, 6, 6, 6, 6, 6, 6, 6, 6, 6, 6, 6, 6, 6, 6, 6, 6, 6, 6, 6, 6, 6, 6, 6, 6, 6, 6, 6, 7, 7, 7, 7, 7, 7, 7, 7, 7, 7, 7, 7, 7, 7, 7, 7, 7, 7, 7, 7, 7, 7, 7, 7, 7, 7, 7, 7, 7, 7, 7, 7, 7, 7, 7, 7, 7, 7, 7, 7, 7, 7, 7, 7, 7, 7, 7, 7, 7, 7, 7, 7, 7, 7, 7, 7, 7, 7, 7, 7, 7, 7, 7, 7, 8, 8, 8, 8, 8, 8, 8, 8, 8, 8, 8, 8, 8, 8, 8, 8, 8, 8, 8, 8, 8, 8, 8, 8, 8, 8, 8, 8, 8, 8, 8, 8, 8, 8, 8, 8, 8, 8, 8, 8, 8, 8, 8, 8, 8, 8, 8, 8, 8, 8, 8, 8, 8, 8, 8, 8, 8, 8, 8, 8, 8, 8, 8, 8, 8, 8, 8, 8, 8, 8, 8, 8, 8, 8, 8, 8, 8, 8, 8, 8, 8, 8, 8, 8, 8, 8, 8, 8, 8, 8, 8, 8, 8, 8, 8, 8, 8, 8, 8, 8, 8, 8, 8, 8, 8, 8, 8, 8, 8, 8, 8, 8, 8, 8, 8, 8, 8, 8, 8, 8, 8, 8, 8, 8, 8, 8, 8, 8] }) t15_11) (fun t16_12 w =>
   opW Try.prog (convert 5 3 t16_12) (fun t17_13 w =>
   opW Try.prog (binS BinOp.add 3 (Operand.tmp 13) (Operand.tmp 17) (Value.int IntKind.i64 16) t17_13) (fun t18_14 w =>
   k t18_14 w) w) w) w) w)) w) w)
   (opW Try.prog (binS BinOp.geq 87 (Operand.tmp 7) (Operand.const (Value.int IntKind.u32 256)) x_1 (Value.int IntKind.u32 256)) (fun t8_15 w =>
   condW t8_15
   (opW Try.prog (binS BinOp.shr 87 (Operand.tmp 9) (Operand.const (Value.int IntKind.u64 8)) x_1 (Value.int IntKind.u64 8)) (fun t10_16 w =>
   opW Try.prog (binS BinOp.add 3 (Operand.tmp 11) (Operand.const (Value.int IntKind.i64 8)) (Value.int IntKind.i64 0) (Value.int IntKind.i64 8)) (fun t12_17 w =>
   opW Try.prog (convert 87 5 t10_16) (fun t15_18 w =>
   opW Try.prog (Instr.index 9 (Value.string { data := #[0, 1, 2, 2, 3, 3, 3, 3, 4, 4, 4, 4, 4, 4, 4, 4, 5, 5, 5, 5, 5, 5, 5, 5, 5, 5, 5, 5, 5, 5, 5, 5, 6, 6, 6, 6, 6, 6, 6, 6, 6, 6, 6, 6, 6, 6, 6, 6, 6, 6, 6, 6, 6, 6, 6, 6, 6, 6, 6, 6, 6, 6, 6, 6, 7, 7, 7, 7, 7, 7, 7, 7, 7, 7, 7, 7, 7, 7, 7, 7, 7, 7, 7, 7, 7, 7, 7, 7, 7, 7, 7, 7, 7, 7, 7, 7, 7, 7, 7, 7, 7, 7, 7, 7, 7, 7, 7, 7, 7, 7, 7, 7, 7, 7, 7, 7, 7, 7, 7, 7, 7, 7, 7, 7, 7, 7, 7, 7, 8, 8, 8, 8, 8, 8, 8, 8, 8, 8, 8, 8, 8, 8, 8, 8, 8, 8, 8, 8, 8, 8, 8, 8, 8, 8, 8, 8, 8, 8, 8, 8, 8, 8, 8, 8, 8, 8, 8, 8, 8, 8, 8, 8, 8, 8, 8, 8, 8, 8, 8, 8, 8, 8, 8, 8, 8, 8, 8, 8, 8, 8, 8, 8, 8, 8, 8, 8, 8, 8, 8, 8, 8, 8, 8, 8, 8, 8, 8, 8, 8, 8, 8, 8, 8, 8, 8, 8, 8, 8, 8, 8, 8, 8, 8, 8, 8, 8, 8, 8, 8, 8, 8, 8, 8, 8, 8, 8, 8, 8, 8, 8, 8, 8, 8, 8, 8, 8, 8, 8, 8, 8, 8, 8, 8, 8, 8, 8] }) t15_18) (fun t16_19 w =>
   opW Try.prog (convert 5 3 t16_19) (fun t17_20 w =>
   opW Try.prog (binS BinOp.add 3 (Operand.tmp 13) (Operand.tmp 17) t12_17 t17_20) (fun t18_21 w =>
   k t18_21 w) w) w) w) w) w) w)
   (opW Try.prog (convert 87 5 x_1) (fun t15_22 w =>
   opW Try.prog (Instr.index 9 (Value.string { data := #[0, 1, 2, 2, 3, 3, 3, 3, 4, 4, 4, 4, 4, 4, 4, 4, 5, 5, 5, 5, 5, 5, 5, 5, 5, 5, 5, 5, 5, 5, 5, 5, 6, 6, 6, 6, 6, 6, 6, 6, 6, 6, 6, 6, 6, 6, 6, 6, 6, 6, 6, 6, 6, 6, 6, 6, 6, 6, 6, 6, 6, 6, 6, 6, 7, 7, 7, 7, 7, 7, 7, 7, 7, 7, 7, 7, 7, 7, 7, 7, 7, 7, 7, 7, 7, 7, 7, 7, 7, 7, 7, 7, 7, 7, 7, 7, 7, 7, 7, 7, 7, 7, 7, 7, 7, 7, 7, 7, 7, 7, 7, 7, 7, 7, 7, 7, 7, 7, 7, 7, 7, 7, 7, 7, 7, 7, 7, 7, 8, 8, 8, 8, 8, 8, 8, 8, 8, 8, 8, 8, 8, 8, 8, 8, 8, 8, 8, 8, 8, 8, 8, 8, 8, 8, 8, 8, 8, 8, 8, 8, 8, 8, 8, 8, 8, 8, 8, 8, 8, 8, 8, 8, 8, 8, 8, 8, 8, 8, 8, 8, 8, 8, 8, 8, 8, 8, 8, 8, 8, 8, 8, 8, 8, 8, 8, 8, 8, 8, 8, 8, 8, 8, 8, 8, 8, 8, 8, 8, 8, 8, 8, 8, 8, 8, 8, 8, 8, 8, 8, 8, 8, 8, 8, 8, 8, 8, 8, 8, 8, 8, 8, 8, 8, 8, 8, 8, 8, 8, 8, 8, 8, 8, 8, 8, 8, 8, 8, 8, 8, 8, 8, 8, 8, 8, 8, 8] }) t15_22) (fun t16_23 w =>
   opW Try.prog (convert 5 3 t16_23) (fun t17_24 w =>
   opW Try.prog (binS BinOp.add 3 (Operand.tmp 13) (Operand.tmp 17) (Value.int IntKind.i64 0) t17_24) (fun t18_25 w =>
   k t18_25 w) w) w) w) w)) w)) w
theorem S61_vc (x_1 : Value) (k : Value → World → Prop) (w : World) : vc Try.prog Try.f61.ntmps ann61 none ((Try.f61.body).getD Code.skip) 1 (params 0 [x_1]) [] (finQ Try.prog Try.f61.results.toList k) w = S61 x_1 k w := by kernel_rfl
theorem S61_calls (x_1 : Value) (k : Value → World → Prop) (w : World) (h : S61 x_1 k w) : Calls Try.prog 61 #[x_1] w (retP k) :=
  calls_of_vc (fn := Try.f61) (c := (Try.f61.body).getD Code.skip) ann61 Try.func61 (by kernel_rfl) [x_1] w k (by kernel_rfl) ((S61_vc x_1 k w).symm ▸ h)
theorem C61 (x_1 : Value) (k : Value → World → Prop) (w : World) (h : S61 x_1 k w) : callW Try.prog (.func (.func 61) #[] #[]) #[x_1] k w :=
  callW_calls ok61 (by simpa using S61_calls x_1 k w h)

/-! math/bits.Len64 -/
def ann62 : Ann := []
def S62 (x_1 : Value) (k : Value → World → Prop) (w : World) : Prop :=
   opW Try.prog (binS BinOp.geq 89 (Operand.tmp 3) (Operand.const (Value.int IntKind.u64 4294967296)) x_1 (Value.int IntKind.u64 4294967296)) (fun t4_2 w =>
   condW t4_2
   (opW Try.prog (binS BinOp.shr 89 (Operand.tmp 5) (Operand.const (Value.int IntKind.u64 32)) x_1 (Value.int IntKind.u64 32)) (fun t6_3 w =>
   opW Try.prog (binS BinOp.geq 89 (Operand.tmp 7) (Operand.const (Value.int IntKind.u64 65536)) t6_3 (Value.int IntKind.u64 65536)) (fun t8_4 w =>
   condW t8_4
   (opW Try.prog (binS BinOp.shr 89 (Operand.tmp 9) (Operand.const (Value.int IntKind.u64 16)) t6_3 (Value.int IntKind.u64 16)) (fun t10_5 w =>
   opW Try.prog (binS BinOp.add 3 (Operand.tmp 11) (Operand.const (Value.int IntKind.i64 16)) (Value.int IntKind.i64 32) (Value.int IntKind.i64 16)) (fun t12_6 w =>
   opW Try.prog (binS BinOp.geq 89 (Operand.tmp 13) (Operand.const (Value.int IntKind.u64 256)) t10_5 (Value.int IntKind.u64 256)) (fun t14_7 w =>
   condW t14_7
   (opW Try.prog (binS BinOp.shr 89 (Operand.tmp 15) (Operand.const (Value.int IntKind.u64 8)) t10_5 (Value.int IntKind.u64 8)) (fun t16_8 w =>
   opW Try.prog (binS BinOp.add 3 (Operand.tmp 17) (Operand.const (Value.int IntKind.i64 8)) t12_6 (Value.int IntKind.i64 8)) (fun t18_9 w =>
   opW Try.prog (convert 89 5 t16_8) (fun t21_10 w =>
   opW Try.prog (Instr.index 9 (Value.string { data := #[0, 1, 2, 2, 3, 3, 3, 3, 4, 4, 4, 4, 4, 4, 4, 4, 5, 5, 5, 5, 5, 5, 5, 5, 5, 5, 5, 5, 5, 5, 5, 5, 6, 6, 6, 6, 6, 6, 6, 6, 6, 6, 6, 6, 6, 6, 6, 6, 6, 6, 6, 6, 6, 6, 6, 6, 6, 6, 6, 6, 6, 6, 6, 6, 7, 7, 7, 7, 7, 7, 7, 7, 7, 7, 7, 7, 7, 7, 7, 7, 7, 7, 7, 7, 7, 7, 7, 7, 7, 7, 7, 7, 7, 7, 7, 7, 7, 7, 7, 7, 7, 7, 7, 7, 7, 7, 7, 7, 7, 7, 7, 7, 7, 7, 7, 7, 7, 7, 7, 7, 7, 7, 7, 7, 7, 7, 7, 7, 8, 8, 8, 8, 8, 8, 8, 8, 8, 8, 8, 8, 8, 8, 8, 8, 8, 8, 8, 8, 8, 8, 8, 8, 8, 8, 8, 8, 8, 8, 8, 8, 8, 8, 8, 8, 8, 8, 8, 8, 8, 8, 8, 8, 8, 8, 8, 8, 8, 8, 8, 8, 8, 8, 8, 8, 8, 8, 8, 8, 8, 8, 8, 8, 8, 8, 8, 8, 8, 8, 8, 8, 8, 8, 8, 8, 8, 8, 8, 8, 8, 8, 8, 8, 8, 8, 8, 8, 8, 8, 8, 8, 8, 8, 8, 8, 8, 8, 8, 8, 8, 8, 8, 8, 8, 8, 8, 8, 8, 8, 8, 8, 8, 8, 8, 8, 8, 8, 8, 8, 8, 8, 8, 8, 8, 8, 8, 8] }) t21_10) (fun t22_11 w =>
   opW Try.prog (convert 5 3 t22_11) (fun t23_12 w =>
   opW Try.prog (binS BinOp.add 3 (Operand.tmp 19) (Operand.tmp 23) t18_9 t23_12) (fun t24_13 w =>
   k t24_13 w) w) w) w) w) w) w)
   (opW Try.prog (convert 89 5 t10_5) (fun t21_14 w =>
   opW Try.prog (Instr.index 9 (Value.string { data := #[0, 1, 2, 2, 3, 3, 3, 3, 4, 4, 4, 4, 4, 4, 4, 4, 5, 5, 5, 5, 5, 5, 5, 5, 5, 5, 5, 5, 5, 5, 5, 5, 6, 6, 6, 6, 6, 6, 6, 6, 6, 6, 6, 6, 6, 6, 6, 6, 6, 6, 6, 6, 6, 6, 6, 6, 6, 6, 6, 6, 6, 6, 6, 6, 7, 7, 7, 7, 7, 7, 7, 7, 7, 7, 7, 7, 7, 7, 7, 7, 7, 7, 7, 7, 7, 7, 7, 7, 7, 7, 7, 7, 7, 7, 7, 7, 7, 7, 7, 7, 7, 7, 7, 7, 7, 7, 7, 7, 7, 7, 7, 7, 7, 7, 7, 7, 7, 7, 7, 7, 7, 7, 7, 7, 7, 7, 7, 7, 8, 8, 8, 8, 8, 8, 8, 8, 8, 8, 8, 8, 8, 8, 8, 8, 8, 8, 8, 8, 8, 8, 8, 8, 8, 8, 8, 8, 8, 8, 8, 8, 8, 8, 8, 8, 8, 8, 8, 8, 8, 8, 8, 8, 8, 8, 8, 8, 8, 8, 8, 8, 8, 8, 8, 8, 8, 8, 8, 8, 8, 8, 8, 8, 8, 8, 8, 8, 8, 8, 8, 8, 8, 8, 8, 8, 8, 8, 8, 8, 8, 8, 8, 8, 8, 8, 8, 8, 8, 8, 8, 8, 8, 8, 8, 8, 8, 8, 8, 8, 8, 8, 8, 8, 8, 8, 8, 8, 8, 8, 8, 8, 8, 8, 8, 8, 8, 8, 8, 8, 8, 8, 8, 8, 8, 8, 8, 8] }) t21_14) (fun t22_15 w =>
   opW Try.prog (convert 5 3 t22_15) (fun t23_16 w =>
   opW Try.prog (binS BinOp.add 3 (Operand.tmp 19) (Operand.tmp 23) t12_6 t23_16) (fun t24_17 w =>
   k t24_17 w) w) w) w) w)) w) w) w)
   (opW Try.prog (binS BinOp.geq 89 (Operand.tmp 13) (Operand.const (Value.int IntKind.u64 256)) t6_3 (Value.int IntKind.u64 256)) (fun t14_18 w =>
   condW t14_18
   (opW Try.prog (binS BinOp.shr 89 (Operand.tmp 15) (Operand.const (Value.int IntKind.u64 8)) t6_3 (Value.int IntKind.u64 8)) (fun t16_19 w =>
   opW Try.prog (binS BinOp.add 3 (Operand.tmp 17) (Operand.const (Value.int IntKind.i64 8)) (Value.int IntKind.i64 32) (Value.int IntKind.i64 8)) (fun t18_20 w =>
   opW Try.prog (convert 89 5 t16_19) (fun t21_21 w =>
   opW Try.prog (Instr.index 9 (Value.string { data := #[0, 1, 2, 2, 3, 3, 3, 3, 4, 4, 4, 4, 4, 4, 4, 4, 5, 5, 5, 5, 5, 5, 5, 5, 5, 5, 5, 5, 5, 5, 5, 5, 6, 6, 6, 6, 6, 6, 6, 6, 6, 6, 6, 6, 6, 6, 6, 6, 6, 6, 6, 6, 6, 6, 6, 6, 6, 6, 6, 6, 6, 6, 6, 6, 7, 7, 7, 7, 7, 7, 7, 7, 7, 7, 7, 7, 7, 7, 7, 7, 7, 7, 7, 7, 7, 7, 7, 7, 7, 7, 7, 7, 7, 7, 7, 7, 7, 7, 7, 7, 7, 7, 7, 7, 7, 7, 7, 7, 7, 7, 7, 7, 7, 7, 7, 7, 7, 7, 7, 7, 7, 7, 7, 7, 7, 7, 7, 7, 8, 8, 8, 8, 8, 8, 8, 8, 8, 8, 8, 8, 8, 8, 8, 8, 8, 8, 8, 8, 8, 8, 8, 8, 8, 8, 8, 8, 8, 8, 8, 8, 8, 8, 8, 8, 8, 8, 8, 8, 8, 8, 8, 8, 8, 8, 8, 8, 8, 8, 8, 8, 8, 8, 8, 8, 8, 8, 8, 8, 8, 8, 8, 8, 8, 8, 8, 8, 8, 8, 8, 8, 8, 8, 8, 8, 8, 8, 8, 8, 8, 8, 8, 8, 8, 8, 8, 8, 8, 8, 8, 8, 8, 8, 8, 8, 8, 8, 8, 8, 8, 8, 8, 8, 8, 8, 8, 8, 8, 8, 8, 8, 8, 8, 8, 8, 8, 8, 8, 8, 8, 8, 8, 8, 8, 8, 8, 8] }) t21_21) (fun t22_22 w =>
   opW Try.prog (convert 5 3 t22_22) (fun t23_23 w =>
   opW Try.prog (binS BinOp.add 3 (Operand.tmp 19) (Operand.tmp 23) t18_20 t23_23) (fun t24_24 w =>
   k t24_24 w) w) w) w) w) w) w)
   (opW Try.prog (convert 89 5 t6_3) (fun t21_25 w =>
   opW Try.prog (Instr.index 9 (Value.string { data := #[0, 1, 2, 2, 3, 3, 3, 3, 4, 4, 4, 4, 4, 4, 4, 4, 5, 5, 5, 5, 5, 5, 5, 5, 5, 5, 5, 5, 5, 5, 5, 5, 6, 6, 6, 6, 6, 6, 6, 6, 6, 6, 6, 6, 6, 6, 6, 6, 6, 6, 6, 6, 6, 6, 6, 6, 6, 6, 6, 6, 6, 6, 6, 6, 7, 7, 7, 7, 7, 7, 7, 7, 7, 7, 7, 7, 7, 7, 7, 7, 7, 7, 7, 7, 7, 7, 7, 7, 7, 7, 7, 7, 7, 7, 7, 7, 7, 7, 7, 7, 7, 7, 7, 7, 7, 7, 7, 7, 7, 7, 7, 7, 7, 7, 7, 7, 7, 7, 7, 7, 7, 7, 7, 7, 7, 7, 7, 7, 8, 8, 8, 8, 8, 8, 8, 8, 8, 8, 8, 8, 8, 8, 8, 8, 8, 8, 8, 8, 8, 8, 8, 8, 8, 8, 8, 8, 8, 8, 8, 8, 8, 8, 8, 8, 8, 8, 8, 8, 8, 8, 8, 8, 8, 8, 8, 8, 8, 8, 8, 8, 8, 8, 8, 8, 8, 8, 8, 8, 8, 8, 8, 8, 8, 8, 8, 8, 8, 8, 8, 8, 8, 8, 8, 8, 8, 8, 8, 8, 8, 8, 8, 8, 8, 8, 8, 8, 8, 8, 8, 8, 8, 8, 8, 8, 8, 8, 8, 8, 8, 8, 8, 8, 8, 8, 8, 8, 8, 8, 8, 8, 8, 8, 8, 8, 8, 8, 8, 8, 8, 8, 8, 8, 8, 8, 8, 8] }) t21_25) (fun t22_26 w =>
   opW Try.prog (convert 5 3 t22_26) (fun t23_27 w =>
   opW Try.prog (binS BinOp.add 3 (Operand.tmp 19) (Operand.tmp 23) (Value.int IntKind.i64 32) t23_27) (fun t24_28 w =>
   k t24_28 w) w) w) w) w)) w)) w) w)
   (opW Try.prog (binS BinOp.geq 89 (Operand.tmp 7) (Operand.const (Value.int IntKind.u64 65536)) x_1 (Value.int IntKind.u64 65536)) (fun t8_29 w =>
   condW t8_29
   (opW Try.prog (binS BinOp.shr 89 (Operand.tmp 9) (Operand.const (Value.int IntKind.u64 16)) x_1 (Value.int IntKind.u64 16)) (fun t10_30 w =>
   opW Try.prog (binS BinOp.add 3 (Operand.tmp 11) (Operand.const (Value.int IntKind.i64 16)) (Value.int IntKind.i64 0) (Value.int IntKind.i64 16)) (fun t12_31 w =>
   opW Try.prog (binS BinOp.geq 89 (Operand.tmp 13) (Operand.const (Value.int IntKind.u64 256)) t10_30 (Value.int IntKind.u64 256)) (fun t14_32 w =>
   condW t14_32
   (opW Try.prog (binS BinOp.shr 89 (Operand.tmp 15) (Operand.const (Value.int IntKind.u64 8)) t10_30 (Value.int IntKind.u64 8)) (fun t16_33 w =>
   opW Try.prog (binS BinOp.add 3 (Operand.tmp 17) (Operand.const (Value.int IntKind.i64 8)) t12_31 (Value.int IntKind.i64 8)) (fun t18_34 w =>
   opW Try.prog (convert 89 5 t16_33) (fun t21_35 w =>
   opW Try.prog (Instr.index 9 (Value.string { data := #[0, 1, 2, 2, 3, 3, 3, 3, 4, 4, 4, 4, 4, 4, 4, 4, 5, 5, 5, 5, 5, 5, 5, 5, 5, 5, 5, 5, 5, 5, 5, 5, 6, 6, 6, 6, 6, 6, 6, 6, 6, 6, 6, 6, 6, 6, 6, 6, 6, 6, 6, 6, 6, 6, 6, 6, 6, 6, 6, 6, 6, 6, 6, 6, 7, 7, 7, 7, 7, 7, 7, 7, 7, 7, 7, 7, 7, 7, 7, 7, 7, 7, 7, 7, 7, 7, 7, 7, 7, 7, 7, 7, 7, 7, 7, 7, 7, 7, 7, 7, 7, 7, 7, 7, 7, 7, 7, 7, 7, 7, 7, 7, 7, 7, 7, 7, 7, 7, 7, 7, 7, 7, 7, 7, 7, 7, 7, 7, 8, 8, 8, 8, 8, 8, 8, 8, 8, 8, 8, 8, 8, 8, 8, 8, 8, 8, 8, 8, 8, 8, 8, 8, 8, 8, 8, 8, 8, 8, 8, 8, 8, 8, 8, 8, 8, 8, 8, 8, 8, 8, 8, 8, 8, 8, 8, 8, 8, 8, 8, 8, 8, 8, 8, 8, 8, 8, 8, 8, 8, 8, 8, 8, 8, 8, 8, 8, 8, 8, 8, 8, 8, 8, 8, 8, 8, 8, 8, 8, 8, 8, 8, 8, 8, 8, 8, 8, 8, 8, 8, 8, 8, 8, 8, 8, 8, 8, 8, 8, 8, 8, 8, 8, 8, 8, 8, 8, 8, 8, 8, 8, 8, 8, 8, 8, 8, 8, 8, 8, 8, 8, 8, 8, 8, 8, 8, 8] }) t21_35) (fun t22_36 w =>
   opW Try.prog (convert 5 3 t22_36) (fun t23_37 w =>
   opW Try.prog (binS BinOp.add 3 (Operand.tmp 19) (Operand.tmp 23) t18_34 t23_37) (fun t24_38 w =>
   k t24_38 w) w) w) w) w) w) w)
   (opW Try.prog (convert 89 5 t10_30) (fun t21_39 w =>
   opW Try.prog (Instr.index 9 (Value.string { data := #[0, 1, 2, 2, 3, 3, 3, 3, 4, 4, 4, 4, 4, 4, 4, 4, 5, 5, 5, 5, 5, 5, 5, 5, 5, 5, 5, 5, 5, 5, 5, 5, 6, 6, 6, 6, 6, 6, 6, 6, 6, 6, 6, 6, 6, 6, 6, 6, 6, 6, 6, 6, 6, 6, 6, 6, 6, 6, 6, 6, 6, 6, 6, 6, 7, 7, 7, 7, 7, 7, 7, 7, 7, 7, 7, 7, 7, 7, 7, 7, 7, 7, 7, 7, 7, 7, 7, 7, 7, 7, 7, 7, 7, 7, 7, 7, 7, 7, 7, 7, 7, 7, 7, 7, 7, 7, 7, 7, 7, 7, 7, 7, 7, 7, 7, 7, 7, 7, 7, 7, 7, 7, 7, 7, 7, 7, 7, 7, 8, 8, 8, 8, 8, 8, 8, 8, 8, 8, 8, 8, 8, 8, 8, 8, 8, 8, 8, 8, 8, 8, 8, 8, 8, 8, 8, 8, 8, 8, 8, 8, 8, 8, 8, 8, 8, 8, 8, 8, 8, 8, 8, 8, 8, 8, 8, 8, 8, 8, 8, 8, 8, 8, 8, 8, 8, 8, 8, 8, 8, 8, 8, 8, 8, 8, 8, 8, 8, 8, 8, 8, 8, 8, 8, 8, 8, 8, 8, 8, 8, 8, 8, 8, 8, 8, 8, 8, 8, 8, 8, 8, 8, 8, 8, 8, 8, 8, 8, 8, 8, 8, 8, 8, 8, 8, 8, 8, 8, 8, 8, 8, 8, 8, 8, 8, 8, 8, 8, 8, 8, 8, 8, 8, 8, 8, 8, 8] }) t21_39) (fun t22_40 w =>
   opW Try.prog (convert 5 3 t22_40) (fun t23_41 w =>
   opW Try.prog (binS BinOp.add 3 (Operand.tmp 19) (Operand.tmp 23) t12_31 t23_41) (fun t24_42 w =>
   k t24_42 w) w) w) w) w)) w) w) w)
   (opW Try.prog (binS BinOp.geq 89 (Operand.tmp 13) (Operand.const (Value.int IntKind.u64 256)) x_1 (Value.int IntKind.u64 256)) (fun t14_43 w =>
   condW t14_43
   (opW Try.prog (binS BinOp.shr 89 (Operand.tmp 15) (Operand.const (Value.int IntKind.u64 8)) x_1 (Value.int IntKind.u64 8)) (fun t16_44 w =>
   opW Try.prog (binS BinOp.add 3 (Operand.tmp 17) (Operand.const (Value.int IntKind.i64 8)) (Value.int IntKind.i64 0) (Value.int IntKind.i64 8)) (fun t18_45 w =>
   opW Try.prog (convert 89 5 t16_44) (fun t21_46 w =>
   opW Try.prog (Instr.index 9 (Value.string { data := #[0, 1, 2, 2, 3, 3, 3, 3, 4, 4, 4, 4, 4, 4, 4, 4, 5, 5, 5, 5, 5, 5, 5, 5, 5, 5, 5, 5, 5, 5, 5, 5, 6, 6, 6, 6, 6, 6, 6, 6, 6, 6, 6, 6, 6, 6, 6, 6, 6, 6, 6, 6, 6, 6, 6, 6, 6, 6, 6, 6, 6, 6, 6, 6, 7, 7, 7, 7, 7, 7, 7, 7, 7, 7, 7, 7, 7, 7, 7, 7, 7, 7, 7, 7, 7, 7, 7, 7, 7, 7, 7, 7, 7, 7, 7, 7, 7, 7, 7, 7, 7, 7, 7, 7, 7, 7, 7, 7, 7, 7, 7, 7, 7, 7, 7, 7, 7, 7, 7, 7, 7, 7, 7, 7, 7, 7, 7, 7, 8, 8, 8, 8, 8, 8, 8, 8, 8, 8, 8, 8, 8, 8, 8, 8, 8, 8, 8, 8, 8, 8, 8, 8, 8, 8, 8, 8, 8, 8, 8, 8, 8, 8, 8, 8, 8, 8, 8, 8, 8, 8, 8, 8, 8, 8, 8, 8, 8, 8, 8, 8, 8, 8, 8, 8, 8, 8, 8, 8, 8, 8, 8, 8, 8, 8, 8, 8, 8, 8, 8, 8, 8, 8, 8, 8, 8, 8, 8, 8, 8, 8, 8, 8, 8, 8, 8, 8, 8, 8, 8, 8, 8, 8, 8, 8, 8, 8, 8, 8, 8, 8, 8, 8, 8, 8, 8, 8, 8, 8, 8, 8, 8, 8, 8, 8, 8, 8, 8, 8, 8, 8, 8, 8, 8, 8, 8, 8] }) t21_46) (fun t22_47 w =>
   opW Try.prog (convert 5 3 t22_47) (fun t23_48 w =>
   opW Try.prog (binS BinOp.add 3 (Operand.tmp 19) (Operand.tmp 23) t18_45 t23_48) (fun t24_49 w =>
   k t24_49 w) w) w) w) w) w) w)
   (opW Try.prog (convert 89 5 x_1) (fun t21_50 w =>
   opW Try.prog (Instr.index 9 (Value.string { data := #[0, 1, 2, 2, 3, 3, 3, 3, 4, 4, 4, 4, 4, 4, 4, 4, 5, 5, 5, 5, 5, 5, 5, 5, 5, 5, 5, 5, 5, 5, 5, 5, 6, 6, 6, 6, 6, 6, 6, 6, 6, 6, 6, 6, 6, 6, 6, 6, 6, 6, 6, 6, 6, 6, 6, 6, 6, 6, 6, 6, 6, 6, 6, 6, 7, 7, 7, 7, 7, 7, 7, 7, 7, 7, 7, 7, 7, 7, 7, 7, 7, 7, 7, 7, 7, 7, 7, 7, 7, 7, 7, 7, 7, 7, 7, 7, 7, 7, 7, 7, 7, 7, 7, 7, 7, 7, 7, 7, 7, 7, 7, 7, 7, 7, 7, 7, 7, 7, 7, 7, 7, 7, 7, 7, 7, 7, 7, 7, 8, 8, 8, 8, 8, 8, 8, 8, 8, 8, 8, 8, 8, 8, 8, 8, 8, 8, 8, 8, 8, 8, 8, 8, 8, 8, 8, 8, 8, 8, 8, 8, 8, 8, 8, 8, 8, 8, 8, 8, 8, 8, 8, 8, 8, 8, 8, 8, 8, 8, 8, 8, 8, 8, 8, 8, 8, 8, 8, 8, 8, 8, 8, 8, 8, 8, 8, 8, 8, 8, 8, 8, 8, 8, 8, 8, 8, 8, 8, 8, 8, 8, 8, 8, 8, 8, 8, 8, 8, 8, 8, 8, 8, 8, 8, 8, 8, 8, 8, 8, 8, 8, 8, 8, 8, 8, 8, 8, 8, 8, 8, 8, 8, 8, 8, 8, 8, 8, 8, 8, 8, 8, 8, 8, 8, 8, 8, 8] }) t21_50) (fun t22_51 w =>
   opW Try.prog (convert 5 3 t22_51) (fun t23_52 w =>
   opW Try.prog (binS BinOp.add 3 (Operand.tmp 19) (Operand.tmp 23) (Value.int IntKind.i64 0) t23_52) (fun t24_53 w =>
   k t24_53 w) w) w) w) w)) w)) w)) w
theorem S62_vc (x_1 : Value) (k : Value → World → Prop) (w : World) : vc Try.prog Try.f62.ntmps ann62 none ((Try.f62.body).getD Code.skip) 1 (params 0 [x_1]) [] (finQ Try.prog Try.f62.results.toList k) w = S62 x_1 k w := by kernel_rfl
theorem S62_calls (x_1 : Value) (k : Value → World → Prop) (w : World) (h : S62 x_1 k w) : Calls Try.prog 62 #[x_1] w (retP k) :=
  calls_of_vc (fn := Try.f62) (c := (Try.f62.body).getD Code.skip) ann62 Try.func62 (by kernel_rfl) [x_1] w k (by kernel_rfl) ((S62_vc x_1 k w).symm ▸ h)
theorem C62 (x_1 : Value) (k : Value → World → Prop) (w : World) (h : S62 x_1 k w) : callW Try.prog (.func (.func 62) #[] #[]) #[x_1] k w :=
  callW_calls ok62 (by simpa using S62_calls x_1 k w h)

/-! slices.siftDownCmpFunc[int] -/
def ann63 : Ann := [(3, Note.keep []), (6, Note.loop [10] [0, 2, 3, 4]), (12, Note.keep [0, 2, 3, 4, 10]), (396, Note.plan (Plan.takeP 0 (Plan.takeP 1 (Plan.takeP 2 (Plan.takeP 3 (Plan.takeP 4 (Plan.takeP 5 (Plan.takeP 6 (Plan.takeP 7 (Plan.takeP 8 (Plan.takeP 9 (Plan.takeP 10 (Plan.takeX 11 (Plan.takeP 12 (Plan.takeP 13 (Plan.takeP 14 (Plan.takeP 15 (Plan.takeP 16 (Plan.takeP 17 (Plan.takeX 18 (Plan.run 19 (Plan.takeP 20 (Plan.takeP 21 Plan.done))))))))))))))))))))))), (796, Note.plan (Plan.takeP 0 (Plan.takeP 1 (Plan.takeP 2 (Plan.takeP 3 (Plan.takeP 4 (Plan.takeP 5 (Plan.takeX 6 (Plan.takeP 7 (Plan.takeP 8 (Plan.takeP 9 (Plan.takeP 10 (Plan.takeP 11 (Plan.takeX 12 (Plan.run 13 (Plan.takeP 14 (Plan.takeP 15 Plan.done))))))))))))))))), (798, Note.plan (Plan.takeP 0 (Plan.takeP 1 (Plan.takeP 2 (Plan.takeP 3 (Plan.takeP 4 (Plan.takeP 5 (Plan.takeP 6 (Plan.takeP 7 (Plan.takeP 8 (Plan.takeP 9 (Plan.takeP 10 (Plan.takeP 11 (Plan.takeP 12 (Plan.takeX 13 (Plan.takeP 14 (Plan.takeP 15 (Plan.takeP 16 (Plan.takeP 17 (Plan.takeP 18 (Plan.takeX 19 (Plan.takeP 20 (Plan.run 21 (Plan.takeP 22 (Plan.run 23 Plan.done)))))))))))))))))))))))))]
def S63 (data_1 lo_2 hi_3 first_4 cmp_5 : Value) (k : Value → World → Prop) (w : World) : Prop :=
   Loop1 (fun root_7 w K_8 =>
   joinW (fun root_76 w =>
   loopK [] [] [data_1, hi_3, first_4, cmp_5] [data_1, hi_3, first_4, cmp_5] (K_8 root_76 w)) (fun J_9 =>
   opW Try.prog (binS BinOp.mul 3 (Operand.const (Value.int IntKind.i64 2)) (Operand.tmp 13) (Value.int IntKind.i64 2) root_7) (fun t14_10 w =>
   opW Try.prog (binS BinOp.add 3 (Operand.tmp 14) (Operand.const (Value.int IntKind.i64 1)) t14_10 (Value.int IntKind.i64 1)) (fun t15_11 w =>
   opW Try.prog (binS BinOp.geq 3 (Operand.tmp 16) (Operand.tmp 17) t15_11 hi_3) (fun t18_12 w =>
   condW t18_12
   (k (Value.tuple #[]) w)
   (drewW w (fun w =>
   takeW Try.prog anyW (binS BinOp.add 3 (Operand.tmp 19) (Operand.const (Value.int IntKind.i64 1)) t15_11 (Value.int IntKind.i64 1)) (fun t20_14 =>
   takeW Try.prog anyW (binS BinOp.lss 3 (Operand.tmp 20) (Operand.tmp 21) t20_14 hi_3) (fun t22_15 =>
   guardT (some t22_15, true) (fun k => k cmp_5) (fun t24_16 =>
   guardT (some t22_15, true) (fun k => k data_1) (fun t25_17 =>
   guardT (some t22_15, true) (fun k => k first_4) (fun t26_18 =>
   guardT (some t22_15, true) (fun k => k t15_11) (fun t27_19 =>
   guardT (some t22_15, true) (fun k => takeW Try.prog anyW (binS BinOp.add 3 (Operand.tmp 26) (Operand.tmp 27) t26_18 t27_19) k w) (fun t28_20 =>
   guardT (some t22_15, true) (fun k => takeW Try.prog anyW (Instr.indexAt 26 t25_17 t28_20) k w) (fun t29_21 =>
   guardT (some t22_15, true) (fun k => takeW Try.prog (sameW w) (Instr.loadAt 3 t29_21) k w) (fun t30_22 =>
   guardT (some t22_15, true) (fun k => k data_1) (fun t31_23 =>
   guardT (some t22_15, true) (fun k => k first_4) (fun t32_24 =>
   guardT (some t22_15, true) (fun k => k t15_11) (fun t33_25 =>
   guardT (some t22_15, true) (fun k => takeW Try.prog anyW (binS BinOp.add 3 (Operand.tmp 32) (Operand.tmp 33) t32_24 t33_25) k w) (fun t34_26 =>
   guardT (some t22_15, true) (fun k => takeW Try.prog anyW (binS BinOp.add 3 (Operand.tmp 34) (Operand.const (Value.int IntKind.i64 1)) t34_26 (Value.int IntKind.i64 1)) k w) (fun t35_27 =>
   guardT (some t22_15, true) (fun k => takeW Try.prog anyW (Instr.indexAt 26 t31_23 t35_27) k w) (fun t36_28 =>
   guardT (some t22_15, true) (fun k => takeW Try.prog (sameW w) (Instr.loadAt 3 t36_28) k w) (fun t37_29 =>
   guardW (some t22_15, true) (fun k w => callW Try.prog t24_16 #[t30_22, t37_29] k w) (fun t38_30 w =>
   guardT (some t22_15, true) (fun k => takeW Try.prog anyW (binS BinOp.lss 3 (Operand.tmp 38) (Operand.const (Value.int IntKind.i64 0)) t38_30 (Value.int IntKind.i64 0)) k w) (fun t39_31 =>
   pickT t22_15 t39_31 (Value.bool false) (fun t40_32 =>
   condW t40_32
   (opW Try.prog (binS BinOp.add 3 (Operand.tmp 41) (Operand.const (Value.int IntKind.i64 1)) t15_11 (Value.int IntKind.i64 1)) (fun t42_33 w =>
   drewW w (fun w =>
   takeW Try.prog anyW (binS BinOp.add 3 (Operand.tmp 45) (Operand.tmp 46) first_4 root_7) (fun t47_35 =>
   takeW Try.prog anyW (Instr.indexAt 26 data_1 t47_35) (fun t48_36 =>
   takeW Try.prog (sameW w) (Instr.loadAt 3 t48_36) (fun t49_37 =>
   takeW Try.prog anyW (binS BinOp.add 3 (Operand.tmp 51) (Operand.tmp 52) first_4 t42_33) (fun t53_38 =>
   takeW Try.prog anyW (Instr.indexAt 26 data_1 t53_38) (fun t54_39 =>
   takeW Try.prog (sameW w) (Instr.loadAt 3 t54_39) (fun t55_40 =>
   callW Try.prog cmp_5 #[t49_37, t55_40] (fun t56_41 w =>
   takeW Try.prog anyW (binS BinOp.lss 3 (Operand.tmp 56) (Operand.const (Value.int IntKind.i64 0)) t56_41 (Value.int IntKind.i64 0)) (fun t57_42 =>
   takeW Try.prog anyW (Op.unary UnOp.not t57_42) (fun t58_43 =>
   condW t58_43
   (k (Value.tuple #[]) w)
   (drewW w (fun w =>
   takeW Try.prog anyW (binS BinOp.add 3 (Operand.tmp 60) (Operand.tmp 61) first_4 root_7) (fun t62_45 =>
   takeW Try.prog anyW (binS BinOp.add 3 (Operand.tmp 64) (Operand.tmp 65) first_4 t42_33) (fun t66_46 =>
   takeW Try.prog anyW (binS BinOp.add 3 (Operand.tmp 68) (Operand.tmp 69) first_4 t42_33) (fun t70_47 =>
   takeW Try.prog anyW (Instr.indexAt 26 data_1 t70_47) (fun t71_48 =>
   takeW Try.prog (sameW w) (Instr.loadAt 3 t71_48) (fun t72_49 =>
   takeW Try.prog anyW (binS BinOp.add 3 (Operand.tmp 74) (Operand.tmp 75) first_4 root_7) (fun t76_50 =>
   takeW Try.prog anyW (Instr.indexAt 26 data_1 t76_50) (fun t77_51 =>
   takeW Try.prog (sameW w) (Instr.loadAt 3 t77_51) (fun t78_52 =>
   takeW Try.prog anyW (Instr.indexAt 26 data_1 t62_45) (fun t79_53 =>
   opU Try.prog (Instr.storeAt 3 t79_53 t72_49) (fun _ w =>
   takeW Try.prog anyW (Instr.indexAt 26 data_1 t66_46) (fun t80_54 =>
   opU Try.prog (Instr.storeAt 3 t80_54 t78_52) (fun _ w =>
   J_9 t42_33 w) w) w) w) w) w) w) w) w) w) w) w) w))) w) w) w) w) w) w) w) w) w)) w)
   (drewW w (fun w =>
   takeW Try.prog anyW (binS BinOp.add 3 (Operand.tmp 45) (Operand.tmp 46) first_4 root_7) (fun t47_56 =>
   takeW Try.prog anyW (Instr.indexAt 26 data_1 t47_56) (fun t48_57 =>
   takeW Try.prog (sameW w) (Instr.loadAt 3 t48_57) (fun t49_58 =>
   takeW Try.prog anyW (binS BinOp.add 3 (Operand.tmp 51) (Operand.tmp 52) first_4 t15_11) (fun t53_59 =>
   takeW Try.prog anyW (Instr.indexAt 26 data_1 t53_59) (fun t54_60 =>
   takeW Try.prog (sameW w) (Instr.loadAt 3 t54_60) (fun t55_61 =>
   callW Try.prog cmp_5 #[t49_58, t55_61] (fun t56_62 w =>
   takeW Try.prog anyW (binS BinOp.lss 3 (Operand.tmp 56) (Operand.const (Value.int IntKind.i64 0)) t56_62 (Value.int IntKind.i64 0)) (fun t57_63 =>
   takeW Try.prog anyW (Op.unary UnOp.not t57_63) (fun t58_64 =>
   condW t58_64
   (k (Value.tuple #[]) w)
   (drewW w (fun w =>
   takeW Try.prog anyW (binS BinOp.add 3 (Operand.tmp 60) (Operand.tmp 61) first_4 root_7) (fun t62_66 =>
   takeW Try.prog anyW (binS BinOp.add 3 (Operand.tmp 64) (Operand.tmp 65) first_4 t15_11) (fun t66_67 =>
   takeW Try.prog anyW (binS BinOp.add 3 (Operand.tmp 68) (Operand.tmp 69) first_4 t15_11) (fun t70_68 =>
   takeW Try.prog anyW (Instr.indexAt 26 data_1 t70_68) (fun t71_69 =>
   takeW Try.prog (sameW w) (Instr.loadAt 3 t71_69) (fun t72_70 =>
   takeW Try.prog anyW (binS BinOp.add 3 (Operand.tmp 74) (Operand.tmp 75) first_4 root_7) (fun t76_71 =>
   takeW Try.prog anyW (Instr.indexAt 26 data_1 t76_71) (fun t77_72 =>
   takeW Try.prog (sameW w) (Instr.loadAt 3 t77_72) (fun t78_73 =>
   takeW Try.prog anyW (Instr.indexAt 26 data_1 t62_66) (fun t79_74 =>
   opU Try.prog (Instr.storeAt 3 t79_74 t72_70) (fun _ w =>
   takeW Try.prog anyW (Instr.indexAt 26 data_1 t66_67) (fun t80_75 =>
   opU Try.prog (Instr.storeAt 3 t80_75 t78_73) (fun _ w =>
   J_9 t15_11 w) w) w) w) w) w) w) w) w) w) w) w) w))) w) w) w) w) w) w) w) w) w))))) w))))))))))))))) w) w))) w) w) w)) lo_2 w
theorem S63_vc (data_1 lo_2 hi_3 first_4 cmp_5 : Value) (k : Value → World → Prop) (w : World) : vc Try.prog Try.f63.ntmps ann63 none ((Try.f63.body).getD Code.skip) 1 (params 0 [data_1, lo_2, hi_3, first_4, cmp_5]) [] (finQ Try.prog Try.f63.results.toList k) w = S63 data_1 lo_2 hi_3 first_4 cmp_5 k w := by kernel_rfl
theorem S63_calls (data_1 lo_2 hi_3 first_4 cmp_5 : Value) (k : Value → World → Prop) (w : World) (h : S63 data_1 lo_2 hi_3 first_4 cmp_5 k w) : Calls Try.prog 63 #[data_1, lo_2, hi_3, first_4, cmp_5] w (retP k) :=
  calls_of_vc (fn := Try.f63) (c := (Try.f63.body).getD Code.skip) ann63 Try.func63 (by kernel_rfl) [data_1, lo_2, hi_3, first_4, cmp_5] w k (by kernel_rfl) ((S63_vc data_1 lo_2 hi_3 first_4 cmp_5 k w).symm ▸ h)
theorem C63 (data_1 lo_2 hi_3 first_4 cmp_5 : Value) (k : Value → World → Prop) (w : World) (h : S63 data_1 lo_2 hi_3 first_4 cmp_5 k w) : callW Try.prog (.func (.func 63) #[] #[]) #[data_1, lo_2, hi_3, first_4, cmp_5] k w :=
  callW_calls ok63 (by simpa using S63_calls data_1 lo_2 hi_3 first_4 cmp_5 k w h)

/-! slices.nextPowerOfTwo -/
def ann64 : Ann := []
def S64 (length_1 : Value) (k : Value → World → Prop) (w : World) : Prop :=
   opW Try.prog (convert 3 74 length_1) (fun t4_2 w =>
   callW Try.prog (Value.func (Fn.func 52) #[] #[]) #[t4_2] (fun t5_3 w =>
   opW Try.prog (binS BinOp.shl 74 (Operand.const (Value.int IntKind.u64 1)) (Operand.tmp 5) (Value.int IntKind.u64 1) t5_3) (fun t6_4 w =>
   k t6_4 w) w) w) w
theorem S64_vc (length_1 : Value) (k : Value → World → Prop) (w : World) : vc Try.prog Try.f64.ntmps ann64 none ((Try.f64.body).getD Code.skip) 1 (params 0 [length_1]) [] (finQ Try.prog Try.f64.results.toList k) w = S64 length_1 k w := by kernel_rfl
theorem S64_calls (length_1 : Value) (k : Value → World → Prop) (w : World) (h : S64 length_1 k w) : Calls Try.prog 64 #[length_1] w (retP k) :=
  calls_of_vc (fn := Try.f64) (c := (Try.f64.body).getD Code.skip) ann64 Try.func64 (by kernel_rfl) [length_1] w k (by kernel_rfl) ((S64_vc length_1 k w).symm ▸ h)
theorem C64 (length_1 : Value) (k : Value → World → Prop) (w : World) (h : S64 length_1 k w) : callW Try.prog (.func (.func 64) #[] #[]) #[length_1] k w :=
  callW_calls ok64 (by simpa using S64_calls length_1 k w h)

/-! (*slices.xorshift).Next -/
def ann65 : Ann := [(6, Note.plan (Plan.takeP 0 (Plan.takeP 1 (Plan.takeX 2 (Plan.takeP 3 (Plan.takeP 4 (Plan.takeX 5 (Plan.takeP 6 (Plan.takeP 7 (Plan.takeP 8 (Plan.run 9 Plan.done))))))))))), (14, Note.plan (Plan.takeP 0 (Plan.takeP 1 (Plan.takeX 2 (Plan.takeP 3 (Plan.takeP 4 (Plan.takeX 5 (Plan.takeP 6 (Plan.takeP 7 (Plan.takeP 8 (Plan.run 9 Plan.done))))))))))), (30, Note.plan (Plan.takeP 0 (Plan.takeP 1 (Plan.takeX 2 (Plan.takeP 3 (Plan.takeP 4 (Plan.takeX 5 (Plan.takeP 6 (Plan.takeP 7 (Plan.takeP 8 (Plan.run 9 Plan.done)))))))))))]
def S65 (r_1 : Value) (k : Value → World → Prop) (w : World) : Prop :=
   drewW w (fun w =>
   nilT r_1 (fun t4_3 =>
   takeW Try.prog (sameW w) (Instr.loadAt 90 t4_3) (fun t5_4 =>
   nilT r_1 (fun t7_5 =>
   takeW Try.prog (sameW w) (Instr.loadAt 90 t7_5) (fun t8_6 =>
   takeW Try.prog anyW (binS BinOp.shl 90 (Operand.tmp 8) (Operand.const (Value.int IntKind.u64 13)) t8_6 (Value.int IntKind.u64 13)) (fun t9_7 =>
   takeW Try.prog anyW (binS BinOp.xor 90 (Operand.tmp 5) (Operand.tmp 9) t5_4 t9_7) (fun t10_8 =>
   nilT r_1 (fun t11_9 =>
   opU Try.prog (Instr.storeAt 90 t11_9 t10_8) (fun _ w =>
   drewW w (fun w =>
   nilT r_1 (fun t13_11 =>
   takeW Try.prog (sameW w) (Instr.loadAt 90 t13_11) (fun t14_12 =>
   nilT r_1 (fun t16_13 =>
   takeW Try.prog (sameW w) (Instr.loadAt 90 t16_13) (fun t17_14 =>
   takeW Try.prog anyW (binS BinOp.shr 90 (Operand.tmp 17) (Operand.const (Value.int IntKind.u64 7)) t17_14 (Value.int IntKind.u64 7)) (fun t18_15 =>
   takeW Try.prog anyW (binS BinOp.xor 90 (Operand.tmp 14) (Operand.tmp 18) t14_12 t18_15) (fun t19_16 =>
   nilT r_1 (fun t20_17 =>
   opU Try.prog (Instr.storeAt 90 t20_17 t19_16) (fun _ w =>
   drewW w (fun w =>
   nilT r_1 (fun t22_19 =>
   takeW Try.prog (sameW w) (Instr.loadAt 90 t22_19) (fun t23_20 =>
   nilT r_1 (fun t25_21 =>
   takeW Try.prog (sameW w) (Instr.loadAt 90 t25_21) (fun t26_22 =>
   takeW Try.prog anyW (binS BinOp.shl 90 (Operand.tmp 26) (Operand.const (Value.int IntKind.u64 17)) t26_22 (Value.int IntKind.u64 17)) (fun t27_23 =>
   takeW Try.prog anyW (binS BinOp.xor 90 (Operand.tmp 23) (Operand.tmp 27) t23_20 t27_23) (fun t28_24 =>
   nilT r_1 (fun t29_25 =>
   opU Try.prog (Instr.storeAt 90 t29_25 t28_24) (fun _ w =>
   nilW r_1 (fun t31_26 w =>
   opW Try.prog (Instr.loadAt 90 t31_26) (fun t32_27 w =>
   k t32_27 w) w) w) w)) w) w) w)) w))) w)) w) w) w)) w))) w)) w) w) w)) w))
theorem S65_vc (r_1 : Value) (k : Value → World → Prop) (w : World) : vc Try.prog Try.f65.ntmps ann65 none ((Try.f65.body).getD Code.skip) 1 (params 0 [r_1]) [] (finQ Try.prog Try.f65.results.toList k) w = S65 r_1 k w := by kernel_rfl
theorem S65_calls (r_1 : Value) (k : Value → World → Prop) (w : World) (h : S65 r_1 k w) : Calls Try.prog 65 #[r_1] w (retP k) :=
  calls_of_vc (fn := Try.f65) (c := (Try.f65.body).getD Code.skip) ann65 Try.func65 (by kernel_rfl) [r_1] w k (by kernel_rfl) ((S65_vc r_1 k w).symm ▸ h)
theorem C65 (r_1 : Value) (k : Value → World → Prop) (w : World) (h : S65 r_1 k w) : callW Try.prog (.func (.func 65) #[] #[]) #[r_1] k w :=
  callW_calls ok65 (by simpa using S65_calls r_1 k w h)

/-! slices.medianAdjacentCmpFunc[int] -/
def ann66 : Ann := []
def S66 (data_1 a_2 swaps_3 cmp_4 : Value) (k : Value → World → Prop) (w : World) : Prop :=
   opW Try.prog (binS BinOp.sub 3 (Operand.tmp 10) (Operand.const (Value.int IntKind.i64 1)) a_2 (Value.int IntKind.i64 1)) (fun t11_5 w =>
   opW Try.prog (binS BinOp.add 3 (Operand.tmp 13) (Operand.const (Value.int IntKind.i64 1)) a_2 (Value.int IntKind.i64 1)) (fun t14_6 w =>
   callW Try.prog (Value.func (Fn.func 67) #[] #[]) #[data_1, t11_5, a_2, t14_6, swaps_3, cmp_4] (fun t17_7 w =>
   k t17_7 w) w) w) w
theorem S66_vc (data_1 a_2 swaps_3 cmp_4 : Value) (k : Value → World → Prop) (w : World) : vc Try.prog Try.f66.ntmps ann66 none ((Try.f66.body).getD Code.skip) 1 (params 0 [data_1, a_2, swaps_3, cmp_4]) [] (finQ Try.prog Try.f66.results.toList k) w = S66 data_1 a_2 swaps_3 cmp_4 k w := by kernel_rfl
theorem S66_calls (data_1 a_2 swaps_3 cmp_4 : Value) (k : Value → World → Prop) (w : World) (h : S66 data_1 a_2 swaps_3 cmp_4 k w) : Calls Try.prog 66 #[data_1, a_2, swaps_3, cmp_4] w (retP k) :=
  calls_of_vc (fn := Try.f66) (c := (Try.f66.body).getD Code.skip) ann66 Try.func66 (by kernel_rfl) [data_1, a_2, swaps_3, cmp_4] w k (by kernel_rfl) ((S66_vc data_1 a_2 swaps_3 cmp_4 k w).symm ▸ h)
theorem C66 (data_1 a_2 swaps_3 cmp_4 : Value) (k : Value → World → Prop) (w : World) (h : S66 data_1 a_2 swaps_3 cmp_4 k w) : callW Try.prog (.func (.func 66) #[] #[]) #[data_1, a_2, swaps_3, cmp_4] k w :=
  callW_calls ok66 (by simpa using S66_calls data_1 a_2 swaps_3 cmp_4 k w h)

/-! slices.medianCmpFunc[int] -/
def ann67 : Ann := []
def S67 (data_1 a_2 b_3 c_4 swaps_5 cmp_6 : Value) (k : Value → World → Prop) (w : World) : Prop :=
   callW Try.prog (Value.func (Fn.func 68) #[] #[]) #[data_1, a_2, b_3, swaps_5, cmp_6] (fun t19_7 w =>
   opW Try.prog (Instr.extract t19_7 0) (fun t20_8 w =>
   opW Try.prog (Instr.extract t19_7 1) (fun t21_9 w =>
   callW Try.prog (Value.func (Fn.func 68) #[] #[]) #[data_1, t21_9, c_4, swaps_5, cmp_6] (fun t28_10 w =>
   opW Try.prog (Instr.extract t28_10 0) (fun t29_11 w =>
   opW Try.prog (Instr.extract t28_10 1) (fun t30_12 w =>
   callW Try.prog (Value.func (Fn.func 68) #[] #[]) #[data_1, t20_8, t29_11, swaps_5, cmp_6] (fun t37_13 w =>
   opW Try.prog (Instr.extract t37_13 0) (fun t38_14 w =>
   opW Try.prog (Instr.extract t37_13 1) (fun t39_15 w =>
   k t39_15 w) w) w) w) w) w) w) w) w) w
theorem S67_vc (data_1 a_2 b_3 c_4 swaps_5 cmp_6 : Value) (k : Value → World → Prop) (w : World) : vc Try.prog Try.f67.ntmps ann67 none ((Try.f67.body).getD Code.skip) 1 (params 0 [data_1, a_2, b_3, c_4, swaps_5, cmp_6]) [] (finQ Try.prog Try.f67.results.toList k) w = S67 data_1 a_2 b_3 c_4 swaps_5 cmp_6 k w := by kernel_rfl
theorem S67_calls (data_1 a_2 b_3 c_4 swaps_5 cmp_6 : Value) (k : Value → World → Prop) (w : World) (h : S67 data_1 a_2 b_3 c_4 swaps_5 cmp_6 k w) : Calls Try.prog 67 #[data_1, a_2, b_3, c_4, swaps_5, cmp_6] w (retP k) :=
  calls_of_vc (fn := Try.f67) (c := (Try.f67.body).getD Code.skip) ann67 Try.func67 (by kernel_rfl) [data_1, a_2, b_3, c_4, swaps_5, cmp_6] w k (by kernel_rfl) ((S67_vc data_1 a_2 b_3 c_4 swaps_5 cmp_6 k w).symm ▸ h)
theorem C67 (data_1 a_2 b_3 c_4 swaps_5 cmp_6 : Value) (k : Value → World → Prop) (w : World) (h : S67 data_1 a_2 b_3 c_4 swaps_5 cmp_6 k w) : callW Try.prog (.func (.func 67) #[] #[]) #[data_1, a_2, b_3, c_4, swaps_5, cmp_6] k w :=
  callW_calls ok67 (by simpa using S67_calls data_1 a_2 b_3 c_4 swaps_5 cmp_6 k w h)

/-! slices.order2CmpFunc[int] -/
def ann68 : Ann := [(12, Note.plan (Plan.takeP 0 (Plan.takeP 1 (Plan.takeP 2 (Plan.takeP 3 (Plan.takeX 4 (Plan.takeP 5 (Plan.takeP 6 (Plan.takeP 7 (Plan.takeX 8 (Plan.run 9 (Plan.takeP 10 Plan.done))))))))))))]
def S68 (data_1 a_2 b_3 swaps_4 cmp_5 : Value) (k : Value → World → Prop) (w : World) : Prop :=
   drewW w (fun w =>
   takeW Try.prog anyW (Instr.indexAt 26 data_1 b_3) (fun t15_7 =>
   takeW Try.prog (sameW w) (Instr.loadAt 3 t15_7) (fun t16_8 =>
   takeW Try.prog anyW (Instr.indexAt 26 data_1 a_2) (fun t19_9 =>
   takeW Try.prog (sameW w) (Instr.loadAt 3 t19_9) (fun t20_10 =>
   callW Try.prog cmp_5 #[t16_8, t20_10] (fun t21_11 w =>
   takeW Try.prog anyW (binS BinOp.lss 3 (Operand.tmp 21) (Operand.const (Value.int IntKind.i64 0)) t21_11 (Value.int IntKind.i64 0)) (fun t22_12 =>
   condW t22_12
   (nilW swaps_4 (fun t24_13 w =>
   opW Try.prog (Instr.loadAt 3 t24_13) (fun t25_14 w =>
   opW Try.prog (binS BinOp.add 3 (Operand.tmp 25) (Operand.const (Value.int IntKind.i64 1)) t25_14 (Value.int IntKind.i64 1)) (fun t26_15 w =>
   nilW swaps_4 (fun t27_16 w =>
   opU Try.prog (Instr.storeAt 3 t27_16 t26_15) (fun _ w =>
   k (Value.tuple #[b_3, a_2]) w) w) w) w) w) w)
   (k (Value.tuple #[a_2, b_3]) w)) w) w) w) w) w) w)
theorem S68_vc (data_1 a_2 b_3 swaps_4 cmp_5 : Value) (k : Value → World → Prop) (w : World) : vc Try.prog Try.f68.ntmps ann68 none ((Try.f68.body).getD Code.skip) 1 (params 0 [data_1, a_2, b_3, swaps_4, cmp_5]) [] (finQ Try.prog Try.f68.results.toList k) w = S68 data_1 a_2 b_3 swaps_4 cmp_5 k w := by kernel_rfl
theorem S68_calls (data_1 a_2 b_3 swaps_4 cmp_5 : Value) (k : Value → World → Prop) (w : World) (h : S68 data_1 a_2 b_3 swaps_4 cmp_5 k w) : Calls Try.prog 68 #[data_1, a_2, b_3, swaps_4, cmp_5] w (retP k) :=
  calls_of_vc (fn := Try.f68) (c := (Try.f68.body).getD Code.skip) ann68 Try.func68 (by kernel_rfl) [data_1, a_2, b_3, swaps_4, cmp_5] w k (by kernel_rfl) ((S68_vc data_1 a_2 b_3 swaps_4 cmp_5 k w).symm ▸ h)
theorem C68 (data_1 a_2 b_3 swaps_4 cmp_5 : Value) (k : Value → World → Prop) (w : World) (h : S68 data_1 a_2 b_3 swaps_4 cmp_5 k w) : callW Try.prog (.func (.func 68) #[] #[]) #[data_1, a_2, b_3, swaps_4, cmp_5] k w :=
  callW_calls ok68 (by simpa using S68_calls data_1 a_2 b_3 swaps_4 cmp_5 k w h)

end
end Go.Proofs.Ytidnjppalebbfaa
