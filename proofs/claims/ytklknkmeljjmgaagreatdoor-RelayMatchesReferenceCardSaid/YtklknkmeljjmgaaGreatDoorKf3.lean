/- Part 4 of the proof of relayMatchesReference: lemmas for it; no condition beyond the statement. -/
import Derived.Test.YtklknkmeljjmgaaGreatDoorKf2
import Derived.Laws.Slices
import Derived.Laws.StructEq
import Derived.Laws.Strings3
import Derived.Laws.Concat
/- The conditions of the functions, printed by program out of the loaded code, each with the contract that follows from it. -/
set_option linter.unusedVariables false
set_option maxRecDepth 100000
namespace Go.Proofs.YtklknkmeljjmgaaGreatDoor
open Go Go.V
noncomputable section

/-! newswire/newswireref02.extended -/
def ann84 : Ann := [(29, Note.keep [0, 3]), (58, Note.loop [3, 4] [0]), (62, Note.keep [0, 3]), (124, Note.loop [3] [0]), (253, Note.keep [3]), (466, Note.keep [0, 3, 4]), (497, Note.keep [0, 3]), (506, Note.loop [3, 5] [0]), (4050, Note.keep [0, 3, 5])]
def S84 (s_1 : Value) (k : Value → World → Prop) (w : World) : Prop :=
   Loop2 (fun b_3 i_4 w K_5 =>
   opW Tryz.prog (Builtin.len_ #[9] 3 #[s_1]) (fun t8_7 w =>
   opW Tryz.prog (binS BinOp.lss 3 (Operand.tmp 6) (Operand.tmp 8) i_4 t8_7) (fun t9_8 w =>
   condW t9_8
   (opW Tryz.prog (Instr.index 9 s_1 i_4) (fun t15_10 w =>
   opW Tryz.prog (Instr.buildSlice 69 1 #[(0, t15_10)]) (fun t16_11 w =>
   opW Tryz.prog (Builtin.append_ #[69, 69] 69 #[b_3, t16_11]) (fun t17_12 w =>
   opW Tryz.prog (binS BinOp.add 3 (Operand.tmp 10) (Operand.const (Value.int IntKind.i64 1)) i_4 (Value.int IntKind.i64 1)) (fun t11_13 w =>
   loopK [] [] [s_1] [s_1] (K_5 t17_12 t11_13 w)) w) w) w) w)
   (opW Tryz.prog (Instr.buildSlice 69 1 #[(0, (Value.int IntKind.u8 128))]) (fun t19_14 w =>
   opW Tryz.prog (Builtin.append_ #[69, 69] 69 #[b_3, t19_14]) (fun t20_15 w =>
   Loop1 (fun b_17 w K_18 =>
   opW Tryz.prog (Builtin.len_ #[69] 3 #[b_17]) (fun t22_20 w =>
   opW Tryz.prog (binS BinOp.rem 3 (Operand.tmp 22) (Operand.const (Value.int IntKind.i64 64)) t22_20 (Value.int IntKind.i64 64)) (fun t23_21 w =>
   opW Tryz.prog (binS BinOp.neq 3 (Operand.tmp 23) (Operand.const (Value.int IntKind.i64 56)) t23_21 (Value.int IntKind.i64 56)) (fun t24_22 w =>
   condW t24_22
   (opW Tryz.prog (Instr.buildSlice 69 1 #[(0, (Value.int IntKind.u8 0))]) (fun t26_24 w =>
   opW Tryz.prog (Builtin.append_ #[69, 69] 69 #[b_17, t26_24]) (fun t27_25 w =>
   loopK [] [] [s_1] [s_1] (K_18 t27_25 w)) w) w)
   (Loop2 (fun b_27 i_28 w K_29 =>
   opW Tryz.prog (binS BinOp.geq 3 (Operand.tmp 28) (Operand.const (Value.int IntKind.i64 0)) i_28 (Value.int IntKind.i64 0)) (fun t29_31 w =>
   condW t29_31
   (opW Tryz.prog (Builtin.len_ #[9] 3 #[s_1]) (fun t34_33 w =>
   opW Tryz.prog (binS BinOp.mul 3 (Operand.const (Value.int IntKind.i64 8)) (Operand.tmp 34) (Value.int IntKind.i64 8) t34_33) (fun t35_34 w =>
   opW Tryz.prog (binS BinOp.mul 3 (Operand.const (Value.int IntKind.i64 8)) (Operand.tmp 36) (Value.int IntKind.i64 8) i_28) (fun t37_35 w =>
   opW Tryz.prog (binS BinOp.shr 3 (Operand.tmp 35) (Operand.tmp 37) t35_34 t37_35) (fun t38_36 w =>
   opW Tryz.prog (convert 3 5 t38_36) (fun t39_37 w =>
   opW Tryz.prog (Instr.buildSlice 69 1 #[(0, t39_37)]) (fun t40_38 w =>
   opW Tryz.prog (Builtin.append_ #[69, 69] 69 #[b_27, t40_38]) (fun t41_39 w =>
   opW Tryz.prog (binS BinOp.sub 3 (Operand.tmp 30) (Operand.const (Value.int IntKind.i64 1)) i_28 (Value.int IntKind.i64 1)) (fun t31_40 w =>
   loopK [] [] [s_1] [s_1] (K_29 t41_39 t31_40 w)) w) w) w) w) w) w) w) w)
   (k b_27 w)) w) b_17 (Value.int IntKind.i64 7) w)) w) w) w) t20_15 w) w) w)) w) w) (Value.slice none 0 0) (Value.int IntKind.i64 0) w
theorem S84_vc (s_1 : Value) (k : Value → World → Prop) (w : World) : vc Tryz.prog Tryz.f84.ntmps ann84 none ((Tryz.f84.body).getD Code.skip) 1 (params 0 [s_1]) [] (finQ Tryz.prog Tryz.f84.results.toList k) w = S84 s_1 k w := by kernel_rfl
theorem S84_calls (s_1 : Value) (k : Value → World → Prop) (w : World) (h : S84 s_1 k w) : Calls Tryz.prog 84 #[s_1] w (retP k) :=
  calls_of_vc (fn := Tryz.f84) (c := (Tryz.f84.body).getD Code.skip) ann84 Tryz.func84 (by kernel_rfl) [s_1] w k (by kernel_rfl) ((S84_vc s_1 k w).symm ▸ h)
theorem C84 (s_1 : Value) (k : Value → World → Prop) (w : World) (h : S84 s_1 k w) : callW Tryz.prog (.func (.func 84) #[] #[]) #[s_1] k w :=
  callW_calls ok84 (by simpa using S84_calls s_1 k w h)

/-! newswire/newswireref02.block -/
def ann85 : Ann := [(29, Note.keep [0, 5]), (58, Note.loop [5, 6] [0, 1]), (61, Note.keep [0, 5]), (122, Note.loop [5, 7] [0]), (466, Note.keep [0, 1, 5, 6]), (932, Note.plan (Plan.takeP 0 (Plan.takeP 1 (Plan.takeP 2 (Plan.takeP 3 (Plan.takeP 4 (Plan.takeU 5 (Plan.takeU 6 (Plan.takeP 7 (Plan.takeP 8 (Plan.takeP 9 (Plan.takeP 10 (Plan.takeP 11 (Plan.takeP 12 (Plan.takeU 13 (Plan.takeU 14 (Plan.takeP 15 (Plan.takeP 16 (Plan.takeP 17 (Plan.takeP 18 (Plan.takeP 19 (Plan.takeP 20 (Plan.takeP 21 (Plan.takeU 22 (Plan.takeU 23 (Plan.takeP 24 (Plan.takeP 25 (Plan.takeP 26 (Plan.takeP 27 (Plan.takeP 28 (Plan.takeP 29 (Plan.takeP 30 (Plan.takeU 31 (Plan.takeU 32 (Plan.takeP 33 (Plan.run 34 (Plan.run 35 (Plan.takeP 36 Plan.done)))))))))))))))))))))))))))))))))))))), (978, Note.keep [0, 5, 7]), (1021, Note.keep [0, 11]), (2042, Note.loop [11, 12] [0, 5, 10]), (3912, Note.plan (Plan.takeP 0 (Plan.takeP 1 (Plan.takeP 2 (Plan.takeP 3 (Plan.takeU 4 (Plan.takeP 6 (Plan.takeP 7 (Plan.takeP 8 (Plan.takeP 9 (Plan.takeU 10 (Plan.takeP 13 (Plan.takeP 14 (Plan.takeP 15 (Plan.takeP 16 (Plan.takeU 17 (Plan.takeP 18 (Plan.run 5 (Plan.run 11 (Plan.takeP 12 (Plan.takeP 19 (Plan.takeP 20 Plan.done)))))))))))))))))))))), (4093, Note.keep [17]), (7826, Note.plan (Plan.takeP 0 (Plan.takeP 1 (Plan.takeP 2 (Plan.takeP 3 (Plan.takeU 4 (Plan.takeP 6 (Plan.takeP 7 (Plan.takeP 8 (Plan.takeP 9 (Plan.takeU 10 (Plan.takeP 13 (Plan.takeP 14 (Plan.takeP 15 (Plan.takeP 16 (Plan.takeU 17 (Plan.takeP 18 (Plan.run 5 (Plan.run 11 (Plan.takeP 12 (Plan.takeP 19 (Plan.takeP 20 Plan.done)))))))))))))))))))))), (7827, Note.plan (Plan.takeP 0 (Plan.takeP 1 (Plan.takeP 2 (Plan.takeP 3 (Plan.takeP 4 (Plan.takeU 5 (Plan.takeP 6 (Plan.takeP 7 (Plan.takeP 8 (Plan.takeP 9 (Plan.takeP 10 (Plan.takeP 11 (Plan.takeU 12 (Plan.takeP 13 (Plan.takeP 14 (Plan.takeP 15 (Plan.run 16 (Plan.run 17 (Plan.takeP 18 Plan.done)))))))))))))))))))), (8186, Note.loop [17, 18] [0, 11]), (16338, Note.keep [0, 5, 10, 11, 12]), (65490, Note.keep [0, 11, 17, 18]), (130980, Note.plan (Plan.takeP 0 (Plan.takeP 1 (Plan.takeP 2 (Plan.takeP 3 (Plan.takeU 4 (Plan.takeP 5 (Plan.takeP 6 (Plan.takeP 7 (Plan.takeU 8 (Plan.takeP 9 (Plan.run 10 (Plan.run 11 (Plan.takeP 12 Plan.done)))))))))))))), (261414, Note.plan (Plan.takeP 0 (Plan.takeP 1 (Plan.takeU 2 (Plan.takeP 3 (Plan.takeP 5 (Plan.takeP 8 (Plan.takeP 12 (Plan.takeP 13 (Plan.takeP 14 (Plan.takeU 15 (Plan.takeP 16 (Plan.takeP 17 (Plan.takeP 18 (Plan.takeP 19 (Plan.takeP 20 (Plan.takeU 21 (Plan.takeP 22 (Plan.takeP 23 (Plan.takeP 25 (Plan.takeP 26 (Plan.takeP 27 (Plan.takeU 28 (Plan.takeP 30 (Plan.takeP 31 (Plan.takeP 32 (Plan.takeU 33 (Plan.run 4 (Plan.run 6 (Plan.takeP 7 (Plan.run 9 (Plan.takeP 10 (Plan.takeP 11 (Plan.takeP 24 (Plan.takeP 29 (Plan.takeP 34 (Plan.takeP 35 Plan.done))))))))))))))))))))))))))))))))))))), (522830, Note.plan (Plan.takeP 0 (Plan.takeP 2 (Plan.takeP 5 (Plan.takeP 8 (Plan.takeP 9 (Plan.takeP 10 (Plan.takeU 11 (Plan.takeP 12 (Plan.takeP 13 (Plan.takeP 14 (Plan.takeP 15 (Plan.takeU 16 (Plan.takeP 17 (Plan.takeP 18 (Plan.takeP 19 (Plan.takeP 20 (Plan.takeU 21 (Plan.takeP 22 (Plan.takeP 23 (Plan.takeU 24 (Plan.takeP 25 (Plan.takeP 26 (Plan.run 1 (Plan.run 3 (Plan.takeP 4 (Plan.run 6 (Plan.takeP 7 (Plan.takeP 27 (Plan.takeP 28 Plan.done)))))))))))))))))))))))))))))), (522831, Note.plan (Plan.takeP 0 (Plan.takeP 1 (Plan.takeP 2 (Plan.takeP 3 (Plan.takeP 4 (Plan.takeP 5 (Plan.takeX 6 (Plan.takeP 7 (Plan.takeP 8 (Plan.takeX 9 (Plan.takeP 10 (Plan.takeP 11 (Plan.takeU 12 (Plan.takeP 13 (Plan.takeP 14 (Plan.takeP 15 (Plan.takeP 16 (Plan.takeP 17 (Plan.takeX 18 (Plan.takeP 19 (Plan.takeP 20 (Plan.takeX 21 (Plan.run 22 (Plan.takeP 23 Plan.done)))))))))))))))))))))))))]
def S85 (h_1 b_2 : Value) (k : Value → World → Prop) (w : World) : Prop :=
   Loop2 (fun w_4 i_5 w K_6 =>
   opW Tryz.prog (binS BinOp.lss 3 (Operand.tmp 19) (Operand.const (Value.int IntKind.i64 16)) i_5 (Value.int IntKind.i64 16)) (fun t20_8 w =>
   condW t20_8
   (drewW w (fun w =>
   ∃ S : World → Prop, S w ∧
   takeW Tryz.prog anyW (binS BinOp.mul 3 (Operand.const (Value.int IntKind.i64 4)) (Operand.tmp 25) (Value.int IntKind.i64 4) i_5) (fun t26_11 =>
   takeW Tryz.prog anyW (Instr.indexAt 69 b_2 t26_11) (fun t27_12 =>
   takeW Tryz.prog S (Instr.loadAt 5 t27_12) (fun t28_13 =>
   takeW Tryz.prog S (convert 5 89 t28_13) (fun t29_14 =>
   takeW Tryz.prog anyW (binS BinOp.shl 89 (Operand.tmp 29) (Operand.const (Value.int IntKind.u64 24)) t29_14 (Value.int IntKind.u64 24)) (fun t30_15 =>
   takeW Tryz.prog anyW (binS BinOp.mul 3 (Operand.const (Value.int IntKind.i64 4)) (Operand.tmp 32) (Value.int IntKind.i64 4) i_5) (fun t33_16 =>
   takeW Tryz.prog anyW (binS BinOp.add 3 (Operand.tmp 33) (Operand.const (Value.int IntKind.i64 1)) t33_16 (Value.int IntKind.i64 1)) (fun t34_17 =>
   takeW Tryz.prog anyW (Instr.indexAt 69 b_2 t34_17) (fun t35_18 =>
   takeW Tryz.prog S (Instr.loadAt 5 t35_18) (fun t36_19 =>
   takeW Tryz.prog S (convert 5 89 t36_19) (fun t37_20 =>
   takeW Tryz.prog anyW (binS BinOp.shl 89 (Operand.tmp 37) (Operand.const (Value.int IntKind.u64 16)) t37_20 (Value.int IntKind.u64 16)) (fun t38_21 =>
   takeW Tryz.prog anyW (binS BinOp.or 89 (Operand.tmp 30) (Operand.tmp 38) t30_15 t38_21) (fun t39_22 =>
   takeW Tryz.prog anyW (binS BinOp.mul 3 (Operand.const (Value.int IntKind.i64 4)) (Operand.tmp 41) (Value.int IntKind.i64 4) i_5) (fun t42_23 =>
   takeW Tryz.prog anyW (binS BinOp.add 3 (Operand.tmp 42) (Operand.const (Value.int IntKind.i64 2)) t42_23 (Value.int IntKind.i64 2)) (fun t43_24 =>
   takeW Tryz.prog anyW (Instr.indexAt 69 b_2 t43_24) (fun t44_25 =>
   takeW Tryz.prog S (Instr.loadAt 5 t44_25) (fun t45_26 =>
   takeW Tryz.prog S (convert 5 89 t45_26) (fun t46_27 =>
   takeW Tryz.prog anyW (binS BinOp.shl 89 (Operand.tmp 46) (Operand.const (Value.int IntKind.u64 8)) t46_27 (Value.int IntKind.u64 8)) (fun t47_28 =>
   takeW Tryz.prog anyW (binS BinOp.or 89 (Operand.tmp 39) (Operand.tmp 47) t39_22 t47_28) (fun t48_29 =>
   takeW Tryz.prog anyW (binS BinOp.mul 3 (Operand.const (Value.int IntKind.i64 4)) (Operand.tmp 50) (Value.int IntKind.i64 4) i_5) (fun t51_30 =>
   takeW Tryz.prog anyW (binS BinOp.add 3 (Operand.tmp 51) (Operand.const (Value.int IntKind.i64 3)) t51_30 (Value.int IntKind.i64 3)) (fun t52_31 =>
   takeW Tryz.prog anyW (Instr.indexAt 69 b_2 t52_31) (fun t53_32 =>
   takeW Tryz.prog S (Instr.loadAt 5 t53_32) (fun t54_33 =>
   takeW Tryz.prog S (convert 5 89 t54_33) (fun t55_34 =>
   takeW Tryz.prog anyW (binS BinOp.or 89 (Operand.tmp 48) (Operand.tmp 55) t48_29 t55_34) (fun t56_35 =>
   opW Tryz.prog (Instr.buildSlice 115 1 #[(0, t56_35)]) (fun t57_36 w => keepS S (fun w =>
   opW Tryz.prog (Builtin.append_ #[115, 115] 115 #[w_4, t57_36]) (fun t58_37 w => keepS S (fun w =>
   opW Tryz.prog (binS BinOp.add 3 (Operand.tmp 21) (Operand.const (Value.int IntKind.i64 1)) i_5 (Value.int IntKind.i64 1)) (fun t22_38 w =>
   loopK [] [] [h_1, b_2] [h_1, b_2] (K_6 t58_37 t22_38 w)) w) w) w) w) w) w) w) w) w) w) w) w) w) w) w) w) w) w) w) w) w) w) w) w) w) w) w) w) w) w))
   (Loop2 (fun w_40 i_41 w K_42 =>
   opW Tryz.prog (binS BinOp.lss 3 (Operand.tmp 59) (Operand.const (Value.int IntKind.i64 64)) i_41 (Value.int IntKind.i64 64)) (fun t60_44 w =>
   condW t60_44
   (drewW w (fun w =>
   ∃ S : World → Prop, S w ∧
   takeW Tryz.prog anyW (binS BinOp.sub 3 (Operand.tmp 64) (Operand.const (Value.int IntKind.i64 15)) i_41 (Value.int IntKind.i64 15)) (fun t65_47 =>
   takeW Tryz.prog anyW (Instr.indexAt 115 w_40 t65_47) (fun t66_48 =>
   takeW Tryz.prog S (Instr.loadAt 89 t66_48) (fun t67_49 =>
   takeW Tryz.prog anyW (binS BinOp.sub 3 (Operand.tmp 70) (Operand.const (Value.int IntKind.i64 15)) i_41 (Value.int IntKind.i64 15)) (fun t71_50 =>
   takeW Tryz.prog anyW (Instr.indexAt 115 w_40 t71_50) (fun t72_51 =>
   takeW Tryz.prog S (Instr.loadAt 89 t72_51) (fun t73_52 =>
   takeW Tryz.prog anyW (binS BinOp.sub 3 (Operand.tmp 77) (Operand.const (Value.int IntKind.i64 15)) i_41 (Value.int IntKind.i64 15)) (fun t78_53 =>
   takeW Tryz.prog anyW (Instr.indexAt 115 w_40 t78_53) (fun t79_54 =>
   takeW Tryz.prog S (Instr.loadAt 89 t79_54) (fun t80_55 =>
   takeW Tryz.prog anyW (binS BinOp.shr 89 (Operand.tmp 80) (Operand.const (Value.int IntKind.u64 3)) t80_55 (Value.int IntKind.u64 3)) (fun t81_56 =>
   callW Tryz.prog (Value.func (Fn.func 101) #[] #[]) #[t67_49, (Value.int IntKind.i64 7)] (fun t68_57 w => keepS S (fun w =>
   callW Tryz.prog (Value.func (Fn.func 101) #[] #[]) #[t73_52, (Value.int IntKind.i64 18)] (fun t74_58 w => keepS S (fun w =>
   takeW Tryz.prog anyW (binS BinOp.xor 89 (Operand.tmp 68) (Operand.tmp 74) t68_57 t74_58) (fun t75_59 =>
   takeW Tryz.prog anyW (binS BinOp.xor 89 (Operand.tmp 75) (Operand.tmp 81) t75_59 t81_56) (fun t82_60 =>
   drewW w (fun w =>
   ∃ S : World → Prop, S w ∧
   takeW Tryz.prog anyW (binS BinOp.sub 3 (Operand.tmp 84) (Operand.const (Value.int IntKind.i64 2)) i_41 (Value.int IntKind.i64 2)) (fun t85_62 =>
   takeW Tryz.prog anyW (Instr.indexAt 115 w_40 t85_62) (fun t86_63 =>
   takeW Tryz.prog S (Instr.loadAt 89 t86_63) (fun t87_64 =>
   takeW Tryz.prog anyW (binS BinOp.sub 3 (Operand.tmp 90) (Operand.const (Value.int IntKind.i64 2)) i_41 (Value.int IntKind.i64 2)) (fun t91_65 =>
   takeW Tryz.prog anyW (Instr.indexAt 115 w_40 t91_65) (fun t92_66 =>
   takeW Tryz.prog S (Instr.loadAt 89 t92_66) (fun t93_67 =>
   takeW Tryz.prog anyW (binS BinOp.sub 3 (Operand.tmp 97) (Operand.const (Value.int IntKind.i64 2)) i_41 (Value.int IntKind.i64 2)) (fun t98_68 =>
   takeW Tryz.prog anyW (Instr.indexAt 115 w_40 t98_68) (fun t99_69 =>
   takeW Tryz.prog S (Instr.loadAt 89 t99_69) (fun t100_70 =>
   takeW Tryz.prog anyW (binS BinOp.shr 89 (Operand.tmp 100) (Operand.const (Value.int IntKind.u64 10)) t100_70 (Value.int IntKind.u64 10)) (fun t101_71 =>
   callW Tryz.prog (Value.func (Fn.func 101) #[] #[]) #[t87_64, (Value.int IntKind.i64 17)] (fun t88_72 w => keepS S (fun w =>
   callW Tryz.prog (Value.func (Fn.func 101) #[] #[]) #[t93_67, (Value.int IntKind.i64 19)] (fun t94_73 w => keepS S (fun w =>
   takeW Tryz.prog anyW (binS BinOp.xor 89 (Operand.tmp 88) (Operand.tmp 94) t88_72 t94_73) (fun t95_74 =>
   takeW Tryz.prog anyW (binS BinOp.xor 89 (Operand.tmp 95) (Operand.tmp 101) t95_74 t101_71) (fun t102_75 =>
   drewW w (fun w =>
   ∃ S : World → Prop, S w ∧
   takeW Tryz.prog anyW (binS BinOp.sub 3 (Operand.tmp 105) (Operand.const (Value.int IntKind.i64 16)) i_41 (Value.int IntKind.i64 16)) (fun t106_77 =>
   takeW Tryz.prog anyW (Instr.indexAt 115 w_40 t106_77) (fun t107_78 =>
   takeW Tryz.prog S (Instr.loadAt 89 t107_78) (fun t108_79 =>
   takeW Tryz.prog anyW (binS BinOp.add 89 (Operand.tmp 108) (Operand.tmp 109) t108_79 t82_60) (fun t110_80 =>
   takeW Tryz.prog anyW (binS BinOp.sub 3 (Operand.tmp 112) (Operand.const (Value.int IntKind.i64 7)) i_41 (Value.int IntKind.i64 7)) (fun t113_81 =>
   takeW Tryz.prog anyW (Instr.indexAt 115 w_40 t113_81) (fun t114_82 =>
   takeW Tryz.prog S (Instr.loadAt 89 t114_82) (fun t115_83 =>
   takeW Tryz.prog anyW (binS BinOp.add 89 (Operand.tmp 110) (Operand.tmp 115) t110_80 t115_83) (fun t116_84 =>
   takeW Tryz.prog anyW (binS BinOp.add 89 (Operand.tmp 116) (Operand.tmp 117) t116_84 t102_75) (fun t118_85 =>
   opW Tryz.prog (Instr.buildSlice 115 1 #[(0, t118_85)]) (fun t119_86 w => keepS S (fun w =>
   opW Tryz.prog (Builtin.append_ #[115, 115] 115 #[w_40, t119_86]) (fun t120_87 w => keepS S (fun w =>
   opW Tryz.prog (binS BinOp.add 3 (Operand.tmp 61) (Operand.const (Value.int IntKind.i64 1)) i_41 (Value.int IntKind.i64 1)) (fun t62_88 w =>
   loopK [] [] [h_1] [h_1] (K_42 t120_87 t62_88 w)) w) w) w) w) w) w) w) w) w) w) w) w) w) w)) w) w) w) w) w) w) w) w) w) w) w) w) w) w) w) w)) w) w) w) w) w) w) w) w) w) w) w) w) w) w) w) w))
   (callW Tryz.prog (Value.func (Fn.func 102) #[] #[]) #[] (fun t121_89 w =>
   opW Tryz.prog (Builtin.append_ #[115, 115] 115 #[(Value.slice none 0 0), h_1]) (fun t124_90 w =>
   Loop2 (fun v_92 i_93 w K_94 =>
   opW Tryz.prog (binS BinOp.lss 3 (Operand.tmp 125) (Operand.const (Value.int IntKind.i64 64)) i_93 (Value.int IntKind.i64 64)) (fun t126_96 w =>
   condW t126_96
   (opW Tryz.prog (Instr.indexAt 115 v_92 (Value.int IntKind.i64 0)) (fun t130_98 w =>
   opW Tryz.prog (Instr.loadAt 89 t130_98) (fun t131_99 w =>
   opW Tryz.prog (Instr.indexAt 115 v_92 (Value.int IntKind.i64 4)) (fun t133_100 w =>
   opW Tryz.prog (Instr.loadAt 89 t133_100) (fun t134_101 w =>
   drewW w (fun w =>
   ∃ S : World → Prop, S w ∧
   takeW Tryz.prog anyW (Instr.indexAt 115 v_92 (Value.int IntKind.i64 7)) (fun t136_103 =>
   takeW Tryz.prog S (Instr.loadAt 89 t136_103) (fun t137_104 =>
   takeW Tryz.prog anyW (Instr.indexAt 115 v_92 (Value.int IntKind.i64 5)) (fun t149_105 =>
   takeW Tryz.prog S (Instr.loadAt 89 t149_105) (fun t150_106 =>
   takeW Tryz.prog anyW (binS BinOp.and 89 (Operand.tmp 147) (Operand.tmp 150) t134_101 t150_106) (fun t151_107 =>
   takeW Tryz.prog anyW (Op.unary UnOp.xor t134_101) (fun t153_108 =>
   takeW Tryz.prog anyW (Instr.indexAt 115 v_92 (Value.int IntKind.i64 6)) (fun t155_109 =>
   takeW Tryz.prog S (Instr.loadAt 89 t155_109) (fun t156_110 =>
   takeW Tryz.prog anyW (binS BinOp.and 89 (Operand.tmp 153) (Operand.tmp 156) t153_108 t156_110) (fun t157_111 =>
   takeW Tryz.prog anyW (binS BinOp.xor 89 (Operand.tmp 151) (Operand.tmp 157) t151_107 t157_111) (fun t158_112 =>
   takeW Tryz.prog anyW (Instr.indexAt 115 t121_89 i_93) (fun t162_113 =>
   takeW Tryz.prog S (Instr.loadAt 89 t162_113) (fun t163_114 =>
   takeW Tryz.prog anyW (Instr.indexAt 115 w_40 i_93) (fun t167_115 =>
   takeW Tryz.prog S (Instr.loadAt 89 t167_115) (fun t168_116 =>
   callW Tryz.prog (Value.func (Fn.func 101) #[] #[]) #[t134_101, (Value.int IntKind.i64 6)] (fun t139_117 w => keepS S (fun w =>
   callW Tryz.prog (Value.func (Fn.func 101) #[] #[]) #[t134_101, (Value.int IntKind.i64 11)] (fun t141_118 w => keepS S (fun w =>
   takeW Tryz.prog anyW (binS BinOp.xor 89 (Operand.tmp 139) (Operand.tmp 141) t139_117 t141_118) (fun t142_119 =>
   callW Tryz.prog (Value.func (Fn.func 101) #[] #[]) #[t134_101, (Value.int IntKind.i64 25)] (fun t144_120 w => keepS S (fun w =>
   takeW Tryz.prog anyW (binS BinOp.xor 89 (Operand.tmp 142) (Operand.tmp 144) t142_119 t144_120) (fun t145_121 =>
   takeW Tryz.prog anyW (binS BinOp.add 89 (Operand.tmp 137) (Operand.tmp 145) t137_104 t145_121) (fun t146_122 =>
   takeW Tryz.prog anyW (binS BinOp.add 89 (Operand.tmp 146) (Operand.tmp 158) t146_122 t158_112) (fun t159_123 =>
   takeW Tryz.prog anyW (binS BinOp.add 89 (Operand.tmp 159) (Operand.tmp 163) t159_123 t163_114) (fun t164_124 =>
   takeW Tryz.prog anyW (binS BinOp.add 89 (Operand.tmp 164) (Operand.tmp 168) t164_124 t168_116) (fun t169_125 =>
   drewW w (fun w =>
   ∃ S : World → Prop, S w ∧
   takeW Tryz.prog anyW (Instr.indexAt 115 v_92 (Value.int IntKind.i64 1)) (fun t180_127 =>
   takeW Tryz.prog S (Instr.loadAt 89 t180_127) (fun t181_128 =>
   takeW Tryz.prog anyW (binS BinOp.and 89 (Operand.tmp 178) (Operand.tmp 181) t131_99 t181_128) (fun t182_129 =>
   takeW Tryz.prog anyW (Instr.indexAt 115 v_92 (Value.int IntKind.i64 2)) (fun t185_130 =>
   takeW Tryz.prog S (Instr.loadAt 89 t185_130) (fun t186_131 =>
   takeW Tryz.prog anyW (binS BinOp.and 89 (Operand.tmp 183) (Operand.tmp 186) t131_99 t186_131) (fun t187_132 =>
   takeW Tryz.prog anyW (binS BinOp.xor 89 (Operand.tmp 182) (Operand.tmp 187) t182_129 t187_132) (fun t188_133 =>
   takeW Tryz.prog anyW (Instr.indexAt 115 v_92 (Value.int IntKind.i64 1)) (fun t190_134 =>
   takeW Tryz.prog S (Instr.loadAt 89 t190_134) (fun t191_135 =>
   takeW Tryz.prog anyW (Instr.indexAt 115 v_92 (Value.int IntKind.i64 2)) (fun t193_136 =>
   takeW Tryz.prog S (Instr.loadAt 89 t193_136) (fun t194_137 =>
   takeW Tryz.prog anyW (binS BinOp.and 89 (Operand.tmp 191) (Operand.tmp 194) t191_135 t194_137) (fun t195_138 =>
   takeW Tryz.prog anyW (binS BinOp.xor 89 (Operand.tmp 188) (Operand.tmp 195) t188_133 t195_138) (fun t196_139 =>
   callW Tryz.prog (Value.func (Fn.func 101) #[] #[]) #[t131_99, (Value.int IntKind.i64 2)] (fun t171_140 w => keepS S (fun w =>
   callW Tryz.prog (Value.func (Fn.func 101) #[] #[]) #[t131_99, (Value.int IntKind.i64 13)] (fun t173_141 w => keepS S (fun w =>
   takeW Tryz.prog anyW (binS BinOp.xor 89 (Operand.tmp 171) (Operand.tmp 173) t171_140 t173_141) (fun t174_142 =>
   callW Tryz.prog (Value.func (Fn.func 101) #[] #[]) #[t131_99, (Value.int IntKind.i64 22)] (fun t176_143 w => keepS S (fun w =>
   takeW Tryz.prog anyW (binS BinOp.xor 89 (Operand.tmp 174) (Operand.tmp 176) t174_142 t176_143) (fun t177_144 =>
   takeW Tryz.prog anyW (binS BinOp.add 89 (Operand.tmp 177) (Operand.tmp 196) t177_144 t196_139) (fun t197_145 =>
   drewW w (fun w =>
   ∃ S : World → Prop, S w ∧
   takeW Tryz.prog anyW (binS BinOp.add 89 (Operand.tmp 198) (Operand.tmp 199) t169_125 t197_145) (fun t200_147 =>
   takeW Tryz.prog anyW (Instr.indexAt 115 v_92 (Value.int IntKind.i64 1)) (fun t203_148 =>
   takeW Tryz.prog (sameW w) (Instr.loadAt 89 t203_148) (fun t204_149 =>
   takeW Tryz.prog anyW (Instr.indexAt 115 v_92 (Value.int IntKind.i64 2)) (fun t206_150 =>
   takeW Tryz.prog (sameW w) (Instr.loadAt 89 t206_150) (fun t207_151 =>
   takeW Tryz.prog anyW (Instr.indexAt 115 v_92 (Value.int IntKind.i64 3)) (fun t209_152 =>
   takeW Tryz.prog S (Instr.loadAt 89 t209_152) (fun t210_153 =>
   takeW Tryz.prog anyW (binS BinOp.add 89 (Operand.tmp 210) (Operand.tmp 211) t210_153 t169_125) (fun t212_154 =>
   takeW Tryz.prog anyW (Instr.indexAt 115 v_92 (Value.int IntKind.i64 5)) (fun t215_155 =>
   takeW Tryz.prog (sameW w) (Instr.loadAt 89 t215_155) (fun t216_156 =>
   takeW Tryz.prog anyW (Instr.indexAt 115 v_92 (Value.int IntKind.i64 6)) (fun t218_157 =>
   takeW Tryz.prog (sameW w) (Instr.loadAt 89 t218_157) (fun t219_158 =>
   opW Tryz.prog (Instr.buildSlice 115 8 #[(0, t200_147), (1, t131_99), (2, t204_149), (3, t207_151), (4, t212_154), (5, t134_101), (6, t216_156), (7, t219_158)]) (fun t220_159 w => keepS S (fun w =>
   opW Tryz.prog (binS BinOp.add 3 (Operand.tmp 127) (Operand.const (Value.int IntKind.i64 1)) i_93 (Value.int IntKind.i64 1)) (fun t128_160 w =>
   loopK [] [] [h_1, w_40, t121_89] [h_1, w_40, t121_89] (K_94 t220_159 t128_160 w)) w) w) w) w) w) w) w) w) w) w) w) w) w) w) w)) w) w) w) w) w) w) w) w) w) w) w) w) w) w) w) w) w) w) w) w) w) w)) w) w) w) w) w) w) w) w) w) w) w) w) w) w) w) w) w) w) w) w) w) w) w) w) w) w)) w) w) w) w)
   (Loop2 (fun out_162 i_163 w K_164 =>
   opW Tryz.prog (binS BinOp.lss 3 (Operand.tmp 221) (Operand.const (Value.int IntKind.i64 8)) i_163 (Value.int IntKind.i64 8)) (fun t222_166 w =>
   condW t222_166
   (drewW w (fun w =>
   ∃ S : World → Prop, S w ∧
   takeW Tryz.prog anyW (Instr.indexAt 115 h_1 i_163) (fun t228_169 =>
   takeW Tryz.prog S (Instr.loadAt 89 t228_169) (fun t229_170 =>
   takeW Tryz.prog anyW (Instr.indexAt 115 v_92 i_163) (fun t232_171 =>
   takeW Tryz.prog S (Instr.loadAt 89 t232_171) (fun t233_172 =>
   takeW Tryz.prog anyW (binS BinOp.add 89 (Operand.tmp 229) (Operand.tmp 233) t229_170 t233_172) (fun t234_173 =>
   opW Tryz.prog (Instr.buildSlice 115 1 #[(0, t234_173)]) (fun t235_174 w => keepS S (fun w =>
   opW Tryz.prog (Builtin.append_ #[115, 115] 115 #[out_162, t235_174]) (fun t236_175 w => keepS S (fun w =>
   opW Tryz.prog (binS BinOp.add 3 (Operand.tmp 223) (Operand.const (Value.int IntKind.i64 1)) i_163 (Value.int IntKind.i64 1)) (fun t224_176 w =>
   loopK [] [] [h_1, v_92] [h_1, v_92] (K_164 t236_175 t224_176 w)) w) w) w) w) w) w) w) w) w) w))
   (k out_162 w)) w) (Value.slice none 0 0) (Value.int IntKind.i64 0) w)) w) t124_90 (Value.int IntKind.i64 0) w) w) w)) w) w_4 (Value.int IntKind.i64 16) w)) w) (Value.slice none 0 0) (Value.int IntKind.i64 0) w
theorem S85_vc (h_1 b_2 : Value) (k : Value → World → Prop) (w : World) : vc Tryz.prog Tryz.f85.ntmps ann85 none ((Tryz.f85.body).getD Code.skip) 1 (params 0 [h_1, b_2]) [] (finQ Tryz.prog Tryz.f85.results.toList k) w = S85 h_1 b_2 k w := by kernel_rfl
theorem S85_calls (h_1 b_2 : Value) (k : Value → World → Prop) (w : World) (h : S85 h_1 b_2 k w) : Calls Tryz.prog 85 #[h_1, b_2] w (retP k) :=
  calls_of_vc (fn := Tryz.f85) (c := (Tryz.f85.body).getD Code.skip) ann85 Tryz.func85 (by kernel_rfl) [h_1, b_2] w k (by kernel_rfl) ((S85_vc h_1 b_2 k w).symm ▸ h)
theorem C85 (h_1 b_2 : Value) (k : Value → World → Prop) (w : World) (h : S85 h_1 b_2 k w) : callW Tryz.prog (.func (.func 85) #[] #[]) #[h_1, b_2] k w :=
  callW_calls ok85 (by simpa using S85_calls h_1 b_2 k w h)

/-! slices.Chunk[[]byte,byte]$1 -/
def ann86 : Ann := [(3, Note.keep []), (6, Note.loop [4] [0, 1, 2]), (50, Note.keep [0, 1, 2, 4]), (200, Note.plan (Plan.takeX 0 (Plan.takeX 1 (Plan.takeP 2 (Plan.takeP 3 (Plan.takeP 4 (Plan.takeP 5 (Plan.takeP 6 Plan.done))))))))]
def S86 (yield_1 x1_2 x2_3 : Value) (k : Value → World → Prop) (w : World) : Prop :=
   Loop1 (fun i_5 w K_6 =>
   opW Tryz.prog (Instr.loadAt 69 x1_2) (fun t7_8 w =>
   opW Tryz.prog (Builtin.len_ #[69] 3 #[t7_8]) (fun t8_9 w =>
   opW Tryz.prog (binS BinOp.lss 3 (Operand.tmp 6) (Operand.tmp 8) i_5 t8_9) (fun t9_10 w =>
   condW t9_10
   (drewW w (fun w =>
   takeW Tryz.prog (sameW w) (Instr.loadAt 3 x2_3) (fun t13_13 =>
   takeW Tryz.prog (sameW w) (Instr.loadAt 69 x1_2) (fun t14_14 =>
   takeW Tryz.prog anyW (Instr.sliceAt 69 t14_14 (some i_5) none none) (fun t16_15 =>
   takeW Tryz.prog anyW (Builtin.len_ #[69] 3 #[t16_15]) (fun t17_16 =>
   takeW Tryz.prog anyW (Builtin.min_ #[3, 3] 3 #[t13_13, t17_16]) (fun t18_17 =>
   opW Tryz.prog (Instr.loadAt 69 x1_2) (fun t20_18 w =>
   opW Tryz.prog (binS BinOp.add 3 (Operand.tmp 22) (Operand.tmp 23) i_5 t18_17) (fun t24_19 w =>
   opW Tryz.prog (binS BinOp.add 3 (Operand.tmp 25) (Operand.tmp 26) i_5 t18_17) (fun t27_20 w =>
   opW Tryz.prog (Instr.sliceAt 69 t20_18 (some i_5) (some t24_19) (some t27_20)) (fun t28_21 w =>
   callW Tryz.prog yield_1 #[t28_21] (fun t29_22 w =>
   opW Tryz.prog (Op.unary UnOp.not t29_22) (fun t30_23 w =>
   condW t30_23
   (k (Value.tuple #[]) w)
   (opW Tryz.prog (Instr.loadAt 3 x2_3) (fun t11_24 w =>
   opW Tryz.prog (binS BinOp.add 3 (Operand.tmp 10) (Operand.tmp 11) i_5 t11_24) (fun t12_25 w =>
   loopK [] [] [yield_1, x1_2, x2_3] [yield_1, x1_2, x2_3] (K_6 t12_25 w)) w) w)) w) w) w) w) w) w) w) w) w) w) w))
   (k (Value.tuple #[]) w)) w) w) w) (Value.int IntKind.i64 0) w
theorem S86_vc (yield_1 x1_2 x2_3 : Value) (k : Value → World → Prop) (w : World) : vc Tryz.prog Tryz.f86.ntmps ann86 none ((Tryz.f86.body).getD Code.skip) 1 (params 0 [yield_1, x1_2, x2_3]) [] (finQ Tryz.prog Tryz.f86.results.toList k) w = S86 yield_1 x1_2 x2_3 k w := by kernel_rfl
theorem S86_calls (yield_1 x1_2 x2_3 : Value) (k : Value → World → Prop) (w : World) (h : S86 yield_1 x1_2 x2_3 k w) : Calls Tryz.prog 86 #[yield_1, x1_2, x2_3] w (retP k) :=
  calls_of_vc (fn := Tryz.f86) (c := (Tryz.f86.body).getD Code.skip) ann86 Tryz.func86 (by kernel_rfl) [yield_1, x1_2, x2_3] w k (by kernel_rfl) ((S86_vc yield_1 x1_2 x2_3 k w).symm ▸ h)
/-! newswire/digest.schedule -/
def ann87 : Ann := [(13, Note.keep [2]), (26, Note.loop [7] [0, 2]), (29, Note.keep [2]), (58, Note.loop [4] [2]), (422, Note.keep [0, 2, 7]), (466, Note.keep [2, 4]), (1689, Note.plan (Plan.takeP 0 (Plan.takeP 1 (Plan.takeP 2 (Plan.takeP 3 (Plan.takeP 4 (Plan.takeX 5 (Plan.takeX 6 (Plan.takeP 7 (Plan.takeP 8 (Plan.takeP 9 (Plan.takeP 10 (Plan.takeP 11 (Plan.takeP 12 (Plan.takeX 13 (Plan.takeX 14 (Plan.takeP 15 (Plan.takeP 16 (Plan.takeP 17 (Plan.takeP 18 (Plan.takeP 19 (Plan.takeP 20 (Plan.takeP 21 (Plan.takeX 22 (Plan.takeX 23 (Plan.takeP 24 (Plan.takeP 25 (Plan.takeP 26 (Plan.takeP 27 (Plan.takeP 28 (Plan.takeP 29 (Plan.takeP 30 (Plan.takeX 31 (Plan.takeX 32 (Plan.takeP 33 (Plan.takeP 34 (Plan.run 35 Plan.done))))))))))))))))))))))))))))))))))))), (1864, Note.plan (Plan.takeP 0 (Plan.takeP 1 (Plan.takeP 2 (Plan.takeX 3 (Plan.takeP 4 (Plan.takeP 5 (Plan.takeP 6 (Plan.takeX 7 (Plan.takeP 8 (Plan.takeP 9 Plan.done))))))))))), (1865, Note.plan (Plan.takeP 0 (Plan.takeP 1 (Plan.takeP 2 (Plan.takeP 3 (Plan.takeU 4 (Plan.takeP 5 (Plan.takeP 8 (Plan.takeP 9 (Plan.takeP 12 (Plan.takeP 13 (Plan.takeP 14 (Plan.takeU 15 (Plan.takeP 17 (Plan.takeP 20 (Plan.takeP 21 (Plan.alt (Plan.run 6 (Plan.alt (Plan.run 7 (Plan.takeP 10 (Plan.takeP 11 (Plan.takeP 16 (Plan.run 18 (Plan.run 19 (Plan.takeP 22 (Plan.takeP 23 (Plan.takeP 24 (Plan.run 25 Plan.done)))))))))) (Plan.run 18 (Plan.run 7 (Plan.takeP 10 (Plan.takeP 11 (Plan.takeP 16 (Plan.run 19 (Plan.takeP 22 (Plan.takeP 23 (Plan.takeP 24 (Plan.run 25 Plan.done)))))))))))) (Plan.run 18 (Plan.run 6 (Plan.run 7 (Plan.takeP 10 (Plan.takeP 11 (Plan.takeP 16 (Plan.run 19 (Plan.takeP 22 (Plan.takeP 23 (Plan.takeP 24 (Plan.run 25 Plan.done))))))))))))))))))))))))))))]
def S87 (b_1 : Value) (k : Value → World → Prop) (w : World) : Prop :=
   opW Tryz.prog (Instr.alloc 120 true (Value.tuple #[])) (fun w_2 w =>
   Loop1 (fun t7_4 w K_5 =>
   opW Tryz.prog (binS BinOp.lss 3 (Operand.tmp 7) (Operand.const (Value.int IntKind.i64 16)) t7_4 (Value.int IntKind.i64 16)) (fun t8_6 w =>
   condW t8_6
   (drewW w (fun w =>
   takeW Tryz.prog anyW (binS BinOp.mul 3 (Operand.const (Value.int IntKind.i64 4)) (Operand.tmp 12) (Value.int IntKind.i64 4) t7_4) (fun t13_10 =>
   takeW Tryz.prog anyW (Instr.indexAt 69 b_1 t13_10) (fun t14_11 =>
   takeW Tryz.prog (sameW w) (Instr.loadAt 5 t14_11) (fun t15_12 =>
   takeW Tryz.prog (sameW w) (convert 5 89 t15_12) (fun t16_13 =>
   takeW Tryz.prog anyW (binS BinOp.shl 89 (Operand.tmp 16) (Operand.const (Value.int IntKind.u64 24)) t16_13 (Value.int IntKind.u64 24)) (fun t17_14 =>
   takeW Tryz.prog anyW (binS BinOp.mul 3 (Operand.const (Value.int IntKind.i64 4)) (Operand.tmp 19) (Value.int IntKind.i64 4) t7_4) (fun t20_15 =>
   takeW Tryz.prog anyW (binS BinOp.add 3 (Operand.tmp 20) (Operand.const (Value.int IntKind.i64 1)) t20_15 (Value.int IntKind.i64 1)) (fun t21_16 =>
   takeW Tryz.prog anyW (Instr.indexAt 69 b_1 t21_16) (fun t22_17 =>
   takeW Tryz.prog (sameW w) (Instr.loadAt 5 t22_17) (fun t23_18 =>
   takeW Tryz.prog (sameW w) (convert 5 89 t23_18) (fun t24_19 =>
   takeW Tryz.prog anyW (binS BinOp.shl 89 (Operand.tmp 24) (Operand.const (Value.int IntKind.u64 16)) t24_19 (Value.int IntKind.u64 16)) (fun t25_20 =>
   takeW Tryz.prog anyW (binS BinOp.or 89 (Operand.tmp 17) (Operand.tmp 25) t17_14 t25_20) (fun t26_21 =>
   takeW Tryz.prog anyW (binS BinOp.mul 3 (Operand.const (Value.int IntKind.i64 4)) (Operand.tmp 28) (Value.int IntKind.i64 4) t7_4) (fun t29_22 =>
   takeW Tryz.prog anyW (binS BinOp.add 3 (Operand.tmp 29) (Operand.const (Value.int IntKind.i64 2)) t29_22 (Value.int IntKind.i64 2)) (fun t30_23 =>
   takeW Tryz.prog anyW (Instr.indexAt 69 b_1 t30_23) (fun t31_24 =>
   takeW Tryz.prog (sameW w) (Instr.loadAt 5 t31_24) (fun t32_25 =>
   takeW Tryz.prog (sameW w) (convert 5 89 t32_25) (fun t33_26 =>
   takeW Tryz.prog anyW (binS BinOp.shl 89 (Operand.tmp 33) (Operand.const (Value.int IntKind.u64 8)) t33_26 (Value.int IntKind.u64 8)) (fun t34_27 =>
   takeW Tryz.prog anyW (binS BinOp.or 89 (Operand.tmp 26) (Operand.tmp 34) t26_21 t34_27) (fun t35_28 =>
   takeW Tryz.prog anyW (binS BinOp.mul 3 (Operand.const (Value.int IntKind.i64 4)) (Operand.tmp 37) (Value.int IntKind.i64 4) t7_4) (fun t38_29 =>
   takeW Tryz.prog anyW (binS BinOp.add 3 (Operand.tmp 38) (Operand.const (Value.int IntKind.i64 3)) t38_29 (Value.int IntKind.i64 3)) (fun t39_30 =>
   takeW Tryz.prog anyW (Instr.indexAt 69 b_1 t39_30) (fun t40_31 =>
   takeW Tryz.prog (sameW w) (Instr.loadAt 5 t40_31) (fun t41_32 =>
   takeW Tryz.prog (sameW w) (convert 5 89 t41_32) (fun t42_33 =>
   takeW Tryz.prog anyW (binS BinOp.or 89 (Operand.tmp 35) (Operand.tmp 42) t35_28 t42_33) (fun t43_34 =>
   takeW Tryz.prog anyW (Instr.indexAt 120 w_2 t7_4) (fun t44_35 =>
   opU Tryz.prog (Instr.storeAt 89 t44_35 t43_34) (fun _ w =>
   opW Tryz.prog (binS BinOp.add 3 (Operand.tmp 7) (Operand.const (Value.int IntKind.i64 1)) t7_4 (Value.int IntKind.i64 1)) (fun t45_36 w =>
   loopK [] [] [b_1, w_2] [b_1, w_2] (K_5 t45_36 w)) w) w) w) w) w) w) w) w) w) w) w) w) w) w) w) w) w) w) w) w) w) w) w) w) w) w) w) w))
   (Loop1 (fun i_38 w K_39 =>
   opW Tryz.prog (binS BinOp.lss 3 (Operand.tmp 46) (Operand.const (Value.int IntKind.i64 64)) i_38 (Value.int IntKind.i64 64)) (fun t47_41 w =>
   condW t47_41
   (drewW w (fun w =>
   takeW Tryz.prog anyW (binS BinOp.sub 3 (Operand.tmp 50) (Operand.const (Value.int IntKind.i64 15)) i_38 (Value.int IntKind.i64 15)) (fun t51_44 =>
   takeW Tryz.prog anyW (Instr.indexAt 120 w_2 t51_44) (fun t52_45 =>
   takeW Tryz.prog (sameW w) (Instr.loadAt 89 t52_45) (fun t53_46 =>
   takeW Tryz.prog anyW (binS BinOp.sub 3 (Operand.tmp 54) (Operand.const (Value.int IntKind.i64 2)) i_38 (Value.int IntKind.i64 2)) (fun t55_47 =>
   takeW Tryz.prog anyW (Instr.indexAt 120 w_2 t55_47) (fun t56_48 =>
   takeW Tryz.prog (sameW w) (Instr.loadAt 89 t56_48) (fun t57_49 =>
   joinW (fun w =>
   opW Tryz.prog (binS BinOp.add 3 (Operand.tmp 48) (Operand.const (Value.int IntKind.i64 1)) i_38 (Value.int IntKind.i64 1)) (fun t49_88 w =>
   loopK [] [] [w_2] [w_2] (K_39 t49_88 w)) w) (fun J_50 =>
   drewW w (fun w =>
   ∃ S : World → Prop, S w ∧
   takeW Tryz.prog anyW (binS BinOp.sub 3 (Operand.tmp 59) (Operand.const (Value.int IntKind.i64 16)) i_38 (Value.int IntKind.i64 16)) (fun t60_51 =>
   takeW Tryz.prog anyW (Instr.indexAt 120 w_2 t60_51) (fun t61_52 =>
   takeW Tryz.prog S (Instr.loadAt 89 t61_52) (fun t62_53 =>
   takeW Tryz.prog anyW (binS BinOp.shr 89 (Operand.tmp 66) (Operand.const (Value.int IntKind.u64 3)) t53_46 (Value.int IntKind.u64 3)) (fun t67_54 =>
   takeW Tryz.prog anyW (binS BinOp.sub 3 (Operand.tmp 70) (Operand.const (Value.int IntKind.i64 7)) i_38 (Value.int IntKind.i64 7)) (fun t71_55 =>
   takeW Tryz.prog anyW (Instr.indexAt 120 w_2 t71_55) (fun t72_56 =>
   takeW Tryz.prog S (Instr.loadAt 89 t72_56) (fun t73_57 =>
   takeW Tryz.prog anyW (binS BinOp.shr 89 (Operand.tmp 78) (Operand.const (Value.int IntKind.u64 10)) t57_49 (Value.int IntKind.u64 10)) (fun t79_58 =>
   (opW Tryz.prog (Instr.buildSlice 54 2 #[(0, (Value.int IntKind.i64 7)), (1, (Value.int IntKind.i64 18))]) (fun t64_59 w => keepS S (fun w =>
   (callW Tryz.prog (Value.func (Fn.func 88) #[] #[]) #[t53_46, t64_59] (fun t65_60 w => keepS S (fun w =>
   takeW Tryz.prog anyW (binS BinOp.xor 89 (Operand.tmp 65) (Operand.tmp 67) t65_60 t67_54) (fun t68_61 =>
   takeW Tryz.prog anyW (binS BinOp.add 89 (Operand.tmp 62) (Operand.tmp 68) t62_53 t68_61) (fun t69_62 =>
   takeW Tryz.prog anyW (binS BinOp.add 89 (Operand.tmp 69) (Operand.tmp 73) t69_62 t73_57) (fun t74_63 =>
   opW Tryz.prog (Instr.buildSlice 54 2 #[(0, (Value.int IntKind.i64 17)), (1, (Value.int IntKind.i64 19))]) (fun t76_64 w => keepS S (fun w =>
   callW Tryz.prog (Value.func (Fn.func 88) #[] #[]) #[t57_49, t76_64] (fun t77_65 w => keepS S (fun w =>
   takeW Tryz.prog anyW (binS BinOp.xor 89 (Operand.tmp 77) (Operand.tmp 79) t77_65 t79_58) (fun t80_66 =>
   takeW Tryz.prog anyW (binS BinOp.add 89 (Operand.tmp 74) (Operand.tmp 80) t74_63 t80_66) (fun t81_67 =>
   takeW Tryz.prog anyW (Instr.indexAt 120 w_2 i_38) (fun t82_68 =>
   opU Tryz.prog (Instr.storeAt 89 t82_68 t81_67) (fun _ w =>
   J_50 w) w) w) w) w) w) w) w) w) w) w) w) w) w) ∧ (opW Tryz.prog (Instr.buildSlice 54 2 #[(0, (Value.int IntKind.i64 17)), (1, (Value.int IntKind.i64 19))]) (fun t76_69 w => keepS S (fun w =>
   callW Tryz.prog (Value.func (Fn.func 88) #[] #[]) #[t53_46, t64_59] (fun t65_70 w => keepS S (fun w =>
   takeW Tryz.prog anyW (binS BinOp.xor 89 (Operand.tmp 65) (Operand.tmp 67) t65_70 t67_54) (fun t68_71 =>
   takeW Tryz.prog anyW (binS BinOp.add 89 (Operand.tmp 62) (Operand.tmp 68) t62_53 t68_71) (fun t69_72 =>
   takeW Tryz.prog anyW (binS BinOp.add 89 (Operand.tmp 69) (Operand.tmp 73) t69_72 t73_57) (fun t74_73 =>
   callW Tryz.prog (Value.func (Fn.func 88) #[] #[]) #[t57_49, t76_69] (fun t77_74 w => keepS S (fun w =>
   takeW Tryz.prog anyW (binS BinOp.xor 89 (Operand.tmp 77) (Operand.tmp 79) t77_74 t79_58) (fun t80_75 =>
   takeW Tryz.prog anyW (binS BinOp.add 89 (Operand.tmp 74) (Operand.tmp 80) t74_73 t80_75) (fun t81_76 =>
   takeW Tryz.prog anyW (Instr.indexAt 120 w_2 i_38) (fun t82_77 =>
   opU Tryz.prog (Instr.storeAt 89 t82_77 t81_76) (fun _ w =>
   J_50 w) w) w) w) w) w) w) w) w) w) w) w) w) w)) w) w) ∧ (opW Tryz.prog (Instr.buildSlice 54 2 #[(0, (Value.int IntKind.i64 17)), (1, (Value.int IntKind.i64 19))]) (fun t76_78 w => keepS S (fun w =>
   opW Tryz.prog (Instr.buildSlice 54 2 #[(0, (Value.int IntKind.i64 7)), (1, (Value.int IntKind.i64 18))]) (fun t64_79 w => keepS S (fun w =>
   callW Tryz.prog (Value.func (Fn.func 88) #[] #[]) #[t53_46, t64_79] (fun t65_80 w => keepS S (fun w =>
   takeW Tryz.prog anyW (binS BinOp.xor 89 (Operand.tmp 65) (Operand.tmp 67) t65_80 t67_54) (fun t68_81 =>
   takeW Tryz.prog anyW (binS BinOp.add 89 (Operand.tmp 62) (Operand.tmp 68) t62_53 t68_81) (fun t69_82 =>
   takeW Tryz.prog anyW (binS BinOp.add 89 (Operand.tmp 69) (Operand.tmp 73) t69_82 t73_57) (fun t74_83 =>
   callW Tryz.prog (Value.func (Fn.func 88) #[] #[]) #[t57_49, t76_78] (fun t77_84 w => keepS S (fun w =>
   takeW Tryz.prog anyW (binS BinOp.xor 89 (Operand.tmp 77) (Operand.tmp 79) t77_84 t79_58) (fun t80_85 =>
   takeW Tryz.prog anyW (binS BinOp.add 89 (Operand.tmp 74) (Operand.tmp 80) t74_83 t80_85) (fun t81_86 =>
   takeW Tryz.prog anyW (Instr.indexAt 120 w_2 i_38) (fun t82_87 =>
   opU Tryz.prog (Instr.storeAt 89 t82_87 t81_86) (fun _ w =>
   J_50 w) w) w) w) w) w) w) w) w) w) w) w) w) w) w) w)) w) w) w) w) w) w) w) w))) w) w) w) w) w) w))
   (opW Tryz.prog (Instr.loadAt 120 w_2) (fun t83_89 w =>
   opU Tryz.prog (Instr.storeAt 120 w_2 t83_89) (fun _ w =>
   resCell Tryz.prog 120 w_2 (fun r_90 => k r_90 w) w) w) w)) w) (Value.int IntKind.i64 16) w)) w) (Value.int IntKind.i64 0) w) w
theorem S87_vc (b_1 : Value) (k : Value → World → Prop) (w : World) : vc Tryz.prog Tryz.f87.ntmps ann87 none ((Tryz.f87.body).getD Code.skip) 1 (params 0 [b_1]) [] (finQ Tryz.prog Tryz.f87.results.toList k) w = S87 b_1 k w := by kernel_rfl
theorem S87_calls (b_1 : Value) (k : Value → World → Prop) (w : World) (h : S87 b_1 k w) : Calls Tryz.prog 87 #[b_1] w (retP k) :=
  calls_of_vc (fn := Tryz.f87) (c := (Tryz.f87.body).getD Code.skip) ann87 Tryz.func87 (by kernel_rfl) [b_1] w k (by kernel_rfl) ((S87_vc b_1 k w).symm ▸ h)
theorem C87 (b_1 : Value) (k : Value → World → Prop) (w : World) (h : S87 b_1 k w) : callW Tryz.prog (.func (.func 87) #[] #[]) #[b_1] k w :=
  callW_calls ok87 (by simpa using S87_calls b_1 k w h)

/-! newswire/digest.mixed -/
def ann88 : Ann := [(29, Note.keep [5]), (58, Note.loop [5, 10] [0, 8, 9]), (934, Note.keep [0, 5, 8, 9, 10])]
def S88 (x_1 l_2 : Value) (k : Value → World → Prop) (w : World) : Prop :=
   opW Tryz.prog (Builtin.len_ #[54] 3 #[l_2]) (fun t9_3 w =>
   Loop2 (fun out_5 t10_6 w K_7 =>
   opW Tryz.prog (binS BinOp.lss 3 (Operand.tmp 10) (Operand.tmp 9) t10_6 t9_3) (fun t11_8 w =>
   condW t11_8
   (opW Tryz.prog (Instr.indexAt 54 l_2 t10_6) (fun t12_11 w =>
   opW Tryz.prog (Instr.loadAt 3 t12_11) (fun t13_12 w =>
   opW Tryz.prog (Op.unary UnOp.neg t13_12) (fun t17_13 w =>
   callW Tryz.prog (Value.func (Fn.func 103) #[] #[]) #[x_1, t17_13] (fun t18_14 w =>
   opW Tryz.prog (binS BinOp.xor 89 (Operand.tmp 14) (Operand.tmp 18) out_5 t18_14) (fun t19_15 w =>
   opW Tryz.prog (binS BinOp.add 3 (Operand.tmp 10) (Operand.const (Value.int IntKind.i64 1)) t10_6 (Value.int IntKind.i64 1)) (fun t20_16 w =>
   loopK [] [] [x_1, l_2, t9_3] [x_1, l_2, t9_3] (K_7 t19_15 t20_16 w)) w) w) w) w) w) w)
   (k out_5 w)) w) (Value.int IntKind.u32 0) (Value.int IntKind.i64 0) w) w
theorem S88_vc (x_1 l_2 : Value) (k : Value → World → Prop) (w : World) : vc Tryz.prog Tryz.f88.ntmps ann88 none ((Tryz.f88.body).getD Code.skip) 1 (params 0 [x_1, l_2]) [] (finQ Tryz.prog Tryz.f88.results.toList k) w = S88 x_1 l_2 k w := by kernel_rfl
theorem S88_calls (x_1 l_2 : Value) (k : Value → World → Prop) (w : World) (h : S88 x_1 l_2 k w) : Calls Tryz.prog 88 #[x_1, l_2] w (retP k) :=
  calls_of_vc (fn := Tryz.f88) (c := (Tryz.f88.body).getD Code.skip) ann88 Tryz.func88 (by kernel_rfl) [x_1, l_2] w k (by kernel_rfl) ((S88_vc x_1 l_2 k w).symm ▸ h)
theorem C88 (x_1 l_2 : Value) (k : Value → World → Prop) (w : World) (h : S88 x_1 l_2 k w) : callW Tryz.prog (.func (.func 88) #[] #[]) #[x_1, l_2] k w :=
  callW_calls ok88 (by simpa using S88_calls x_1 l_2 k w h)

/-! slices.pdqsortCmpFunc[newswire/api.Dispatch] -/
def ann89 : Ann := [(7, Note.keep []), (14, Note.loop [1, 2, 3, 10, 11] [0, 4]), (28, Note.keep [0, 1, 2, 3, 4, 10, 11]), (29180, Note.plan (Plan.takeP 0 (Plan.takeP 1 (Plan.takeP 2 (Plan.takeP 3 (Plan.takeP 4 (Plan.takeP 5 (Plan.takeP 6 (Plan.takeP 7 (Plan.takeX 8 (Plan.takeP 9 (Plan.takeP 10 (Plan.takeP 11 (Plan.takeX 12 (Plan.run 13 (Plan.takeP 14 (Plan.takeP 15 (Plan.takeP 16 Plan.done))))))))))))))))))]
def S89 (data_1 a_2 b_3 limit_4 cmp_5 : Value) (k : Value → World → Prop) (w : World) : Prop :=
   Loop5 (fun a_7 b_8 limit_9 wasBalanced_10 wasPartitioned_11 w K_12 =>
   joinW (fun a_75 b_76 limit_77 wasBalanced_78 wasPartitioned_79 w =>
   loopK [] [] [data_1, cmp_5] [data_1, cmp_5] (K_12 a_75 b_76 limit_77 wasBalanced_78 wasPartitioned_79 w)) (fun J_13 =>
   opW Tryz.prog (binS BinOp.sub 3 (Operand.tmp 21) (Operand.tmp 22) b_8 a_7) (fun t23_14 w =>
   opW Tryz.prog (binS BinOp.leq 3 (Operand.tmp 24) (Operand.const (Value.int IntKind.i64 12)) t23_14 (Value.int IntKind.i64 12)) (fun t25_16 w =>
   condW t25_16
   (callW Tryz.prog (Value.func (Fn.func 104) #[] #[]) #[data_1, a_7, b_8, cmp_5] (fun t30_17 w =>
   k (Value.tuple #[]) w) w)
   (opW Tryz.prog (binS BinOp.eql 3 (Operand.tmp 31) (Operand.const (Value.int IntKind.i64 0)) limit_9 (Value.int IntKind.i64 0)) (fun t32_19 w =>
   condW t32_19
   (callW Tryz.prog (Value.func (Fn.func 105) #[] #[]) #[data_1, a_7, b_8, cmp_5] (fun t37_20 w =>
   k (Value.tuple #[]) w) w)
   (joinW (fun limit_25 w =>
   callW Tryz.prog (Value.func (Fn.func 107) #[] #[]) #[data_1, a_7, b_8, cmp_5] (fun t52_26 w =>
   opW Tryz.prog (Instr.extract t52_26 0) (fun t53_27 w =>
   opW Tryz.prog (Instr.extract t52_26 1) (fun t54_28 w =>
   joinW (fun pivot_35 hint_36 w =>
   joinW (fun w =>
   drewW w (fun w =>
   takeW Tryz.prog anyW (binS BinOp.gtr 3 (Operand.tmp 81) (Operand.const (Value.int IntKind.i64 0)) a_7 (Value.int IntKind.i64 0)) (fun t82_46 =>
   guardT (some t82_46, true) (fun k => k cmp_5) (fun t84_47 =>
   guardT (some t82_46, true) (fun k => k data_1) (fun t85_48 =>
   guardT (some t82_46, true) (fun k => k a_7) (fun t86_49 =>
   guardT (some t82_46, true) (fun k => takeW Tryz.prog anyW (binS BinOp.sub 3 (Operand.tmp 86) (Operand.const (Value.int IntKind.i64 1)) t86_49 (Value.int IntKind.i64 1)) k w) (fun t87_50 =>
   guardT (some t82_46, true) (fun k => takeW Tryz.prog anyW (Instr.indexAt 24 t85_48 t87_50) k w) (fun t88_51 =>
   guardT (some t82_46, true) (fun k => takeW Tryz.prog (sameW w) (Instr.loadAt 31 t88_51) k w) (fun t89_52 =>
   guardT (some t82_46, true) (fun k => k data_1) (fun t90_53 =>
   guardT (some t82_46, true) (fun k => k pivot_35) (fun t91_54 =>
   guardT (some t82_46, true) (fun k => takeW Tryz.prog anyW (Instr.indexAt 24 t90_53 t91_54) k w) (fun t92_55 =>
   guardT (some t82_46, true) (fun k => takeW Tryz.prog (sameW w) (Instr.loadAt 31 t92_55) k w) (fun t93_56 =>
   guardW (some t82_46, true) (fun k w => callW Tryz.prog t84_47 #[t89_52, t93_56] k w) (fun t94_57 w =>
   guardT (some t82_46, true) (fun k => takeW Tryz.prog anyW (binS BinOp.lss 3 (Operand.tmp 94) (Operand.const (Value.int IntKind.i64 0)) t94_57 (Value.int IntKind.i64 0)) k w) (fun t95_58 =>
   guardT (some t82_46, true) (fun k => takeW Tryz.prog anyW (Op.unary UnOp.not t95_58) k w) (fun t96_59 =>
   pickT t82_46 t96_59 (Value.bool false) (fun t97_60 =>
   condW t97_60
   (callW Tryz.prog (Value.func (Fn.func 110) #[] #[]) #[data_1, a_7, b_8, pivot_35, cmp_5] (fun t103_61 w =>
   J_13 t103_61 b_8 limit_25 wasBalanced_10 wasPartitioned_11 w) w)
   (callW Tryz.prog (Value.func (Fn.func 111) #[] #[]) #[data_1, a_7, b_8, pivot_35, cmp_5] (fun t111_62 w =>
   opW Tryz.prog (Instr.extract t111_62 0) (fun t112_63 w =>
   opW Tryz.prog (Instr.extract t111_62 1) (fun t113_64 w =>
   opW Tryz.prog (binS BinOp.sub 3 (Operand.tmp 115) (Operand.tmp 116) t112_63 a_7) (fun t117_65 w =>
   opW Tryz.prog (binS BinOp.sub 3 (Operand.tmp 118) (Operand.tmp 119) b_8 t112_63) (fun t120_66 w =>
   opW Tryz.prog (binS BinOp.quo 3 (Operand.tmp 121) (Operand.const (Value.int IntKind.i64 8)) t23_14 (Value.int IntKind.i64 8)) (fun t122_67 w =>
   opW Tryz.prog (binS BinOp.lss 3 (Operand.tmp 123) (Operand.tmp 124) t117_65 t120_66) (fun t125_68 w =>
   condW t125_68
   (opW Tryz.prog (binS BinOp.geq 3 (Operand.tmp 126) (Operand.tmp 127) t117_65 t122_67) (fun t128_69 w =>
   callW Tryz.prog (Value.func (Fn.func 89) #[] #[]) #[data_1, a_7, t112_63, limit_25, cmp_5] (fun t134_70 w =>
   opW Tryz.prog (binS BinOp.add 3 (Operand.tmp 135) (Operand.const (Value.int IntKind.i64 1)) t112_63 (Value.int IntKind.i64 1)) (fun t136_71 w =>
   J_13 t136_71 b_8 limit_25 t128_69 t113_64 w) w) w) w)
   (opW Tryz.prog (binS BinOp.geq 3 (Operand.tmp 137) (Operand.tmp 138) t120_66 t122_67) (fun t139_72 w =>
   opW Tryz.prog (binS BinOp.add 3 (Operand.tmp 141) (Operand.const (Value.int IntKind.i64 1)) t112_63 (Value.int IntKind.i64 1)) (fun t142_73 w =>
   callW Tryz.prog (Value.func (Fn.func 89) #[] #[]) #[data_1, t142_73, b_8, limit_25, cmp_5] (fun t146_74 w =>
   J_13 a_7 t112_63 limit_25 t139_72 t113_64 w) w) w) w)) w) w) w) w) w) w) w))))) w))))))))))) w)) (fun J_37 =>
   guardW (some wasBalanced_10, true) (fun k w => k wasPartitioned_11 w) (fun t70_38 w =>
   pickW wasBalanced_10 t70_38 (Value.bool false) (fun t71_39 w =>
   guardW (some t71_39, true) (fun k w => k hint_36 w) (fun t73_40 w =>
   guardW (some t71_39, true) (fun k w => opW Tryz.prog (binS BinOp.eql 128 (Operand.tmp 73) (Operand.const (Value.int IntKind.i64 1)) t73_40 (Value.int IntKind.i64 1)) k w) (fun t74_41 w =>
   pickW t71_39 t74_41 (Value.bool false) (fun t75_42 w =>
   condW t75_42
   (callW Tryz.prog (Value.func (Fn.func 109) #[] #[]) #[data_1, a_7, b_8, cmp_5] (fun t80_43 w =>
   condW t80_43
   (k (Value.tuple #[]) w)
   (J_37 w)) w)
   (J_37 w)) w) w) w) w) w)) (fun J_29 =>
   opW Tryz.prog (binS BinOp.eql 128 (Operand.tmp 55) (Operand.const (Value.int IntKind.i64 2)) t54_28 (Value.int IntKind.i64 2)) (fun t56_30 w =>
   condW t56_30
   (callW Tryz.prog (Value.func (Fn.func 108) #[] #[]) #[data_1, a_7, b_8, cmp_5] (fun t61_31 w =>
   opW Tryz.prog (binS BinOp.sub 3 (Operand.tmp 62) (Operand.const (Value.int IntKind.i64 1)) b_8 (Value.int IntKind.i64 1)) (fun t63_32 w =>
   opW Tryz.prog (binS BinOp.sub 3 (Operand.tmp 64) (Operand.tmp 65) t53_27 a_7) (fun t66_33 w =>
   opW Tryz.prog (binS BinOp.sub 3 (Operand.tmp 63) (Operand.tmp 66) t63_32 t66_33) (fun t67_34 w =>
   J_29 t67_34 (Value.int IntKind.i64 1) w) w) w) w) w)
   (J_29 t53_27 t54_28 w)) w)) w) w) w) (fun J_21 =>
   opW Tryz.prog (Op.unary UnOp.not wasBalanced_10) (fun t39_22 w =>
   condW t39_22
   (callW Tryz.prog (Value.func (Fn.func 106) #[] #[]) #[data_1, a_7, b_8, cmp_5] (fun t44_23 w =>
   opW Tryz.prog (binS BinOp.sub 3 (Operand.tmp 45) (Operand.const (Value.int IntKind.i64 1)) limit_9 (Value.int IntKind.i64 1)) (fun t46_24 w =>
   J_21 t46_24 w) w) w)
   (J_21 limit_9 w)) w))) w)) w) w)) a_2 b_3 limit_4 (Value.bool true) (Value.bool true) w
theorem S89_vc (data_1 a_2 b_3 limit_4 cmp_5 : Value) (k : Value → World → Prop) (w : World) : vc Tryz.prog Tryz.f89.ntmps ann89 none ((Tryz.f89.body).getD Code.skip) 1 (params 0 [data_1, a_2, b_3, limit_4, cmp_5]) [] (finQ Tryz.prog Tryz.f89.results.toList k) w = S89 data_1 a_2 b_3 limit_4 cmp_5 k w := by kernel_rfl
theorem S89_calls (data_1 a_2 b_3 limit_4 cmp_5 : Value) (k : Value → World → Prop) (w : World) (h : S89 data_1 a_2 b_3 limit_4 cmp_5 k w) : Calls Tryz.prog 89 #[data_1, a_2, b_3, limit_4, cmp_5] w (retP k) :=
  calls_of_vc (fn := Tryz.f89) (c := (Tryz.f89.body).getD Code.skip) ann89 Tryz.func89 (by kernel_rfl) [data_1, a_2, b_3, limit_4, cmp_5] w k (by kernel_rfl) ((S89_vc data_1 a_2 b_3 limit_4 cmp_5 k w).symm ▸ h)
theorem C89 (data_1 a_2 b_3 limit_4 cmp_5 : Value) (k : Value → World → Prop) (w : World) (h : S89 data_1 a_2 b_3 limit_4 cmp_5 k w) : callW Tryz.prog (.func (.func 89) #[] #[]) #[data_1, a_2, b_3, limit_4, cmp_5] k w :=
  callW_calls ok89 (by simpa using S89_calls data_1 a_2 b_3 limit_4 cmp_5 k w h)

/-! slices.insertionSortCmpFunc[newswire/api.Slip] -/
def ann90 : Ann := [(3, Note.keep []), (6, Note.loop [8] [0, 1, 2, 3]), (50, Note.keep [0, 1, 2, 3, 8]), (201, Note.keep [0, 1, 2, 3, 8]), (402, Note.loop [9] [0, 1, 2, 3, 8]), (3216, Note.plan (Plan.takeP 0 (Plan.takeP 1 (Plan.takeP 2 (Plan.takeP 3 (Plan.takeP 4 (Plan.takeP 5 (Plan.takeP 6 (Plan.takeP 7 (Plan.takeX 8 (Plan.takeP 9 (Plan.takeP 10 (Plan.takeP 11 (Plan.takeP 12 (Plan.takeX 13 (Plan.run 14 (Plan.takeP 15 (Plan.takeP 16 Plan.done)))))))))))))))))), (3218, Note.keep [0, 1, 2, 3, 8, 9]), (6436, Note.plan (Plan.takeP 0 (Plan.takeP 1 (Plan.takeP 2 (Plan.takeP 3 (Plan.takeP 4 (Plan.takeP 5 (Plan.takeP 6 (Plan.takeP 7 (Plan.takeP 8 (Plan.takeX 9 (Plan.takeP 10 (Plan.takeP 11 (Plan.takeP 12 (Plan.takeX 13 (Plan.takeP 14 (Plan.run 15 (Plan.takeP 16 (Plan.run 17 Plan.done)))))))))))))))))))]
def S90 (data_1 a_2 b_3 cmp_4 : Value) (k : Value → World → Prop) (w : World) : Prop :=
   opW Tryz.prog (binS BinOp.add 3 (Operand.tmp 10) (Operand.const (Value.int IntKind.i64 1)) a_2 (Value.int IntKind.i64 1)) (fun t11_5 w =>
   Loop1 (fun i_7 w K_8 =>
   opW Tryz.prog (binS BinOp.lss 3 (Operand.tmp 12) (Operand.tmp 13) i_7 b_3) (fun t14_10 w =>
   condW t14_10
   (Loop1 (fun j_13 w K_14 =>
   drewW w (fun w =>
   takeW Tryz.prog anyW (binS BinOp.gtr 3 (Operand.tmp 18) (Operand.tmp 19) j_13 a_2) (fun t20_17 =>
   guardT (some t20_17, true) (fun k => k cmp_4) (fun t22_18 =>
   guardT (some t20_17, true) (fun k => k data_1) (fun t23_19 =>
   guardT (some t20_17, true) (fun k => k j_13) (fun t24_20 =>
   guardT (some t20_17, true) (fun k => takeW Tryz.prog anyW (Instr.indexAt 25 t23_19 t24_20) k w) (fun t25_21 =>
   guardT (some t20_17, true) (fun k => takeW Tryz.prog (sameW w) (Instr.loadAt 63 t25_21) k w) (fun t26_22 =>
   guardT (some t20_17, true) (fun k => k data_1) (fun t27_23 =>
   guardT (some t20_17, true) (fun k => k j_13) (fun t28_24 =>
   guardT (some t20_17, true) (fun k => takeW Tryz.prog anyW (binS BinOp.sub 3 (Operand.tmp 28) (Operand.const (Value.int IntKind.i64 1)) t28_24 (Value.int IntKind.i64 1)) k w) (fun t29_25 =>
   guardT (some t20_17, true) (fun k => takeW Tryz.prog anyW (Instr.indexAt 25 t27_23 t29_25) k w) (fun t30_26 =>
   guardT (some t20_17, true) (fun k => takeW Tryz.prog (sameW w) (Instr.loadAt 63 t30_26) k w) (fun t31_27 =>
   guardW (some t20_17, true) (fun k w => callW Tryz.prog t22_18 #[t26_22, t31_27] k w) (fun t32_28 w =>
   guardT (some t20_17, true) (fun k => takeW Tryz.prog anyW (binS BinOp.lss 3 (Operand.tmp 32) (Operand.const (Value.int IntKind.i64 0)) t32_28 (Value.int IntKind.i64 0)) k w) (fun t33_29 =>
   pickT t20_17 t33_29 (Value.bool false) (fun t34_30 =>
   condW t34_30
   (drewW w (fun w =>
   takeW Tryz.prog anyW (binS BinOp.sub 3 (Operand.tmp 40) (Operand.const (Value.int IntKind.i64 1)) j_13 (Value.int IntKind.i64 1)) (fun t41_33 =>
   takeW Tryz.prog anyW (binS BinOp.sub 3 (Operand.tmp 43) (Operand.const (Value.int IntKind.i64 1)) j_13 (Value.int IntKind.i64 1)) (fun t44_34 =>
   takeW Tryz.prog anyW (Instr.indexAt 25 data_1 t44_34) (fun t45_35 =>
   takeW Tryz.prog (sameW w) (Instr.loadAt 63 t45_35) (fun t46_36 =>
   takeW Tryz.prog anyW (Instr.indexAt 25 data_1 j_13) (fun t49_37 =>
   takeW Tryz.prog (sameW w) (Instr.loadAt 63 t49_37) (fun t50_38 =>
   takeW Tryz.prog anyW (Instr.indexAt 25 data_1 j_13) (fun t51_39 =>
   opU Tryz.prog (Instr.storeAt 63 t51_39 t46_36) (fun _ w =>
   takeW Tryz.prog anyW (Instr.indexAt 25 data_1 t41_33) (fun t52_40 =>
   opU Tryz.prog (Instr.storeAt 63 t52_40 t50_38) (fun _ w =>
   opW Tryz.prog (binS BinOp.sub 3 (Operand.tmp 35) (Operand.const (Value.int IntKind.i64 1)) j_13 (Value.int IntKind.i64 1)) (fun t36_41 w =>
   loopK [] [] [data_1, a_2, b_3, cmp_4, i_7] [data_1, a_2, b_3, cmp_4, i_7] (K_14 t36_41 w)) w) w) w) w) w) w) w) w) w) w) w))
   (opW Tryz.prog (binS BinOp.add 3 (Operand.tmp 15) (Operand.const (Value.int IntKind.i64 1)) i_7 (Value.int IntKind.i64 1)) (fun t16_42 w =>
   loopK [] [] [data_1, a_2, b_3, cmp_4] [data_1, a_2, b_3, cmp_4] (K_8 t16_42 w)) w)))) w))))))))))) w)) i_7 w)
   (k (Value.tuple #[]) w)) w) t11_5 w) w
theorem S90_vc (data_1 a_2 b_3 cmp_4 : Value) (k : Value → World → Prop) (w : World) : vc Tryz.prog Tryz.f90.ntmps ann90 none ((Tryz.f90.body).getD Code.skip) 1 (params 0 [data_1, a_2, b_3, cmp_4]) [] (finQ Tryz.prog Tryz.f90.results.toList k) w = S90 data_1 a_2 b_3 cmp_4 k w := by kernel_rfl
theorem S90_calls (data_1 a_2 b_3 cmp_4 : Value) (k : Value → World → Prop) (w : World) (h : S90 data_1 a_2 b_3 cmp_4 k w) : Calls Tryz.prog 90 #[data_1, a_2, b_3, cmp_4] w (retP k) :=
  calls_of_vc (fn := Tryz.f90) (c := (Tryz.f90.body).getD Code.skip) ann90 Tryz.func90 (by kernel_rfl) [data_1, a_2, b_3, cmp_4] w k (by kernel_rfl) ((S90_vc data_1 a_2 b_3 cmp_4 k w).symm ▸ h)
theorem C90 (data_1 a_2 b_3 cmp_4 : Value) (k : Value → World → Prop) (w : World) (h : S90 data_1 a_2 b_3 cmp_4 k w) : callW Tryz.prog (.func (.func 90) #[] #[]) #[data_1, a_2, b_3, cmp_4] k w :=
  callW_calls ok90 (by simpa using S90_calls data_1 a_2 b_3 cmp_4 k w h)

/-! math/bits.Len64 -/
def ann99 : Ann := []
def S99 (x_1 : Value) (k : Value → World → Prop) (w : World) : Prop :=
   joinW (fun x_5 n_6 w =>
   joinW (fun x_11 n_12 w =>
   joinW (fun x_17 n_18 w =>
   opW Tryz.prog (convert 137 5 x_17) (fun t21_19 w =>
   opW Tryz.prog (Instr.index 9 (Value.string { data := #[0, 1, 2, 2, 3, 3, 3, 3, 4, 4, 4, 4, 4, 4, 4, 4, 5, 5, 5, 5, 5, 5, 5, 5, 5, 5, 5, 5, 5, 5, 5, 5, 6, 6, 6, 6, 6, 6, 6, 6, 6, 6, 6, 6, 6, 6, 6, 6, 6, 6, 6, 6, 6, 6, 6, 6, 6, 6, 6, 6, 6, 6, 6, 6, 7, 7, 7, 7, 7, 7, 7, 7, 7, 7, 7, 7, 7, 7, 7, 7, 7, 7, 7, 7, 7, 7, 7, 7, 7, 7, 7, 7, 7, 7, 7, 7, 7, 7, 7, 7, 7, 7, 7, 7, 7, 7, 7, 7, 7, 7, 7, 7, 7, 7, 7, 7, 7, 7, 7, 7, 7, 7, 7, 7, 7, 7, 7, 7, 8, 8, 8, 8, 8, 8, 8, 8, 8, 8, 8, 8, 8, 8, 8, 8, 8, 8, 8, 8, 8, 8, 8, 8, 8, 8, 8, 8, 8, 8, 8, 8, 8, 8, 8, 8, 8, 8, 8, 8, 8, 8, 8, 8, 8, 8, 8, 8, 8, 8, 8, 8, 8, 8, 8, 8, 8, 8, 8, 8, 8, 8, 8, 8, 8, 8, 8, 8, 8, 8, 8, 8, 8, 8, 8, 8, 8, 8, 8, 8, 8, 8, 8, 8, 8, 8, 8, 8, 8, 8, 8, 8, 8, 8, 8, 8, 8, 8, 8, 8, 8, 8, 8, 8, 8, 8, 8, 8, 8, 8, 8, 8, 8, 8, 8, 8, 8, 8, 8, 8, 8, 8, 8, 8, 8, 8, 8, 8] }) t21_19) (fun t22_20 w =>
   opW Tryz.prog (convert 5 3 t22_20) (fun t23_21 w =>
   opW Tryz.prog (binS BinOp.add 3 (Operand.tmp 19) (Operand.tmp 23) n_18 t23_21) (fun t24_22 w =>
   k t24_22 w) w) w) w) w) (fun J_13 =>
   opW Tryz.prog (binS BinOp.geq 137 (Operand.tmp 13) (Operand.const (Value.int IntKind.u64 256)) x_11 (Value.int IntKind.u64 256)) (fun t14_14 w =>
   condW t14_14
   (opW Tryz.prog (binS BinOp.shr 137 (Operand.tmp 15) (Operand.const (Value.int IntKind.u64 8)) x_11 (Value.int IntKind.u64 8)) (fun t16_15 w =>
   opW Tryz.prog (binS BinOp.add 3 (Operand.tmp 17) (Operand.const (Value.int IntKind.i64 8)) n_12 (Value.int IntKind.i64 8)) (fun t18_16 w =>
   J_13 t16_15 t18_16 w) w) w)
   (J_13 x_11 n_12 w)) w)) (fun J_7 =>
   opW Tryz.prog (binS BinOp.geq 137 (Operand.tmp 7) (Operand.const (Value.int IntKind.u64 65536)) x_5 (Value.int IntKind.u64 65536)) (fun t8_8 w =>
   condW t8_8
   (opW Tryz.prog (binS BinOp.shr 137 (Operand.tmp 9) (Operand.const (Value.int IntKind.u64 16)) x_5 (Value.int IntKind.u64 16)) (fun t10_9 w =>
   opW Tryz.prog (binS BinOp.add 3 (Operand.tmp 11) (Operand.const (Value.int IntKind.i64 16)) n_6 (Value.int IntKind.i64 16)) (fun t12_10 w =>
   J_7 t10_9 t12_10 w) w) w)
   (J_7 x_5 n_6 w)) w)) (fun J_2 =>
   opW Tryz.prog (binS BinOp.geq 137 (Operand.tmp 3) (Operand.const (Value.int IntKind.u64 4294967296)) x_1 (Value.int IntKind.u64 4294967296)) (fun t4_3 w =>
   condW t4_3
   (opW Tryz.prog (binS BinOp.shr 137 (Operand.tmp 5) (Operand.const (Value.int IntKind.u64 32)) x_1 (Value.int IntKind.u64 32)) (fun t6_4 w =>
   J_2 t6_4 (Value.int IntKind.i64 32) w) w)
   (J_2 x_1 (Value.int IntKind.i64 0) w)) w)
theorem S99_vc (x_1 : Value) (k : Value → World → Prop) (w : World) : vc Tryz.prog Tryz.f99.ntmps ann99 none ((Tryz.f99.body).getD Code.skip) 1 (params 0 [x_1]) [] (finQ Tryz.prog Tryz.f99.results.toList k) w = S99 x_1 k w := by kernel_rfl
theorem S99_calls (x_1 : Value) (k : Value → World → Prop) (w : World) (h : S99 x_1 k w) : Calls Tryz.prog 99 #[x_1] w (retP k) :=
  calls_of_vc (fn := Tryz.f99) (c := (Tryz.f99.body).getD Code.skip) ann99 Tryz.func99 (by kernel_rfl) [x_1] w k (by kernel_rfl) ((S99_vc x_1 k w).symm ▸ h)
theorem C99 (x_1 : Value) (k : Value → World → Prop) (w : World) (h : S99 x_1 k w) : callW Tryz.prog (.func (.func 99) #[] #[]) #[x_1] k w :=
  callW_calls ok99 (by simpa using S99_calls x_1 k w h)

/-! cmp.isNaN[int] -/
def ann100 : Ann := []
def S100 (x_1 : Value) (k : Value → World → Prop) (w : World) : Prop :=
   opW Tryz.prog (binS BinOp.neq 3 (Operand.tmp 3) (Operand.tmp 4) x_1 x_1) (fun t5_2 w =>
   k t5_2 w) w
theorem S100_vc (x_1 : Value) (k : Value → World → Prop) (w : World) : vc Tryz.prog Tryz.f100.ntmps ann100 none ((Tryz.f100.body).getD Code.skip) 1 (params 0 [x_1]) [] (finQ Tryz.prog Tryz.f100.results.toList k) w = S100 x_1 k w := by kernel_rfl
theorem S100_calls (x_1 : Value) (k : Value → World → Prop) (w : World) (h : S100 x_1 k w) : Calls Tryz.prog 100 #[x_1] w (retP k) :=
  calls_of_vc (fn := Tryz.f100) (c := (Tryz.f100.body).getD Code.skip) ann100 Tryz.func100 (by kernel_rfl) [x_1] w k (by kernel_rfl) ((S100_vc x_1 k w).symm ▸ h)
theorem C100 (x_1 : Value) (k : Value → World → Prop) (w : World) (h : S100 x_1 k w) : callW Tryz.prog (.func (.func 100) #[] #[]) #[x_1] k w :=
  callW_calls ok100 (by simpa using S100_calls x_1 k w h)

/-! newswire/newswireref02.rotated -/
def ann101 : Ann := [(6, Note.plan (Plan.takeP 0 (Plan.takeP 1 (Plan.takeP 2 (Plan.takeP 3 (Plan.takeP 4 (Plan.takeP 5 (Plan.takeP 6 (Plan.takeP 7 (Plan.takeP 8 Plan.done))))))))))]
def S101 (x_1 n_2 : Value) (k : Value → World → Prop) (w : World) : Prop :=
   drewW w (fun w =>
   takeW Tryz.prog anyW (binS BinOp.shr 89 (Operand.tmp 5) (Operand.tmp 6) x_1 n_2) (fun t7_4 =>
   takeW Tryz.prog anyW (binS BinOp.sub 3 (Operand.const (Value.int IntKind.i64 32)) (Operand.tmp 9) (Value.int IntKind.i64 32) n_2) (fun t10_5 =>
   takeW Tryz.prog anyW (binS BinOp.shl 89 (Operand.tmp 8) (Operand.tmp 10) x_1 t10_5) (fun t11_6 =>
   takeW Tryz.prog anyW (binS BinOp.or 89 (Operand.tmp 7) (Operand.tmp 11) t7_4 t11_6) (fun t12_7 =>
   k t12_7 w) w) w) w) w)
theorem S101_vc (x_1 n_2 : Value) (k : Value → World → Prop) (w : World) : vc Tryz.prog Tryz.f101.ntmps ann101 none ((Tryz.f101.body).getD Code.skip) 1 (params 0 [x_1, n_2]) [] (finQ Tryz.prog Tryz.f101.results.toList k) w = S101 x_1 n_2 k w := by kernel_rfl
theorem S101_calls (x_1 n_2 : Value) (k : Value → World → Prop) (w : World) (h : S101 x_1 n_2 k w) : Calls Tryz.prog 101 #[x_1, n_2] w (retP k) :=
  calls_of_vc (fn := Tryz.f101) (c := (Tryz.f101.body).getD Code.skip) ann101 Tryz.func101 (by kernel_rfl) [x_1, n_2] w k (by kernel_rfl) ((S101_vc x_1 n_2 k w).symm ▸ h)
theorem C101 (x_1 n_2 : Value) (k : Value → World → Prop) (w : World) (h : S101 x_1 n_2 k w) : callW Tryz.prog (.func (.func 101) #[] #[]) #[x_1, n_2] k w :=
  callW_calls ok101 (by simpa using S101_calls x_1 n_2 k w h)

/-! newswire/newswireref02.constants -/
def ann102 : Ann := []
def S102 (k : Value → World → Prop) (w : World) : Prop :=
   opW Tryz.prog (Instr.buildSlice 115 64 #[(0, (Value.int IntKind.u32 1116352408)), (1, (Value.int IntKind.u32 1899447441)), (2, (Value.int IntKind.u32 3049323471)), (3, (Value.int IntKind.u32 3921009573)), (4, (Value.int IntKind.u32 961987163)), (5, (Value.int IntKind.u32 1508970993)), (6, (Value.int IntKind.u32 2453635748)), (7, (Value.int IntKind.u32 2870763221)), (8, (Value.int IntKind.u32 3624381080)), (9, (Value.int IntKind.u32 310598401)), (10, (Value.int IntKind.u32 607225278)), (11, (Value.int IntKind.u32 1426881987)), (12, (Value.int IntKind.u32 1925078388)), (13, (Value.int IntKind.u32 2162078206)), (14, (Value.int IntKind.u32 2614888103)), (15, (Value.int IntKind.u32 3248222580)), (16, (Value.int IntKind.u32 3835390401)), (17, (Value.int IntKind.u32 4022224774)), (18, (Value.int IntKind.u32 264347078)), (19, (Value.int IntKind.u32 604807628)), (20, (Value.int IntKind.u32 770255983)), (21, (Value.int IntKind.u32 1249150122)), (22, (Value.int IntKind.u32 1555081692)), (23, (Value.int IntKind.u32 1996064986)), (24, (Value.int IntKind.u32 2554220882)), (25, (Value.int IntKind.u32 2821834349)), (26, (Value.int IntKind.u32 2952996808)), (27, (Value.int IntKind.u32 3210313671)), (28, (Value.int IntKind.u32 3336571891)), (29, (Value.int IntKind.u32 3584528711)), (30, (Value.int IntKind.u32 113926993)), (31, (Value.int IntKind.u32 338241895)), (32, (Value.int IntKind.u32 666307205)), (33, (Value.int IntKind.u32 773529912)), (34, (Value.int IntKind.u32 1294757372)), (35, (Value.int IntKind.u32 1396182291)), (36, (Value.int IntKind.u32 1695183700)), (37, (Value.int IntKind.u32 1986661051)), (38, (Value.int IntKind.u32 2177026350)), (39, (Value.int IntKind.u32 2456956037)), (40, (Value.int IntKind.u32 2730485921)), (41, (Value.int IntKind.u32 2820302411)), (42, (Value.int IntKind.u32 3259730800)), (43, (Value.int IntKind.u32 3345764771)), (44, (Value.int IntKind.u32 3516065817)), (45, (Value.int IntKind.u32 3600352804)), (46, (Value.int IntKind.u32 4094571909)), (47, (Value.int IntKind.u32 275423344)), (48, (Value.int IntKind.u32 430227734)), (49, (Value.int IntKind.u32 506948616)), (50, (Value.int IntKind.u32 659060556)), (51, (Value.int IntKind.u32 883997877)), (52, (Value.int IntKind.u32 958139571)), (53, (Value.int IntKind.u32 1322822218)), (54, (Value.int IntKind.u32 1537002063)), (55, (Value.int IntKind.u32 1747873779)), (56, (Value.int IntKind.u32 1955562222)), (57, (Value.int IntKind.u32 2024104815)), (58, (Value.int IntKind.u32 2227730452)), (59, (Value.int IntKind.u32 2361852424)), (60, (Value.int IntKind.u32 2428436474)), (61, (Value.int IntKind.u32 2756734187)), (62, (Value.int IntKind.u32 3204031479)), (63, (Value.int IntKind.u32 3329325298))]) (fun t1_1 w =>
   k t1_1 w) w
theorem S102_vc (k : Value → World → Prop) (w : World) : vc Tryz.prog Tryz.f102.ntmps ann102 none ((Tryz.f102.body).getD Code.skip) 1 (params 0 []) [] (finQ Tryz.prog Tryz.f102.results.toList k) w = S102 k w := by kernel_rfl
theorem S102_calls (k : Value → World → Prop) (w : World) (h : S102 k w) : Calls Tryz.prog 102 #[] w (retP k) :=
  calls_of_vc (fn := Tryz.f102) (c := (Tryz.f102.body).getD Code.skip) ann102 Tryz.func102 (by kernel_rfl) [] w k (by kernel_rfl) ((S102_vc k w).symm ▸ h)
theorem C102 (k : Value → World → Prop) (w : World) (h : S102 k w) : callW Tryz.prog (.func (.func 102) #[] #[]) #[] k w :=
  callW_calls ok102 (by simpa using S102_calls k w h)

/-! math/bits.RotateLeft32 -/
def ann103 : Ann := []
def S103 (x_1 k_2 : Value) (k : Value → World → Prop) (w : World) : Prop :=
   opW Tryz.prog (convert 3 113 k_2) (fun t7_3 w =>
   opW Tryz.prog (binS BinOp.and 113 (Operand.tmp 7) (Operand.const (Value.int IntKind.u64 31)) t7_3 (Value.int IntKind.u64 31)) (fun t8_4 w =>
   opW Tryz.prog (binS BinOp.shl 89 (Operand.tmp 9) (Operand.tmp 10) x_1 t8_4) (fun t11_5 w =>
   opW Tryz.prog (binS BinOp.sub 113 (Operand.const (Value.int IntKind.u64 32)) (Operand.tmp 13) (Value.int IntKind.u64 32) t8_4) (fun t14_6 w =>
   opW Tryz.prog (binS BinOp.shr 89 (Operand.tmp 12) (Operand.tmp 14) x_1 t14_6) (fun t15_7 w =>
   opW Tryz.prog (binS BinOp.or 89 (Operand.tmp 11) (Operand.tmp 15) t11_5 t15_7) (fun t16_8 w =>
   k t16_8 w) w) w) w) w) w) w
theorem S103_vc (x_1 k_2 : Value) (k : Value → World → Prop) (w : World) : vc Tryz.prog Tryz.f103.ntmps ann103 none ((Tryz.f103.body).getD Code.skip) 1 (params 0 [x_1, k_2]) [] (finQ Tryz.prog Tryz.f103.results.toList k) w = S103 x_1 k_2 k w := by kernel_rfl
theorem S103_calls (x_1 k_2 : Value) (k : Value → World → Prop) (w : World) (h : S103 x_1 k_2 k w) : Calls Tryz.prog 103 #[x_1, k_2] w (retP k) :=
  calls_of_vc (fn := Tryz.f103) (c := (Tryz.f103.body).getD Code.skip) ann103 Tryz.func103 (by kernel_rfl) [x_1, k_2] w k (by kernel_rfl) ((S103_vc x_1 k_2 k w).symm ▸ h)
theorem C103 (x_1 k_2 : Value) (k : Value → World → Prop) (w : World) (h : S103 x_1 k_2 k w) : callW Tryz.prog (.func (.func 103) #[] #[]) #[x_1, k_2] k w :=
  callW_calls ok103 (by simpa using S103_calls x_1 k_2 k w h)

/-! slices.insertionSortCmpFunc[newswire/api.Dispatch] -/
def ann104 : Ann := [(3, Note.keep []), (6, Note.loop [8] [0, 1, 2, 3]), (50, Note.keep [0, 1, 2, 3, 8]), (201, Note.keep [0, 1, 2, 3, 8]), (402, Note.loop [9] [0, 1, 2, 3, 8]), (3216, Note.plan (Plan.takeP 0 (Plan.takeP 1 (Plan.takeP 2 (Plan.takeP 3 (Plan.takeP 4 (Plan.takeP 5 (Plan.takeP 6 (Plan.takeP 7 (Plan.takeX 8 (Plan.takeP 9 (Plan.takeP 10 (Plan.takeP 11 (Plan.takeP 12 (Plan.takeX 13 (Plan.run 14 (Plan.takeP 15 (Plan.takeP 16 Plan.done)))))))))))))))))), (3218, Note.keep [0, 1, 2, 3, 8, 9]), (6436, Note.plan (Plan.takeP 0 (Plan.takeP 1 (Plan.takeP 2 (Plan.takeP 3 (Plan.takeP 4 (Plan.takeP 5 (Plan.takeP 6 (Plan.takeP 7 (Plan.takeP 8 (Plan.takeX 9 (Plan.takeP 10 (Plan.takeP 11 (Plan.takeP 12 (Plan.takeX 13 (Plan.takeP 14 (Plan.run 15 (Plan.takeP 16 (Plan.run 17 Plan.done)))))))))))))))))))]
def S104 (data_1 a_2 b_3 cmp_4 : Value) (k : Value → World → Prop) (w : World) : Prop :=
   opW Tryz.prog (binS BinOp.add 3 (Operand.tmp 10) (Operand.const (Value.int IntKind.i64 1)) a_2 (Value.int IntKind.i64 1)) (fun t11_5 w =>
   Loop1 (fun i_7 w K_8 =>
   opW Tryz.prog (binS BinOp.lss 3 (Operand.tmp 12) (Operand.tmp 13) i_7 b_3) (fun t14_10 w =>
   condW t14_10
   (Loop1 (fun j_13 w K_14 =>
   drewW w (fun w =>
   takeW Tryz.prog anyW (binS BinOp.gtr 3 (Operand.tmp 18) (Operand.tmp 19) j_13 a_2) (fun t20_17 =>
   guardT (some t20_17, true) (fun k => k cmp_4) (fun t22_18 =>
   guardT (some t20_17, true) (fun k => k data_1) (fun t23_19 =>
   guardT (some t20_17, true) (fun k => k j_13) (fun t24_20 =>
   guardT (some t20_17, true) (fun k => takeW Tryz.prog anyW (Instr.indexAt 24 t23_19 t24_20) k w) (fun t25_21 =>
   guardT (some t20_17, true) (fun k => takeW Tryz.prog (sameW w) (Instr.loadAt 31 t25_21) k w) (fun t26_22 =>
   guardT (some t20_17, true) (fun k => k data_1) (fun t27_23 =>
   guardT (some t20_17, true) (fun k => k j_13) (fun t28_24 =>
   guardT (some t20_17, true) (fun k => takeW Tryz.prog anyW (binS BinOp.sub 3 (Operand.tmp 28) (Operand.const (Value.int IntKind.i64 1)) t28_24 (Value.int IntKind.i64 1)) k w) (fun t29_25 =>
   guardT (some t20_17, true) (fun k => takeW Tryz.prog anyW (Instr.indexAt 24 t27_23 t29_25) k w) (fun t30_26 =>
   guardT (some t20_17, true) (fun k => takeW Tryz.prog (sameW w) (Instr.loadAt 31 t30_26) k w) (fun t31_27 =>
   guardW (some t20_17, true) (fun k w => callW Tryz.prog t22_18 #[t26_22, t31_27] k w) (fun t32_28 w =>
   guardT (some t20_17, true) (fun k => takeW Tryz.prog anyW (binS BinOp.lss 3 (Operand.tmp 32) (Operand.const (Value.int IntKind.i64 0)) t32_28 (Value.int IntKind.i64 0)) k w) (fun t33_29 =>
   pickT t20_17 t33_29 (Value.bool false) (fun t34_30 =>
   condW t34_30
   (drewW w (fun w =>
   takeW Tryz.prog anyW (binS BinOp.sub 3 (Operand.tmp 40) (Operand.const (Value.int IntKind.i64 1)) j_13 (Value.int IntKind.i64 1)) (fun t41_33 =>
   takeW Tryz.prog anyW (binS BinOp.sub 3 (Operand.tmp 43) (Operand.const (Value.int IntKind.i64 1)) j_13 (Value.int IntKind.i64 1)) (fun t44_34 =>
   takeW Tryz.prog anyW (Instr.indexAt 24 data_1 t44_34) (fun t45_35 =>
   takeW Tryz.prog (sameW w) (Instr.loadAt 31 t45_35) (fun t46_36 =>
   takeW Tryz.prog anyW (Instr.indexAt 24 data_1 j_13) (fun t49_37 =>
   takeW Tryz.prog (sameW w) (Instr.loadAt 31 t49_37) (fun t50_38 =>
   takeW Tryz.prog anyW (Instr.indexAt 24 data_1 j_13) (fun t51_39 =>
   opU Tryz.prog (Instr.storeAt 31 t51_39 t46_36) (fun _ w =>
   takeW Tryz.prog anyW (Instr.indexAt 24 data_1 t41_33) (fun t52_40 =>
   opU Tryz.prog (Instr.storeAt 31 t52_40 t50_38) (fun _ w =>
   opW Tryz.prog (binS BinOp.sub 3 (Operand.tmp 35) (Operand.const (Value.int IntKind.i64 1)) j_13 (Value.int IntKind.i64 1)) (fun t36_41 w =>
   loopK [] [] [data_1, a_2, b_3, cmp_4, i_7] [data_1, a_2, b_3, cmp_4, i_7] (K_14 t36_41 w)) w) w) w) w) w) w) w) w) w) w) w))
   (opW Tryz.prog (binS BinOp.add 3 (Operand.tmp 15) (Operand.const (Value.int IntKind.i64 1)) i_7 (Value.int IntKind.i64 1)) (fun t16_42 w =>
   loopK [] [] [data_1, a_2, b_3, cmp_4] [data_1, a_2, b_3, cmp_4] (K_8 t16_42 w)) w)))) w))))))))))) w)) i_7 w)
   (k (Value.tuple #[]) w)) w) t11_5 w) w
theorem S104_vc (data_1 a_2 b_3 cmp_4 : Value) (k : Value → World → Prop) (w : World) : vc Tryz.prog Tryz.f104.ntmps ann104 none ((Tryz.f104.body).getD Code.skip) 1 (params 0 [data_1, a_2, b_3, cmp_4]) [] (finQ Tryz.prog Tryz.f104.results.toList k) w = S104 data_1 a_2 b_3 cmp_4 k w := by kernel_rfl
theorem S104_calls (data_1 a_2 b_3 cmp_4 : Value) (k : Value → World → Prop) (w : World) (h : S104 data_1 a_2 b_3 cmp_4 k w) : Calls Tryz.prog 104 #[data_1, a_2, b_3, cmp_4] w (retP k) :=
  calls_of_vc (fn := Tryz.f104) (c := (Tryz.f104.body).getD Code.skip) ann104 Tryz.func104 (by kernel_rfl) [data_1, a_2, b_3, cmp_4] w k (by kernel_rfl) ((S104_vc data_1 a_2 b_3 cmp_4 k w).symm ▸ h)
theorem C104 (data_1 a_2 b_3 cmp_4 : Value) (k : Value → World → Prop) (w : World) (h : S104 data_1 a_2 b_3 cmp_4 k w) : callW Tryz.prog (.func (.func 104) #[] #[]) #[data_1, a_2, b_3, cmp_4] k w :=
  callW_calls ok104 (by simpa using S104_calls data_1 a_2 b_3 cmp_4 k w h)

end
end Go.Proofs.YtklknkmeljjmgaaGreatDoor
/- The conditions of the functions, printed by program out of the loaded code, each with the contract that follows from it. -/
set_option linter.unusedVariables false
set_option maxRecDepth 100000
namespace Go.Proofs.YtklknkmeljjmgaaGreatDoor
open Go Go.V
noncomputable section

end
end Go.Proofs.YtklknkmeljjmgaaGreatDoor
/- More laws of memory. -/
set_option linter.unusedSimpArgs false
set_option linter.unusedVariables false
namespace Go.V
open Go Go.RowKit
section
variable {P : Program} {k : Value → World → Prop} {w w' : World} {b : Nat} {t : TypeId}
/-- only block b may differ -/
structure Only (b : Nat) (w w' : World) : Prop where
  size : w'.heap.size = w.heap.size
  rest : ∀ B, B ≤ b → Below B w w'
  other : ∀ b', b' ≠ b → w'.heap[b']? = w.heap[b']?
theorem Only.refl (b : Nat) (w : World) : Only b w w := ⟨rfl, fun _ _ => Below.refl _ _, fun _ _ => rfl⟩
theorem Only.trans {w'' : World} (h : Only b w w') (h' : Only b w' w'') : Only b w w'' :=
  ⟨h'.size.trans h.size, fun B hB => (h.rest B hB).trans (h'.rest B hB), fun b' hb' => (h'.other b' hb').trans (h.other b' hb')⟩
theorem Only.setCell (b i : Nat) (w : World) (u : Value) : Only b w (w.setCell ⟨b, i, none⟩ u) :=
  ⟨by simp, fun B hB => (Below.refl _ _).setCell hB _, fun b' hb' => Below.heap_setCell _ _ _ _ hb'⟩
theorem only_setCells : ∀ (vs : List Value) (o : Nat) (w : World), Only b w (setCells w b o vs)
  | [], o, w => Only.refl _ _
  | v :: r, o, w => (Only.setCell b o w v).trans (only_setCells r (o + 1) _)
theorem rowAt_setCells : ∀ (vs pre old : List Value) (w : World), RowAt w b t (pre ++ old) → vs.length = old.length → RowAt (setCells w b pre.length vs) b t (pre ++ vs)
  | [], pre, old, w, h, hl => by
    have : old = [] := List.eq_nil_of_length_eq_zero hl.symm
    subst this; exact h
  | v :: r, pre, [], w, h, hl => by simp at hl
  | v :: r, pre, u :: old, w, h, hl => by
    have h1 := h.set pre.length v
    rw [List.set_append_right _ _ (Nat.le_refl _), Nat.sub_self, List.set_cons_zero] at h1
    have h2 := rowAt_setCells r (pre ++ [v]) old _ (by simpa using h1) (by simpa using hl)
    simpa [setCells] using h2
theorem w_storeRow {vs old : List Value} (hr : RowAt w b t old) (hl : vs.length = old.length) (hv : ∀ v ∈ vs, v.oneCell' = true) (hs : sizeT P t = vs.length) (hk : known P t = true)
    (h : ∀ w', Only b w w' → RowAt w' b t vs → k undef w') : opU P (Instr.storeAt t (.pointer (some ⟨b, 0, none⟩)) (.agg vs.toArray)) k w := by
  rw [w_storeAgg hv hs hk (fun j hj => ?_) (fun j hj => hr.free _)]
  · exact h _ (only_setCells vs 0 w) (rowAt_setCells vs [] old w hr hl)
  · obtain ⟨u, hu⟩ : ∃ u, old[j]? = some u := ⟨old[j], List.getElem?_eq_getElem (by omega)⟩
    exact ⟨u, by rw [Nat.zero_add]; exact hr.cell hu⟩
/-- a variable of a struct type, made and set -/
theorem w_var {vs : List Value} (hz : hasZero P t = true) (hzl : (zeroT P t).cells.toList.length = vs.length) (hv : ∀ v ∈ vs, v.oneCell' = true) (hs : sizeT P t = vs.length) (hk : known P t = true) {kk : Value → Value → World → Prop}
    (h : ∀ w', Below w.heap.size w w' → w'.heap.size = w.heap.size + 1 → RowAt w' w.heap.size t vs → kk (.pointer (some ⟨w.heap.size, 0, none⟩)) undef w') :
    opW P (Instr.alloc t true (.tuple #[])) (fun x w => opU P (Instr.storeAt t x (.agg vs.toArray)) (kk x) w) w := by
  refine w_allocN hz fun w1 hb1 hsz1 hr1 => ?_
  refine w_storeRow hr1 hzl.symm hv hs hk fun w2 ho2 hr2 => ?_
  exact h w2 (hb1.trans (ho2.rest _ (Nat.le_refl _))) (by rw [ho2.size, hsz1]) hr2
/-- of the blocks that were there only those of p may differ -/
structure Off (p : Nat → Prop) (w w' : World) : Prop where
  size : w.heap.size ≤ w'.heap.size
  block : ∀ b, b < w.heap.size → ¬ p b → w'.heap[b]? = w.heap[b]?
theorem Off.refl (p : Nat → Prop) (w : World) : Off p w w := ⟨Nat.le_refl _, fun _ _ _ => rfl⟩
theorem Off.trans {p : Nat → Prop} {a b c : World} (h : Off p a b) (h' : Off p b c) : Off p a c :=
  ⟨Nat.le_trans h.size h'.size, fun i hi hp => (h'.block i (Nat.lt_of_lt_of_le hi h.size) hp).trans (h.block i hi hp)⟩
theorem Off.mono {p q : Nat → Prop} {a b : World} (h : Off p a b) (hpq : ∀ i, i < a.heap.size → p i → q i) : Off q a b := ⟨h.size, fun i hi hq => h.block i hi fun hp => hq (hpq i hi hp)⟩
theorem Off.below {p : Nat → Prop} {a b : World} (h : Below a.heap.size a b) : Off p a b := ⟨h.size, fun i hi _ => h.block i hi⟩
theorem Off.set {p : Nat → Prop} {g i : Nat} {w : World} {u : Value} (h : p g) : Off p w (w.setCell ⟨g, i, none⟩ u) := ⟨by simp, fun b _ hb => Below.heap_setCell _ _ _ _ (fun hh => hb (hh ▸ h))⟩
theorem Off.only {p : Nat → Prop} {g : Nat} {w w' : World} (h : Only g w w') (hg : p g) : Off p w w' := ⟨Nat.le_of_eq h.size.symm, fun b _ hb => h.other b fun hh => hb (hh ▸ hg)⟩
theorem Off.grown {p : Nat → Prop} {row : Option Nat} {w w' : World} (h : w.grownBy w' row) (hg : ∀ b, row = some b → p b) : Off p w w' := ⟨h.size, fun b hb hp => h.block b hb fun hh => hp (hg b hh.symm)⟩
theorem RowAt.off {p : Nat → Prop} {vs : List Value} (h : RowAt w b t vs) (ho : Off p w w') (hp : ¬ p b) : RowAt w' b t vs := h.same (ho.block b h.lt hp)
end
end Go.V
/- Slices of the call's own that may begin inside their block. -/
set_option linter.unusedSimpArgs false
set_option linter.unusedVariables false
namespace Go.V
open Go Go.RowKit
section
variable {P : Program} {k : Value → World → Prop} {w w' : World} {t e : TypeId} {α : Type} {F : Fl α}
theorem joinW_use2 {J : Value → Value → World → Prop} {B : (Value → Value → World → Prop) → Prop} (Pre : Value → Value → World → Prop) (h1 : ∀ a b w, Pre a b w → J a b w) (h2 : ∀ J', (∀ a b w, Pre a b w → J' a b w) → B J') : joinW J B := h2 J h1
theorem joinW_use1 {J : Value → World → Prop} {B : (Value → World → Prop) → Prop} (Pre : Value → World → Prop) (h1 : ∀ a w, Pre a w → J a w) (h2 : ∀ J', (∀ a w, Pre a w → J' a w) → B J') : joinW J B := h2 J h1
theorem joinW_use0 {J : World → Prop} {B : (World → Prop) → Prop} (Pre : World → Prop) (h1 : ∀ w, Pre w → J w) (h2 : ∀ J', (∀ w, Pre w → J' w) → B J') : joinW J B := h2 J h1
end
end Go.V
/- Slices: none and empty ones; copies. -/
set_option linter.unusedSimpArgs false
set_option linter.unusedVariables false
namespace Go.V
open Go Go.RowKit
section
variable {P : Program} {k : Value → World → Prop} {w w' : World} {t e : TypeId} {α : Type} {F : Fl α}
theorem run_eqlNil {ox oy : Operand} {a : Option Addr} {n c : Nat} (h : P.underlying t = some (.slice e)) (w : World) : (binS .eql t ox oy (.slice a n c) (.slice none 0 0)).run P w = .ok (.bool a.isNone) w := by
  have hd : Op.maxDepth = 9999 + 1 := rfl
  have h1 : (Op.equal t (.slice a n c) (.slice none 0 0)).run P w = .ok a.isNone w := by
    unfold Op.equal
    rw [hd]
    unfold Op.equalIn
    rw [Sem.run_bind, run_underlying h]
    cases a <;> rfl
  cases a <;> simp [binS, eqGuard, binOp, h1, Sem.run_bind, Result.andThen]
theorem w_eqlNil {ox oy : Operand} {a : Option Addr} {n c : Nat} (h : P.underlying t = some (.slice e)) : opW P (binS .eql t ox oy (.slice a n c) (.slice none 0 0)) k w = k (.bool a.isNone) w := opW_ok (run_eqlNil h w)
theorem w_build0 {size bytes : Nat} {z : Value} (h : STy P t e size bytes z) : opW P (Instr.buildSlice t 0 #[]) k w = k (.slice (some ⟨w.heap.size, 0, none⟩) 0 0) (w.alloc (.cells #[] e (0, 0))) := by
  obtain ⟨i, hi, hz, hs, hby⟩ := h.info
  have h0 : Array.range 0 = #[] := rfl
  exact opW_ok (by simp [Instr.buildSlice, run_underlying h.u, sizeOf, run_typeInfo hi, Sem.run_bind, Result.andThen, Instr.fill, newRow, h0])
theorem cells_flat {b : Nat} : ∀ (l : List α) (o : Nat), (∀ i x, l[i]? = some x → Cells w b (o + i * F.sz) (F.e x)) → Cells w b o (flat F l)
  | [], o, _ => fun j u hu => by simp [flat] at hu
  | x :: r, o, h => fun j u hu => by
    simp only [flat] at hu
    by_cases hj : j < F.sz
    · rw [List.getElem?_append_left (by rw [F.len]; exact hj)] at hu
      have := h 0 x rfl j u hu
      rwa [Nat.zero_mul, Nat.add_zero] at this
    · rw [List.getElem?_append_right (by rw [F.len]; omega), F.len] at hu
      have := cells_flat r (o + F.sz) (fun i y hy => by
        have := h (i + 1) y (by simpa using hy)
        rw [Nat.add_mul, Nat.one_mul] at this
        rwa [show o + F.sz + i * F.sz = o + (i * F.sz + F.sz) by omega]) (j - F.sz) u hu
      rwa [show o + F.sz + (j - F.sz) = o + j by omega] at this
theorem IsSl.flatAt {v : Value} {l : List α} (h : IsSl F w v l) (hne : l ≠ []) : ∃ b o c, v = .slice (some ⟨b, o, none⟩) l.length c ∧ Cells w b o (flat F l) := by
  obtain ⟨a, c, rfl, hc, hx⟩ := h
  obtain ⟨x, hx0⟩ : ∃ x, l[0]? = some x := by
    cases l with
    | nil => exact absurd rfl hne
    | cons x r => exact ⟨x, rfl⟩
  obtain ⟨b, o, rfl, _⟩ := hx 0 x hx0
  refine ⟨b, o, c, rfl, cells_flat l o fun i y hy => ?_⟩
  obtain ⟨b', o', hh, hcl⟩ := hx i y hy
  simp only [Option.some.injEq, Addr.mk.injEq, and_true] at hh
  obtain ⟨rfl, rfl⟩ := hh
  exact hcl
end
end Go.V
/- More of append and of slicing. -/
set_option linter.unusedSimpArgs false
set_option linter.unusedVariables false
namespace Go.V
open Go Go.RowKit
section
variable {P : Program} {k : Value → World → Prop} {w w' : World} {t e : TypeId} {α : Type} {F : Fl α}
theorem oneCell_flat (hone : ∀ x, ∀ u ∈ F.e x, u.oneCell' = true) : ∀ l : List α, ∀ u ∈ flat F l, u.oneCell' = true := by
  intro l
  induction l with
  | nil => intro u hu; simp [flat] at hu
  | cons x r ih =>
    intro u hu
    rcases List.mem_append.1 hu with h | h
    · exact hone x u h
    · exact ih u h
theorem run_sliceFrom {n c i : Nat} {q : IntKind} (ht : P.underlying t = some (.slice (P.elem t))) (hk : known P (P.elem t) = true) (hi : i ≤ n) {a : Option Addr} (w : World) :
    (Instr.sliceAt t (.slice a n c) (some (.int q i)) none none).run P w = .ok (.slice (if c = i then a else a.map (·.add (i * sizeT P (P.elem t)))) (n - i) (c - i)) w := by
  rw [run_sliceAt_slice _ _ _ _ _ _ ht, run_slice_l w t _ n c ht q i (by omega) (by omega), run_sizeOf hk]
  simp [Result.andThen, sliced]
theorem run_indexArr {n b o : Nat} {q : IntKind} {i : Int} (ht : P.underlying t = some (.array n e)) (he : known P e = true) (h0 : 0 ≤ i) (h1 : i < n) (w : World) :
    (Instr.indexAt t (.pointer (some ⟨b, o, none⟩)) (.int q i)).run P w = .ok (.pointer (some ⟨b, o + i.toNat * sizeT P e, none⟩)) w := by
  simp [Instr.indexAt, Instr.sureAddr, Sem.run_bind, Result.andThen, run_underlying ht, asIntOf, h0, h1, run_sizeOf he, add_none]
end
end Go.V
/- Reading a field of an element, or an element, in one step. -/
set_option linter.unusedSimpArgs false
set_option linter.unusedVariables false
namespace Go.V
open Go Go.RowKit
section
variable {P : Program} {k : Value → World → Prop} {K : Value → Prop} {S : World → Prop} {w : World} {α : Type} {F : Fl α} {v u : Value} {l : List α} {t st ft : TypeId} {f x : Nat} {q : IntKind} {i : Int} {a : α}
theorem IsSl.at (hs : IsSl F w v l) (h0 : 0 ≤ i) (hx : l[i.toNat]? = some a) : ∃ b o c, v = .slice (some ⟨b, o, none⟩) l.length c ∧ i < l.length ∧ Cells w b (o + i.toNat * F.sz) (F.e a) := by
  obtain ⟨ad, c, rfl, hc, hcell⟩ := hs
  obtain ⟨b, o, rfl, hcl⟩ := hcell _ _ hx
  exact ⟨b, o, c, rfl, by have := (List.getElem?_eq_some_iff.1 hx).1; omega, hcl⟩
theorem t_get (h : isSliceT P t = true) (he : known P (elemT P t) = true) (hz : sizeT P (elemT P t) = F.sz) (hf : fieldOff P st f = some x) (hg : isAggT P ft = false) (hk : known P ft = true)
    (hs : IsSl F w v l) (h0 : 0 ≤ i) (hx : l[i.toNat]? = some a) (hu : (F.e a)[x]? = some u) :
    takeW P anyW (Instr.indexAt t v (.int q i)) (fun p => takeW P anyW (Instr.fieldAt st p f) (fun p => takeW P (sameW w) (Instr.loadAt ft p) K w) w) w = K u := by
  obtain ⟨b, o, c, rfl, hlt, hcl⟩ := hs.at h0 hx
  rw [takeW_pure (fun w => run_index h he h0 hlt w), hz, t_field hf, x_load hg hk (by rw [hcl x u hu])]
theorem w_getE (h : isSliceT P t = true) (he : known P (elemT P t) = true) (hz : sizeT P (elemT P t) = F.sz) (hg : isAggT P ft = false) (hk : known P ft = true)
    (hs : IsSl F w v l) (h0 : 0 ≤ i) (hx : l[i.toNat]? = some a) (hu : (F.e a)[0]? = some u) :
    opW P (Instr.indexAt t v (.int q i)) (fun p w => opW P (Instr.loadAt ft p) k w) w = k u w := by
  obtain ⟨b, o, c, rfl, hlt, hcl⟩ := hs.at h0 hx
  rw [opW_ok (run_index h he h0 hlt w), hz, w_load hg hk (by rw [← hcl 0 u hu]; rfl)]
theorem w_getA (h : isSliceT P t = true) (he : known P (elemT P t) = true) (hz : sizeT P (elemT P t) = F.sz) (hg : isAggT P ft = true) (hk : known P ft = true) (hft : sizeT P ft = F.sz)
    (hs : IsSl F w v l) (h0 : 0 ≤ i) (hx : l[i.toNat]? = some a) :
    opW P (Instr.indexAt t v (.int q i)) (fun p w => opW P (Instr.loadAt ft p) k w) w = k (.agg (F.e a).toArray) w := by
  obtain ⟨b, o, c, rfl, hlt, hcl⟩ := hs.at h0 hx
  rw [opW_ok (run_index h he h0 hlt w), hz, w_loadAgg hg hk (by rw [hft, F.len]) hcl]
theorem t_getA (h : isSliceT P t = true) (he : known P (elemT P t) = true) (hz : sizeT P (elemT P t) = F.sz) (hg : isAggT P ft = true) (hk : known P ft = true) (hft : sizeT P ft = F.sz)
    (hs : IsSl F w v l) (h0 : 0 ≤ i) (hx : l[i.toNat]? = some a) :
    takeW P anyW (Instr.indexAt t v (.int q i)) (fun p => takeW P (sameW w) (Instr.loadAt ft p) K w) w = K (.agg (F.e a).toArray) := by
  obtain ⟨b, o, c, rfl, hlt, hcl⟩ := hs.at h0 hx
  rw [takeW_pure (fun w => run_index h he h0 hlt w), hz, x_loadAgg hg hk (by rw [hft, F.len]) hcl]
end

/-! ### slices of the call's own, nil or at the head of their block -/
section
variable {P : Program} {k : Value → World → Prop} {w w' : World} {α : Type} {F : Fl α} {v : Value} {l : List α} {t e : TypeId} {B : Nat}
/-- the block of v -/
def isOf (v : Value) (b : Nat) : Prop := v.ownBlock = some b
theorem run_append_own2 {size bytes : Nat} {z : Value} {ty : TypeId} (h : STy P t e size bytes z) {n : Nat} {xs : List Value} (hown : w.ownsRow B e size v n xs)
    (a : Addr) (m c : Nat) (news : List Value) (hl : news.length = m * size) (hnews : ∀ j u, news[j]? = some u → w.cell? (a.add j) = some u) (h1 : ∀ u ∈ news, u.oneCell' = true)
    (h63 : n + m ≤ maxLen) (hbytes : (n + m) * bytes ≤ 140737488355328) (hbase : B ≤ w.heap.size) :
    ∃ v' w', (Builtin.append_ #[t, t] ty #[v, .slice (some a) m c]).run P w = .ok v' w' ∧ w'.ownsRow B e size v' (n + m) (xs ++ news) ∧ w.grownBy w' v.ownBlock ∧ (∀ b, isOf v' b → isOf v b ∨ w.heap.size ≤ b) ∧
      (v' = .slice none 0 0 ↔ v = .slice none 0 0 ∧ m = 0) := by
  obtain ⟨i, hi, hz, hs, hby⟩ := h.info
  obtain ⟨v', w', hr, ho, hg, hnn⟩ := run_append_own (P := P) w (ty := ty) B t e i z size bytes h.u hi hz hs hby h.zs h.pos v n xs hown a m c news hl hnews h1 h63 hbytes hbase
  refine ⟨v', w', hr, ho, hg, fun b hb => ?_, hnn⟩
  have hm : maxLen ≤ 9223372036854775807 := by decide
  rcases hown.2 with ⟨rfl, hn⟩ | ⟨g, cap, cur, rfl, hgb, hgg, hnc, hcm, hcs, htk⟩
  · subst hn
    obtain ⟨v2, w2, hr2, ho2, _, _⟩ := run_append_own (P := P) w (ty := ty) w.heap.size t e i z size bytes h.u hi hz hs hby h.zs h.pos (.slice none 0 0) 0 [] (World.ownsRow_nil w _ e size) a m c news hl hnews h1 (by omega) hbytes (Nat.le_refl _)
    rw [hr] at hr2
    simp only [Result.ok.injEq] at hr2
    obtain ⟨rfl, rfl⟩ := hr2
    exact .inr (World.ownsRow.lt ho2 b hb).1
  · by_cases hroom : n + m ≤ cap
    · have := run_append_room (P := P) w t ty e i h.u hi g n cap cur hgg a m c news (by rw [hs]; exact hl) hnews h1 hroom (by rw [hs, hl, ← Nat.add_mul, hcs]; exact Nat.mul_le_mul_right _ hroom)
      rw [hr] at this
      simp only [Result.ok.injEq] at this
      rw [this.1] at hb
      exact .inl hb
    · have := run_append_grow (P := P) w t ty e i z h.u hi hz ⟨g, 0, none⟩ n cap xs (by rw [hown.1, hs]) (fun j y hy => hown.cells (g := g) rfl j y hy) a m c news (by rw [hs]; exact hl) hnews (by omega) (by omega) (growslice_fits (by omega) (by rw [hby]; exact hbytes))
      rw [hr] at this
      simp only [Result.ok.injEq] at this
      rw [this.1] at hb
      unfold isOf Value.ownBlock at hb
      simp at hb
      exact .inr (by omega)
def Mine (F : Fl α) (e : TypeId) (w : World) (B : Nat) (v : Value) (l : List α) : Prop := w.ownsRow B e F.sz v l.length (flat F l)
theorem Mine.nil (w : World) (B : Nat) : Mine F e w B (.slice none 0 0) [] := World.ownsRow_nil w B e F.sz
theorem Mine.sl (h : Mine F e w B v l) : IsSl F w v l := IsSl.of_own h
theorem Mine.ge (h : Mine F e w B v l) {b : Nat} (hb : isOf v b) : B ≤ b ∧ b < w.heap.size := World.ownsRow.lt h b hb
theorem Mine.grown {row : Option Nat} (h : Mine F e w B v l) (hg : w.grownBy w' row) (hne : ∀ b, isOf v b → row ≠ some b) : Mine F e w' B v l := by
  refine World.ownsRow.kept h hg ?_
  cases hv : v.ownBlock with
  | none => exact .inl rfl
  | some b => exact .inr fun hh => hne b hv hh.symm
theorem Mine.below (h : Mine F e w B v l) (hb : Below w.heap.size w w') : Mine F e w' B v l :=
  Mine.grown (row := none) h ⟨hb.os, hb.tape, hb.output, hb.size, fun k hk _ => hb.block k hk⟩ (by simp)
theorem Mine.off {p : Nat → Prop} (h : Mine F e w B v l) (ho : Off p w w') (hp : ∀ b, isOf v b → ¬ p b) : Mine F e w' B v l := by
  refine ⟨h.1, ?_⟩
  rcases h.2 with hn | ⟨g, cap, cur, rfl, hb, hgg, rest⟩
  · exact .inl hn
  · exact .inr ⟨g, cap, cur, rfl, hb, (ho.block g (Array.getElem?_eq_some_iff.1 hgg).1 (hp g rfl)).trans hgg, rest⟩
theorem Mine.at (h : Mine F e w B v l) (hne : l ≠ []) : ∃ g c, v = .slice (some ⟨g, 0, none⟩) l.length c ∧ isOf v g ∧ OwnS F w B e g c l := by
  have h0 := h
  rcases h.2 with ⟨_, hn⟩ | ⟨g, cap, cur, rfl, _⟩
  · exact absurd (List.eq_nil_of_length_eq_zero hn) hne
  · exact ⟨g, cap, rfl, rfl, h0⟩
/-- one more element: a slice of one, appended -/
theorem Mine.push {bytes : Nat} {z xv : Value} {x : α} {ty : TypeId} {K : Value → World → Prop} (h : STy P t e F.sz bytes z) (hone : ∀ u ∈ F.e x, u.oneCell' = true) (hxc : xv.cells.toList = F.e x) (hsm : F.sz ≤ 16777216)
    (hown : Mine F e w B v l) (hB : B ≤ w.heap.size) (hl : l.length + 1 ≤ maxLen) (hbytes : (l.length + 1) * bytes ≤ 140737488355328)
    (hk : ∀ v' w', Mine F e w' B v' (l ++ [x]) → Below B w w' → Off (isOf v) w w' → (∀ b, isOf v' b → isOf v b ∨ w.heap.size ≤ b) → K v' w') :
    opW P (Instr.buildSlice t 1 #[(0, xv)]) (fun s w => opW P (Builtin.append_ #[t, t] ty #[v, s]) (fun r w => K r w) w) w := by
  have hcs : xv.cells.size = F.sz := by rw [← F.len x, ← hxc]; simp
  rw [w_one h hcs hsm]
  have hb1 : Below w.heap.size w (w.alloc (.cells xv.cells e (0, 0))) := (Below.refl _ _).alloc (Nat.le_refl _) _
  have ho1 := hown.below hb1
  obtain ⟨v', w', hr, ho, hg, hnew, _⟩ := run_append_own2 (P := P) (ty := ty) h ho1 ⟨w.heap.size, 0, none⟩ 1 1 (F.e x) (by simp [F.len]) (fun j u hu => by
      rw [← hxc] at hu
      rw [add_none]
      simp only [World.cell?, World.alloc_heap_new]
      simpa using hu) hone hl hbytes (Nat.le_trans hB hb1.size)
  rw [opW_ok hr]
  refine hk v' w' ?_ ?_ ?_ ?_
  · unfold Mine
    rw [List.length_append, flat_append, flat_one]; exact ho
  · exact (hb1.mono hB).grown hg (Nat.le_trans hB hb1.size) fun b hb => (ho1.ge hb).1
  · exact (Off.below hb1).trans (Off.grown hg fun b hb => hb)
  · intro b hb
    rcases hnew b hb with h | h
    · exact .inl h
    · exact .inr (Nat.le_trans hb1.size h)
end
end Go.V
/- More of slices: a head of one, appending nothing, an element of several cells stored; bools compared. -/
set_option linter.unusedSimpArgs false
set_option linter.unusedVariables false
namespace Go.V
open Go Go.RowKit
theorem IsSl.rowV {α : Type} {F : Fl α} (w : World) (e c : Nat) (l : List α) (hc : l.length ≤ c) : IsSl F (w.alloc (.cells (flat F l).toArray e (0, 0))) (.slice (some ⟨w.heap.size, 0, none⟩) l.length c) l := by
  refine ⟨_, c, rfl, hc, fun i x hx => ⟨w.heap.size, 0, rfl, fun j u hu => ?_⟩⟩
  rw [World.cell?_alloc_new, Nat.zero_add]
  simpa using flat_get l i j x u hx hu
section
variable {P : Program} {k : Value → World → Prop} {K : Value → Prop} {w w' : World} {α : Type} {F : Fl α} {v : Value} {l : List α} {t e : TypeId} {B : Nat}
theorem run_append_zero {ty : TypeId} {size bytes : Nat} {z : Value} (h : STy P t e size bytes z) {g o n cap c : Nat} {b : Option Addr} (hn : n ≤ cap) :
    (Builtin.append_ #[t, t] ty #[.slice (some ⟨g, o, none⟩) n cap, .slice b 0 c]).run P w = .ok (.slice (some ⟨g, o, none⟩) n cap) w := by
  obtain ⟨i, hi, hz, hs, hby⟩ := h.info
  have hf : (Builtin.firstCells i.size 0 (.slice b 0 c)).run P w = .ok #[] w := by
    cases b with
    | none => simp [Builtin.firstCells]
    | some a => simpa using run_firstCells_some (P := P) w i.size 0 a 0 c [] (by simp) (by simp)
  simp [Builtin.append_, run_underlying h.u, sizeOf, run_typeInfo hi, Builtin.lenOf, hn, hf, Sem.run_bind, Result.andThen, storeCells]
theorem w_neqB {ox oy : Operand} {x y : Bool} (h : P.underlying t = some .bool) : opW P (binS .neq t ox oy (.bool x) (.bool y)) k w = k (.bool (!decide (x = y))) w :=
  opW_ok (by
    have hd : Op.maxDepth = 9999 + 1 := rfl
    have h1 : (Op.equal t (.bool x) (.bool y)).run P w = .ok (decide (x = y)) w := by
      unfold Op.equal
      rw [hd]
      unfold Op.equalIn
      rw [Sem.run_bind, run_underlying h]
      cases x <;> cases y <;> rfl
    simp [binS, eqGuard, binOp, h1, Sem.run_bind, Result.andThen])
theorem t_loadAgg {S : World → Prop} {ft : TypeId} {b o : Nat} {vs : List Value} (h : isAggT P ft = true) (hk : known P ft = true) (hs : sizeT P ft = vs.length) (hw : Cells w b o vs) (hS : ∀ w', S w' → Cells w' b o vs) :
    takeW P S (Instr.loadAt ft (.pointer (some ⟨b, o, none⟩))) K w = K (.agg vs.toArray) :=
  takeW_eq (run_of_eq fun k => w_loadAgg h hk hs hw) fun w' hw' => run_of_eq fun k => w_loadAgg h hk hs (hS w' hw')
theorem rowAt_setMid {b : Nat} {e : TypeId} : ∀ (vs pre old post : List Value) (w : World), RowAt w b e (pre ++ old ++ post) → vs.length = old.length → RowAt (setCells w b pre.length vs) b e (pre ++ vs ++ post)
  | [], pre, old, post, w, h, hl => by
    have : old = [] := List.eq_nil_of_length_eq_zero hl.symm
    subst this; exact h
  | v :: r, pre, [], post, w, h, hl => by simp at hl
  | v :: r, pre, u :: old, post, w, h, hl => by
    have h1 := h.set pre.length v
    rw [List.append_assoc, List.set_append_right _ _ (Nat.le_refl _), Nat.sub_self, List.cons_append, List.set_cons_zero] at h1
    have h2 := rowAt_setMid r (pre ++ [v]) old post _ (by simpa using h1) (by simpa using hl)
    simpa [setCells] using h2
theorem flat_split {l : List α} {i : Nat} {x : α} (hx : l[i]? = some x) : flat F l = flat F (l.take i) ++ F.e x ++ flat F (l.drop (i + 1)) := by
  have hlt : i < l.length := (List.getElem?_eq_some_iff.1 hx).1
  have : l = l.take i ++ [x] ++ l.drop (i + 1) := by
    rw [List.getElem?_eq_getElem hlt] at hx
    rw [← Option.some.inj hx, ← List.take_succ_eq_append_getElem hlt, List.take_append_drop]
  conv => lhs; rw [this]
  rw [flat_append, flat_append, flat_one]
/-- an element of several cells stored into one's own -/
theorem Mine.setA {ft : TypeId} {q : IntKind} {i : Int} {x y : α} {K : Value → World → Prop} (h : isSliceT P t = true) (he : known P (elemT P t) = true) (hz : sizeT P (elemT P t) = F.sz) (hs : sizeT P ft = F.sz) (hkn : known P ft = true)
    (hown : Mine F e w B v l) (h0 : 0 ≤ i) (hx : l[i.toNat]? = some x) (hu1 : ∀ u ∈ F.e y, u.oneCell' = true)
    (hk : ∀ w', Mine F e w' B v (l.set i.toNat y) → Below B w w' → Off (isOf v) w w' → K undef w') :
    opW P (Instr.indexAt t v (.int q i)) (fun p w => opU P (Instr.storeAt ft p (.agg (F.e y).toArray)) K w) w := by
  have hne : l ≠ [] := fun hh => by rw [hh] at hx; simp at hx
  have hlt : i < l.length := by have := (List.getElem?_eq_some_iff.1 hx).1; omega
  have hlen := hown.1
  rcases hown.2 with ⟨_, hn⟩ | ⟨g, cap, cur, rfl, hb, hgg, hnc, hcm, hcs, htk⟩
  · exact absurd (List.eq_nil_of_length_eq_zero hn) hne
  rw [opW_ok (run_index h he h0 hlt w), hz, Nat.zero_add]
  have hrow : RowAt w g e (flat F (l.take i.toNat) ++ F.e x ++ (flat F (l.drop (i.toNat + 1)) ++ cur.toList.drop (l.length * F.sz))) := by
    unfold RowAt
    rw [← List.append_assoc, ← flat_split hx, ← htk, List.take_append_drop]; exact hgg
  have hpl : (flat F (l.take i.toNat)).length = i.toNat * F.sz := by rw [flat_length, List.length_take, Nat.min_eq_left (by omega)]
  rw [w_storeAgg hu1 (by rw [hs, F.len]) hkn (fun j hj => by
    have hin : i.toNat * F.sz + j < (flat F (l.take i.toNat) ++ F.e x ++ (flat F (l.drop (i.toNat + 1)) ++ cur.toList.drop (l.length * F.sz))).length := by
      rw [F.len] at hj
      simp only [List.length_append, hpl, F.len]; omega
    exact ⟨_, hrow.cell (List.getElem?_eq_getElem hin)⟩) (fun j hj => hrow.free _)]
  have hrow' := rowAt_setMid (F.e y) _ (F.e x) _ w hrow (by rw [F.len, F.len])
  rw [hpl] at hrow'
  have honly := only_setCells (b := g) (F.e y) (i.toNat * F.sz) w
  refine hk _ ?_ (honly.rest _ hb) (Off.only honly rfl)
  have hset : flat F (l.set i.toNat y) = flat F (l.take i.toNat) ++ F.e y ++ flat F (l.drop (i.toNat + 1)) := by
    have hy : (l.set i.toNat y)[i.toNat]? = some y := by rw [List.getElem?_set_self (by omega)]
    rw [flat_split hy, List.take_set, List.drop_set, if_pos (by omega), List.set_eq_of_length_le (by rw [List.length_take]; omega)]
  unfold Mine
  refine ⟨by rw [flat_length], .inr ⟨g, cap, (flat F (l.take i.toNat) ++ F.e y ++ (flat F (l.drop (i.toNat + 1)) ++ cur.toList.drop (l.length * F.sz))).toArray, by rw [List.length_set], hb, hrow', by rw [List.length_set]; exact hnc, hcm, ?_, ?_⟩⟩
  · have e1 : (flat F (l.take i.toNat) ++ F.e x ++ (flat F (l.drop (i.toNat + 1)) ++ cur.toList.drop (l.length * F.sz))).length = cur.size := by
      rw [← List.append_assoc, ← flat_split hx, ← htk, List.take_append_drop]; simp
    rw [← hcs, ← e1]
    simp [F.len]
  · rw [hset, List.length_set, ← List.append_assoc, ← hset]
    refine List.take_left' ?_
    rw [flat_length, List.length_set]
theorem Mine.setAT {ft : TypeId} {q : IntKind} {i : Int} {x y : α} {K : Value → World → Prop} (h : isSliceT P t = true) (he : known P (elemT P t) = true) (hz : sizeT P (elemT P t) = F.sz) (hs : sizeT P ft = F.sz) (hkn : known P ft = true)
    (hown : Mine F e w B v l) (h0 : 0 ≤ i) (hx : l[i.toNat]? = some x) (hu1 : ∀ u ∈ F.e y, u.oneCell' = true)
    (hk : ∀ w', Mine F e w' B v (l.set i.toNat y) → Below B w w' → Off (isOf v) w w' → K undef w') :
    takeW P anyW (Instr.indexAt t v (.int q i)) (fun p => opU P (Instr.storeAt ft p (.agg (F.e y).toArray)) K w) w := by
  have hne : l ≠ [] := fun hh => by rw [hh] at hx; simp at hx
  have hlt : i < l.length := by have := (List.getElem?_eq_some_iff.1 hx).1; omega
  have := hown.setA (K := K) (q := q) h he hz hs hkn h0 hx hu1 hk
  obtain ⟨g, c, rfl, hof, ho⟩ := hown.at hne
  rw [opW_ok (run_index h he h0 hlt w)] at this
  rw [takeW_pure fun w => run_index h he h0 hlt w]
  exact this
end
end Go.V
/- Strings; structs compared; slices of slices of elements. -/
set_option linter.unusedSimpArgs false
set_option linter.unusedVariables false
namespace Go.V
open Go Go.RowKit
section
variable {P : Program} {k : Value → World → Prop} {K : Value → Prop} {S : World → Prop} {w : World} {t ty : TypeId} {ox oy : Operand} {a b s : ByteArray}
theorem beqBytes (a b : ByteArray) : (a.toList == b.toList) = decide (a = b) := by
  have e : ∀ x y : ByteArray, x.toList = y.toList → x = y := fun x y h => by
    rw [ByteArray.toList_eq, ByteArray.toList_eq] at h
    obtain ⟨⟨x⟩⟩ := x
    obtain ⟨⟨y⟩⟩ := y
    simp at h
    subst h; rfl
  by_cases h : a = b
  · subst h; simp
  · rw [decide_eq_false h]
    simp only [beq_eq_false_iff_ne, ne_eq]
    exact fun hh => h (e a b hh)
theorem run_lenStr (h : P.underlying t = some .string) (w : World) : (Builtin.len_ #[t] ty #[.string s]).run P w = .ok (.int .i64 s.size) w := run_len_string w t ty s h
theorem w_lenStr (h : P.underlying t = some .string) : opW P (Builtin.len_ #[t] ty #[.string s]) k w = k (.int .i64 s.size) w := opW_ok (run_lenStr h w)
theorem t_lenStr (h : P.underlying t = some .string) : takeW P S (Builtin.len_ #[t] ty #[.string s]) K w = K (.int .i64 s.size) := takeW_pure fun w => run_lenStr h w
theorem run_eqlStr (h : P.underlying t = some .string) (w : World) : (binS .eql t ox oy (.string a) (.string b)).run P w = .ok (.bool (decide (a = b))) w := by
  have h1 := beqBytes a b
  simp [binS, eqGuard, binOp, Op.stringOp, h1, Sem.run_bind, Result.andThen]
theorem t_eqlStr (h : P.underlying t = some .string) : takeW P S (binS .eql t ox oy (.string a) (.string b)) K w = K (.bool (decide (a = b))) := takeW_pure fun w => run_eqlStr h w
/-- a field of one cell that is compared -/
def OneEq (P : Program) (t : TypeId) (x y : Value) (b : Bool) : Prop := isAggT P t = false ∧ known P t = true ∧ ∀ d w, (Op.equalIn (d + 1) t x y).run P w = .ok b w
theorem OneEq.int {q q' : IntKind} {x y : Int} (h : P.underlying t = some (.int q')) (hk : known P t = true) : OneEq P t (.int q x) (.int q y) (decide (x = y)) :=
  ⟨by simp [isAggT, h], hk, fun d w => by rw [run_equalIn_int w d t q q' x y h]; rfl⟩
theorem OneEq.str (h : P.underlying t = some .string) (hk : known P t = true) : OneEq P t (.string a) (.string b) (decide (a = b)) :=
  ⟨by simp [isAggT, h], hk, fun d w => by rw [run_equalIn_string w d t a b h, beqBytes]⟩
theorem run_isAgg {t : TypeId} (h : isAggT P t = false) (hk : known P t = true) (w : World) : (isAgg t).run P w = .ok false w := by
  simp only [known, Bool.and_eq_true] at hk
  cases hu : P.underlying t with
  | none => rw [hu] at hk; simp at hk
  | some d =>
    simp only [isAgg, Sem.run_bind, Result.andThen, run_underlying hu]
    unfold isAggT at h
    rw [hu] at h
    cases d <;> first | rfl | (simp at h)
theorem run_part {t : TypeId} {cs : Array Value} {off : Nat} {v : Value} (h : isAggT P t = false) (hk : known P t = true) (hv : cs[off]? = some v) (w : World) : (part t cs off).run P w = .ok v w := by
  simp [part, Sem.run_bind, Result.andThen, run_isAgg h hk, hv]
theorem run_eqFields {xs ys : Array Value} {d : Nat} (w : World) : ∀ (fs : List Field) (bs : List Bool), bs.length = fs.length → (∀ (i : Nat) (f : Field) (b : Bool), fs[i]? = some f → bs[i]? = some b → f.name ≠ "_" ∧ ∃ x y, xs[f.offset]? = some x ∧ ys[f.offset]? = some y ∧ OneEq P f.type x y b) →
    (Op.eqFields (d + 1) xs ys fs).run P w = .ok (bs.all id) w
  | [], bs, hl, _ => by
    have : bs = [] := List.eq_nil_of_length_eq_zero hl
    subst this
    simp [Op.eqFields]
  | f :: fs, [], hl, _ => by simp at hl
  | f :: fs, b :: bs, hl, h => by
    obtain ⟨hn, x, y, hx, hy, h1, h2, h3⟩ := h 0 f b rfl rfl
    have ih := run_eqFields (d := d) w fs bs (by simpa using hl) (fun i f' b' hf hb => h (i + 1) f' b' (by simpa using hf) (by simpa using hb))
    simp only [Op.eqFields, hn, ne_eq, not_false_eq_true, if_true, Sem.run_bind, run_part h1 h2 hx, run_part h1 h2 hy, h3, Result.andThen]
    cases b
    · simp
    · simpa using ih
def fieldsL (P : Program) (t : TypeId) : List (Bool × Nat × Nat) := mapL (fun f => (f.name != "_", f.type, f.offset)) (P.fieldsOf t).toList
theorem run_eqlAgg {L : List (Nat × Nat)} {xs ys : Array Value} (hu : (match P.underlying t with | some (.struct _) => true | _ => false) = true) (hp : P.stoodInHeld t = false) (hf : fieldsL P t = L.map fun x => (true, x.1, x.2)) (hg : P.eqGuardType P.depth t = false)
    (bs : List Bool) (hl : bs.length = L.length) (h : ∀ (i : Nat) (f : Nat × Nat) (b : Bool), L[i]? = some f → bs[i]? = some b → ∃ x y, xs[f.2]? = some x ∧ ys[f.2]? = some y ∧ OneEq P f.1 x y b) (w : World) :
    (Op.equalIn 10000 t (.agg xs) (.agg ys)).run P w = .ok (bs.all id) w ∧ (∀ op, (eqGuard op t ox oy (.agg xs) (.agg ys)).run P w = .ok () w) := by
  refine ⟨?_, fun op => run_eqGuard_agg w op t ox oy xs ys hg⟩
  have hu' : P.underlying t = some (.struct (P.fieldsOf t)) := by
    split at hu
    · rename_i fs hfs; simp [Program.fieldsOf, hfs]
    · cases hu
  rw [run_equalIn_agg w 9999 t xs ys hu' hp]
  unfold fieldsL at hf
  rw [mapL_eq] at hf
  have hlen : (P.fieldsOf t).toList.length = L.length := by have := congrArg List.length hf; simpa using this
  refine run_eqFields w _ bs (by omega) fun i f b hfi hb => ?_
  have := congrArg (fun l => l[i]?) hf
  simp only [List.getElem?_map, hfi, Option.map_some] at this
  cases hL : L[i]? with
  | none => rw [hL] at this; simp at this
  | some z =>
    rw [hL] at this
    simp only [Option.map_some, Option.some.injEq, Prod.mk.injEq, bne_iff_ne, ne_eq] at this
    obtain ⟨h1, h2, h3⟩ := this
    obtain ⟨x, y, hx, hy, ho⟩ := h i z b hL hb
    exact ⟨h1, x, y, by rw [h3]; exact hx, by rw [h3]; exact hy, by rw [h2]; exact ho⟩
theorem w_eqlAgg {xs ys : Array Value} {r : Bool} (h1 : (Op.equalIn 10000 t (.agg xs) (.agg ys)).run P w = .ok r w) (h2 : ∀ op, (eqGuard op t ox oy (.agg xs) (.agg ys)).run P w = .ok () w) :
    opW P (binS .eql t ox oy (.agg xs) (.agg ys)) k w = k (.bool r) w := opW_ok (by
  unfold binS
  rw [Sem.run_bind, h2 .eql]
  simp only [Result.andThen]
  rw [run_eql_struct, h1]; rfl)
theorem w_neqAgg {xs ys : Array Value} {r : Bool} (h1 : (Op.equalIn 10000 t (.agg xs) (.agg ys)).run P w = .ok r w) (h2 : ∀ op, (eqGuard op t ox oy (.agg xs) (.agg ys)).run P w = .ok () w) :
    opW P (binS .neq t ox oy (.agg xs) (.agg ys)) k w = k (.bool (!r)) w := opW_ok (by
  unfold binS
  rw [Sem.run_bind, h2 .neq]
  simp only [Result.andThen]
  rw [run_neq_struct, h1]; rfl)
theorem w_addStr (h : a.size + b.size ≤ 9223372036854775807) : opW P (binS .add t ox oy (.string a) (.string b)) k w = k (.string (a ++ b)) w := opW_ok (by
  have h1 := run_string_add_sum (P := P) w a b h
  simp only [binS, eqGuard, binOp_string_add, h1, Sem.run_bind, Result.andThen]
  simp [Result.andThen, h1])
theorem w_sliceStr {q q' : IntKind} {i j : Int} (h : P.underlying t = some .string) (h0 : 0 ≤ i) (h1 : i ≤ j) (h2 : j ≤ s.size) : opW P (Instr.sliceAt t (.string s) (some (.int q i)) (some (.int q' j)) none) k w = k (.string (s.extract i.toNat j.toNat)) w := opW_ok (by
  rw [run_sliceAt_string _ _ _ _ _ _ h, run_slice_string w t s q q' i j h h0 h1 h2])
theorem w_headStr {q : IntKind} {j : Int} (h : P.underlying t = some .string) (h1 : 0 ≤ j) (h2 : j ≤ s.size) : opW P (Instr.sliceAt t (.string s) none (some (.int q j)) none) k w = k (.string (s.extract 0 j.toNat)) w := opW_ok (by
  rw [run_sliceAt_string _ _ _ _ _ _ h, run_slice_string_to_if w t s q j h, if_pos ⟨h1, h2⟩])
/-- a slice of one's own behind its first element -/
theorem IsSl.tail1 {α : Type} {F : Fl α} {v : Value} {x : α} {l : List α} {sz : Nat} (h : IsSl F w v (x :: l)) (hsz : sz = F.sz) : ∃ ad n c, v = .slice (some ad) (n + 1) c ∧ n = l.length ∧ n + 1 ≤ c ∧ IsSl F w (.slice (some (if c = 1 then ad else ad.add (1 * sz))) n (c - 1)) l := by
  obtain ⟨a, c, hv, hc, hx⟩ := h
  obtain ⟨b, o, rfl, hcl⟩ := hx 0 x rfl
  simp only [List.length_cons] at hv hc
  refine ⟨_, l.length, c, hv, rfl, hc, _, c - 1, rfl, by omega, fun i y hy => ?_⟩
  have hi := (List.getElem?_eq_some_iff.1 hy).1
  obtain ⟨b', o', hh, hcl'⟩ := hx (i + 1) y (by simpa using hy)
  simp only [Option.some.injEq, Addr.mk.injEq, and_true] at hh
  obtain ⟨rfl, rfl⟩ := hh
  rw [if_neg (by omega), add_none]
  refine ⟨b, o + 1 * sz, rfl, ?_⟩
  rw [hsz, show o + 1 * F.sz + i * F.sz = o + (i + 1) * F.sz by rw [Nat.add_mul]; omega]
  exact hcl'
/-- worlds in which whatever was there at w is as it was -/
def after (w w' : World) : Prop := Below w.heap.size w w'
theorem after_refl (w : World) : after w w := Below.refl _ _
theorem r_get {b o ft st f x : Nat} {u : Value} (hf : fieldOff P st f = some x) (hg : isAggT P ft = false) (hk : known P ft = true) (hc : w.cell? ⟨b, o + x, none⟩ = some u) :
    opW P (Instr.fieldAt st (.pointer (some ⟨b, o, none⟩)) f) (fun p w => opW P (Instr.loadAt ft p) k w) w = k u w := by
  rw [w_field hf, w_load hg hk hc]
theorem r_getT {b o ft st f x : Nat} {u : Value} (hf : fieldOff P st f = some x) (hg : isAggT P ft = false) (hk : known P ft = true) (hc : w.cell? ⟨b, o + x, none⟩ = some u) :
    takeW P anyW (Instr.fieldAt st (.pointer (some ⟨b, o, none⟩)) f) (fun p => takeW P (sameW w) (Instr.loadAt ft p) K w) w = K u := by
  rw [t_field hf, x_load hg hk hc]
theorem r_getA {w0 : World} {b o ft st f x : Nat} {u : Value} (hf : fieldOff P st f = some x) (hg : isAggT P ft = false) (hk : known P ft = true) (hc : w0.cell? ⟨b, o + x, none⟩ = some u) (ha : after w0 w) :
    takeW P anyW (Instr.fieldAt st (.pointer (some ⟨b, o, none⟩)) f) (fun p => takeW P (after w0) (Instr.loadAt ft p) K w) w = K u := by
  have h0 : ∀ w', after w0 w' → w'.cell? ⟨b, o + x, none⟩ = some u := fun w' h => by
    rw [← hc]; exact World.cell?_of_block (a := ⟨b, o + x, none⟩) (h.block b (World.block_lt_of_cell? w0 _ hc))
  rw [t_field hf, t_load hg hk (h0 w ha) (fun w' h => by rw [h0 w' h, h0 w ha])]
theorem r_loadA {w0 : World} {a : Addr} {ft : Nat} {u : Value} (hg : isAggT P ft = false) (hk : known P ft = true) (hc : w0.cell? a = some u) (ha : after w0 w) : takeW P (after w0) (Instr.loadAt ft (.pointer (some a))) K w = K u := by
  have h0 : ∀ w', after w0 w' → w'.cell? a = some u := fun w' h => by
    rw [← hc]; exact World.cell?_of_block (h.block a.block (World.block_lt_of_cell? w0 _ hc))
  exact t_load hg hk (h0 w ha) (fun w' h => by rw [h0 w' h, h0 w ha])
theorem r_aggA {w0 : World} {b o ft : Nat} {vs : List Value} (hg : isAggT P ft = true) (hk : known P ft = true) (hs : sizeT P ft = vs.length) (hc : Cells w0 b o vs) (hne : vs ≠ []) (ha : after w0 w) : takeW P (after w0) (Instr.loadAt ft (.pointer (some ⟨b, o, none⟩))) K w = K (.agg vs.toArray) :=
  t_loadAgg hg hk hs (hc.below ha (hc.lt hne)) fun w' h => hc.below h (hc.lt hne)
/-- worlds in which all that was there at w0, but the blocks of p, is as it was: the class 'Off p w0' -/
theorem cell_off {p : Nat → Prop} {w0 w : World} {a : Addr} {u : Value} (hc : w0.cell? a = some u) (hp : ¬ p a.block) (ha : Off p w0 w) : w.cell? a = some u := by
  rw [← hc]; exact World.cell?_of_block (ha.block a.block (World.block_lt_of_cell? w0 _ hc) hp)
theorem Cells.off {p : Nat → Prop} {w0 w : World} {b o : Nat} {vs : List Value} (hc : Cells w0 b o vs) (hp : ¬ p b) (ha : Off p w0 w) : Cells w b o vs := fun j u hu => cell_off (hc j u hu) hp ha
theorem r_getO {p : Nat → Prop} {w0 : World} {b o ft st f x : Nat} {u : Value} (hf : fieldOff P st f = some x) (hg : isAggT P ft = false) (hk : known P ft = true) (hc : w0.cell? ⟨b, o + x, none⟩ = some u) (hp : ¬ p b) (ha : Off p w0 w) :
    takeW P anyW (Instr.fieldAt st (.pointer (some ⟨b, o, none⟩)) f) (fun q => takeW P (Off p w0) (Instr.loadAt ft q) K w) w = K u := by
  rw [t_field hf, t_load hg hk (cell_off hc hp ha) (fun w' h => by rw [cell_off hc hp h, cell_off hc hp ha])]
theorem r_loadO {p : Nat → Prop} {w0 : World} {a : Addr} {ft : Nat} {u : Value} (hg : isAggT P ft = false) (hk : known P ft = true) (hc : w0.cell? a = some u) (hp : ¬ p a.block) (ha : Off p w0 w) : takeW P (Off p w0) (Instr.loadAt ft (.pointer (some a))) K w = K u :=
  t_load hg hk (cell_off hc hp ha) (fun w' h => by rw [cell_off hc hp h, cell_off hc hp ha])
theorem r_aggO {p : Nat → Prop} {w0 : World} {b o ft : Nat} {vs : List Value} (hg : isAggT P ft = true) (hk : known P ft = true) (hs : sizeT P ft = vs.length) (hc : Cells w0 b o vs) (hp : ¬ p b) (ha : Off p w0 w) : takeW P (Off p w0) (Instr.loadAt ft (.pointer (some ⟨b, o, none⟩))) K w = K (.agg vs.toArray) :=
  t_loadAgg hg hk hs (hc.off hp ha) fun w' h => hc.off hp h
theorem run_loadVarA {t : TypeId} {b : Nat} {vs : List Value} (h : isAggT P t = true) (hk : known P t = true) (hs : sizeT P t = vs.length) (hc : Cells w b 0 vs) : (loadVar t ⟨b, 0, none⟩).run P w = .ok (.agg vs.toArray) w := by
  have hk' := hk
  simp only [known, Bool.and_eq_true] at hk
  cases hu : P.underlying t with
  | none => rw [hu] at hk; simp at hk
  | some d =>
    have : (isAgg t).run P w = .ok true w := by
      simp only [isAgg, Sem.run_bind, Result.andThen, run_underlying hu]
      unfold isAggT at h
      rw [hu] at h
      cases d <;> first | rfl | (simp at h)
    have hl := run_loadCellsFrom (P := P) (w := w) (b := b) (o := 0) vs 0 #[] (by simpa using hc)
    simp [loadVar, Sem.run_bind, Result.andThen, this, loadCells, run_sizeOf hk', hs, hl]
theorem resCell_agg {t : TypeId} {b : Nat} {vs : List Value} (h : isAggT P t = true) (hk : known P t = true) (hs : sizeT P t = vs.length) (hc : Cells w b 0 vs) : resCell P t (.pointer (some ⟨b, 0, none⟩)) K w = K (.agg vs.toArray) :=
  propext ⟨fun hh => by have := hh.out; simp only [opW_ok (run_loadVarA h hk hs hc)] at this; exact this.2, fun hh => ⟨by simp only [opW_ok (run_loadVarA h hk hs hc)]; exact ⟨trivial, hh⟩⟩⟩
theorem IsSl.off {α : Type} {F : Fl α} {p : Nat → Prop} {w0 w : World} {v : Value} {l : List α} (h : IsSl F w0 v l) (ha : Off p w0 w) (hp : ∀ b, isOf v b → ¬ p b) : IsSl F w v l := by
  obtain ⟨a, c, rfl, hc, hx⟩ := h
  refine ⟨a, c, rfl, hc, fun i x hi => ?_⟩
  obtain ⟨b, o, rfl, hcl⟩ := hx i x hi
  exact ⟨b, o, rfl, hcl.off (hp b rfl) ha⟩
theorem IsSl.one {α : Type} {F : Fl α} {w : World} {v : Value} {l : List α} (h : IsSl F w v l) : v.oneCell' = true := by obtain ⟨a, c, rfl, _⟩ := h; rfl
end
end Go.V
/- Reading an element, or a field of an element, in one step, at this program's types: printed by program. -/
set_option linter.unusedVariables false
namespace Go.Proofs.YtklknkmeljjmgaaGreatDoor
open Go Go.V Go.RowKit
section
variable {k : Value → World → Prop} {w : World} {K : Value → Prop} {α : Type} {F : Fl α} {v u : Value} {l : List α} {q : IntKind} {i : Int} {a : α}
theorem ga22 (hz : F.sz = 4) (hs : IsSl F w v l) (h0 : 0 ≤ i) (hx : l[i.toNat]? = some a) : opW Tryz.prog (Instr.indexAt 22 v (.int q i)) (fun p w => opW Tryz.prog (Instr.loadAt 59 p) k w) w = k (.agg (F.e a).toArray) w := w_getA (by kernel_rfl) (by kernel_rfl) (by rw [hz]; kernel_rfl) (by kernel_rfl) (by kernel_rfl) (by rw [hz]; kernel_rfl) hs h0 hx
theorem ga24 (hz : F.sz = 4) (hs : IsSl F w v l) (h0 : 0 ≤ i) (hx : l[i.toNat]? = some a) : opW Tryz.prog (Instr.indexAt 24 v (.int q i)) (fun p w => opW Tryz.prog (Instr.loadAt 31 p) k w) w = k (.agg (F.e a).toArray) w := w_getA (by kernel_rfl) (by kernel_rfl) (by rw [hz]; kernel_rfl) (by kernel_rfl) (by kernel_rfl) (by rw [hz]; kernel_rfl) hs h0 hx
theorem gta24 (hz : F.sz = 4) (hs : IsSl F w v l) (h0 : 0 ≤ i) (hx : l[i.toNat]? = some a) : takeW Tryz.prog anyW (Instr.indexAt 24 v (.int q i)) (fun p => takeW Tryz.prog (sameW w) (Instr.loadAt 31 p) K w) w = K (.agg (F.e a).toArray) := t_getA (by kernel_rfl) (by kernel_rfl) (by rw [hz]; kernel_rfl) (by kernel_rfl) (by kernel_rfl) (by rw [hz]; kernel_rfl) hs h0 hx
theorem gt24_0 (hz : F.sz = 4) (hs : IsSl F w v l) (h0 : 0 ≤ i) (hx : l[i.toNat]? = some a) (hu : (F.e a)[0]? = some u) : takeW Tryz.prog anyW (Instr.indexAt 24 v (.int q i)) (fun p => takeW Tryz.prog anyW (Instr.fieldAt 31 p 0) (fun p => takeW Tryz.prog (sameW w) (Instr.loadAt 3 p) K w) w) w = K u := t_get (x := 0) (by kernel_rfl) (by kernel_rfl) (by rw [hz]; kernel_rfl) (by kernel_rfl) (by kernel_rfl) (by kernel_rfl) hs h0 hx hu
theorem gt24_1 (hz : F.sz = 4) (hs : IsSl F w v l) (h0 : 0 ≤ i) (hx : l[i.toNat]? = some a) (hu : (F.e a)[1]? = some u) : takeW Tryz.prog anyW (Instr.indexAt 24 v (.int q i)) (fun p => takeW Tryz.prog anyW (Instr.fieldAt 31 p 1) (fun p => takeW Tryz.prog (sameW w) (Instr.loadAt 3 p) K w) w) w = K u := t_get (x := 1) (by kernel_rfl) (by kernel_rfl) (by rw [hz]; kernel_rfl) (by kernel_rfl) (by kernel_rfl) (by kernel_rfl) hs h0 hx hu
theorem gt24_2 (hz : F.sz = 4) (hs : IsSl F w v l) (h0 : 0 ≤ i) (hx : l[i.toNat]? = some a) (hu : (F.e a)[2]? = some u) : takeW Tryz.prog anyW (Instr.indexAt 24 v (.int q i)) (fun p => takeW Tryz.prog anyW (Instr.fieldAt 31 p 2) (fun p => takeW Tryz.prog (sameW w) (Instr.loadAt 3 p) K w) w) w = K u := t_get (x := 2) (by kernel_rfl) (by kernel_rfl) (by rw [hz]; kernel_rfl) (by kernel_rfl) (by kernel_rfl) (by kernel_rfl) hs h0 hx hu
theorem ga25 (hz : F.sz = 4) (hs : IsSl F w v l) (h0 : 0 ≤ i) (hx : l[i.toNat]? = some a) : opW Tryz.prog (Instr.indexAt 25 v (.int q i)) (fun p w => opW Tryz.prog (Instr.loadAt 63 p) k w) w = k (.agg (F.e a).toArray) w := w_getA (by kernel_rfl) (by kernel_rfl) (by rw [hz]; kernel_rfl) (by kernel_rfl) (by kernel_rfl) (by rw [hz]; kernel_rfl) hs h0 hx
theorem gta25 (hz : F.sz = 4) (hs : IsSl F w v l) (h0 : 0 ≤ i) (hx : l[i.toNat]? = some a) : takeW Tryz.prog anyW (Instr.indexAt 25 v (.int q i)) (fun p => takeW Tryz.prog (sameW w) (Instr.loadAt 63 p) K w) w = K (.agg (F.e a).toArray) := t_getA (by kernel_rfl) (by kernel_rfl) (by rw [hz]; kernel_rfl) (by kernel_rfl) (by kernel_rfl) (by rw [hz]; kernel_rfl) hs h0 hx
theorem gt25_0 (hz : F.sz = 4) (hs : IsSl F w v l) (h0 : 0 ≤ i) (hx : l[i.toNat]? = some a) (hu : (F.e a)[0]? = some u) : takeW Tryz.prog anyW (Instr.indexAt 25 v (.int q i)) (fun p => takeW Tryz.prog anyW (Instr.fieldAt 63 p 0) (fun p => takeW Tryz.prog (sameW w) (Instr.loadAt 3 p) K w) w) w = K u := t_get (x := 0) (by kernel_rfl) (by kernel_rfl) (by rw [hz]; kernel_rfl) (by kernel_rfl) (by kernel_rfl) (by kernel_rfl) hs h0 hx hu
theorem gt25_1 (hz : F.sz = 4) (hs : IsSl F w v l) (h0 : 0 ≤ i) (hx : l[i.toNat]? = some a) (hu : (F.e a)[1]? = some u) : takeW Tryz.prog anyW (Instr.indexAt 25 v (.int q i)) (fun p => takeW Tryz.prog anyW (Instr.fieldAt 63 p 1) (fun p => takeW Tryz.prog (sameW w) (Instr.loadAt 3 p) K w) w) w = K u := t_get (x := 1) (by kernel_rfl) (by kernel_rfl) (by rw [hz]; kernel_rfl) (by kernel_rfl) (by kernel_rfl) (by kernel_rfl) hs h0 hx hu
theorem gt25_2 (hz : F.sz = 4) (hs : IsSl F w v l) (h0 : 0 ≤ i) (hx : l[i.toNat]? = some a) (hu : (F.e a)[2]? = some u) : takeW Tryz.prog anyW (Instr.indexAt 25 v (.int q i)) (fun p => takeW Tryz.prog anyW (Instr.fieldAt 63 p 2) (fun p => takeW Tryz.prog (sameW w) (Instr.loadAt 3 p) K w) w) w = K u := t_get (x := 2) (by kernel_rfl) (by kernel_rfl) (by rw [hz]; kernel_rfl) (by kernel_rfl) (by kernel_rfl) (by kernel_rfl) hs h0 hx hu
theorem ga34 (hz : F.sz = 4) (hs : IsSl F w v l) (h0 : 0 ≤ i) (hx : l[i.toNat]? = some a) : opW Tryz.prog (Instr.indexAt 34 v (.int q i)) (fun p w => opW Tryz.prog (Instr.loadAt 27 p) k w) w = k (.agg (F.e a).toArray) w := w_getA (by kernel_rfl) (by kernel_rfl) (by rw [hz]; kernel_rfl) (by kernel_rfl) (by kernel_rfl) (by rw [hz]; kernel_rfl) hs h0 hx
theorem gta34 (hz : F.sz = 4) (hs : IsSl F w v l) (h0 : 0 ≤ i) (hx : l[i.toNat]? = some a) : takeW Tryz.prog anyW (Instr.indexAt 34 v (.int q i)) (fun p => takeW Tryz.prog (sameW w) (Instr.loadAt 27 p) K w) w = K (.agg (F.e a).toArray) := t_getA (by kernel_rfl) (by kernel_rfl) (by rw [hz]; kernel_rfl) (by kernel_rfl) (by kernel_rfl) (by rw [hz]; kernel_rfl) hs h0 hx
theorem ga36 (hz : F.sz = 3) (hs : IsSl F w v l) (h0 : 0 ≤ i) (hx : l[i.toNat]? = some a) : opW Tryz.prog (Instr.indexAt 36 v (.int q i)) (fun p w => opW Tryz.prog (Instr.loadAt 29 p) k w) w = k (.agg (F.e a).toArray) w := w_getA (by kernel_rfl) (by kernel_rfl) (by rw [hz]; kernel_rfl) (by kernel_rfl) (by kernel_rfl) (by rw [hz]; kernel_rfl) hs h0 hx
theorem gw54 (hz : F.sz = 1) (hs : IsSl F w v l) (h0 : 0 ≤ i) (hx : l[i.toNat]? = some a) (hu : (F.e a)[0]? = some u) : opW Tryz.prog (Instr.indexAt 54 v (.int q i)) (fun p w => opW Tryz.prog (Instr.loadAt 3 p) k w) w = k u w := w_getE (by kernel_rfl) (by kernel_rfl) (by rw [hz]; kernel_rfl) (by kernel_rfl) (by kernel_rfl) hs h0 hx hu
theorem rw27_0 {b o : Nat} (hc : w.cell? ⟨b, o, none⟩ = some u) : opW Tryz.prog (Instr.fieldAt 27 (.pointer (some ⟨b, o, none⟩)) 0) (fun p w => opW Tryz.prog (Instr.loadAt 3 p) k w) w = k u w := r_get (x := 0) (by kernel_rfl) (by kernel_rfl) (by kernel_rfl) hc
theorem rt27_0 {b o : Nat} (hc : w.cell? ⟨b, o, none⟩ = some u) : takeW Tryz.prog anyW (Instr.fieldAt 27 (.pointer (some ⟨b, o, none⟩)) 0) (fun p => takeW Tryz.prog (sameW w) (Instr.loadAt 3 p) K w) w = K u := r_getT (x := 0) (by kernel_rfl) (by kernel_rfl) (by kernel_rfl) hc
theorem ra27_0 {w0 : World} {b o : Nat} (hc : w0.cell? ⟨b, o, none⟩ = some u) (ha : after w0 w) : takeW Tryz.prog anyW (Instr.fieldAt 27 (.pointer (some ⟨b, o, none⟩)) 0) (fun p => takeW Tryz.prog (after w0) (Instr.loadAt 3 p) K w) w = K u := r_getA (x := 0) (by kernel_rfl) (by kernel_rfl) (by kernel_rfl) hc ha
theorem ro27_0 {p : Nat → Prop} {w0 : World} {b o : Nat} (hc : w0.cell? ⟨b, o, none⟩ = some u) (hp : ¬ p b) (ha : Off p w0 w) : takeW Tryz.prog anyW (Instr.fieldAt 27 (.pointer (some ⟨b, o, none⟩)) 0) (fun q => takeW Tryz.prog (Off p w0) (Instr.loadAt 3 q) K w) w = K u := r_getO (x := 0) (by kernel_rfl) (by kernel_rfl) (by kernel_rfl) hc hp ha
theorem rw27_1 {b o : Nat} (hc : w.cell? ⟨b, o + 1, none⟩ = some u) : opW Tryz.prog (Instr.fieldAt 27 (.pointer (some ⟨b, o, none⟩)) 1) (fun p w => opW Tryz.prog (Instr.loadAt 3 p) k w) w = k u w := r_get (x := 1) (by kernel_rfl) (by kernel_rfl) (by kernel_rfl) hc
theorem ra27_1 {w0 : World} {b o : Nat} (hc : w0.cell? ⟨b, o + 1, none⟩ = some u) (ha : after w0 w) : takeW Tryz.prog anyW (Instr.fieldAt 27 (.pointer (some ⟨b, o, none⟩)) 1) (fun p => takeW Tryz.prog (after w0) (Instr.loadAt 3 p) K w) w = K u := r_getA (x := 1) (by kernel_rfl) (by kernel_rfl) (by kernel_rfl) hc ha
theorem rw27_2 {b o : Nat} (hc : w.cell? ⟨b, o + 2, none⟩ = some u) : opW Tryz.prog (Instr.fieldAt 27 (.pointer (some ⟨b, o, none⟩)) 2) (fun p w => opW Tryz.prog (Instr.loadAt 24 p) k w) w = k u w := r_get (x := 2) (by kernel_rfl) (by kernel_rfl) (by kernel_rfl) hc
theorem rt27_2 {b o : Nat} (hc : w.cell? ⟨b, o + 2, none⟩ = some u) : takeW Tryz.prog anyW (Instr.fieldAt 27 (.pointer (some ⟨b, o, none⟩)) 2) (fun p => takeW Tryz.prog (sameW w) (Instr.loadAt 24 p) K w) w = K u := r_getT (x := 2) (by kernel_rfl) (by kernel_rfl) (by kernel_rfl) hc
theorem ra27_2 {w0 : World} {b o : Nat} (hc : w0.cell? ⟨b, o + 2, none⟩ = some u) (ha : after w0 w) : takeW Tryz.prog anyW (Instr.fieldAt 27 (.pointer (some ⟨b, o, none⟩)) 2) (fun p => takeW Tryz.prog (after w0) (Instr.loadAt 24 p) K w) w = K u := r_getA (x := 2) (by kernel_rfl) (by kernel_rfl) (by kernel_rfl) hc ha
theorem rw27_3 {b o : Nat} (hc : w.cell? ⟨b, o + 3, none⟩ = some u) : opW Tryz.prog (Instr.fieldAt 27 (.pointer (some ⟨b, o, none⟩)) 3) (fun p w => opW Tryz.prog (Instr.loadAt 25 p) k w) w = k u w := r_get (x := 3) (by kernel_rfl) (by kernel_rfl) (by kernel_rfl) hc
theorem rt27_3 {b o : Nat} (hc : w.cell? ⟨b, o + 3, none⟩ = some u) : takeW Tryz.prog anyW (Instr.fieldAt 27 (.pointer (some ⟨b, o, none⟩)) 3) (fun p => takeW Tryz.prog (sameW w) (Instr.loadAt 25 p) K w) w = K u := r_getT (x := 3) (by kernel_rfl) (by kernel_rfl) (by kernel_rfl) hc
theorem ra27_3 {w0 : World} {b o : Nat} (hc : w0.cell? ⟨b, o + 3, none⟩ = some u) (ha : after w0 w) : takeW Tryz.prog anyW (Instr.fieldAt 27 (.pointer (some ⟨b, o, none⟩)) 3) (fun p => takeW Tryz.prog (after w0) (Instr.loadAt 25 p) K w) w = K u := r_getA (x := 3) (by kernel_rfl) (by kernel_rfl) (by kernel_rfl) hc ha
theorem rw29_0 {b o : Nat} (hc : w.cell? ⟨b, o, none⟩ = some u) : opW Tryz.prog (Instr.fieldAt 29 (.pointer (some ⟨b, o, none⟩)) 0) (fun p w => opW Tryz.prog (Instr.loadAt 3 p) k w) w = k u w := r_get (x := 0) (by kernel_rfl) (by kernel_rfl) (by kernel_rfl) hc
theorem rw29_1 {b o : Nat} (hc : w.cell? ⟨b, o + 1, none⟩ = some u) : opW Tryz.prog (Instr.fieldAt 29 (.pointer (some ⟨b, o, none⟩)) 1) (fun p w => opW Tryz.prog (Instr.loadAt 24 p) k w) w = k u w := r_get (x := 1) (by kernel_rfl) (by kernel_rfl) (by kernel_rfl) hc
theorem ra29_1 {w0 : World} {b o : Nat} (hc : w0.cell? ⟨b, o + 1, none⟩ = some u) (ha : after w0 w) : takeW Tryz.prog anyW (Instr.fieldAt 29 (.pointer (some ⟨b, o, none⟩)) 1) (fun p => takeW Tryz.prog (after w0) (Instr.loadAt 24 p) K w) w = K u := r_getA (x := 1) (by kernel_rfl) (by kernel_rfl) (by kernel_rfl) hc ha
theorem rw29_2 {b o : Nat} (hc : w.cell? ⟨b, o + 2, none⟩ = some u) : opW Tryz.prog (Instr.fieldAt 29 (.pointer (some ⟨b, o, none⟩)) 2) (fun p w => opW Tryz.prog (Instr.loadAt 25 p) k w) w = k u w := r_get (x := 2) (by kernel_rfl) (by kernel_rfl) (by kernel_rfl) hc
theorem rw31_0 {b o : Nat} (hc : w.cell? ⟨b, o, none⟩ = some u) : opW Tryz.prog (Instr.fieldAt 31 (.pointer (some ⟨b, o, none⟩)) 0) (fun p w => opW Tryz.prog (Instr.loadAt 3 p) k w) w = k u w := r_get (x := 0) (by kernel_rfl) (by kernel_rfl) (by kernel_rfl) hc
theorem rt31_0 {b o : Nat} (hc : w.cell? ⟨b, o, none⟩ = some u) : takeW Tryz.prog anyW (Instr.fieldAt 31 (.pointer (some ⟨b, o, none⟩)) 0) (fun p => takeW Tryz.prog (sameW w) (Instr.loadAt 3 p) K w) w = K u := r_getT (x := 0) (by kernel_rfl) (by kernel_rfl) (by kernel_rfl) hc
theorem ro31_0 {p : Nat → Prop} {w0 : World} {b o : Nat} (hc : w0.cell? ⟨b, o, none⟩ = some u) (hp : ¬ p b) (ha : Off p w0 w) : takeW Tryz.prog anyW (Instr.fieldAt 31 (.pointer (some ⟨b, o, none⟩)) 0) (fun q => takeW Tryz.prog (Off p w0) (Instr.loadAt 3 q) K w) w = K u := r_getO (x := 0) (by kernel_rfl) (by kernel_rfl) (by kernel_rfl) hc hp ha
theorem rw31_1 {b o : Nat} (hc : w.cell? ⟨b, o + 1, none⟩ = some u) : opW Tryz.prog (Instr.fieldAt 31 (.pointer (some ⟨b, o, none⟩)) 1) (fun p w => opW Tryz.prog (Instr.loadAt 3 p) k w) w = k u w := r_get (x := 1) (by kernel_rfl) (by kernel_rfl) (by kernel_rfl) hc
theorem rt31_1 {b o : Nat} (hc : w.cell? ⟨b, o + 1, none⟩ = some u) : takeW Tryz.prog anyW (Instr.fieldAt 31 (.pointer (some ⟨b, o, none⟩)) 1) (fun p => takeW Tryz.prog (sameW w) (Instr.loadAt 3 p) K w) w = K u := r_getT (x := 1) (by kernel_rfl) (by kernel_rfl) (by kernel_rfl) hc
theorem ro31_1 {p : Nat → Prop} {w0 : World} {b o : Nat} (hc : w0.cell? ⟨b, o + 1, none⟩ = some u) (hp : ¬ p b) (ha : Off p w0 w) : takeW Tryz.prog anyW (Instr.fieldAt 31 (.pointer (some ⟨b, o, none⟩)) 1) (fun q => takeW Tryz.prog (Off p w0) (Instr.loadAt 3 q) K w) w = K u := r_getO (x := 1) (by kernel_rfl) (by kernel_rfl) (by kernel_rfl) hc hp ha
theorem rw31_2 {b o : Nat} (hc : w.cell? ⟨b, o + 2, none⟩ = some u) : opW Tryz.prog (Instr.fieldAt 31 (.pointer (some ⟨b, o, none⟩)) 2) (fun p w => opW Tryz.prog (Instr.loadAt 3 p) k w) w = k u w := r_get (x := 2) (by kernel_rfl) (by kernel_rfl) (by kernel_rfl) hc
theorem rt31_2 {b o : Nat} (hc : w.cell? ⟨b, o + 2, none⟩ = some u) : takeW Tryz.prog anyW (Instr.fieldAt 31 (.pointer (some ⟨b, o, none⟩)) 2) (fun p => takeW Tryz.prog (sameW w) (Instr.loadAt 3 p) K w) w = K u := r_getT (x := 2) (by kernel_rfl) (by kernel_rfl) (by kernel_rfl) hc
theorem rw31_3 {b o : Nat} (hc : w.cell? ⟨b, o + 3, none⟩ = some u) : opW Tryz.prog (Instr.fieldAt 31 (.pointer (some ⟨b, o, none⟩)) 3) (fun p w => opW Tryz.prog (Instr.loadAt 9 p) k w) w = k u w := r_get (x := 3) (by kernel_rfl) (by kernel_rfl) (by kernel_rfl) hc
theorem rt31_3 {b o : Nat} (hc : w.cell? ⟨b, o + 3, none⟩ = some u) : takeW Tryz.prog anyW (Instr.fieldAt 31 (.pointer (some ⟨b, o, none⟩)) 3) (fun p => takeW Tryz.prog (sameW w) (Instr.loadAt 9 p) K w) w = K u := r_getT (x := 3) (by kernel_rfl) (by kernel_rfl) (by kernel_rfl) hc
theorem ra31_3 {w0 : World} {b o : Nat} (hc : w0.cell? ⟨b, o + 3, none⟩ = some u) (ha : after w0 w) : takeW Tryz.prog anyW (Instr.fieldAt 31 (.pointer (some ⟨b, o, none⟩)) 3) (fun p => takeW Tryz.prog (after w0) (Instr.loadAt 9 p) K w) w = K u := r_getA (x := 3) (by kernel_rfl) (by kernel_rfl) (by kernel_rfl) hc ha
theorem ro31_3 {p : Nat → Prop} {w0 : World} {b o : Nat} (hc : w0.cell? ⟨b, o + 3, none⟩ = some u) (hp : ¬ p b) (ha : Off p w0 w) : takeW Tryz.prog anyW (Instr.fieldAt 31 (.pointer (some ⟨b, o, none⟩)) 3) (fun q => takeW Tryz.prog (Off p w0) (Instr.loadAt 9 q) K w) w = K u := r_getO (x := 3) (by kernel_rfl) (by kernel_rfl) (by kernel_rfl) hc hp ha
theorem rw63_0 {b o : Nat} (hc : w.cell? ⟨b, o, none⟩ = some u) : opW Tryz.prog (Instr.fieldAt 63 (.pointer (some ⟨b, o, none⟩)) 0) (fun p w => opW Tryz.prog (Instr.loadAt 3 p) k w) w = k u w := r_get (x := 0) (by kernel_rfl) (by kernel_rfl) (by kernel_rfl) hc
theorem ra63_0 {w0 : World} {b o : Nat} (hc : w0.cell? ⟨b, o, none⟩ = some u) (ha : after w0 w) : takeW Tryz.prog anyW (Instr.fieldAt 63 (.pointer (some ⟨b, o, none⟩)) 0) (fun p => takeW Tryz.prog (after w0) (Instr.loadAt 3 p) K w) w = K u := r_getA (x := 0) (by kernel_rfl) (by kernel_rfl) (by kernel_rfl) hc ha
theorem rw63_1 {b o : Nat} (hc : w.cell? ⟨b, o + 1, none⟩ = some u) : opW Tryz.prog (Instr.fieldAt 63 (.pointer (some ⟨b, o, none⟩)) 1) (fun p w => opW Tryz.prog (Instr.loadAt 3 p) k w) w = k u w := r_get (x := 1) (by kernel_rfl) (by kernel_rfl) (by kernel_rfl) hc
theorem ra63_1 {w0 : World} {b o : Nat} (hc : w0.cell? ⟨b, o + 1, none⟩ = some u) (ha : after w0 w) : takeW Tryz.prog anyW (Instr.fieldAt 63 (.pointer (some ⟨b, o, none⟩)) 1) (fun p => takeW Tryz.prog (after w0) (Instr.loadAt 3 p) K w) w = K u := r_getA (x := 1) (by kernel_rfl) (by kernel_rfl) (by kernel_rfl) hc ha
theorem rw63_2 {b o : Nat} (hc : w.cell? ⟨b, o + 2, none⟩ = some u) : opW Tryz.prog (Instr.fieldAt 63 (.pointer (some ⟨b, o, none⟩)) 2) (fun p w => opW Tryz.prog (Instr.loadAt 3 p) k w) w = k u w := r_get (x := 2) (by kernel_rfl) (by kernel_rfl) (by kernel_rfl) hc
theorem ra63_2 {w0 : World} {b o : Nat} (hc : w0.cell? ⟨b, o + 2, none⟩ = some u) (ha : after w0 w) : takeW Tryz.prog anyW (Instr.fieldAt 63 (.pointer (some ⟨b, o, none⟩)) 2) (fun p => takeW Tryz.prog (after w0) (Instr.loadAt 3 p) K w) w = K u := r_getA (x := 2) (by kernel_rfl) (by kernel_rfl) (by kernel_rfl) hc ha
theorem rw63_3 {b o : Nat} (hc : w.cell? ⟨b, o + 3, none⟩ = some u) : opW Tryz.prog (Instr.fieldAt 63 (.pointer (some ⟨b, o, none⟩)) 3) (fun p w => opW Tryz.prog (Instr.loadAt 9 p) k w) w = k u w := r_get (x := 3) (by kernel_rfl) (by kernel_rfl) (by kernel_rfl) hc
theorem ra63_3 {w0 : World} {b o : Nat} (hc : w0.cell? ⟨b, o + 3, none⟩ = some u) (ha : after w0 w) : takeW Tryz.prog anyW (Instr.fieldAt 63 (.pointer (some ⟨b, o, none⟩)) 3) (fun p => takeW Tryz.prog (after w0) (Instr.loadAt 9 p) K w) w = K u := r_getA (x := 3) (by kernel_rfl) (by kernel_rfl) (by kernel_rfl) hc ha
theorem ra106_0 {w0 : World} {b o : Nat} (hc : w0.cell? ⟨b, o, none⟩ = some u) (ha : after w0 w) : takeW Tryz.prog anyW (Instr.fieldAt 106 (.pointer (some ⟨b, o, none⟩)) 0) (fun p => takeW Tryz.prog (after w0) (Instr.loadAt 3 p) K w) w = K u := r_getA (x := 0) (by kernel_rfl) (by kernel_rfl) (by kernel_rfl) hc ha
theorem ra106_2 {w0 : World} {b o : Nat} (hc : w0.cell? ⟨b, o + 2, none⟩ = some u) (ha : after w0 w) : takeW Tryz.prog anyW (Instr.fieldAt 106 (.pointer (some ⟨b, o, none⟩)) 2) (fun p => takeW Tryz.prog (after w0) (Instr.loadAt 3 p) K w) w = K u := r_getA (x := 2) (by kernel_rfl) (by kernel_rfl) (by kernel_rfl) hc ha
theorem la3 {w0 : World} {ad : Addr} (hc : w0.cell? ad = some u) (ha : after w0 w) : takeW Tryz.prog (after w0) (Instr.loadAt 3 (.pointer (some ad))) K w = K u := r_loadA (by kernel_rfl) (by kernel_rfl) hc ha
theorem la23 {w0 : World} {b o : Nat} {vs : List Value} (hl : vs.length = 2) (hc : Cells w0 b o vs) (ha : after w0 w) : takeW Tryz.prog (after w0) (Instr.loadAt 23 (.pointer (some ⟨b, o, none⟩))) K w = K (.agg vs.toArray) := r_aggA (by kernel_rfl) (by kernel_rfl) (by rw [hl]; kernel_rfl) hc (by intro h; rw [h] at hl; cases hl) ha
theorem lo24 {p : Nat → Prop} {w0 : World} {ad : Addr} (hc : w0.cell? ad = some u) (hp : ¬ p ad.block) (ha : Off p w0 w) : takeW Tryz.prog (Off p w0) (Instr.loadAt 24 (.pointer (some ad))) K w = K u := r_loadO (by kernel_rfl) (by kernel_rfl) hc hp ha
theorem lo25 {p : Nat → Prop} {w0 : World} {ad : Addr} (hc : w0.cell? ad = some u) (hp : ¬ p ad.block) (ha : Off p w0 w) : takeW Tryz.prog (Off p w0) (Instr.loadAt 25 (.pointer (some ad))) K w = K u := r_loadO (by kernel_rfl) (by kernel_rfl) hc hp ha
theorem rc27 {b : Nat} {vs : List Value} (hl : vs.length = 4) (hc : Cells w b 0 vs) : resCell Tryz.prog 27 (.pointer (some ⟨b, 0, none⟩)) K w = K (.agg vs.toArray) := resCell_agg (by kernel_rfl) (by kernel_rfl) (by rw [hl]; kernel_rfl) hc
theorem la27 {w0 : World} {b o : Nat} {vs : List Value} (hl : vs.length = 4) (hc : Cells w0 b o vs) (ha : after w0 w) : takeW Tryz.prog (after w0) (Instr.loadAt 27 (.pointer (some ⟨b, o, none⟩))) K w = K (.agg vs.toArray) := r_aggA (by kernel_rfl) (by kernel_rfl) (by rw [hl]; kernel_rfl) hc (by intro h; rw [h] at hl; cases hl) ha
theorem rc29 {b : Nat} {vs : List Value} (hl : vs.length = 3) (hc : Cells w b 0 vs) : resCell Tryz.prog 29 (.pointer (some ⟨b, 0, none⟩)) K w = K (.agg vs.toArray) := resCell_agg (by kernel_rfl) (by kernel_rfl) (by rw [hl]; kernel_rfl) hc
theorem lo31 {p : Nat → Prop} {w0 : World} {b o : Nat} {vs : List Value} (hl : vs.length = 4) (hc : Cells w0 b o vs) (hp : ¬ p b) (ha : Off p w0 w) : takeW Tryz.prog (Off p w0) (Instr.loadAt 31 (.pointer (some ⟨b, o, none⟩))) K w = K (.agg vs.toArray) := r_aggO (by kernel_rfl) (by kernel_rfl) (by rw [hl]; kernel_rfl) hc hp ha
theorem rc31 {b : Nat} {vs : List Value} (hl : vs.length = 4) (hc : Cells w b 0 vs) : resCell Tryz.prog 31 (.pointer (some ⟨b, 0, none⟩)) K w = K (.agg vs.toArray) := resCell_agg (by kernel_rfl) (by kernel_rfl) (by rw [hl]; kernel_rfl) hc
theorem la31 {w0 : World} {b o : Nat} {vs : List Value} (hl : vs.length = 4) (hc : Cells w0 b o vs) (ha : after w0 w) : takeW Tryz.prog (after w0) (Instr.loadAt 31 (.pointer (some ⟨b, o, none⟩))) K w = K (.agg vs.toArray) := r_aggA (by kernel_rfl) (by kernel_rfl) (by rw [hl]; kernel_rfl) hc (by intro h; rw [h] at hl; cases hl) ha
theorem lo63 {p : Nat → Prop} {w0 : World} {b o : Nat} {vs : List Value} (hl : vs.length = 4) (hc : Cells w0 b o vs) (hp : ¬ p b) (ha : Off p w0 w) : takeW Tryz.prog (Off p w0) (Instr.loadAt 63 (.pointer (some ⟨b, o, none⟩))) K w = K (.agg vs.toArray) := r_aggO (by kernel_rfl) (by kernel_rfl) (by rw [hl]; kernel_rfl) hc hp ha
theorem rc63 {b : Nat} {vs : List Value} (hl : vs.length = 4) (hc : Cells w b 0 vs) : resCell Tryz.prog 63 (.pointer (some ⟨b, 0, none⟩)) K w = K (.agg vs.toArray) := resCell_agg (by kernel_rfl) (by kernel_rfl) (by rw [hl]; kernel_rfl) hc
theorem la63 {w0 : World} {b o : Nat} {vs : List Value} (hl : vs.length = 4) (hc : Cells w0 b o vs) (ha : after w0 w) : takeW Tryz.prog (after w0) (Instr.loadAt 63 (.pointer (some ⟨b, o, none⟩))) K w = K (.agg vs.toArray) := r_aggA (by kernel_rfl) (by kernel_rfl) (by rw [hl]; kernel_rfl) hc (by intro h; rw [h] at hl; cases hl) ha
theorem rc120 {b : Nat} {vs : List Value} (hl : vs.length = 64) (hc : Cells w b 0 vs) : resCell Tryz.prog 120 (.pointer (some ⟨b, 0, none⟩)) K w = K (.agg vs.toArray) := resCell_agg (by kernel_rfl) (by kernel_rfl) (by rw [hl]; kernel_rfl) hc
theorem sr27 {b : Nat} {vs old : List Value} (hl : vs.length = 4) (hr : RowAt w b 27 old) (ho : old.length = 4) (hv : ∀ v ∈ vs, v.oneCell' = true) (h : ∀ w', Only b w w' → RowAt w' b 27 vs → k undef w') : opU Tryz.prog (Instr.storeAt 27 (.pointer (some ⟨b, 0, none⟩)) (.agg vs.toArray)) k w := w_storeRow hr (by rw [hl, ho]) hv (by rw [hl]; kernel_rfl) (by kernel_rfl) h
theorem sr29 {b : Nat} {vs old : List Value} (hl : vs.length = 3) (hr : RowAt w b 29 old) (ho : old.length = 3) (hv : ∀ v ∈ vs, v.oneCell' = true) (h : ∀ w', Only b w w' → RowAt w' b 29 vs → k undef w') : opU Tryz.prog (Instr.storeAt 29 (.pointer (some ⟨b, 0, none⟩)) (.agg vs.toArray)) k w := w_storeRow hr (by rw [hl, ho]) hv (by rw [hl]; kernel_rfl) (by kernel_rfl) h
theorem sr31 {b : Nat} {vs old : List Value} (hl : vs.length = 4) (hr : RowAt w b 31 old) (ho : old.length = 4) (hv : ∀ v ∈ vs, v.oneCell' = true) (h : ∀ w', Only b w w' → RowAt w' b 31 vs → k undef w') : opU Tryz.prog (Instr.storeAt 31 (.pointer (some ⟨b, 0, none⟩)) (.agg vs.toArray)) k w := w_storeRow hr (by rw [hl, ho]) hv (by rw [hl]; kernel_rfl) (by kernel_rfl) h
theorem sr63 {b : Nat} {vs old : List Value} (hl : vs.length = 4) (hr : RowAt w b 63 old) (ho : old.length = 4) (hv : ∀ v ∈ vs, v.oneCell' = true) (h : ∀ w', Only b w w' → RowAt w' b 63 vs → k undef w') : opU Tryz.prog (Instr.storeAt 63 (.pointer (some ⟨b, 0, none⟩)) (.agg vs.toArray)) k w := w_storeRow hr (by rw [hl, ho]) hv (by rw [hl]; kernel_rfl) (by kernel_rfl) h
theorem na22 {i : Nat} (hz : F.sz = 4) (hs : IsSl F w v l) (hx : l[i]? = some a) : opW Tryz.prog (Instr.indexAt 22 v (.int q (i : Int))) (fun p w => opW Tryz.prog (Instr.loadAt 59 p) k w) w = k (.agg (F.e a).toArray) w := ga22 (i := (i : Int)) hz hs (by omega) hx
theorem na24 {i : Nat} (hz : F.sz = 4) (hs : IsSl F w v l) (hx : l[i]? = some a) : opW Tryz.prog (Instr.indexAt 24 v (.int q (i : Int))) (fun p w => opW Tryz.prog (Instr.loadAt 31 p) k w) w = k (.agg (F.e a).toArray) w := ga24 (i := (i : Int)) hz hs (by omega) hx
theorem nta24 {i : Nat} (hz : F.sz = 4) (hs : IsSl F w v l) (hx : l[i]? = some a) : takeW Tryz.prog anyW (Instr.indexAt 24 v (.int q (i : Int))) (fun p => takeW Tryz.prog (sameW w) (Instr.loadAt 31 p) K w) w = K (.agg (F.e a).toArray) := gta24 (i := (i : Int)) hz hs (by omega) hx
theorem nt24_0 {i : Nat} (hz : F.sz = 4) (hs : IsSl F w v l) (hx : l[i]? = some a) (hu : (F.e a)[0]? = some u) : takeW Tryz.prog anyW (Instr.indexAt 24 v (.int q (i : Int))) (fun p => takeW Tryz.prog anyW (Instr.fieldAt 31 p 0) (fun p => takeW Tryz.prog (sameW w) (Instr.loadAt 3 p) K w) w) w = K u := gt24_0 (i := (i : Int)) hz hs (by omega) hx hu
theorem nt24_1 {i : Nat} (hz : F.sz = 4) (hs : IsSl F w v l) (hx : l[i]? = some a) (hu : (F.e a)[1]? = some u) : takeW Tryz.prog anyW (Instr.indexAt 24 v (.int q (i : Int))) (fun p => takeW Tryz.prog anyW (Instr.fieldAt 31 p 1) (fun p => takeW Tryz.prog (sameW w) (Instr.loadAt 3 p) K w) w) w = K u := gt24_1 (i := (i : Int)) hz hs (by omega) hx hu
theorem nt24_2 {i : Nat} (hz : F.sz = 4) (hs : IsSl F w v l) (hx : l[i]? = some a) (hu : (F.e a)[2]? = some u) : takeW Tryz.prog anyW (Instr.indexAt 24 v (.int q (i : Int))) (fun p => takeW Tryz.prog anyW (Instr.fieldAt 31 p 2) (fun p => takeW Tryz.prog (sameW w) (Instr.loadAt 3 p) K w) w) w = K u := gt24_2 (i := (i : Int)) hz hs (by omega) hx hu
theorem na25 {i : Nat} (hz : F.sz = 4) (hs : IsSl F w v l) (hx : l[i]? = some a) : opW Tryz.prog (Instr.indexAt 25 v (.int q (i : Int))) (fun p w => opW Tryz.prog (Instr.loadAt 63 p) k w) w = k (.agg (F.e a).toArray) w := ga25 (i := (i : Int)) hz hs (by omega) hx
theorem nta25 {i : Nat} (hz : F.sz = 4) (hs : IsSl F w v l) (hx : l[i]? = some a) : takeW Tryz.prog anyW (Instr.indexAt 25 v (.int q (i : Int))) (fun p => takeW Tryz.prog (sameW w) (Instr.loadAt 63 p) K w) w = K (.agg (F.e a).toArray) := gta25 (i := (i : Int)) hz hs (by omega) hx
theorem nt25_0 {i : Nat} (hz : F.sz = 4) (hs : IsSl F w v l) (hx : l[i]? = some a) (hu : (F.e a)[0]? = some u) : takeW Tryz.prog anyW (Instr.indexAt 25 v (.int q (i : Int))) (fun p => takeW Tryz.prog anyW (Instr.fieldAt 63 p 0) (fun p => takeW Tryz.prog (sameW w) (Instr.loadAt 3 p) K w) w) w = K u := gt25_0 (i := (i : Int)) hz hs (by omega) hx hu
theorem nt25_1 {i : Nat} (hz : F.sz = 4) (hs : IsSl F w v l) (hx : l[i]? = some a) (hu : (F.e a)[1]? = some u) : takeW Tryz.prog anyW (Instr.indexAt 25 v (.int q (i : Int))) (fun p => takeW Tryz.prog anyW (Instr.fieldAt 63 p 1) (fun p => takeW Tryz.prog (sameW w) (Instr.loadAt 3 p) K w) w) w = K u := gt25_1 (i := (i : Int)) hz hs (by omega) hx hu
theorem nt25_2 {i : Nat} (hz : F.sz = 4) (hs : IsSl F w v l) (hx : l[i]? = some a) (hu : (F.e a)[2]? = some u) : takeW Tryz.prog anyW (Instr.indexAt 25 v (.int q (i : Int))) (fun p => takeW Tryz.prog anyW (Instr.fieldAt 63 p 2) (fun p => takeW Tryz.prog (sameW w) (Instr.loadAt 3 p) K w) w) w = K u := gt25_2 (i := (i : Int)) hz hs (by omega) hx hu
theorem na34 {i : Nat} (hz : F.sz = 4) (hs : IsSl F w v l) (hx : l[i]? = some a) : opW Tryz.prog (Instr.indexAt 34 v (.int q (i : Int))) (fun p w => opW Tryz.prog (Instr.loadAt 27 p) k w) w = k (.agg (F.e a).toArray) w := ga34 (i := (i : Int)) hz hs (by omega) hx
theorem nta34 {i : Nat} (hz : F.sz = 4) (hs : IsSl F w v l) (hx : l[i]? = some a) : takeW Tryz.prog anyW (Instr.indexAt 34 v (.int q (i : Int))) (fun p => takeW Tryz.prog (sameW w) (Instr.loadAt 27 p) K w) w = K (.agg (F.e a).toArray) := gta34 (i := (i : Int)) hz hs (by omega) hx
theorem na36 {i : Nat} (hz : F.sz = 3) (hs : IsSl F w v l) (hx : l[i]? = some a) : opW Tryz.prog (Instr.indexAt 36 v (.int q (i : Int))) (fun p w => opW Tryz.prog (Instr.loadAt 29 p) k w) w = k (.agg (F.e a).toArray) w := ga36 (i := (i : Int)) hz hs (by omega) hx
theorem nw54 {i : Nat} (hz : F.sz = 1) (hs : IsSl F w v l) (hx : l[i]? = some a) (hu : (F.e a)[0]? = some u) : opW Tryz.prog (Instr.indexAt 54 v (.int q (i : Int))) (fun p w => opW Tryz.prog (Instr.loadAt 3 p) k w) w = k u w := gw54 (i := (i : Int)) hz hs (by omega) hx hu
end
end Go.Proofs.YtklknkmeljjmgaaGreatDoor
/- The insertion sort of slices of structs, by its condition. -/
set_option linter.unusedSimpArgs false
set_option linter.unusedVariables false
namespace Go.V
open Go Go.RowKit
/-- the condition of slices.insertionSortCmpFunc at a slice type t of structs e, as the printer lays it -/
def InsS (P : Program) (t e : Nat) (data_1 a_2 b_3 cmp_4 : Value) (k : Value → World → Prop) (w : World) : Prop :=
   opW P (binS BinOp.add 3 (Operand.tmp 10) (Operand.const (Value.int IntKind.i64 1)) a_2 (Value.int IntKind.i64 1)) (fun t11_5 w =>
   Loop1 (fun i_7 w K_8 =>
   opW P (binS BinOp.lss 3 (Operand.tmp 12) (Operand.tmp 13) i_7 b_3) (fun t14_10 w =>
   condW t14_10
   (Loop1 (fun j_13 w K_14 =>
   drewW w (fun w =>
   takeW P anyW (binS BinOp.gtr 3 (Operand.tmp 18) (Operand.tmp 19) j_13 a_2) (fun t20_17 =>
   guardT (some t20_17, true) (fun k => k cmp_4) (fun t22_18 =>
   guardT (some t20_17, true) (fun k => k data_1) (fun t23_19 =>
   guardT (some t20_17, true) (fun k => k j_13) (fun t24_20 =>
   guardT (some t20_17, true) (fun k => takeW P anyW (Instr.indexAt t t23_19 t24_20) k w) (fun t25_21 =>
   guardT (some t20_17, true) (fun k => takeW P (sameW w) (Instr.loadAt e t25_21) k w) (fun t26_22 =>
   guardT (some t20_17, true) (fun k => k data_1) (fun t27_23 =>
   guardT (some t20_17, true) (fun k => k j_13) (fun t28_24 =>
   guardT (some t20_17, true) (fun k => takeW P anyW (binS BinOp.sub 3 (Operand.tmp 28) (Operand.const (Value.int IntKind.i64 1)) t28_24 (Value.int IntKind.i64 1)) k w) (fun t29_25 =>
   guardT (some t20_17, true) (fun k => takeW P anyW (Instr.indexAt t t27_23 t29_25) k w) (fun t30_26 =>
   guardT (some t20_17, true) (fun k => takeW P (sameW w) (Instr.loadAt e t30_26) k w) (fun t31_27 =>
   guardW (some t20_17, true) (fun k w => callW P t22_18 #[t26_22, t31_27] k w) (fun t32_28 w =>
   guardT (some t20_17, true) (fun k => takeW P anyW (binS BinOp.lss 3 (Operand.tmp 32) (Operand.const (Value.int IntKind.i64 0)) t32_28 (Value.int IntKind.i64 0)) k w) (fun t33_29 =>
   pickT t20_17 t33_29 (Value.bool false) (fun t34_30 =>
   condW t34_30
   (drewW w (fun w =>
   takeW P anyW (binS BinOp.sub 3 (Operand.tmp 40) (Operand.const (Value.int IntKind.i64 1)) j_13 (Value.int IntKind.i64 1)) (fun t41_33 =>
   takeW P anyW (binS BinOp.sub 3 (Operand.tmp 43) (Operand.const (Value.int IntKind.i64 1)) j_13 (Value.int IntKind.i64 1)) (fun t44_34 =>
   takeW P anyW (Instr.indexAt t data_1 t44_34) (fun t45_35 =>
   takeW P (sameW w) (Instr.loadAt e t45_35) (fun t46_36 =>
   takeW P anyW (Instr.indexAt t data_1 j_13) (fun t49_37 =>
   takeW P (sameW w) (Instr.loadAt e t49_37) (fun t50_38 =>
   takeW P anyW (Instr.indexAt t data_1 j_13) (fun t51_39 =>
   opU P (Instr.storeAt e t51_39 t46_36) (fun _ w =>
   takeW P anyW (Instr.indexAt t data_1 t41_33) (fun t52_40 =>
   opU P (Instr.storeAt e t52_40 t50_38) (fun _ w =>
   opW P (binS BinOp.sub 3 (Operand.tmp 35) (Operand.const (Value.int IntKind.i64 1)) j_13 (Value.int IntKind.i64 1)) (fun t36_41 w =>
   loopK [] [] [data_1, a_2, b_3, cmp_4, i_7] [data_1, a_2, b_3, cmp_4, i_7] (K_14 t36_41 w)) w) w) w) w) w) w) w) w) w) w) w))
   (opW P (binS BinOp.add 3 (Operand.tmp 15) (Operand.const (Value.int IntKind.i64 1)) i_7 (Value.int IntKind.i64 1)) (fun t16_42 w =>
   loopK [] [] [data_1, a_2, b_3, cmp_4] [data_1, a_2, b_3, cmp_4] (K_8 t16_42 w)) w)))) w))))))))))) w)) i_7 w)
   (k (Value.tuple #[]) w)) w) t11_5 w) w

/-- a comparison of flat elements, by a function value -/
def CmpAny {α : Type} (P : Program) (F : Fl α) (f : Value) (c : α → α → Int) : Prop :=
  ∀ (x y : α) (w : World) (kk : Value → World → Prop), (∀ w', Below w.heap.size w w' → kk (.int .i64 (c x y)) w') → callW P f #[.agg (F.e x).toArray, .agg (F.e y).toArray] kk w
structure CmpLaw {α : Type} (c : α → α → Int) : Prop where
  asym : ∀ x y, c x y < 0 → ¬ c y x < 0
  nt : ∀ x y z, ¬ c z y < 0 → ¬ c y x < 0 → ¬ c z x < 0
def SortedBut {α : Type} (c : α → α → Int) (M : List α) (i j : Nat) : Prop := ∀ p q x y, p < q → q < i → q ≠ j → M[p]? = some x → M[q]? = some y → ¬ c y x < 0
theorem off_drew (p : Nat → Prop) (w : World) : Off p w w.drew := ⟨Nat.le_refl _, fun _ _ _ => rfl⟩
/-- the element type e of slices of type t, as F lays its elements -/
structure ETy {α : Type} (P : Program) (t e : Nat) (F : Fl α) : Prop where
  isl : isSliceT P t = true
  kn : known P (elemT P t) = true
  sz : sizeT P (elemT P t) = F.sz
  agg : isAggT P e = true
  kne : known P e = true
  se : sizeT P e = F.sz
  one : ∀ x, ∀ u ∈ F.e x, u.oneCell' = true
section
variable {P : Program} {k : Value → World → Prop} {w : World} {α : Type} {F : Fl α} {t e e' : Nat} {v f : Value} {c : α → α → Int} {L : List α} {B : Nat}
theorem getT (h : ETy P t e F) {K : Value → Prop} {q : IntKind} {l : List α} {a : α} {i : Nat} (hs : IsSl F w v l) (hx : l[i]? = some a) :
    takeW P anyW (Instr.indexAt t v (.int q (i : Int))) (fun p => takeW P (sameW w) (Instr.loadAt e p) K w) w = K (.agg (F.e a).toArray) := t_getA h.isl h.kn h.sz h.agg h.kne h.se hs (by omega) hx
theorem setT (h : ETy P t e F) {K : Value → World → Prop} {q : IntKind} {l : List α} {x y : α} {i : Nat} (hs : Mine F e' w B v l) (hx : l[i]? = some x)
    (hk : ∀ w', Mine F e' w' B v (l.set i y) → Below B w w' → Off (isOf v) w w' → K undef w') :
    takeW P anyW (Instr.indexAt t v (.int q (i : Int))) (fun p => opU P (Instr.storeAt e p (.agg (F.e y).toArray)) K w) w :=
  Mine.setAT (i := (i : Int)) h.isl h.kn h.sz h.se h.kne hs (by omega) hx (h.one y) hk
theorem InsS_ok (he : ETy P t e F) (hc : CmpAny P F f c) (hl : CmpLaw c) (ho : Mine F e' w B v L) (hn : L.length ≤ 1000000)
    (hk : ∀ M w', M.Perm L → SortedBut c M L.length L.length → Mine F e' w' B v M → Below B w w' → Off (isOf v) w w' → k (.tuple #[]) w') (hB : B ≤ w.heap.size) :
    InsS P t e v (.int .i64 0) (.int .i64 L.length) f k w := by
  unfold InsS
  rw [w_add, wrap_id (by omega)]
  refine Loop1.intro (fun m x w' => ∃ (i : Nat) (M : List α), x = .int .i64 i ∧ 1 ≤ i ∧ m = L.length - i ∧ M.Perm L ∧ SortedBut c M i i ∧ Mine F e' w' B v M ∧ Below B w w' ∧ Off (isOf v) w w') (L.length - 1)
    ⟨1, L, by simp, by omega, rfl, List.Perm.refl _, fun p q x y h1 h2 => by omega, ho, Below.refl _ _, Off.refl _ _⟩ ?_
  rintro m _ w1 ⟨i, M, rfl, hi, rfl, hperm, hsort, ho1, hw1, hf1⟩
  rw [w_lss]
  by_cases hlt : i < L.length
  · rw [decide_eq_true (by omega), condW_true]
    have hML : M.length = L.length := hperm.length_eq
    refine Loop1.intro (fun m x w' => ∃ (j : Nat) (M : List α), x = .int .i64 j ∧ j ≤ i ∧ m = j ∧ M.Perm L ∧ SortedBut c M (i + 1) j ∧ Mine F e' w' B v M ∧ Below B w w' ∧ Off (isOf v) w w') i
      ⟨i, M, rfl, Nat.le_refl _, rfl, hperm, fun p q x y h1 h2 h3 => hsort p q x y h1 (by omega) h3, ho1, hw1, hf1⟩ ?_
    clear hML hsort hperm ho1 hw1 hf1
    rintro m2 _ w2 ⟨j, M, rfl, hj, hm2, hperm, hsort, ho2, hw2, hf2⟩
    have hML : M.length = L.length := hperm.length_eq
    have done : (∀ j', j = j' + 1 → ∀ x y, M[j']? = some x → M[j]? = some y → ¬ c y x < 0) → SortedBut c M (i + 1) (i + 1) := by
      intro hd p q x y hpq hq _ hx hy
      by_cases hqj : q = j
      · subst hqj
        obtain ⟨j', rfl⟩ : ∃ j', q = j' + 1 := ⟨q - 1, by omega⟩
        by_cases hpj : p = j'
        · subst hpj; exact hd p rfl x y hx hy
        · obtain ⟨z, hz⟩ : ∃ z, M[j']? = some z := ⟨M[j']'(by omega), by simp⟩
          exact hl.nt x z y (hd j' rfl z y hz hy) (hsort p j' x z (by omega) (by omega) (by omega) hx hz)
      · exact hsort p q x y hpq (by omega) hqj hx hy
    rw [drewW_eq, t_gtr]
    have hw2d := hw2.trans ((Below.refl B w2).drew)
    have hf2d : Off (isOf v) w w2.drew := hf2.trans (off_drew _ w2)
    have ho2d : Mine F e' w2.drew B v M := ho2.off (off_drew (fun _ => False) w2) (fun _ _ h => h)
    rcases Nat.eq_zero_or_pos j with hj0 | hj0
    · rw [decide_eq_false (by omega)]
      simp only [guardT_ft, guardT_u, guardW_ft, guardW_u, pickT_false, condW_false]
      rw [w_add, wrap_id (by omega), loopK_self]
      exact ⟨L.length - (i + 1), by omega, i + 1, M, by simp, by omega, rfl, hperm, done (fun j' h => by omega), ho2d, hw2d, hf2d⟩
    · obtain ⟨j', rfl⟩ : ∃ j', j = j' + 1 := ⟨j - 1, by omega⟩
      obtain ⟨x, hx⟩ : ∃ x, M[j' + 1]? = some x := ⟨M[j' + 1]'(by omega), by simp⟩
      obtain ⟨y, hy⟩ : ∃ y, M[j']? = some y := ⟨M[j']'(by omega), by simp⟩
      rw [decide_eq_true (by omega)]
      simp only [guardT_tt, guardW_tt]
      rw [getT he ho2d.sl hx, t_sub, wrap_id (by omega), show ((j' + 1 : Nat) : Int) - 1 = (j' : Int) by omega, getT he ho2d.sl hy]
      refine hc x y _ _ fun w3 hb3 => ?_
      have ho3 := ho2d.below hb3
      have hB2 : B ≤ w2.drew.heap.size := Nat.le_trans hB hf2d.size
      have hw3 := hw2d.trans (hb3.mono hB2)
      have hf3 : Off (isOf v) w w3 := hf2d.trans (Off.below hb3)
      rw [t_lss]
      simp only [pickT_true]
      by_cases hlt2 : c x y < 0
      · rw [decide_eq_true hlt2, condW_true, drewW_eq, t_sub, wrap_id (by omega), t_sub, wrap_id (by omega), show ((j' + 1 : Nat) : Int) - 1 = (j' : Int) by omega]
        have ho3d : Mine F e' w3.drew B v M := ho3.off (off_drew (fun _ => False) w3) (fun _ _ h => h)
        rw [getT he ho3d.sl hy, getT he ho3d.sl hx]
        refine setT he ho3d hx fun w4 ho4 hb4 hf4 => ?_
        have hy4 : (M.set (j' + 1) y)[j']? = some y := by rw [List.getElem?_set_ne (by omega)]; exact hy
        refine setT he ho4 hy4 fun w5 ho5 hb5 hf5 => ?_
        rw [w_sub, wrap_id (by omega), show ((j' + 1 : Nat) : Int) - 1 = (j' : Int) by omega, loopK_self]
        have hxe : M[j' + 1]'(by omega) = x := by rw [List.getElem?_eq_getElem (by omega)] at hx; exact Option.some.inj hx
        have hye : M[j']'(by omega) = y := by rw [List.getElem?_eq_getElem (by omega)] at hy; exact Option.some.inj hy
        have hp2 : ((M.set (j' + 1) y).set j' x).Perm M := by
          have := @List.set_set_perm _ M (j' + 1) j' (by omega) (by omega)
          rw [hxe, hye] at this; exact this
        refine ⟨j', by omega, j', _, rfl, by omega, rfl, hp2.trans hperm, ?_, ho5, ((hw3.trans ((Below.refl B w3).drew)).trans hb4).trans hb5, ((hf3.trans (off_drew _ w3)).trans hf4).trans hf5⟩
        intro p q u v hpq hq hqj hu hv
        rw [List.getElem?_set] at hu hv
        rw [List.getElem?_set] at hu hv
        simp only [List.length_set] at hu hv
        rw [if_neg (Ne.symm hqj)] at hv
        by_cases hq1 : q = j' + 1
        · rw [if_pos hq1.symm, if_pos (by omega)] at hv
          cases hv
          by_cases hpj : p = j'
          · rw [if_pos hpj.symm, if_pos (by omega)] at hu
            cases hu
            exact hl.asym _ _ hlt2
          · rw [if_neg (Ne.symm hpj), if_neg (by omega)] at hu
            exact hsort p j' u y (by omega) (by omega) (by omega) hu hy
        · rw [if_neg (Ne.symm hq1)] at hv
          by_cases hpj : p = j'
          · rw [if_pos hpj.symm, if_pos (by omega)] at hu
            cases hu
            exact hsort (j' + 1) q x v (by omega) hq hq1 hx hv
          · rw [if_neg (Ne.symm hpj)] at hu
            by_cases hp1 : p = j' + 1
            · rw [if_pos hp1.symm, if_pos (by omega)] at hu
              cases hu
              exact hsort j' q y v (by omega) hq hq1 hy hv
            · rw [if_neg (Ne.symm hp1)] at hu
              exact hsort p q u v hpq hq hq1 hu hv
      · rw [decide_eq_false hlt2, condW_false, w_add, wrap_id (by omega), loopK_self]
        exact ⟨L.length - (i + 1), by omega, i + 1, M, by simp, by omega, rfl, hperm, done (fun j'' h x' y' hx' hy' => by
          obtain rfl : j' = j'' := by omega
          rw [hy] at hx'; rw [hx] at hy'; cases hx'; cases hy'; exact hlt2), ho3, hw3, hf3⟩
  · rw [decide_eq_false (by omega), condW_false]
    exact hk M w1 hperm (fun p q x y h1 h2 _ hx hy => hsort p q x y h1 (by omega) (by omega) hx hy) ho1 hw1 hf1
end

section
variable {P : Program} {k : Value → World → Prop} {w w0 : World} {α : Type} {F : Fl α} {t e e' ty : Nat} {v u f : Value} {l m : List α} {B : Nat}
theorem getA (h : ETy P t e F) {K : Value → Prop} {q : IntKind} {a : α} {i : Nat} (hs : IsSl F w0 v l) (hx : l[i]? = some a) (ha : after w0 w) (hp : 0 < F.sz) :
    takeW P anyW (Instr.indexAt t v (.int q (i : Int))) (fun p => takeW P (after w0) (Instr.loadAt e p) K w) w = K (.agg (F.e a).toArray) := by
  obtain ⟨b, o, c, rfl, hlt, hcl⟩ := hs.at (i := (i : Int)) (by omega) (by simpa using hx)
  rw [takeW_pure (fun w => run_index h.isl h.kn (by omega) hlt w), h.sz]
  exact r_aggA h.agg h.kne (by rw [h.se, F.len]) hcl (by intro hh; have := F.len a; rw [hh] at this; simp at this; omega) ha
theorem Mine.pushS {S : World → Prop} {bytes : Nat} {z xv : Value} {x : α} {K : Value → World → Prop} (h : STy P t e F.sz bytes z) (hone : ∀ u ∈ F.e x, u.oneCell' = true) (hxc : xv.cells.toList = F.e x) (hsm : F.sz ≤ 16777216)
    (hown : Mine F e w B v l) (hB : B ≤ w.heap.size) (hl : l.length + 1 ≤ maxLen) (hbytes : (l.length + 1) * bytes ≤ 140737488355328) (hS : ∀ w', Below w.heap.size w w' → S w')
    (hk : ∀ v' w', Mine F e w' B v' (l ++ [x]) → Below B w w' → Off (isOf v) w w' → (∀ b, isOf v' b → isOf v b ∨ w.heap.size ≤ b) → S w' ∧ K v' w') :
    opW P (Instr.buildSlice t 1 #[(0, xv)]) (fun s w => keepS S (fun w => opW P (Builtin.append_ #[t, t] ty #[v, s]) (fun r w => keepS S (fun w => K r w) w) w) w) w := by
  have hcs : xv.cells.size = F.sz := by rw [← F.len x, ← hxc]; simp
  have hp := Mine.push (ty := ty) (K := fun r w => keepS S (fun w => K r w) w) h hone hxc hsm hown hB hl hbytes (fun v' w' h1 h2 h3 h4 => by rw [keepS_eq]; exact hk v' w' h1 h2 h3 h4)
  rw [w_one h hcs hsm] at hp ⊢
  rw [keepS_eq]
  exact ⟨hS _ ((Below.refl _ _).alloc (Nat.le_refl _) _), hp⟩
theorem run_append_zero_nil {size bytes : Nat} {z : Value} (h : STy P t e size bytes z) {c : Nat} {b : Option Addr} :
    (Builtin.append_ #[t, t] ty #[.slice none 0 0, .slice b 0 c]).run P w = .ok (.slice none 0 0) w := by
  obtain ⟨i, hi, hz, hs, hby⟩ := h.info
  have hf : (Builtin.firstCells i.size 0 (.slice b 0 c)).run P w = .ok #[] w := by
    cases b with
    | none => simp [Builtin.firstCells]
    | some a => simpa using run_firstCells_some (P := P) w i.size 0 a 0 c [] (by simp) (by simp)
  simp [Builtin.append_, run_underlying h.u, sizeOf, run_typeInfo hi, Builtin.lenOf, hf, Sem.run_bind, Result.andThen, storeCells]
/-- whatever elements, appended to one's own -/
theorem Mine.append {bytes : Nat} {z : Value} {K : Value → World → Prop} (h : STy P t e F.sz bytes z) (hone : ∀ x, ∀ u ∈ F.e x, u.oneCell' = true)
    (hown : Mine F e w B v l) (hs : IsSl F w u m) (hB : B ≤ w.heap.size) (hl : l.length + m.length ≤ maxLen) (hbytes : (l.length + m.length) * bytes ≤ 140737488355328)
    (hk : ∀ v' w', Mine F e w' B v' (l ++ m) → Below B w w' → Off (isOf v) w w' → (∀ b, isOf v' b → isOf v b ∨ w.heap.size ≤ b) → K v' w') :
    opW P (Builtin.append_ #[t, t] ty #[v, u]) K w := by
  cases m with
  | nil =>
    obtain ⟨a, c, rfl, _⟩ := hs
    simp only [List.length_nil]
    have h0 := hown
    rcases hown.2 with ⟨rfl, hn⟩ | ⟨g, cap, cur, rfl, hb, hgg, hnc, hcm, hcs, htk⟩
    · rw [opW_ok (run_append_zero_nil h)]
      exact hk _ _ (by simpa using h0) (Below.refl _ _) (Off.refl _ _) (fun b hb => .inl hb)
    · rw [opW_ok (run_append_zero h hnc)]
      exact hk _ _ (by simpa using h0) (Below.refl _ _) (Off.refl _ _) (fun b hb => .inl hb)
  | cons x r =>
    obtain ⟨b, o, c, rfl, hcl⟩ := hs.flatAt (by simp)
    obtain ⟨v', w', hr, ho, hg, hnew, _⟩ := run_append_own2 (P := P) (ty := ty) h hown ⟨b, o, none⟩ (x :: r).length c (flat F (x :: r)) (flat_length _) (fun j u hu => by rw [add_none]; exact hcl j u hu) (oneCell_flat hone _) hl hbytes hB
    rw [opW_ok hr]
    refine hk v' w' ?_ ?_ (Off.grown hg fun b hb => hb) hnew
    · unfold Mine
      rw [List.length_append, flat_append]; exact ho
    · exact (Below.refl _ _).grown hg hB fun b hb => (hown.ge hb).1
end
end Go.V
/- Package relay and its reference: dispatches, slips, comparisons, single tests. -/
set_option linter.unusedSimpArgs false
set_option linter.unusedVariables false
namespace Go.Proofs.YtklknkmeljjmgaaGreatDoor
open Go Go.V Go.RowKit
abbrev I (n : Int) : Value := .int .i64 n
structure Disp where
  story : Int
  ed : Int
  cls : Int
  text : ByteArray
structure Slp where
  relay : Int
  story : Int
  ed : Int
  dig : ByteArray
theorem Disp.ext' {a b : Disp} (h1 : a.story = b.story) (h2 : a.ed = b.ed) (h3 : a.cls = b.cls) (h4 : a.text = b.text) : a = b := by cases a; cases b; simp_all
theorem Slp.ext' {a b : Slp} (h1 : a.relay = b.relay) (h2 : a.story = b.story) (h3 : a.ed = b.ed) (h4 : a.dig = b.dig) : a = b := by cases a; cases b; simp_all
instance : DecidableEq Disp := fun a b => decidable_of_iff (a.story = b.story ∧ a.ed = b.ed ∧ a.cls = b.cls ∧ a.text = b.text) ⟨fun ⟨h1, h2, h3, h4⟩ => Disp.ext' h1 h2 h3 h4, fun h => by subst h; exact ⟨rfl, rfl, rfl, rfl⟩⟩
instance : DecidableEq Slp := fun a b => decidable_of_iff (a.relay = b.relay ∧ a.story = b.story ∧ a.ed = b.ed ∧ a.dig = b.dig) ⟨fun ⟨h1, h2, h3, h4⟩ => Slp.ext' h1 h2 h3 h4, fun h => by subst h; exact ⟨rfl, rfl, rfl, rfl⟩⟩
def fI : Fl Int := ⟨1, fun n => [.int .i64 n], fun _ => rfl⟩
def fD : Fl Disp := ⟨4, fun d => [I d.story, I d.ed, I d.cls, .string d.text], fun _ => rfl⟩
def fP : Fl Slp := ⟨4, fun d => [I d.relay, I d.story, I d.ed, .string d.dig], fun _ => rfl⟩
abbrev agD (d : Disp) : Value := .agg #[I d.story, I d.ed, I d.cls, .string d.text]
abbrev agP (d : Slp) : Value := .agg #[I d.relay, I d.story, I d.ed, .string d.dig]
theorem below_trans {a b c : World} (h : Below a.heap.size a b) (h' : Below b.heap.size b c) : Below a.heap.size a c := h.trans (h'.mono h.size)
theorem below_alloc (w : World) (o : Obj) : Below w.heap.size w (w.alloc o) := (Below.refl _ _).alloc (Nat.le_refl _) _
theorem below_drew (w : World) : Below w.heap.size w w.drew := (Below.refl _ _).drew
theorem str9 : Tryz.prog.underlying 9 = some .string := by kernel_rfl
section
variable {k : Value → World → Prop} {w : World}
theorem eD : ETy Tryz.prog 24 31 fD := ⟨by kernel_rfl, by kernel_rfl, by kernel_rfl, by kernel_rfl, by kernel_rfl, by kernel_rfl, fun x u hu => by simp [fD] at hu; rcases hu with rfl | rfl | rfl | rfl <;> rfl⟩
theorem eP : ETy Tryz.prog 25 63 fP := ⟨by kernel_rfl, by kernel_rfl, by kernel_rfl, by kernel_rfl, by kernel_rfl, by kernel_rfl, fun x u hu => by simp [fP] at hu; rcases hu with rfl | rfl | rfl | rfl <;> rfl⟩
theorem boxD {d : Disp} (hk : ∀ w', Below w.heap.size w w' → w'.heap.size = w.heap.size + 1 → RowAt w' w.heap.size 31 (fD.e d) → k (.pointer (some ⟨w.heap.size, 0, none⟩)) w') : opW Tryz.prog (Instr.box 31 (agD d)) k w := w_boxN hk
theorem boxP {d : Slp} (hk : ∀ w', Below w.heap.size w w' → w'.heap.size = w.heap.size + 1 → RowAt w' w.heap.size 63 (fP.e d) → k (.pointer (some ⟨w.heap.size, 0, none⟩)) w') : opW Tryz.prog (Instr.box 63 (agP d)) k w := w_boxN hk
/-- a variable made and set -/
theorem nvD {d : Disp} {kk : Value → Value → World → Prop} (h : ∀ w', Below w.heap.size w w' → w'.heap.size = w.heap.size + 1 → RowAt w' w.heap.size 31 (fD.e d) → kk (.pointer (some ⟨w.heap.size, 0, none⟩)) undef w') :
    opW Tryz.prog (Instr.alloc 31 true (.tuple #[])) (fun x w => opU Tryz.prog (Instr.storeAt 31 x (agD d)) (kk x) w) w := w_var (vs := fD.e d) hz31 (by rw [zc31]; rfl) (eD.one d) size31 known31 h
theorem nvP {d : Slp} {kk : Value → Value → World → Prop} (h : ∀ w', Below w.heap.size w w' → w'.heap.size = w.heap.size + 1 → RowAt w' w.heap.size 63 (fP.e d) → kk (.pointer (some ⟨w.heap.size, 0, none⟩)) undef w') :
    opW Tryz.prog (Instr.alloc 63 true (.tuple #[])) (fun x w => opU Tryz.prog (Instr.storeAt 63 x (agP d)) (kk x) w) w := w_var (vs := fP.e d) hz63 (by rw [zc63]; rfl) (eP.one d) size63 known63 h
theorem and_leq {P : Program} {d1 : Bool} {x y : Int} {q : IntKind} {t : TypeId} {ox oy : Operand} {K : Value → World → Prop} (h : K (.bool (d1 && decide (x ≤ y))) w) :
    guardW (some (.bool d1), true) (fun k w => k (.int q x) w) (fun t11 w => guardW (some (.bool d1), true) (fun k w => k (.int q y) w) (fun t12 w => guardW (some (.bool d1), true) (fun k w => opW P (binS .leq t ox oy t11 t12) k w) (fun t13 w => pickW (.bool d1) t13 (.bool false) K w) w) w) w := by
  cases d1
  · simpa using h
  · simpa [w_leq] using h
theorem c43 {x lo hi : Int} (h : k (.bool (decide (lo ≤ x ∧ x ≤ hi))) w) : callW Tryz.prog (.func (.func 43) #[] #[]) #[I x, I lo, I hi] k w := C43 _ _ _ _ _ (by
  unfold S43
  rw [w_geq]
  refine and_leq ?_
  rwa [Bool.decide_and] at h)
theorem c45 {x lo hi : Int} (h : k (.bool (decide (lo ≤ x ∧ x ≤ hi))) w) : callW Tryz.prog (.func (.func 45) #[] #[]) #[I x, I lo, I hi] k w := C45 _ _ _ _ _ (by
  unfold S45
  rw [w_geq]
  refine and_leq ?_
  rwa [Bool.decide_and] at h)
/-- a dispatch is valid -/
def rightP (d : Disp) : Prop := (0 ≤ d.story ∧ d.story ≤ 19) ∧ (1 ≤ d.ed ∧ d.ed ≤ 1000) ∧ (1 ≤ d.cls ∧ d.cls ≤ 3) ∧ (d.text.size : Int) ≤ 20000
instance (d : Disp) : Decidable (rightP d) := by unfold rightP; infer_instance
/-- a slip is valid -/
def slipP (s : Slp) : Prop := (0 ≤ s.relay ∧ s.relay ≤ 7) ∧ (0 ≤ s.story ∧ s.story ≤ 19) ∧ (1 ≤ s.ed ∧ s.ed ≤ 1000) ∧ (s.dig.size : Int) = 32
instance (d : Slp) : Decidable (slipP d) := by unfold slipP; infer_instance
theorem c53 {d : Disp} (h : ∀ w', Below w.heap.size w w' → k (.bool (decide (rightP d))) w') : callW Tryz.prog (.func (.func 53) #[] #[]) #[agD d] k w := C53 _ _ _ (by
  unfold S53
  refine boxD fun w1 hb1 hsz1 hr1 => ?_
  have bad : ¬ rightP d → k (.bool false) w1 := fun hn => by have := h w1 hb1; rwa [decide_eq_false hn] at this
  rw [rw31_0 (hr1.cell (i := 0) rfl)]
  refine c43 ?_
  by_cases h1 : 0 ≤ d.story ∧ d.story ≤ 19
  case' neg =>
    rw [decide_eq_false h1]
    simp only [guardW_ft, guardW_u, pickW_false]
    exact bad fun hh => h1 hh.1
  rw [decide_eq_true h1]
  simp only [guardW_tt, pickW_true]
  rw [rw31_1 (hr1.cell (i := 1) rfl)]
  refine c43 ?_
  by_cases h2 : 1 ≤ d.ed ∧ d.ed ≤ 1000
  case' neg =>
    rw [decide_eq_false h2]
    simp only [guardW_ft, guardW_u, pickW_false]
    exact bad fun hh => h2 hh.2.1
  rw [decide_eq_true h2]
  simp only [guardW_tt, pickW_true]
  rw [rw31_2 (hr1.cell (i := 2) rfl)]
  refine c43 ?_
  by_cases h3 : 1 ≤ d.cls ∧ d.cls ≤ 3
  case' neg =>
    rw [decide_eq_false h3]
    simp only [guardW_ft, guardW_u, pickW_false]
    exact bad fun hh => h3 hh.2.2.1
  rw [decide_eq_true h3]
  simp only [guardW_tt, pickW_true]
  rw [rw31_3 (hr1.cell (i := 3) rfl), w_lenStr str9, w_leq]
  by_cases h4 : (d.text.size : Int) ≤ 20000
  · rw [decide_eq_true h4]
    have := h w1 hb1
    rwa [decide_eq_true (show rightP d from ⟨h1, h2, h3, h4⟩)] at this
  · rw [decide_eq_false h4]
    exact bad fun hh => h4 hh.2.2.2)
theorem c55 {d : Disp} (h : ∀ w', Below w.heap.size w w' → k (.bool (decide (rightP d))) w') : callW Tryz.prog (.func (.func 55) #[] #[]) #[agD d] k w := C55 _ _ _ (by
  unfold S55
  refine boxD fun w1 hb1 hsz1 hr1 => ?_
  have bad : ¬ rightP d → k (.bool false) w1 := fun hn => by have := h w1 hb1; rwa [decide_eq_false hn] at this
  rw [rw31_0 (hr1.cell (i := 0) rfl)]
  refine c45 ?_
  by_cases h1 : 0 ≤ d.story ∧ d.story ≤ 19
  case' neg =>
    rw [decide_eq_false h1]
    simp only [guardW_ft, guardW_u, pickW_false]
    exact bad fun hh => h1 hh.1
  rw [decide_eq_true h1]
  simp only [guardW_tt, pickW_true]
  rw [rw31_1 (hr1.cell (i := 1) rfl)]
  refine c45 ?_
  by_cases h2 : 1 ≤ d.ed ∧ d.ed ≤ 1000
  case' neg =>
    rw [decide_eq_false h2]
    simp only [guardW_ft, guardW_u, pickW_false]
    exact bad fun hh => h2 hh.2.1
  rw [decide_eq_true h2]
  simp only [guardW_tt, pickW_true]
  rw [rw31_2 (hr1.cell (i := 2) rfl)]
  refine c45 ?_
  by_cases h3 : 1 ≤ d.cls ∧ d.cls ≤ 3
  case' neg =>
    rw [decide_eq_false h3]
    simp only [guardW_ft, guardW_u, pickW_false]
    exact bad fun hh => h3 hh.2.2.1
  rw [decide_eq_true h3]
  simp only [guardW_tt, pickW_true]
  rw [rw31_3 (hr1.cell (i := 3) rfl), w_lenStr str9, w_leq]
  by_cases h4 : (d.text.size : Int) ≤ 20000
  · rw [decide_eq_true h4]
    have := h w1 hb1
    rwa [decide_eq_true (show rightP d from ⟨h1, h2, h3, h4⟩)] at this
  · rw [decide_eq_false h4]
    exact bad fun hh => h4 hh.2.2.2)
theorem c67 {d : Slp} (h : ∀ w', Below w.heap.size w w' → k (.bool (decide (slipP d))) w') : callW Tryz.prog (.func (.func 67) #[] #[]) #[agP d] k w := C67 _ _ _ (by
  unfold S67
  refine boxP fun w1 hb1 hsz1 hr1 => ?_
  have bad : ¬ slipP d → k (.bool false) w1 := fun hn => by have := h w1 hb1; rwa [decide_eq_false hn] at this
  rw [rw63_0 (hr1.cell (i := 0) rfl)]
  refine c43 ?_
  by_cases h1 : 0 ≤ d.relay ∧ d.relay ≤ 7
  case' neg =>
    rw [decide_eq_false h1]
    simp only [guardW_ft, guardW_u, pickW_false]
    exact bad fun hh => h1 hh.1
  rw [decide_eq_true h1]
  simp only [guardW_tt, pickW_true]
  rw [rw63_1 (hr1.cell (i := 1) rfl)]
  refine c43 ?_
  by_cases h2 : 0 ≤ d.story ∧ d.story ≤ 19
  case' neg =>
    rw [decide_eq_false h2]
    simp only [guardW_ft, guardW_u, pickW_false]
    exact bad fun hh => h2 hh.2.1
  rw [decide_eq_true h2]
  simp only [guardW_tt, pickW_true]
  rw [rw63_2 (hr1.cell (i := 2) rfl)]
  refine c43 ?_
  by_cases h3 : 1 ≤ d.ed ∧ d.ed ≤ 1000
  case' neg =>
    rw [decide_eq_false h3]
    simp only [guardW_ft, guardW_u, pickW_false]
    exact bad fun hh => h3 hh.2.2.1
  rw [decide_eq_true h3]
  simp only [guardW_tt, pickW_true]
  rw [rw63_3 (hr1.cell (i := 3) rfl), w_lenStr str9, w_eql]
  by_cases h4 : (d.dig.size : Int) = 32
  · rw [decide_eq_true h4]
    have := h w1 hb1
    rwa [decide_eq_true (show slipP d from ⟨h1, h2, h3, h4⟩)] at this
  · rw [decide_eq_false h4]
    exact bad fun hh => h4 hh.2.2.2)
end
end Go.Proofs.YtklknkmeljjmgaaGreatDoor
/- Comparisons. -/
set_option linter.unusedSimpArgs false
set_option linter.unusedVariables false
namespace Go.Proofs.YtklknkmeljjmgaaGreatDoor
open Go Go.V Go.RowKit
def cmpI (x y : Int) : Int := if x < y then -1 else if y < x then 1 else 0
/-- the first that is not 0 -/
def orI : List Int → Int
  | [] => 0
  | x :: r => if x = 0 then orI r else x
/-- slips in order -/
def cmpP (a b : Slp) : Int := orI [cmpI a.relay b.relay, cmpI a.story b.story, cmpI a.ed b.ed]
def cmpC (a b : Disp) : Int := orI [cmpI a.cls b.cls, cmpI a.story b.story]
def cmpD (a b : Disp) : Int := cmpI a.story b.story
theorem cmpI_lt {x y : Int} : cmpI x y < 0 ↔ x < y := by unfold cmpI; split <;> (try split) <;> omega
theorem cmpI_gt {x y : Int} : 0 < cmpI x y ↔ y < x := by unfold cmpI; split <;> (try split) <;> omega
theorem cmpI_eq {x y : Int} : cmpI x y = 0 ↔ x = y := by unfold cmpI; split <;> (try split) <;> omega
theorem or2_lt {x y z v : Int} : orI [cmpI x y, cmpI z v] < 0 ↔ x < y ∨ x = y ∧ z < v := by
  have h1 := @cmpI_lt x y
  have h2 := @cmpI_lt z v
  have h3 := @cmpI_eq x y
  simp only [orI]
  split <;> (try split) <;> omega
theorem or3_lt {x y z v a b : Int} : orI [cmpI x y, cmpI z v, cmpI a b] < 0 ↔ x < y ∨ x = y ∧ (z < v ∨ z = v ∧ a < b) := by
  have h1 := @cmpI_lt x y
  have h2 := @cmpI_lt z v
  have h3 := @cmpI_eq x y
  have h4 := @cmpI_eq z v
  have h5 := @cmpI_lt a b
  simp only [orI]
  split <;> (try split) <;> (try split) <;> omega
theorem or3_gt {x y z v a b : Int} : 0 < orI [cmpI x y, cmpI z v, cmpI a b] ↔ y < x ∨ x = y ∧ (v < z ∨ z = v ∧ b < a) := by
  have h1 := @cmpI_gt x y
  have h2 := @cmpI_gt z v
  have h3 := @cmpI_eq x y
  have h4 := @cmpI_eq z v
  have h5 := @cmpI_gt a b
  simp only [orI]
  split <;> (try split) <;> (try split) <;> omega
theorem cmpP_lt {a b : Slp} : cmpP a b < 0 ↔ a.relay < b.relay ∨ a.relay = b.relay ∧ (a.story < b.story ∨ a.story = b.story ∧ a.ed < b.ed) := or3_lt
theorem cmpP_gt {a b : Slp} : 0 < cmpP a b ↔ b.relay < a.relay ∨ a.relay = b.relay ∧ (b.story < a.story ∨ a.story = b.story ∧ b.ed < a.ed) := or3_gt
theorem cmpC_lt {a b : Disp} : cmpC a b < 0 ↔ a.cls < b.cls ∨ a.cls = b.cls ∧ a.story < b.story := or2_lt
theorem cmpD_lt {a b : Disp} : cmpD a b < 0 ↔ a.story < b.story := cmpI_lt
theorem cmpD_gt {a b : Disp} : 0 < cmpD a b ↔ b.story < a.story := cmpI_gt
theorem lawP : CmpLaw cmpP := ⟨fun x y => by rw [cmpP_lt, cmpP_lt]; omega, fun x y z => by rw [cmpP_lt, cmpP_lt, cmpP_lt]; omega⟩
theorem lawC : CmpLaw cmpC := ⟨fun x y => by rw [cmpC_lt, cmpC_lt]; omega, fun x y z => by rw [cmpC_lt, cmpC_lt, cmpC_lt]; omega⟩
section
variable {k : Value → World → Prop} {w : World}
theorem c100 {x : Int} (h : k (.bool false) w) : callW Tryz.prog (.func (.func 100) #[] #[]) #[I x] k w := C100 _ _ _ (by unfold S100; rw [w_neq]; simpa using h)
theorem c83 {x y : Int} (h : k (I (cmpI x y)) w) : callW Tryz.prog (.func (.func 83) #[] #[]) #[I x, I y] k w := C83 _ _ _ _ (by
  unfold S83
  refine c100 (c100 ?_)
  rw [condW_false, condW_false, w_lss]
  unfold cmpI at h
  by_cases h1 : x < y
  · rw [decide_eq_true h1, condW_true]; simpa [h1] using h
  · rw [decide_eq_false h1, condW_false, w_gtr]
    by_cases h2 : y < x
    · rw [decide_eq_true h2, condW_true]; simpa [h1, h2] using h
    · rw [decide_eq_false h2, condW_false]; simpa [h1, h2] using h)
theorem orI_take {l : List Int} {i : Nat} (h : ∀ x ∈ l.take i, x = 0) : orI l = orI (l.drop i) := by
  induction i generalizing l with
  | zero => rfl
  | succ i ih =>
    cases l with
    | nil => rfl
    | cons x r =>
      simp only [List.take_succ_cons, List.mem_cons, forall_eq_or_imp] at h
      simp only [orI, h.1, if_true, List.drop_succ_cons]
      exact ih h.2
theorem c82 {v : Value} {l : List Int} (hs : IsSl fI w v l) (hl : l.length ≤ 1000) (h : k (I (orI l)) w) : callW Tryz.prog (.func (.func 82) #[] #[]) #[v] k w := C82 _ _ _ (by
  unfold S82
  refine (len54 hs).mpr ?_
  refine Loop1.intro (fun n a w' => ∃ i : Nat, a = I i ∧ i ≤ l.length ∧ n = l.length - i ∧ w' = w ∧ ∀ x ∈ l.take i, x = 0) l.length ⟨0, rfl, by omega, by omega, rfl, by simp⟩ ?_
  rintro n _ w' ⟨i, rfl, hi, rfl, rfl, hno⟩
  rw [w_lss]
  have ht := orI_take hno
  by_cases hlt : i < l.length
  · rw [decide_eq_true (show (i : Int) < l.length by omega), condW_true]
    have hx : l[i]? = some l[i] := List.getElem?_eq_getElem hlt
    rw [nw54 rfl hs hx rfl, w_neq]
    rw [List.drop_eq_getElem_cons hlt] at ht
    by_cases h0 : l[i] = 0
    · rw [decide_eq_true h0, Bool.not_true, condW_false, w_add, wrap_id (by omega), loopK_self]
      refine ⟨l.length - (i + 1), by omega, i + 1, by simp [I], by omega, rfl, rfl, fun x hx => ?_⟩
      rw [List.take_succ_eq_append_getElem hlt, List.mem_append] at hx
      rcases hx with hx | hx
      · exact hno x hx
      · simp at hx; subst hx; exact h0
    · rw [decide_eq_false h0, Bool.not_false, condW_true]
      simp only [orI, if_neg h0] at ht
      rw [ht] at h; exact h
  · rw [decide_eq_false (show ¬ (i : Int) < l.length by omega), condW_false]
    rw [List.drop_of_length_le (by omega)] at ht
    rw [ht] at h; exact h)
theorem bs54_3 {x y z : Int} (hk : ∀ v w', Below w.heap.size w w' → IsSl fI w' v [x, y, z] → k v w') : opW Tryz.prog (Instr.buildSlice 54 3 #[(0, I x), (1, I y), (2, I z)]) k w := by
  have := hk _ _ (below_alloc w _) (IsSl.rowV (F := fI) w 3 3 [x, y, z] (Nat.le_refl _))
  rw [opW_ok (show (Instr.buildSlice 54 3 #[(0, I x), (1, I y), (2, I z)]).run Tryz.prog w = .ok (.slice (some ⟨w.heap.size, 0, none⟩) 3 3) (w.alloc (.cells #[I x, I y, I z] 3 (0, 0))) by kernel_rfl)]
  exact this
theorem bs54_2 {x y : Int} (hk : ∀ v w', Below w.heap.size w w' → IsSl fI w' v [x, y] → k v w') : opW Tryz.prog (Instr.buildSlice 54 2 #[(0, I x), (1, I y)]) k w := by
  have := hk _ _ (below_alloc w _) (IsSl.rowV (F := fI) w 3 2 [x, y] (Nat.le_refl _))
  rw [opW_ok (show (Instr.buildSlice 54 2 #[(0, I x), (1, I y)]).run Tryz.prog w = .ok (.slice (some ⟨w.heap.size, 0, none⟩) 2 2) (w.alloc (.cells #[I x, I y] 3 (0, 0))) by kernel_rfl)]
  exact this
theorem c69 {a b : Disp} (h : ∀ w', Below w.heap.size w w' → k (I (cmpD a b)) w') : callW Tryz.prog (.func (.func 69) #[] #[]) #[agD a, agD b] k w := C69 _ _ _ _ (by
  unfold S69
  refine boxD fun w1 hb1 hsz1 hr1 => ?_
  refine boxD fun w2 hb2 hsz2 hr2 => ?_
  have hr1' := hr1.below hb2
  rw [rw31_0 (hr1'.cell (i := 0) rfl), rw31_0 (hr2.cell (i := 0) rfl)]
  exact c83 (h _ (below_trans hb1 hb2)))
theorem c59 {a b : Slp} (h : ∀ w', Below w.heap.size w w' → k (I (cmpP a b)) w') : callW Tryz.prog (.func (.func 59) #[] #[]) #[agP a, agP b] k w := C59 _ _ _ _ (by
  unfold S59
  refine boxP fun w1 hb1 hsz1 hr1 => ?_
  refine boxP fun w2 hb2 hsz2 hr2 => ?_
  have hr1' := (hr1.below hb2).drew
  have hr2' := hr2.drew
  rw [drewW_eq]
  have hb := (below_trans (below_trans hb1 hb2) (below_drew w2))
  generalize w2.drew = w3 at *
  refine ⟨after w3, after_refl _, ?_⟩
  have h3 := after_refl w3
  rw [ra63_0 (hr1'.cell (i := 0) rfl) h3, ra63_0 (hr2'.cell (i := 0) rfl) h3, ra63_1 (hr1'.cell (i := 1) rfl) h3, ra63_1 (hr2'.cell (i := 1) rfl) h3, ra63_2 (hr1'.cell (i := 2) rfl) h3, ra63_2 (hr2'.cell (i := 2) rfl) h3]
  refine c83 ?_
  rw [keepS_eq]
  refine ⟨h3, c83 ?_⟩
  rw [keepS_eq]
  refine ⟨h3, c83 ?_⟩
  rw [keepS_eq]
  refine ⟨h3, bs54_3 fun v w4 hb4 hv => ?_⟩
  rw [keepS_eq]
  refine ⟨hb4, c82 hv (by simp) ?_⟩
  rw [keepS_eq]
  exact ⟨hb4, h _ (below_trans hb hb4)⟩)
theorem c75 {a b : Disp} (h : ∀ w', Below w.heap.size w w' → k (I (cmpC a b)) w') : callW Tryz.prog (.func (.func 75) #[] #[]) #[agD a, agD b] k w := C75 _ _ _ _ (by
  unfold S75
  refine w_boxN fun w1 hb1 hsz1 hr1 => ?_
  replace hr1 : RowAt w1 w.heap.size 106 (fD.e a) := hr1
  refine w_boxN fun w2 hb2 hsz2 hr2 => ?_
  replace hr2 : RowAt w2 w1.heap.size 106 (fD.e b) := hr2
  have hr1' := (hr1.below hb2).drew
  have hr2' := hr2.drew
  rw [drewW_eq]
  have hb := (below_trans (below_trans hb1 hb2) (below_drew w2))
  generalize w2.drew = w3 at *
  refine ⟨after w3, after_refl _, ?_⟩
  have h3 := after_refl w3
  rw [ra106_2 (hr1'.cell (i := 2) rfl) h3, ra106_2 (hr2'.cell (i := 2) rfl) h3, ra106_0 (hr1'.cell (i := 0) rfl) h3, ra106_0 (hr2'.cell (i := 0) rfl) h3]
  refine c83 ?_
  rw [keepS_eq]
  refine ⟨h3, c83 ?_⟩
  rw [keepS_eq]
  refine ⟨h3, bs54_2 fun v w4 hb4 hv => ?_⟩
  rw [keepS_eq]
  refine ⟨hb4, c82 hv (by simp) ?_⟩
  rw [keepS_eq]
  exact ⟨hb4, h _ (below_trans hb hb4)⟩)
theorem c74 {a b : Disp} (h : ∀ w', Below w.heap.size w w' → k (I (cmpC a b)) w') : callW Tryz.prog (.func (.func 74) #[] #[]) #[agD a, agD b] k w := C74 _ _ _ _ (by
  unfold S74
  refine boxD fun w1 hb1 hsz1 hr1 => ?_
  refine boxD fun w2 hb2 hsz2 hr2 => ?_
  have hr1' := hr1.below hb2
  rw [ld31 (vs := fD.e a) rfl hr1'.cells, ld31 (vs := fD.e b) rfl hr2.cells]
  exact c75 fun w' hb => h _ (below_trans (below_trans hb1 hb2) hb))
/-- the reference's order -/
def befP (a b : Slp) : Prop := a.relay < b.relay ∨ a.relay = b.relay ∧ (a.story < b.story ∨ a.story = b.story ∧ a.ed < b.ed)
instance (a b : Slp) : Decidable (befP a b) := by unfold befP; infer_instance
theorem c71 {a b : Slp} (h : ∀ w', Below w.heap.size w w' → k (.bool (decide (befP a b))) w') : callW Tryz.prog (.func (.func 71) #[] #[]) #[agP a, agP b] k w := C71 _ _ _ _ (by
  unfold S71
  refine boxP fun w1 hb1 hsz1 hr1 => ?_
  refine boxP fun w2 hb2 hsz2 hr2 => ?_
  have hr1' := hr1.below hb2
  have hk := h _ (below_trans hb1 hb2)
  rw [rw63_0 (hr1'.cell (i := 0) rfl), rw63_0 (hr2.cell (i := 0) rfl), w_neq]
  by_cases h1 : a.relay = b.relay
  · rw [decide_eq_true h1, Bool.not_true, condW_false, rw63_1 (hr1'.cell (i := 1) rfl), rw63_1 (hr2.cell (i := 1) rfl), w_neq]
    by_cases h2 : a.story = b.story
    · rw [decide_eq_true h2, Bool.not_true, condW_false, rw63_2 (hr1'.cell (i := 2) rfl), rw63_2 (hr2.cell (i := 2) rfl), w_lss]
      rwa [show decide (befP a b) = decide (a.ed < b.ed) from decide_eq_decide.2 (by unfold befP; omega)] at hk
    · rw [decide_eq_false h2, Bool.not_false, condW_true, rw63_1 (hr1'.cell (i := 1) rfl), rw63_1 (hr2.cell (i := 1) rfl), w_lss]
      rwa [show decide (befP a b) = decide (a.story < b.story) from decide_eq_decide.2 (by unfold befP; omega)] at hk
  · rw [decide_eq_false h1, Bool.not_false, condW_true, rw63_0 (hr1'.cell (i := 0) rfl), rw63_0 (hr2.cell (i := 0) rfl), w_lss]
    rwa [show decide (befP a b) = decide (a.relay < b.relay) from decide_eq_decide.2 (by unfold befP; omega)] at hk)
end
end Go.Proofs.YtklknkmeljjmgaaGreatDoor
/- Lists of dispatches and of slips: sorted, equal, cloned, brought in order (printed for both). -/
set_option linter.unusedSimpArgs false
set_option linter.unusedVariables false
namespace Go.V
open Go Go.RowKit
theorem w_indexStr {P : Program} {k : Value → World → Prop} {w : World} {t : TypeId} {s : ByteArray} {q : IntKind} {i : Int} {b : UInt8} (h : P.underlying t = some .string) (h0 : 0 ≤ i) (hb : s[i.toNat]? = some b) : opW P (Instr.index t (.string s) (.int q i)) k w = k (.int .u8 b.toNat) w :=
  opW_ok (by simp [Instr.index, Sem.run_bind, Result.andThen, run_underlying h, asIntOf, h0, hb])
theorem w_indexStr' {P : Program} {k : Value → World → Prop} {w : World} {t : TypeId} {s : ByteArray} {q : IntKind} {i : Int} (h : P.underlying t = some .string) (h0 : 0 ≤ i) (hs : i.toNat < s.size) (hk : ∀ n : Int, k (.int .u8 n) w) : opW P (Instr.index t (.string s) (.int q i)) k w := by
  rw [w_indexStr h h0 (getElem?_pos s i.toNat hs)]; exact hk _
end Go.V
namespace Go.Proofs.YtklknkmeljjmgaaGreatDoor
open Go Go.V Go.RowKit
/-- all elements are good, and ascend -/
def SortG {α : Type} (p : α → Bool) (c : α → α → Int) (l : List α) : Prop := (∀ (i : Nat) x, l[i]? = some x → p x = true) ∧ ∀ (i : Nat) x y, l[i]? = some x → l[i + 1]? = some y → c x y < 0
section
variable {k : Value → World → Prop} {w : World}
theorem c99 {x : Int} (h0 : 0 ≤ x) (h1 : x ≤ 100) (h : ∀ n : Int, k (I n) w) : callW Tryz.prog (.func (.func 99) #[] #[]) #[.int .u64 x] k w := C99 _ _ _ (by
  unfold S99
  rw [joinW_eq, w_geq, decide_eq_false (by omega), condW_false]
  show joinW _ _
  rw [joinW_eq, w_geq, decide_eq_false (by omega), condW_false]
  show joinW _ _
  rw [joinW_eq, w_geq, decide_eq_false (by omega), condW_false]
  show opW _ _ _ _
  rw [w_conv (q := .u8) (by kernel_rfl) (by kernel_rfl)]
  have hw : IntKind.u8.wrap x = x := IntWalk.u8_in _ (by omega)
  rw [hw]
  refine w_indexStr' str9 h0 (Nat.lt_of_lt_of_eq (m := 256) (by omega) (by kernel_rfl)) fun n => ?_
  rw [w_conv (q := .i64) (by kernel_rfl) (by kernel_rfl), w_add]; exact h _)
theorem c81 {x : Int} (h0 : 0 ≤ x) (h1 : x ≤ 100) (h : ∀ n : Int, k (I n) w) : callW Tryz.prog (.func (.func 81) #[] #[]) #[.int .u64 x] k w := C81 _ _ _ (by
  unfold S81
  rw [condW_false]
  exact c99 h0 h1 h)
theorem run_neqD {ox oy : Operand} (a b : Disp) (w : World) : (binS .neq 31 ox oy (agD a) (agD b)).run Tryz.prog w = .ok (.bool (!decide (a = b))) w := by
  have h1 := run_eqlAgg (P := Tryz.prog) (t := 31) (ox := ox) (oy := oy) (L := [(3, 0), (3, 1), (3, 2), (9, 3)]) (xs := (fD.e a).toArray) (ys := (fD.e b).toArray) (by kernel_rfl) (by kernel_rfl) (by kernel_rfl) (by kernel_rfl)
    [decide (a.story = b.story), decide (a.ed = b.ed), decide (a.cls = b.cls), decide (a.text = b.text)] rfl (fun i f c hf hb => by
      match i with
      | 0 => cases hf; cases hb; exact ⟨_, _, rfl, rfl, .int (q' := .i64) (by kernel_rfl) (by kernel_rfl)⟩
      | 1 => cases hf; cases hb; exact ⟨_, _, rfl, rfl, .int (q' := .i64) (by kernel_rfl) (by kernel_rfl)⟩
      | 2 => cases hf; cases hb; exact ⟨_, _, rfl, rfl, .int (q' := .i64) (by kernel_rfl) (by kernel_rfl)⟩
      | 3 => cases hf; cases hb; exact ⟨_, _, rfl, rfl, .str (by kernel_rfl) (by kernel_rfl)⟩
      | n + 4 => cases hf) w
  have e : ([decide (a.story = b.story), decide (a.ed = b.ed), decide (a.cls = b.cls), decide (a.text = b.text)] : List Bool).all id = decide (a = b) := by
    rw [Bool.eq_iff_iff]
    simp only [List.all_cons, List.all_nil, id, Bool.and_true, Bool.and_eq_true, decide_eq_true_eq]
    exact ⟨fun ⟨h1, h2, h3, h4⟩ => Disp.ext' h1 h2 h3 h4, fun h => by subst h; exact ⟨rfl, rfl, rfl, rfl⟩⟩
  rw [e] at h1
  exact run_of_eq fun k => w_neqAgg h1.1 h1.2
theorem t_neqD {ox oy : Operand} {a b : Disp} {S : World → Prop} {K : Value → Prop} : takeW Tryz.prog S (binS .neq 31 ox oy (agD a) (agD b)) K w = K (.bool (!decide (a = b))) := takeW_pure fun w => run_neqD a b w
theorem w_neqD {ox oy : Operand} {a b : Disp} : opW Tryz.prog (binS .neq 31 ox oy (agD a) (agD b)) k w = k (.bool (!decide (a = b))) w := opW_ok (run_neqD a b w)
theorem c68 {v good cmp : Value} {l : List Disp} {p : Disp → Bool} {c : Disp → Disp → Int} (hs : IsSl fD w v l) (hl : l.length ≤ maxLen)
    (hg : ∀ (x : Disp) (w : World) (kk : Value → World → Prop), (∀ w', Below w.heap.size w w' → kk (.bool (p x)) w') → callW Tryz.prog good #[agD x] kk w) (hc : CmpAny Tryz.prog fD cmp c)
    (hk : ∀ b w', Below w.heap.size w w' → (b = true ↔ SortG p c l) → k (.bool b) w') : callW Tryz.prog (.func (.func 68) #[] #[]) #[v, good, cmp] k w := C68 _ _ _ _ _ (by
  unfold S68
  have hmx : maxLen ≤ 9223372036854775807 := by decide
  refine (len24 hs).mpr ?_
  refine Loop1.intro (fun n a w' => ∃ i : Nat, a = I i ∧ i ≤ l.length ∧ n = l.length - i ∧ Below w.heap.size w w' ∧ (∀ (j : Nat) x, j < i → l[j]? = some x → p x = true) ∧ ∀ (j : Nat) x y, j + 1 < i → l[j]? = some x → l[j + 1]? = some y → c x y < 0) _ ⟨0, rfl, by omega, rfl, Below.refl _ _, by omega, by omega⟩ ?_
  rintro n _ w1 ⟨i, rfl, hi, rfl, hb1, hgood, hasc⟩
  rw [w_lss]
  by_cases hlt : i < l.length
  · rw [decide_eq_true (by omega), condW_true]
    have hs1 := hs.below hb1
    obtain ⟨x, hx⟩ : ∃ x, l[i]? = some x := ⟨_, List.getElem?_eq_getElem hlt⟩
    rw [na24 rfl hs1 hx]
    refine nvD (d := x) fun w2 hb2 hsz2 hr2 => ?_
    rw [drewW_eq]
    have hr2 := hr2.drew
    have hb12 := hb1.trans ((below_trans hb2 (below_drew w2)).mono hb1.size)
    have hs2 := hs.below hb12
    generalize w2.drew = w3 at *
    refine ⟨after w3, after_refl _, ?_⟩
    rw [la31 rfl hr2.cells (after_refl _)]
    refine hg x _ _ fun w4 hb4 => ?_
    have hb14 := hb12.trans (hb4.mono hb12.size)
    have bad : ¬ SortG p c l → k (.bool false) w4 := fun hn => hk false w4 hb14 ⟨(fun h => by cases h), fun h => absurd h hn⟩
    rw [t_not]
    cases hp : p x with
    | false =>
      simp only [Bool.not_false, guardT_tf, guardT_u, guardW_u, pickT_true, condW_true, keepS_eq]
      exact ⟨hb4, bad fun h => (by have := h.1 i x hx; rw [hp] at this; cases this)⟩
    | true =>
      simp only [Bool.not_true, guardT_ff]
      rw [t_gtr]
      have next : (∀ y, 0 < i → l[i - 1]? = some y → c y x < 0) → (∀ (j : Nat) x, j < i + 1 → l[j]? = some x → p x = true) ∧ ∀ (j : Nat) x y, j + 1 < i + 1 → l[j]? = some x → l[j + 1]? = some y → c x y < 0 := fun hn => by
        refine ⟨fun j y hj hy => ?_, fun j y z hj hy hz => ?_⟩
        · rcases Nat.lt_or_ge j i with h | h
          · exact hgood j y h hy
          · obtain rfl : j = i := by omega
            rw [hx] at hy; cases hy; exact hp
        · rcases Nat.lt_or_ge (j + 1) i with h | h
          · exact hasc j y z h hy hz
          · obtain rfl : i = j + 1 := by omega
            rw [hx] at hz; cases hz
            exact hn y (by omega) (by simpa using hy)
      rcases Nat.eq_zero_or_pos i with h0 | h0
      · subst h0
        rw [decide_eq_false (by omega)]
        simp only [guardT_ft, guardT_u, guardW_ft, guardW_u, pickT_false, condW_false, keepS_eq]
        refine ⟨hb4, ?_⟩
        rw [w_add, wrap_id (by omega), loopK_self]
        obtain ⟨n1, n2⟩ := next fun y h => by omega
        exact ⟨l.length - (0 + 1), by omega, 0 + 1, by simp [I], by omega, rfl, hb14, n1, n2⟩
      · obtain ⟨m, rfl⟩ : ∃ m, i = m + 1 := ⟨i - 1, by omega⟩
        rw [decide_eq_true (by omega)]
        simp only [guardT_tt, guardW_tt]
        obtain ⟨y, hy⟩ : ∃ y, l[m]? = some y := ⟨_, List.getElem?_eq_getElem (by omega)⟩
        rw [t_sub, wrap_id (by omega), show ((m + 1 : Nat) : Int) - 1 = (m : Int) by omega, nta24 rfl (hs2.below hb4) hy, xld31 (vs := fD.e x) rfl (hr2.below hb4).cells]
        refine hc y x _ _ fun w5 hb5 => ?_
        rw [keepS_eq]
        refine ⟨below_trans hb4 hb5, ?_⟩
        have hb15 := hb14.trans (hb5.mono hb14.size)
        rw [t_geq]
        by_cases hlt0 : c y x < 0
        · rw [decide_eq_false (by omega)]
          simp only [pickT_true, pickT_false, condW_false]
          rw [w_add, wrap_id (by omega), loopK_self]
          obtain ⟨n1, n2⟩ := next fun z _ hz => by rw [Nat.add_sub_cancel] at hz; rw [hy] at hz; cases hz; exact hlt0
          exact ⟨l.length - (m + 1 + 1), by omega, m + 1 + 1, by simp [I], by omega, rfl, hb15, n1, n2⟩
        · rw [decide_eq_true (by omega)]
          simp only [pickT_true, pickT_false, condW_true]
          exact hk false w5 hb15 ⟨(fun h => by cases h), fun h => absurd (h.2 m y x hy hx) hlt0⟩
  · rw [decide_eq_false (by omega), condW_false]
    exact hk true w1 hb1 ⟨fun _ => ⟨fun j x hx => hgood j x (by have := (List.getElem?_eq_some_iff.1 hx).1; omega) hx, fun j x y hx hy => hasc j x y (by have := (List.getElem?_eq_some_iff.1 hy).1; omega) hx hy⟩, fun _ => rfl⟩)
theorem c48 {u v : Value} {l m : List Disp} (hu : IsSl fD w u l) (hv : IsSl fD w v m) (hl : l.length ≤ maxLen) (h : ∀ w', Below w.heap.size w w' → k (.bool (decide (l = m))) w') : callW Tryz.prog (.func (.func 48) #[] #[]) #[u, v] k w := C48 _ _ _ _ (by
  unfold S48
  have hmx : maxLen ≤ 9223372036854775807 := by decide
  refine (len24 hu).mpr ((len24 hv).mpr ?_)
  rw [w_neq]
  by_cases hlen : l.length = m.length
  · rw [decide_eq_true (by omega), Bool.not_true, condW_false]
    refine (len24 hu).mpr ?_
    refine Loop1.intro (fun n a w' => ∃ i : Nat, a = I i ∧ i ≤ l.length ∧ n = l.length - i ∧ Below w.heap.size w w' ∧ ∀ j, j < i → l[j]? = m[j]?) _ ⟨0, rfl, by omega, rfl, Below.refl _ _, by omega⟩ ?_
    rintro n _ w1 ⟨i, rfl, hi, rfl, hb1, hsame⟩
    rw [w_lss]
    by_cases hlt : i < l.length
    · rw [decide_eq_true (by omega), condW_true, drewW_eq]
      have hx : l[i]? = some l[i] := List.getElem?_eq_getElem hlt
      have hy : m[i]? = some (m[i]'(by omega)) := List.getElem?_eq_getElem (by omega)
      rw [nta24 rfl (hu.below hb1).drew hx, nta24 rfl (hv.below hb1).drew hy]
      refine t_neqD.mpr ?_
      have hb1d := hb1.trans ((Below.refl w.heap.size w1).drew)
      by_cases he : l[i] = m[i]'(by omega)
      · rw [decide_eq_true he, Bool.not_true, condW_false, w_add, wrap_id (by omega), loopK_self]
        refine ⟨l.length - (i + 1), by omega, i + 1, by simp [I], by omega, rfl, hb1d, fun j hj => ?_⟩
        rcases Nat.lt_or_ge j i with h' | h'
        · exact hsame j h'
        · obtain rfl : j = i := by omega
          rw [hx, hy, he]
      · rw [decide_eq_false he, Bool.not_false, condW_true]
        have := h _ hb1d
        rwa [decide_eq_false (fun hh => he (by subst hh; rfl))] at this
    · rw [decide_eq_false (by omega), condW_false]
      have := h _ hb1
      rwa [decide_eq_true (List.ext_getElem? fun j => by
        rcases Nat.lt_or_ge j i with h' | h'
        · exact hsame j h'
        · rw [List.getElem?_eq_none (by omega), List.getElem?_eq_none (by omega)])] at this
  · rw [decide_eq_false (by omega), Bool.not_false, condW_true]
    have := h _ (Below.refl _ _)
    rwa [decide_eq_false (fun hh => hlen (by rw [hh]))] at this)
theorem c19 {u v : Value} {l m : List Disp} (hu : IsSl fD w u l) (hv : IsSl fD w v m) (hl : l.length ≤ maxLen) (h : ∀ w', Below w.heap.size w w' → k (.bool (decide (l = m))) w') : callW Tryz.prog (.func (.func 19) #[] #[]) #[u, v] k w := C19 _ _ _ _ (by
  unfold S19
  have hmx : maxLen ≤ 9223372036854775807 := by decide
  refine (len24 hu).mpr ((len24 hv).mpr ?_)
  rw [w_neq]
  by_cases hlen : l.length = m.length
  · rw [decide_eq_true (by omega), Bool.not_true, condW_false]
    refine Loop1.intro (fun n a w' => ∃ i : Nat, a = I i ∧ i ≤ l.length ∧ n = l.length - i ∧ Below w.heap.size w w' ∧ ∀ j, j < i → l[j]? = m[j]?) _ ⟨0, rfl, by omega, rfl, Below.refl _ _, by omega⟩ ?_
    rintro n _ w1 ⟨i, rfl, hi, rfl, hb1, hsame⟩
    refine (len24 (hu.below hb1)).mpr ?_
    rw [w_lss]
    by_cases hlt : i < l.length
    · rw [decide_eq_true (by omega), condW_true, drewW_eq]
      have hx : l[i]? = some l[i] := List.getElem?_eq_getElem hlt
      have hy : m[i]? = some (m[i]'(by omega)) := List.getElem?_eq_getElem (by omega)
      rw [nta24 rfl (hu.below hb1).drew hx, nta24 rfl (hv.below hb1).drew hy]
      refine t_neqD.mpr ?_
      have hb1d := hb1.trans ((Below.refl w.heap.size w1).drew)
      by_cases he : l[i] = m[i]'(by omega)
      · rw [decide_eq_true he, Bool.not_true, condW_false, w_add, wrap_id (by omega), loopK_self]
        refine ⟨l.length - (i + 1), by omega, i + 1, by simp [I], by omega, rfl, hb1d, fun j hj => ?_⟩
        rcases Nat.lt_or_ge j i with h' | h'
        · exact hsame j h'
        · obtain rfl : j = i := by omega
          rw [hx, hy, he]
      · rw [decide_eq_false he, Bool.not_false, condW_true]
        have := h _ hb1d
        rwa [decide_eq_false (fun hh => he (by subst hh; rfl))] at this
    · rw [decide_eq_false (by omega), condW_false]
      have := h _ hb1
      rwa [decide_eq_true (List.ext_getElem? fun j => by
        rcases Nat.lt_or_ge j i with h' | h'
        · exact hsame j h'
        · rw [List.getElem?_eq_none (by omega), List.getElem?_eq_none (by omega)])] at this
  · rw [decide_eq_false (by omega), Bool.not_false, condW_true]
    have := h _ (Below.refl _ _)
    rwa [decide_eq_false (fun hh => hlen (by rw [hh]))] at this)
theorem und24 : Tryz.prog.underlying 24 = some (.slice 31) := by kernel_rfl
/-- append([]T{}, v...) -/
theorem copyD {v : Value} {l : List Disp} {K : Value → World → Prop} (hs : IsSl fD w v l) (hl : l.length ≤ 1000000) (hk : ∀ u w', Below w.heap.size w w' → Mine fD 31 w' w.heap.size u l → K u w') :
    opW Tryz.prog (Instr.buildSlice 24 0 #[]) (fun s w => opW Tryz.prog (Builtin.append_ #[24, 24] 24 #[s, v]) (fun r w => K r w) w) w := by
  rw [w_build0 sty24]
  have hb1 := below_alloc w (.cells #[] 31 (0, 0))
  have hrow : (w.alloc (.cells #[] 31 (0, 0))).heap[w.heap.size]? = some (.cells #[] 31 (0, 0)) := World.alloc_heap_new _ _
  have hown : Mine fD 31 (w.alloc (.cells #[] 31 (0, 0))) w.heap.size (.slice (some ⟨w.heap.size, 0, none⟩) 0 0) [] := ⟨by simp [flat], .inr ⟨w.heap.size, 0, #[], rfl, Nat.le_refl _, hrow, Nat.le_refl _, by unfold maxLen; omega, by simp, by simp [flat]⟩⟩
  refine Mine.append (F := fD) sty24 eD.one hown (hs.below hb1) hb1.size (by simp; unfold maxLen; omega) (by simp; omega) fun v' w' ho hb _ _ => ?_
  exact hk v' w' (hb1.trans hb) (by simpa using ho)
theorem c60 {v : Value} {l : List Disp} (hs : IsSl fD w v l) (hl : l.length ≤ 1000000) (hk : ∀ u w', Below w.heap.size w w' → Mine fD 31 w' w.heap.size u l → k u w') : callW Tryz.prog (.func (.func 60) #[] #[]) #[v] k w := C60 _ _ _ (by
  unfold S60
  have hs0 := hs
  obtain ⟨a, c, rfl, hc, hx⟩ := hs
  rw [w_eqlNil und24]
  cases a with
  | none =>
    have : l = [] := by
      cases l with
      | nil => rfl
      | cons x r => obtain ⟨b, o, hh, _⟩ := hx 0 x rfl; cases hh
    subst this
    rw [Option.isNone_none, condW_true]
    exact hk _ _ (Below.refl _ _) (Mine.nil _ _)
  | some ad =>
    rw [Option.isNone_some, condW_false]
    exact copyD hs0 hl hk)
theorem c104 {v f : Value} {c : Disp → Disp → Int} {L : List Disp} {B : Nat} (hc : CmpAny Tryz.prog fD f c) (hl : CmpLaw c) (ho : Mine fD 31 w B v L) (hn : L.length ≤ 1000000) (hB : B ≤ w.heap.size)
    (hk : ∀ M w', M.Perm L → SortedBut c M L.length L.length → Mine fD 31 w' B v M → Below B w w' → Off (isOf v) w w' → k (.tuple #[]) w') :
    callW Tryz.prog (.func (.func 104) #[] #[]) #[v, I 0, I L.length, f] k w := C104 _ _ _ _ _ _ (InsS_ok eD hc hl ho hn hk hB)
theorem c89 {v f lim : Value} {c : Disp → Disp → Int} {L : List Disp} {B : Nat} (hc : CmpAny Tryz.prog fD f c) (hl : CmpLaw c) (ho : Mine fD 31 w B v L) (hn : L.length ≤ 12) (hB : B ≤ w.heap.size)
    (hk : ∀ M w', M.Perm L → SortedBut c M L.length L.length → Mine fD 31 w' B v M → Below B w w' → Off (isOf v) w w' → k (.tuple #[]) w') :
    callW Tryz.prog (.func (.func 89) #[] #[]) #[v, I 0, I L.length, lim, f] k w := C89 _ _ _ _ _ _ _ (by
  unfold S89
  refine Loop5.intro (fun m a b _ _ _ w' => a = I 0 ∧ b = I L.length ∧ w' = w) 0 ⟨rfl, rfl, rfl⟩ ?_
  rintro m _ _ _ _ _ w' ⟨rfl, rfl, rfl⟩
  rw [joinW_eq, w_sub, wrap_id (by omega), w_leq, decide_eq_true (by omega), condW_true]
  exact c104 hc hl ho (by omega) hB hk)
theorem c73 {v f : Value} {c : Disp → Disp → Int} {L : List Disp} {B : Nat} (hc : CmpAny Tryz.prog fD f c) (hl : CmpLaw c) (ho : Mine fD 31 w B v L) (hn : L.length ≤ 12) (hB : B ≤ w.heap.size)
    (hk : ∀ M w', M.Perm L → SortedBut c M L.length L.length → Mine fD 31 w' B v M → Below B w w' → Off (isOf v) w w' → k (.tuple #[]) w') :
    callW Tryz.prog (.func (.func 73) #[] #[]) #[v, f] k w := C73 _ _ _ _ (by
  unfold S73
  refine (len24 ho.sl).mpr ?_
  rw [w_conv (q := .u64) (by kernel_rfl) (by kernel_rfl), IntWalk.u64_in _ (by omega)]
  refine c81 (by omega) (by omega) fun nn => ?_
  exact c89 hc hl ho hn hB hk)
theorem run_neqP {ox oy : Operand} (a b : Slp) (w : World) : (binS .neq 63 ox oy (agP a) (agP b)).run Tryz.prog w = .ok (.bool (!decide (a = b))) w := by
  have h1 := run_eqlAgg (P := Tryz.prog) (t := 63) (ox := ox) (oy := oy) (L := [(3, 0), (3, 1), (3, 2), (9, 3)]) (xs := (fP.e a).toArray) (ys := (fP.e b).toArray) (by kernel_rfl) (by kernel_rfl) (by kernel_rfl) (by kernel_rfl)
    [decide (a.relay = b.relay), decide (a.story = b.story), decide (a.ed = b.ed), decide (a.dig = b.dig)] rfl (fun i f c hf hb => by
      match i with
      | 0 => cases hf; cases hb; exact ⟨_, _, rfl, rfl, .int (q' := .i64) (by kernel_rfl) (by kernel_rfl)⟩
      | 1 => cases hf; cases hb; exact ⟨_, _, rfl, rfl, .int (q' := .i64) (by kernel_rfl) (by kernel_rfl)⟩
      | 2 => cases hf; cases hb; exact ⟨_, _, rfl, rfl, .int (q' := .i64) (by kernel_rfl) (by kernel_rfl)⟩
      | 3 => cases hf; cases hb; exact ⟨_, _, rfl, rfl, .str (by kernel_rfl) (by kernel_rfl)⟩
      | n + 4 => cases hf) w
  have e : ([decide (a.relay = b.relay), decide (a.story = b.story), decide (a.ed = b.ed), decide (a.dig = b.dig)] : List Bool).all id = decide (a = b) := by
    rw [Bool.eq_iff_iff]
    simp only [List.all_cons, List.all_nil, id, Bool.and_true, Bool.and_eq_true, decide_eq_true_eq]
    exact ⟨fun ⟨h1, h2, h3, h4⟩ => Slp.ext' h1 h2 h3 h4, fun h => by subst h; exact ⟨rfl, rfl, rfl, rfl⟩⟩
  rw [e] at h1
  exact run_of_eq fun k => w_neqAgg h1.1 h1.2
theorem t_neqP {ox oy : Operand} {a b : Slp} {S : World → Prop} {K : Value → Prop} : takeW Tryz.prog S (binS .neq 63 ox oy (agP a) (agP b)) K w = K (.bool (!decide (a = b))) := takeW_pure fun w => run_neqP a b w
theorem c70 {v good cmp : Value} {l : List Slp} {p : Slp → Bool} {c : Slp → Slp → Int} (hs : IsSl fP w v l) (hl : l.length ≤ maxLen)
    (hg : ∀ (x : Slp) (w : World) (kk : Value → World → Prop), (∀ w', Below w.heap.size w w' → kk (.bool (p x)) w') → callW Tryz.prog good #[agP x] kk w) (hc : CmpAny Tryz.prog fP cmp c)
    (hk : ∀ b w', Below w.heap.size w w' → (b = true ↔ SortG p c l) → k (.bool b) w') : callW Tryz.prog (.func (.func 70) #[] #[]) #[v, good, cmp] k w := C70 _ _ _ _ _ (by
  unfold S70
  have hmx : maxLen ≤ 9223372036854775807 := by decide
  refine (len25 hs).mpr ?_
  refine Loop1.intro (fun n a w' => ∃ i : Nat, a = I i ∧ i ≤ l.length ∧ n = l.length - i ∧ Below w.heap.size w w' ∧ (∀ (j : Nat) x, j < i → l[j]? = some x → p x = true) ∧ ∀ (j : Nat) x y, j + 1 < i → l[j]? = some x → l[j + 1]? = some y → c x y < 0) _ ⟨0, rfl, by omega, rfl, Below.refl _ _, by omega, by omega⟩ ?_
  rintro n _ w1 ⟨i, rfl, hi, rfl, hb1, hgood, hasc⟩
  rw [w_lss]
  by_cases hlt : i < l.length
  · rw [decide_eq_true (by omega), condW_true]
    have hs1 := hs.below hb1
    obtain ⟨x, hx⟩ : ∃ x, l[i]? = some x := ⟨_, List.getElem?_eq_getElem hlt⟩
    rw [na25 rfl hs1 hx]
    refine nvP (d := x) fun w2 hb2 hsz2 hr2 => ?_
    rw [drewW_eq]
    have hr2 := hr2.drew
    have hb12 := hb1.trans ((below_trans hb2 (below_drew w2)).mono hb1.size)
    have hs2 := hs.below hb12
    generalize w2.drew = w3 at *
    refine ⟨after w3, after_refl _, ?_⟩
    rw [la63 rfl hr2.cells (after_refl _)]
    refine hg x _ _ fun w4 hb4 => ?_
    have hb14 := hb12.trans (hb4.mono hb12.size)
    have bad : ¬ SortG p c l → k (.bool false) w4 := fun hn => hk false w4 hb14 ⟨(fun h => by cases h), fun h => absurd h hn⟩
    rw [t_not]
    cases hp : p x with
    | false =>
      simp only [Bool.not_false, guardT_tf, guardT_u, guardW_u, pickT_true, condW_true, keepS_eq]
      exact ⟨hb4, bad fun h => (by have := h.1 i x hx; rw [hp] at this; cases this)⟩
    | true =>
      simp only [Bool.not_true, guardT_ff]
      rw [t_gtr]
      have next : (∀ y, 0 < i → l[i - 1]? = some y → c y x < 0) → (∀ (j : Nat) x, j < i + 1 → l[j]? = some x → p x = true) ∧ ∀ (j : Nat) x y, j + 1 < i + 1 → l[j]? = some x → l[j + 1]? = some y → c x y < 0 := fun hn => by
        refine ⟨fun j y hj hy => ?_, fun j y z hj hy hz => ?_⟩
        · rcases Nat.lt_or_ge j i with h | h
          · exact hgood j y h hy
          · obtain rfl : j = i := by omega
            rw [hx] at hy; cases hy; exact hp
        · rcases Nat.lt_or_ge (j + 1) i with h | h
          · exact hasc j y z h hy hz
          · obtain rfl : i = j + 1 := by omega
            rw [hx] at hz; cases hz
            exact hn y (by omega) (by simpa using hy)
      rcases Nat.eq_zero_or_pos i with h0 | h0
      · subst h0
        rw [decide_eq_false (by omega)]
        simp only [guardT_ft, guardT_u, guardW_ft, guardW_u, pickT_false, condW_false, keepS_eq]
        refine ⟨hb4, ?_⟩
        rw [w_add, wrap_id (by omega), loopK_self]
        obtain ⟨n1, n2⟩ := next fun y h => by omega
        exact ⟨l.length - (0 + 1), by omega, 0 + 1, by simp [I], by omega, rfl, hb14, n1, n2⟩
      · obtain ⟨m, rfl⟩ : ∃ m, i = m + 1 := ⟨i - 1, by omega⟩
        rw [decide_eq_true (by omega)]
        simp only [guardT_tt, guardW_tt]
        obtain ⟨y, hy⟩ : ∃ y, l[m]? = some y := ⟨_, List.getElem?_eq_getElem (by omega)⟩
        rw [t_sub, wrap_id (by omega), show ((m + 1 : Nat) : Int) - 1 = (m : Int) by omega, nta25 rfl (hs2.below hb4) hy, xld63 (vs := fP.e x) rfl (hr2.below hb4).cells]
        refine hc y x _ _ fun w5 hb5 => ?_
        rw [keepS_eq]
        refine ⟨below_trans hb4 hb5, ?_⟩
        have hb15 := hb14.trans (hb5.mono hb14.size)
        rw [t_geq]
        by_cases hlt0 : c y x < 0
        · rw [decide_eq_false (by omega)]
          simp only [pickT_true, pickT_false, condW_false]
          rw [w_add, wrap_id (by omega), loopK_self]
          obtain ⟨n1, n2⟩ := next fun z _ hz => by rw [Nat.add_sub_cancel] at hz; rw [hy] at hz; cases hz; exact hlt0
          exact ⟨l.length - (m + 1 + 1), by omega, m + 1 + 1, by simp [I], by omega, rfl, hb15, n1, n2⟩
        · rw [decide_eq_true (by omega)]
          simp only [pickT_true, pickT_false, condW_true]
          exact hk false w5 hb15 ⟨(fun h => by cases h), fun h => absurd (h.2 m y x hy hx) hlt0⟩
  · rw [decide_eq_false (by omega), condW_false]
    exact hk true w1 hb1 ⟨fun _ => ⟨fun j x hx => hgood j x (by have := (List.getElem?_eq_some_iff.1 hx).1; omega) hx, fun j x y hx hy => hasc j x y (by have := (List.getElem?_eq_some_iff.1 hy).1; omega) hx hy⟩, fun _ => rfl⟩)
theorem c49 {u v : Value} {l m : List Slp} (hu : IsSl fP w u l) (hv : IsSl fP w v m) (hl : l.length ≤ maxLen) (h : ∀ w', Below w.heap.size w w' → k (.bool (decide (l = m))) w') : callW Tryz.prog (.func (.func 49) #[] #[]) #[u, v] k w := C49 _ _ _ _ (by
  unfold S49
  have hmx : maxLen ≤ 9223372036854775807 := by decide
  refine (len25 hu).mpr ((len25 hv).mpr ?_)
  rw [w_neq]
  by_cases hlen : l.length = m.length
  · rw [decide_eq_true (by omega), Bool.not_true, condW_false]
    refine (len25 hu).mpr ?_
    refine Loop1.intro (fun n a w' => ∃ i : Nat, a = I i ∧ i ≤ l.length ∧ n = l.length - i ∧ Below w.heap.size w w' ∧ ∀ j, j < i → l[j]? = m[j]?) _ ⟨0, rfl, by omega, rfl, Below.refl _ _, by omega⟩ ?_
    rintro n _ w1 ⟨i, rfl, hi, rfl, hb1, hsame⟩
    rw [w_lss]
    by_cases hlt : i < l.length
    · rw [decide_eq_true (by omega), condW_true, drewW_eq]
      have hx : l[i]? = some l[i] := List.getElem?_eq_getElem hlt
      have hy : m[i]? = some (m[i]'(by omega)) := List.getElem?_eq_getElem (by omega)
      rw [nta25 rfl (hu.below hb1).drew hx, nta25 rfl (hv.below hb1).drew hy]
      refine t_neqP.mpr ?_
      have hb1d := hb1.trans ((Below.refl w.heap.size w1).drew)
      by_cases he : l[i] = m[i]'(by omega)
      · rw [decide_eq_true he, Bool.not_true, condW_false, w_add, wrap_id (by omega), loopK_self]
        refine ⟨l.length - (i + 1), by omega, i + 1, by simp [I], by omega, rfl, hb1d, fun j hj => ?_⟩
        rcases Nat.lt_or_ge j i with h' | h'
        · exact hsame j h'
        · obtain rfl : j = i := by omega
          rw [hx, hy, he]
      · rw [decide_eq_false he, Bool.not_false, condW_true]
        have := h _ hb1d
        rwa [decide_eq_false (fun hh => he (by subst hh; rfl))] at this
    · rw [decide_eq_false (by omega), condW_false]
      have := h _ hb1
      rwa [decide_eq_true (List.ext_getElem? fun j => by
        rcases Nat.lt_or_ge j i with h' | h'
        · exact hsame j h'
        · rw [List.getElem?_eq_none (by omega), List.getElem?_eq_none (by omega)])] at this
  · rw [decide_eq_false (by omega), Bool.not_false, condW_true]
    have := h _ (Below.refl _ _)
    rwa [decide_eq_false (fun hh => hlen (by rw [hh]))] at this)
theorem c32 {u v : Value} {l m : List Slp} (hu : IsSl fP w u l) (hv : IsSl fP w v m) (hl : l.length ≤ maxLen) (h : ∀ w', Below w.heap.size w w' → k (.bool (decide (l = m))) w') : callW Tryz.prog (.func (.func 32) #[] #[]) #[u, v] k w := C32 _ _ _ _ (by
  unfold S32
  have hmx : maxLen ≤ 9223372036854775807 := by decide
  refine (len25 hu).mpr ((len25 hv).mpr ?_)
  rw [w_neq]
  by_cases hlen : l.length = m.length
  · rw [decide_eq_true (by omega), Bool.not_true, condW_false]
    refine Loop1.intro (fun n a w' => ∃ i : Nat, a = I i ∧ i ≤ l.length ∧ n = l.length - i ∧ Below w.heap.size w w' ∧ ∀ j, j < i → l[j]? = m[j]?) _ ⟨0, rfl, by omega, rfl, Below.refl _ _, by omega⟩ ?_
    rintro n _ w1 ⟨i, rfl, hi, rfl, hb1, hsame⟩
    refine (len25 (hu.below hb1)).mpr ?_
    rw [w_lss]
    by_cases hlt : i < l.length
    · rw [decide_eq_true (by omega), condW_true, drewW_eq]
      have hx : l[i]? = some l[i] := List.getElem?_eq_getElem hlt
      have hy : m[i]? = some (m[i]'(by omega)) := List.getElem?_eq_getElem (by omega)
      rw [nta25 rfl (hu.below hb1).drew hx, nta25 rfl (hv.below hb1).drew hy]
      refine t_neqP.mpr ?_
      have hb1d := hb1.trans ((Below.refl w.heap.size w1).drew)
      by_cases he : l[i] = m[i]'(by omega)
      · rw [decide_eq_true he, Bool.not_true, condW_false, w_add, wrap_id (by omega), loopK_self]
        refine ⟨l.length - (i + 1), by omega, i + 1, by simp [I], by omega, rfl, hb1d, fun j hj => ?_⟩
        rcases Nat.lt_or_ge j i with h' | h'
        · exact hsame j h'
        · obtain rfl : j = i := by omega
          rw [hx, hy, he]
      · rw [decide_eq_false he, Bool.not_false, condW_true]
        have := h _ hb1d
        rwa [decide_eq_false (fun hh => he (by subst hh; rfl))] at this
    · rw [decide_eq_false (by omega), condW_false]
      have := h _ hb1
      rwa [decide_eq_true (List.ext_getElem? fun j => by
        rcases Nat.lt_or_ge j i with h' | h'
        · exact hsame j h'
        · rw [List.getElem?_eq_none (by omega), List.getElem?_eq_none (by omega)])] at this
  · rw [decide_eq_false (by omega), Bool.not_false, condW_true]
    have := h _ (Below.refl _ _)
    rwa [decide_eq_false (fun hh => hlen (by rw [hh]))] at this)
theorem und25 : Tryz.prog.underlying 25 = some (.slice 63) := by kernel_rfl
/-- append([]T{}, v...) -/
theorem copyP {v : Value} {l : List Slp} {K : Value → World → Prop} (hs : IsSl fP w v l) (hl : l.length ≤ 1000000) (hk : ∀ u w', Below w.heap.size w w' → Mine fP 63 w' w.heap.size u l → K u w') :
    opW Tryz.prog (Instr.buildSlice 25 0 #[]) (fun s w => opW Tryz.prog (Builtin.append_ #[25, 25] 25 #[s, v]) (fun r w => K r w) w) w := by
  rw [w_build0 sty25]
  have hb1 := below_alloc w (.cells #[] 63 (0, 0))
  have hrow : (w.alloc (.cells #[] 63 (0, 0))).heap[w.heap.size]? = some (.cells #[] 63 (0, 0)) := World.alloc_heap_new _ _
  have hown : Mine fP 63 (w.alloc (.cells #[] 63 (0, 0))) w.heap.size (.slice (some ⟨w.heap.size, 0, none⟩) 0 0) [] := ⟨by simp [flat], .inr ⟨w.heap.size, 0, #[], rfl, Nat.le_refl _, hrow, Nat.le_refl _, by unfold maxLen; omega, by simp, by simp [flat]⟩⟩
  refine Mine.append (F := fP) sty25 eP.one hown (hs.below hb1) hb1.size (by simp; unfold maxLen; omega) (by simp; omega) fun v' w' ho hb _ _ => ?_
  exact hk v' w' (hb1.trans hb) (by simpa using ho)
theorem c62 {v : Value} {l : List Slp} (hs : IsSl fP w v l) (hl : l.length ≤ 1000000) (hk : ∀ u w', Below w.heap.size w w' → Mine fP 63 w' w.heap.size u l → k u w') : callW Tryz.prog (.func (.func 62) #[] #[]) #[v] k w := C62 _ _ _ (by
  unfold S62
  have hs0 := hs
  obtain ⟨a, c, rfl, hc, hx⟩ := hs
  rw [w_eqlNil und25]
  cases a with
  | none =>
    have : l = [] := by
      cases l with
      | nil => rfl
      | cons x r => obtain ⟨b, o, hh, _⟩ := hx 0 x rfl; cases hh
    subst this
    rw [Option.isNone_none, condW_true]
    exact hk _ _ (Below.refl _ _) (Mine.nil _ _)
  | some ad =>
    rw [Option.isNone_some, condW_false]
    exact copyP hs0 hl hk)
theorem c90 {v f : Value} {c : Slp → Slp → Int} {L : List Slp} {B : Nat} (hc : CmpAny Tryz.prog fP f c) (hl : CmpLaw c) (ho : Mine fP 63 w B v L) (hn : L.length ≤ 1000000) (hB : B ≤ w.heap.size)
    (hk : ∀ M w', M.Perm L → SortedBut c M L.length L.length → Mine fP 63 w' B v M → Below B w w' → Off (isOf v) w w' → k (.tuple #[]) w') :
    callW Tryz.prog (.func (.func 90) #[] #[]) #[v, I 0, I L.length, f] k w := C90 _ _ _ _ _ _ (InsS_ok eP hc hl ho hn hk hB)
theorem c80 {v f lim : Value} {c : Slp → Slp → Int} {L : List Slp} {B : Nat} (hc : CmpAny Tryz.prog fP f c) (hl : CmpLaw c) (ho : Mine fP 63 w B v L) (hn : L.length ≤ 12) (hB : B ≤ w.heap.size)
    (hk : ∀ M w', M.Perm L → SortedBut c M L.length L.length → Mine fP 63 w' B v M → Below B w w' → Off (isOf v) w w' → k (.tuple #[]) w') :
    callW Tryz.prog (.func (.func 80) #[] #[]) #[v, I 0, I L.length, lim, f] k w := C80 _ _ _ _ _ _ _ (by
  unfold S80
  refine Loop5.intro (fun m a b _ _ _ w' => a = I 0 ∧ b = I L.length ∧ w' = w) 0 ⟨rfl, rfl, rfl⟩ ?_
  rintro m _ _ _ _ _ w' ⟨rfl, rfl, rfl⟩
  rw [joinW_eq, w_sub, wrap_id (by omega), w_leq, decide_eq_true (by omega), condW_true]
  exact c90 hc hl ho (by omega) hB hk)
theorem c58 {v f : Value} {c : Slp → Slp → Int} {L : List Slp} {B : Nat} (hc : CmpAny Tryz.prog fP f c) (hl : CmpLaw c) (ho : Mine fP 63 w B v L) (hn : L.length ≤ 12) (hB : B ≤ w.heap.size)
    (hk : ∀ M w', M.Perm L → SortedBut c M L.length L.length → Mine fP 63 w' B v M → Below B w w' → Off (isOf v) w w' → k (.tuple #[]) w') :
    callW Tryz.prog (.func (.func 58) #[] #[]) #[v, f] k w := C58 _ _ _ _ (by
  unfold S58
  refine (len25 ho.sl).mpr ?_
  rw [w_conv (q := .u64) (by kernel_rfl) (by kernel_rfl), IntWalk.u64_in _ (by omega)]
  refine c81 (by omega) (by omega) fun nn => ?_
  exact c80 hc hl ho hn hB hk)
end
end Go.Proofs.YtklknkmeljjmgaaGreatDoor
