/- Part 3 of the proof of relayContradicts: lemmas for it; no condition beyond the statement. -/
import Derived.Test.YtklknkmeljjmgaaGreatDoorKe1
/- The conditions of the functions, printed by program out of the loaded code, each with the contract that follows from it. -/
set_option linter.unusedVariables false
set_option maxRecDepth 100000
namespace Go.Proofs.YtklknkmeljjmgaaGreatDoor
open Go Go.V
noncomputable section

/-! newswire/relay.Print -/
def ann29 : Ann := [(253, Note.keep [1, 2, 5, 6, 7]), (506, Note.keep [0]), (1013, Note.keep []), (8104, Note.plan (Plan.takeX 0 (Plan.takeU 2 (Plan.run 1 (Plan.takeP 3 Plan.done))))), (8106, Note.plan (Plan.takeU 0 (Plan.takeX 1 (Plan.run 2 (Plan.takeP 3 (Plan.run 4 Plan.done)))))), (8190, Note.plan (Plan.takeX 0 (Plan.takeU 1 (Plan.run 2 (Plan.takeP 3 (Plan.takeP 4 Plan.done)))))), (16215, Note.plan (Plan.takeU 0 (Plan.takeP 1 (Plan.takeU 2 (Plan.takeP 3 (Plan.takeU 4 (Plan.takeP 5 (Plan.takeU 6 (Plan.takeP 7 (Plan.takeU 8 (Plan.run 9 (Plan.run 10 (Plan.run 11 (Plan.run 12 (Plan.run 13 Plan.done)))))))))))))))]
def S29 (r_1 : Value) (k : Value → World → Prop) (w : World) : Prop :=
   opW Tryz.prog (Instr.box 27 r_1) (fun r_2 w =>
   opW Tryz.prog (Instr.alloc 27 true (Value.tuple #[])) (fun t2_3 w =>
   opW Tryz.prog (Instr.loadAt 27 r_2) (fun t11_5 w =>
   callW Tryz.prog (Value.func (Fn.func 15) #[] #[]) #[t11_5] (fun t12_6 w =>
   opW Tryz.prog (Op.unary UnOp.not t12_6) (fun t13_7 w =>
   condW t13_7
   (opW Tryz.prog (Instr.build 27 #[]) (fun t14_8 w =>
   opU Tryz.prog (Instr.storeAt 27 t2_3 t14_8) (fun _ w =>
   resCell Tryz.prog 27 t2_3 (fun r_9 => k (Value.tuple #[r_9, (Value.slice none 0 0), (Value.int IntKind.i64 250)]) w) w) w) w)
   (opW Tryz.prog (Instr.alloc 24 true (Value.tuple #[])) (fun done_10 w =>
   opW Tryz.prog (Instr.alloc 25 true (Value.tuple #[])) (fun slips_11 w =>
   opW Tryz.prog (Instr.fieldAt 27 r_2 1) (fun t15_12 w =>
   opW Tryz.prog (Instr.loadAt 3 t15_12) (fun t16_13 w =>
   opW Tryz.prog (Instr.alloc 3 true (Value.tuple #[])) (fun paper_14 w =>
   opU Tryz.prog (Instr.storeAt 3 paper_14 t16_13) (fun _ w =>
   opW Tryz.prog (Instr.loadAt 27 r_2) (fun t17_15 w =>
   callW Tryz.prog (Value.func (Fn.func 50) #[] #[]) #[t17_15] (fun t18_16 w =>
   joinW (fun (m_51 : Nat) w =>
   opW Tryz.prog (Instr.loadAt 25 slips_11) (fun t45_52 w =>
   callW Tryz.prog (Value.func (Fn.func 58) #[] #[]) #[t45_52, (Value.func (Fn.func 59) #[] #[])] (fun t46_53 w =>
   opW Tryz.prog (Instr.fieldAt 27 r_2 2) (fun t47_54 w =>
   opW Tryz.prog (Instr.loadAt 24 t47_54) (fun t48_55 w =>
   callW Tryz.prog (Value.func (Fn.func 60) #[] #[]) #[t48_55] (fun t49_56 w =>
   opW Tryz.prog (Instr.fieldAt 27 r_2 2) (fun t50_57 w =>
   opU Tryz.prog (Instr.storeAt 24 t50_57 t49_56) (fun _ w =>
   opW Tryz.prog (Instr.loadAt 27 r_2) (fun t52_58 w =>
   opW Tryz.prog (Instr.loadAt 25 slips_11) (fun t53_59 w =>
   callW Tryz.prog (Value.func (Fn.func 54) #[] #[]) #[t52_58, (Value.slice none 0 0), t53_59] (fun t54_60 w =>
   opW Tryz.prog (Instr.extract t54_60 0) (fun t55_61 w =>
   opW Tryz.prog (Instr.extract t54_60 1) (fun t56_62 w =>
   opW Tryz.prog (Instr.alloc 27 true (Value.tuple #[])) (fun out_63 w =>
   opU Tryz.prog (Instr.storeAt 27 out_63 t55_61) (fun _ w =>
   opW Tryz.prog (binS BinOp.neq 37 (Operand.tmp 57) (Operand.const (Value.int IntKind.i64 0)) t56_62 (Value.int IntKind.i64 0)) (fun t58_65 w =>
   condW t58_65
   (opW Tryz.prog (Instr.build 27 #[]) (fun t59_66 w =>
   opU Tryz.prog (Instr.storeAt 27 t2_3 t59_66) (fun _ w =>
   leaveW [{ target := Target.collected m_51, args := #[] }] (fun w => resCell Tryz.prog 27 t2_3 (fun r_67 => k (Value.tuple #[r_67, (Value.slice none 0 0), t56_62]) w) w) w) w) w)
   (opW Tryz.prog (Instr.loadAt 3 paper_14) (fun t61_68 w =>
   opW Tryz.prog (Instr.fieldAt 27 out_63 1) (fun t62_69 w =>
   opU Tryz.prog (Instr.storeAt 3 t62_69 t61_68) (fun _ w =>
   drewW w (fun w =>
   ∃ S : World → Prop, S w ∧
   takeW Tryz.prog (sameW w) (Instr.loadAt 27 out_63) (fun t63_71 =>
   takeW Tryz.prog S (Instr.loadAt 24 done_10) (fun t64_72 =>
   opU Tryz.prog (Instr.storeAt 27 t2_3 t63_71) (fun _ w => keepS S (fun w =>
   leaveW [{ target := Target.collected m_51, args := #[] }] (fun w => resCell Tryz.prog 27 t2_3 (fun r_73 => k (Value.tuple #[r_73, t64_72, (Value.int IntKind.i64 0)]) w) w) w) w) w) w) w)) w) w) w)) w) w) w) w) w) w) w) w) w) w) w) w) w) w) w) (fun J_17 =>
   rangeW Tryz.prog t18_16 1 (fun l_18 ready_18 busy_18 args_18 w k_18 =>
   opW Tryz.prog (Instr.alloc 31 true (Value.tuple #[])) (fun d_19 w =>
   opU Tryz.prog (Instr.storeAt 31 d_19 (args_18.headD undef)) (fun _ w =>
   ready_18 w ∧ (fun w => drewW w (fun w =>
   ∃ S : World → Prop, S w ∧
   takeW Tryz.prog (sameW w) (Instr.loadAt 31 d_19) (fun t20_23 =>
   takeW Tryz.prog S (Instr.loadAt 3 paper_14) (fun t22_24 =>
   callW Tryz.prog (Value.func (Fn.func 25) #[] #[]) #[t20_23] (fun t21_25 w => keepS S (fun w =>
   takeW Tryz.prog anyW (binS BinOp.gtr 3 (Operand.tmp 21) (Operand.tmp 22) t21_25 t22_24) (fun t23_26 =>
   condW t23_26
   (k_18 (some (Code.exit 0)) w)
   (drewW w (fun w =>
   ∃ S : World → Prop, S w ∧
   takeW Tryz.prog S (Instr.loadAt 3 paper_14) (fun t24_28 =>
   takeW Tryz.prog (sameW w) (Instr.loadAt 31 d_19) (fun t25_29 =>
   callW Tryz.prog (Value.func (Fn.func 25) #[] #[]) #[t25_29] (fun t26_30 w => keepS S (fun w =>
   takeW Tryz.prog anyW (binS BinOp.sub 3 (Operand.tmp 24) (Operand.tmp 26) t24_28 t26_30) (fun t27_31 =>
   opU Tryz.prog (Instr.storeAt 3 paper_14 t27_31) (fun _ w =>
   opW Tryz.prog (Instr.loadAt 24 done_10) (fun t28_32 w =>
   opW Tryz.prog (Instr.loadAt 31 d_19) (fun t29_33 w =>
   opW Tryz.prog (Instr.buildSlice 24 1 #[(0, t29_33)]) (fun t30_34 w =>
   opW Tryz.prog (Builtin.append_ #[24, 24] 24 #[t28_32, t30_34]) (fun t31_35 w =>
   opU Tryz.prog (Instr.storeAt 24 done_10 t31_35) (fun _ w =>
   drewW w (fun w =>
   ∃ S : World → Prop, S w ∧
   takeW Tryz.prog S (Instr.loadAt 25 slips_11) (fun t32_37 =>
   takeW Tryz.prog anyW (Instr.fieldAt 27 r_2 0) (fun t33_38 =>
   takeW Tryz.prog S (Instr.loadAt 3 t33_38) (fun t34_39 =>
   takeW Tryz.prog anyW (Instr.fieldAt 31 d_19 0) (fun t35_40 =>
   takeW Tryz.prog S (Instr.loadAt 3 t35_40) (fun t36_41 =>
   takeW Tryz.prog anyW (Instr.fieldAt 31 d_19 1) (fun t37_42 =>
   takeW Tryz.prog S (Instr.loadAt 3 t37_42) (fun t38_43 =>
   takeW Tryz.prog anyW (Instr.fieldAt 31 d_19 3) (fun t39_44 =>
   takeW Tryz.prog S (Instr.loadAt 9 t39_44) (fun t40_45 =>
   callW Tryz.prog (Value.func (Fn.func 41) #[] #[]) #[t40_45] (fun t41_46 w => keepS S (fun w =>
   opW Tryz.prog (Instr.build 63 #[(0, t34_39), (1, t36_41), (2, t38_43), (3, t41_46)]) (fun t42_47 w => keepS S (fun w =>
   opW Tryz.prog (Instr.buildSlice 25 1 #[(0, t42_47)]) (fun t43_48 w => keepS S (fun w =>
   opW Tryz.prog (Builtin.append_ #[25, 25] 25 #[t32_37, t43_48]) (fun t44_49 w => keepS S (fun w =>
   opU Tryz.prog (Instr.storeAt 25 slips_11 t44_49) (fun _ w =>
   k_18 none w) w) w) w) w) w) w) w) w) w) w) w) w) w) w) w) w) w) w)) w) w) w) w) w) w) w) w) w) w) w))) w) w) w) w) w)) (busy_18 w)) w) w) (fun d_18 j_18 w => jumpW j_18
   (J_17 d_18 w)
   (leaveW [{ target := Target.collected d_18, args := #[] }] (fun w => resCell Tryz.prog 27 t2_3 (fun r_50 => k (Value.tuple #[r_50, (Value.slice none 0 0), (Value.int IntKind.i64 0)]) w) w) w)
   (fun x => match Nat.beq 0 x with | true => J_17 d_18 w | false => False)) w)) w) w) w) w) w) w) w) w)) w) w) w) w) w
theorem S29_vc (r_1 : Value) (k : Value → World → Prop) (w : World) : vc Tryz.prog Tryz.f29.ntmps ann29 none ((Tryz.f29.body).getD Code.skip) 1 (params 0 [r_1]) [] (finQ Tryz.prog Tryz.f29.results.toList k) w = S29 r_1 k w := by kernel_rfl
theorem S29_calls (r_1 : Value) (k : Value → World → Prop) (w : World) (h : S29 r_1 k w) : Calls Tryz.prog 29 #[r_1] w (retP k) :=
  calls_of_vc (fn := Tryz.f29) (c := (Tryz.f29.body).getD Code.skip) ann29 Tryz.func29 (by kernel_rfl) [r_1] w k (by kernel_rfl) ((S29_vc r_1 k w).symm ▸ h)
theorem C29 (r_1 : Value) (k : Value → World → Prop) (w : World) (h : S29 r_1 k w) : callW Tryz.prog (.func (.func 29) #[] #[]) #[r_1] k w :=
  callW_calls ok29 (by simpa using S29_calls r_1 k w h)

/-! newswire/newswireref25.Print -/
def ann30 : Ann := [(14, Note.plan (Plan.takeP 0 (Plan.takeU 1 (Plan.takeP 2 (Plan.takeU 3 (Plan.takeP 5 (Plan.takeU 6 (Plan.takeP 9 (Plan.takeU 10 (Plan.alt (Plan.alt (Plan.run 4 (Plan.alt (Plan.alt (Plan.run 7 (Plan.alt (Plan.run 8 (Plan.alt (Plan.run 11 (Plan.alt (Plan.run 12 (Plan.run 13 (Plan.run 14 Plan.done))) (Plan.run 13 (Plan.run 12 (Plan.run 14 Plan.done))))) (Plan.run 13 (Plan.run 11 (Plan.run 12 (Plan.run 14 Plan.done)))))) (Plan.run 13 (Plan.run 8 (Plan.run 11 (Plan.run 12 (Plan.run 14 Plan.done))))))) (Plan.run 8 (Plan.alt (Plan.run 7 (Plan.alt (Plan.run 11 (Plan.alt (Plan.run 12 (Plan.run 13 (Plan.run 14 Plan.done))) (Plan.run 13 (Plan.run 12 (Plan.run 14 Plan.done))))) (Plan.run 13 (Plan.run 11 (Plan.run 12 (Plan.run 14 Plan.done)))))) (Plan.run 13 (Plan.run 7 (Plan.run 11 (Plan.run 12 (Plan.run 14 Plan.done)))))))) (Plan.run 13 (Plan.alt (Plan.run 7 (Plan.run 8 (Plan.run 11 (Plan.run 12 (Plan.run 14 Plan.done))))) (Plan.run 8 (Plan.run 7 (Plan.run 11 (Plan.run 12 (Plan.run 14 Plan.done))))))))) (Plan.run 8 (Plan.alt (Plan.run 4 (Plan.alt (Plan.run 7 (Plan.alt (Plan.run 11 (Plan.alt (Plan.run 12 (Plan.run 13 (Plan.run 14 Plan.done))) (Plan.run 13 (Plan.run 12 (Plan.run 14 Plan.done))))) (Plan.run 13 (Plan.run 11 (Plan.run 12 (Plan.run 14 Plan.done)))))) (Plan.run 13 (Plan.run 7 (Plan.run 11 (Plan.run 12 (Plan.run 14 Plan.done))))))) (Plan.run 13 (Plan.run 4 (Plan.run 7 (Plan.run 11 (Plan.run 12 (Plan.run 14 Plan.done))))))))) (Plan.run 13 (Plan.alt (Plan.run 4 (Plan.alt (Plan.run 7 (Plan.run 8 (Plan.run 11 (Plan.run 12 (Plan.run 14 Plan.done))))) (Plan.run 8 (Plan.run 7 (Plan.run 11 (Plan.run 12 (Plan.run 14 Plan.done))))))) (Plan.run 8 (Plan.run 4 (Plan.run 7 (Plan.run 11 (Plan.run 12 (Plan.run 14 Plan.done)))))))))))))))))), (253, Note.keep [2, 5, 6]), (506, Note.loop [6, 8] [1, 2, 5, 7]), (4048, Note.plan (Plan.takeP 0 (Plan.takeP 1 (Plan.takeP 2 (Plan.takeP 3 (Plan.takeP 4 (Plan.takeP 5 (Plan.takeP 6 (Plan.takeP 7 (Plan.takeX 8 (Plan.takeP 10 (Plan.takeU 11 (Plan.run 9 (Plan.takeP 12 (Plan.takeP 13 Plan.done))))))))))))))), (4050, Note.keep [1, 2, 5, 6, 7, 8]), (16200, Note.plan (Plan.takeP 0 (Plan.takeU 1 (Plan.takeP 2 (Plan.takeP 3 (Plan.takeP 4 (Plan.takeX 5 (Plan.run 6 (Plan.takeP 7 (Plan.takeP 8 (Plan.run 9 Plan.done))))))))))), (32402, Note.plan (Plan.takeP 0 (Plan.takeU 1 (Plan.takeP 2 (Plan.takeU 3 (Plan.takeP 4 (Plan.takeP 5 (Plan.takeP 6 (Plan.takeP 7 (Plan.takeU 8 (Plan.takeP 9 (Plan.takeP 10 (Plan.takeP 11 (Plan.takeP 12 (Plan.takeU 13 (Plan.takeP 14 (Plan.takeP 15 (Plan.takeP 16 (Plan.takeP 17 (Plan.takeU 18 (Plan.run 19 (Plan.run 20 (Plan.run 21 (Plan.run 22 (Plan.takeP 23 (Plan.takeP 24 (Plan.takeP 25 (Plan.takeP 26 (Plan.takeP 27 Plan.done)))))))))))))))))))))))))))))]
def S30 (r_1 : Value) (k : Value → World → Prop) (w : World) : Prop :=
   opW Tryz.prog (Instr.box 27 r_1) (fun r_2 w =>
   opW Tryz.prog (Instr.alloc 27 true (Value.tuple #[])) (fun t2_3 w =>
   opW Tryz.prog (Instr.loadAt 27 r_2) (fun t11_5 w =>
   callW Tryz.prog (Value.func (Fn.func 16) #[] #[]) #[t11_5] (fun t12_6 w =>
   opW Tryz.prog (Op.unary UnOp.not t12_6) (fun t13_7 w =>
   condW t13_7
   (opW Tryz.prog (Instr.build 27 #[]) (fun t14_8 w =>
   opU Tryz.prog (Instr.storeAt 27 t2_3 t14_8) (fun _ w =>
   resCell Tryz.prog 27 t2_3 (fun r_9 => k (Value.tuple #[r_9, (Value.slice none 0 0), (Value.int IntKind.i64 250)]) w) w) w) w)
   (joinW (fun out_92 w =>
   opW Tryz.prog (Instr.loadAt 27 r_2) (fun t28_93 w =>
   callW Tryz.prog (Value.func (Fn.func 21) #[] #[]) #[t28_93] (fun t29_94 w =>
   Loop2 (fun done_96 i_97 w K_98 =>
   drewW w (fun w =>
   ∃ S : World → Prop, S w ∧
   takeW Tryz.prog anyW (Builtin.len_ #[24] 3 #[t29_94]) (fun t32_101 =>
   takeW Tryz.prog anyW (binS BinOp.lss 3 (Operand.tmp 30) (Operand.tmp 32) i_97 t32_101) (fun t33_102 =>
   guardT (some t33_102, true) (fun k => k t29_94) (fun t35_103 =>
   guardT (some t33_102, true) (fun k => k i_97) (fun t36_104 =>
   guardT (some t33_102, true) (fun k => takeW Tryz.prog anyW (Instr.indexAt 24 t35_103 t36_104) k w) (fun t37_105 =>
   guardT (some t33_102, true) (fun k => takeW Tryz.prog (sameW w) (Instr.loadAt 31 t37_105) k w) (fun t38_106 =>
   guardT (some t33_102, true) (fun k => takeW Tryz.prog anyW (Instr.fieldAt 27 out_92 1) k w) (fun t40_107 =>
   guardT (some t33_102, true) (fun k => takeW Tryz.prog S (Instr.loadAt 3 t40_107) k w) (fun t41_108 =>
   guardW (some t33_102, true) (fun k w => callW Tryz.prog (Value.func (Fn.func 26) #[] #[]) #[t38_106] k w) (fun t39_109 w => keepS S (fun w =>
   guardT (some t33_102, true) (fun k => takeW Tryz.prog anyW (binS BinOp.leq 3 (Operand.tmp 39) (Operand.tmp 41) t39_109 t41_108) k w) (fun t42_110 =>
   pickT t33_102 t42_110 (Value.bool false) (fun t43_111 =>
   condW t43_111
   (drewW w (fun w =>
   ∃ S : World → Prop, S w ∧
   takeW Tryz.prog anyW (Instr.fieldAt 27 out_92 1) (fun t46_114 =>
   takeW Tryz.prog S (Instr.loadAt 3 t46_114) (fun t47_115 =>
   takeW Tryz.prog anyW (Instr.indexAt 24 t29_94 i_97) (fun t50_116 =>
   takeW Tryz.prog (sameW w) (Instr.loadAt 31 t50_116) (fun t51_117 =>
   callW Tryz.prog (Value.func (Fn.func 26) #[] #[]) #[t51_117] (fun t52_118 w => keepS S (fun w =>
   takeW Tryz.prog anyW (binS BinOp.sub 3 (Operand.tmp 47) (Operand.tmp 52) t47_115 t52_118) (fun t53_119 =>
   takeW Tryz.prog anyW (Instr.fieldAt 27 out_92 1) (fun t54_120 =>
   opU Tryz.prog (Instr.storeAt 3 t54_120 t53_119) (fun _ w =>
   drewW w (fun w =>
   ∃ S : World → Prop, S w ∧
   takeW Tryz.prog anyW (Instr.fieldAt 27 out_92 3) (fun t56_122 =>
   takeW Tryz.prog S (Instr.loadAt 25 t56_122) (fun t57_123 =>
   takeW Tryz.prog anyW (Instr.fieldAt 27 r_2 0) (fun t58_124 =>
   takeW Tryz.prog S (Instr.loadAt 3 t58_124) (fun t59_125 =>
   takeW Tryz.prog anyW (Instr.indexAt 24 t29_94 i_97) (fun t62_126 =>
   takeW Tryz.prog anyW (Instr.fieldAt 31 t62_126 0) (fun t63_127 =>
   takeW Tryz.prog S (Instr.loadAt 3 t63_127) (fun t64_128 =>
   takeW Tryz.prog anyW (Instr.indexAt 24 t29_94 i_97) (fun t67_129 =>
   takeW Tryz.prog anyW (Instr.fieldAt 31 t67_129 1) (fun t68_130 =>
   takeW Tryz.prog S (Instr.loadAt 3 t68_130) (fun t69_131 =>
   takeW Tryz.prog anyW (Instr.indexAt 24 t29_94 i_97) (fun t72_132 =>
   takeW Tryz.prog anyW (Instr.fieldAt 31 t72_132 3) (fun t73_133 =>
   takeW Tryz.prog S (Instr.loadAt 9 t73_133) (fun t74_134 =>
   callW Tryz.prog (Value.func (Fn.func 61) #[] #[]) #[t74_134] (fun t75_135 w => keepS S (fun w =>
   opW Tryz.prog (Instr.build 63 #[(0, t59_125), (1, t64_128), (2, t69_131), (3, t75_135)]) (fun t76_136 w => keepS S (fun w =>
   opW Tryz.prog (Instr.buildSlice 25 1 #[(0, t76_136)]) (fun t77_137 w => keepS S (fun w =>
   callW Tryz.prog (Value.func (Fn.func 57) #[] #[]) #[t57_123, t77_137] (fun t78_138 w => keepS S (fun w =>
   takeW Tryz.prog anyW (Instr.extract t78_138 0) (fun t79_139 =>
   takeW Tryz.prog anyW (Instr.extract t78_138 1) (fun t80_140 =>
   opW Tryz.prog (Op.unary UnOp.not t80_140) (fun t82_142 w =>
   condW t82_142
   (opW Tryz.prog (Instr.build 27 #[]) (fun t83_143 w =>
   opU Tryz.prog (Instr.storeAt 27 t2_3 t83_143) (fun _ w =>
   resCell Tryz.prog 27 t2_3 (fun r_144 => k (Value.tuple #[r_144, (Value.slice none 0 0), (Value.int IntKind.i64 250)]) w) w) w) w)
   (opW Tryz.prog (Instr.fieldAt 27 out_92 3) (fun t85_145 w =>
   opU Tryz.prog (Instr.storeAt 25 t85_145 t79_139) (fun _ w =>
   opW Tryz.prog (Instr.indexAt 24 t29_94 i_97) (fun t89_146 w =>
   opW Tryz.prog (Instr.loadAt 31 t89_146) (fun t90_147 w =>
   opW Tryz.prog (Instr.buildSlice 24 1 #[(0, t90_147)]) (fun t91_148 w =>
   opW Tryz.prog (Builtin.append_ #[24, 24] 24 #[done_96, t91_148]) (fun t92_149 w =>
   opW Tryz.prog (binS BinOp.add 3 (Operand.tmp 44) (Operand.const (Value.int IntKind.i64 1)) i_97 (Value.int IntKind.i64 1)) (fun t45_150 w =>
   loopK [] [] [r_2, t2_3, out_92, t29_94] [r_2, t2_3, out_92, t29_94] (K_98 t92_149 t45_150 w)) w) w) w) w) w) w) w)) w) w) w) w) w) w) w) w) w) w) w) w) w) w) w) w) w) w) w) w) w) w) w) w)) w) w) w) w) w) w) w) w) w))
   (opW Tryz.prog (Instr.loadAt 27 out_92) (fun t93_152 w =>
   callW Tryz.prog (Value.func (Fn.func 16) #[] #[]) #[t93_152] (fun t94_153 w =>
   opW Tryz.prog (Op.unary UnOp.not t94_153) (fun t95_154 w =>
   condW t95_154
   (opW Tryz.prog (Instr.build 27 #[]) (fun t96_155 w =>
   opU Tryz.prog (Instr.storeAt 27 t2_3 t96_155) (fun _ w =>
   resCell Tryz.prog 27 t2_3 (fun r_156 => k (Value.tuple #[r_156, (Value.slice none 0 0), (Value.int IntKind.i64 250)]) w) w) w) w)
   (opW Tryz.prog (Instr.loadAt 27 out_92) (fun t97_157 w =>
   opU Tryz.prog (Instr.storeAt 27 t2_3 t97_157) (fun _ w =>
   resCell Tryz.prog 27 t2_3 (fun r_158 => k (Value.tuple #[r_158, done_96, (Value.int IntKind.i64 0)]) w) w) w) w)) w) w) w)))) w) w))))))) w) w)) (Value.slice none 0 0) (Value.int IntKind.i64 0) w) w) w) (fun J_10 =>
   drewW w (fun w =>
   ∃ S : World → Prop, S w ∧
   takeW Tryz.prog anyW (Instr.fieldAt 27 r_2 0) (fun t15_11 =>
   takeW Tryz.prog S (Instr.loadAt 3 t15_11) (fun t16_12 =>
   takeW Tryz.prog anyW (Instr.fieldAt 27 r_2 1) (fun t17_13 =>
   takeW Tryz.prog S (Instr.loadAt 3 t17_13) (fun t18_14 =>
   takeW Tryz.prog anyW (Instr.fieldAt 27 r_2 2) (fun t20_15 =>
   takeW Tryz.prog S (Instr.loadAt 24 t20_15) (fun t21_16 =>
   takeW Tryz.prog anyW (Instr.fieldAt 27 r_2 3) (fun t24_17 =>
   takeW Tryz.prog S (Instr.loadAt 25 t24_17) (fun t25_18 =>
   ((opW Tryz.prog (Instr.buildSlice 24 0 #[]) (fun t19_19 w => keepS S (fun w =>
   ((opW Tryz.prog (Builtin.append_ #[24, 24] 24 #[t19_19, t21_16]) (fun t22_20 w => keepS S (fun w =>
   (opW Tryz.prog (Instr.buildSlice 25 0 #[]) (fun t23_21 w => keepS S (fun w =>
   (opW Tryz.prog (Builtin.append_ #[25, 25] 25 #[t23_21, t25_18]) (fun t26_22 w => keepS S (fun w =>
   (opW Tryz.prog (Instr.build 27 #[(0, t16_12), (1, t18_14), (2, t22_20), (3, t26_22)]) (fun t27_23 w => keepS S (fun w =>
   opW Tryz.prog (Instr.alloc 27 true (Value.tuple #[])) (fun out_24 w => keepS S (fun w =>
   opU Tryz.prog (Instr.storeAt 27 out_24 t27_23) (fun _ w =>
   J_10 out_24 w) w) w) w) w) w) ∧ (opW Tryz.prog (Instr.alloc 27 true (Value.tuple #[])) (fun out_25 w => keepS S (fun w =>
   opW Tryz.prog (Instr.build 27 #[(0, t16_12), (1, t18_14), (2, t22_20), (3, t26_22)]) (fun t27_26 w => keepS S (fun w =>
   opU Tryz.prog (Instr.storeAt 27 out_25 t27_26) (fun _ w =>
   J_10 out_25 w) w) w) w) w) w)) w) w) ∧ (opW Tryz.prog (Instr.alloc 27 true (Value.tuple #[])) (fun out_27 w => keepS S (fun w =>
   opW Tryz.prog (Builtin.append_ #[25, 25] 25 #[t23_21, t25_18]) (fun t26_28 w => keepS S (fun w =>
   opW Tryz.prog (Instr.build 27 #[(0, t16_12), (1, t18_14), (2, t22_20), (3, t26_28)]) (fun t27_29 w => keepS S (fun w =>
   opU Tryz.prog (Instr.storeAt 27 out_27 t27_29) (fun _ w =>
   J_10 out_27 w) w) w) w) w) w) w) w)) w) w) ∧ (opW Tryz.prog (Instr.alloc 27 true (Value.tuple #[])) (fun out_30 w => keepS S (fun w =>
   opW Tryz.prog (Instr.buildSlice 25 0 #[]) (fun t23_31 w => keepS S (fun w =>
   opW Tryz.prog (Builtin.append_ #[25, 25] 25 #[t23_31, t25_18]) (fun t26_32 w => keepS S (fun w =>
   opW Tryz.prog (Instr.build 27 #[(0, t16_12), (1, t18_14), (2, t22_20), (3, t26_32)]) (fun t27_33 w => keepS S (fun w =>
   opU Tryz.prog (Instr.storeAt 27 out_30 t27_33) (fun _ w =>
   J_10 out_30 w) w) w) w) w) w) w) w) w) w)) w) w) ∧ (opW Tryz.prog (Instr.buildSlice 25 0 #[]) (fun t23_34 w => keepS S (fun w =>
   (opW Tryz.prog (Builtin.append_ #[24, 24] 24 #[t19_19, t21_16]) (fun t22_35 w => keepS S (fun w =>
   (opW Tryz.prog (Builtin.append_ #[25, 25] 25 #[t23_34, t25_18]) (fun t26_36 w => keepS S (fun w =>
   (opW Tryz.prog (Instr.build 27 #[(0, t16_12), (1, t18_14), (2, t22_35), (3, t26_36)]) (fun t27_37 w => keepS S (fun w =>
   opW Tryz.prog (Instr.alloc 27 true (Value.tuple #[])) (fun out_38 w => keepS S (fun w =>
   opU Tryz.prog (Instr.storeAt 27 out_38 t27_37) (fun _ w =>
   J_10 out_38 w) w) w) w) w) w) ∧ (opW Tryz.prog (Instr.alloc 27 true (Value.tuple #[])) (fun out_39 w => keepS S (fun w =>
   opW Tryz.prog (Instr.build 27 #[(0, t16_12), (1, t18_14), (2, t22_35), (3, t26_36)]) (fun t27_40 w => keepS S (fun w =>
   opU Tryz.prog (Instr.storeAt 27 out_39 t27_40) (fun _ w =>
   J_10 out_39 w) w) w) w) w) w)) w) w) ∧ (opW Tryz.prog (Instr.alloc 27 true (Value.tuple #[])) (fun out_41 w => keepS S (fun w =>
   opW Tryz.prog (Builtin.append_ #[25, 25] 25 #[t23_34, t25_18]) (fun t26_42 w => keepS S (fun w =>
   opW Tryz.prog (Instr.build 27 #[(0, t16_12), (1, t18_14), (2, t22_35), (3, t26_42)]) (fun t27_43 w => keepS S (fun w =>
   opU Tryz.prog (Instr.storeAt 27 out_41 t27_43) (fun _ w =>
   J_10 out_41 w) w) w) w) w) w) w) w)) w) w) ∧ (opW Tryz.prog (Instr.alloc 27 true (Value.tuple #[])) (fun out_44 w => keepS S (fun w =>
   opW Tryz.prog (Builtin.append_ #[24, 24] 24 #[t19_19, t21_16]) (fun t22_45 w => keepS S (fun w =>
   opW Tryz.prog (Builtin.append_ #[25, 25] 25 #[t23_34, t25_18]) (fun t26_46 w => keepS S (fun w =>
   opW Tryz.prog (Instr.build 27 #[(0, t16_12), (1, t18_14), (2, t22_45), (3, t26_46)]) (fun t27_47 w => keepS S (fun w =>
   opU Tryz.prog (Instr.storeAt 27 out_44 t27_47) (fun _ w =>
   J_10 out_44 w) w) w) w) w) w) w) w) w) w)) w) w)) ∧ (opW Tryz.prog (Instr.alloc 27 true (Value.tuple #[])) (fun out_48 w => keepS S (fun w =>
   (opW Tryz.prog (Builtin.append_ #[24, 24] 24 #[t19_19, t21_16]) (fun t22_49 w => keepS S (fun w =>
   opW Tryz.prog (Instr.buildSlice 25 0 #[]) (fun t23_50 w => keepS S (fun w =>
   opW Tryz.prog (Builtin.append_ #[25, 25] 25 #[t23_50, t25_18]) (fun t26_51 w => keepS S (fun w =>
   opW Tryz.prog (Instr.build 27 #[(0, t16_12), (1, t18_14), (2, t22_49), (3, t26_51)]) (fun t27_52 w => keepS S (fun w =>
   opU Tryz.prog (Instr.storeAt 27 out_48 t27_52) (fun _ w =>
   J_10 out_48 w) w) w) w) w) w) w) w) w) w) ∧ (opW Tryz.prog (Instr.buildSlice 25 0 #[]) (fun t23_53 w => keepS S (fun w =>
   opW Tryz.prog (Builtin.append_ #[24, 24] 24 #[t19_19, t21_16]) (fun t22_54 w => keepS S (fun w =>
   opW Tryz.prog (Builtin.append_ #[25, 25] 25 #[t23_53, t25_18]) (fun t26_55 w => keepS S (fun w =>
   opW Tryz.prog (Instr.build 27 #[(0, t16_12), (1, t18_14), (2, t22_54), (3, t26_55)]) (fun t27_56 w => keepS S (fun w =>
   opU Tryz.prog (Instr.storeAt 27 out_48 t27_56) (fun _ w =>
   J_10 out_48 w) w) w) w) w) w) w) w) w) w)) w) w)) w) w) ∧ (opW Tryz.prog (Instr.buildSlice 25 0 #[]) (fun t23_57 w => keepS S (fun w =>
   (opW Tryz.prog (Instr.buildSlice 24 0 #[]) (fun t19_58 w => keepS S (fun w =>
   (opW Tryz.prog (Builtin.append_ #[24, 24] 24 #[t19_58, t21_16]) (fun t22_59 w => keepS S (fun w =>
   (opW Tryz.prog (Builtin.append_ #[25, 25] 25 #[t23_57, t25_18]) (fun t26_60 w => keepS S (fun w =>
   (opW Tryz.prog (Instr.build 27 #[(0, t16_12), (1, t18_14), (2, t22_59), (3, t26_60)]) (fun t27_61 w => keepS S (fun w =>
   opW Tryz.prog (Instr.alloc 27 true (Value.tuple #[])) (fun out_62 w => keepS S (fun w =>
   opU Tryz.prog (Instr.storeAt 27 out_62 t27_61) (fun _ w =>
   J_10 out_62 w) w) w) w) w) w) ∧ (opW Tryz.prog (Instr.alloc 27 true (Value.tuple #[])) (fun out_63 w => keepS S (fun w =>
   opW Tryz.prog (Instr.build 27 #[(0, t16_12), (1, t18_14), (2, t22_59), (3, t26_60)]) (fun t27_64 w => keepS S (fun w =>
   opU Tryz.prog (Instr.storeAt 27 out_63 t27_64) (fun _ w =>
   J_10 out_63 w) w) w) w) w) w)) w) w) ∧ (opW Tryz.prog (Instr.alloc 27 true (Value.tuple #[])) (fun out_65 w => keepS S (fun w =>
   opW Tryz.prog (Builtin.append_ #[25, 25] 25 #[t23_57, t25_18]) (fun t26_66 w => keepS S (fun w =>
   opW Tryz.prog (Instr.build 27 #[(0, t16_12), (1, t18_14), (2, t22_59), (3, t26_66)]) (fun t27_67 w => keepS S (fun w =>
   opU Tryz.prog (Instr.storeAt 27 out_65 t27_67) (fun _ w =>
   J_10 out_65 w) w) w) w) w) w) w) w)) w) w) ∧ (opW Tryz.prog (Instr.alloc 27 true (Value.tuple #[])) (fun out_68 w => keepS S (fun w =>
   opW Tryz.prog (Builtin.append_ #[24, 24] 24 #[t19_58, t21_16]) (fun t22_69 w => keepS S (fun w =>
   opW Tryz.prog (Builtin.append_ #[25, 25] 25 #[t23_57, t25_18]) (fun t26_70 w => keepS S (fun w =>
   opW Tryz.prog (Instr.build 27 #[(0, t16_12), (1, t18_14), (2, t22_69), (3, t26_70)]) (fun t27_71 w => keepS S (fun w =>
   opU Tryz.prog (Instr.storeAt 27 out_68 t27_71) (fun _ w =>
   J_10 out_68 w) w) w) w) w) w) w) w) w) w)) w) w) ∧ (opW Tryz.prog (Instr.alloc 27 true (Value.tuple #[])) (fun out_72 w => keepS S (fun w =>
   opW Tryz.prog (Instr.buildSlice 24 0 #[]) (fun t19_73 w => keepS S (fun w =>
   opW Tryz.prog (Builtin.append_ #[24, 24] 24 #[t19_73, t21_16]) (fun t22_74 w => keepS S (fun w =>
   opW Tryz.prog (Builtin.append_ #[25, 25] 25 #[t23_57, t25_18]) (fun t26_75 w => keepS S (fun w =>
   opW Tryz.prog (Instr.build 27 #[(0, t16_12), (1, t18_14), (2, t22_74), (3, t26_75)]) (fun t27_76 w => keepS S (fun w =>
   opU Tryz.prog (Instr.storeAt 27 out_72 t27_76) (fun _ w =>
   J_10 out_72 w) w) w) w) w) w) w) w) w) w) w) w)) w) w)) ∧ (opW Tryz.prog (Instr.alloc 27 true (Value.tuple #[])) (fun out_77 w => keepS S (fun w =>
   (opW Tryz.prog (Instr.buildSlice 24 0 #[]) (fun t19_78 w => keepS S (fun w =>
   (opW Tryz.prog (Builtin.append_ #[24, 24] 24 #[t19_78, t21_16]) (fun t22_79 w => keepS S (fun w =>
   opW Tryz.prog (Instr.buildSlice 25 0 #[]) (fun t23_80 w => keepS S (fun w =>
   opW Tryz.prog (Builtin.append_ #[25, 25] 25 #[t23_80, t25_18]) (fun t26_81 w => keepS S (fun w =>
   opW Tryz.prog (Instr.build 27 #[(0, t16_12), (1, t18_14), (2, t22_79), (3, t26_81)]) (fun t27_82 w => keepS S (fun w =>
   opU Tryz.prog (Instr.storeAt 27 out_77 t27_82) (fun _ w =>
   J_10 out_77 w) w) w) w) w) w) w) w) w) w) ∧ (opW Tryz.prog (Instr.buildSlice 25 0 #[]) (fun t23_83 w => keepS S (fun w =>
   opW Tryz.prog (Builtin.append_ #[24, 24] 24 #[t19_78, t21_16]) (fun t22_84 w => keepS S (fun w =>
   opW Tryz.prog (Builtin.append_ #[25, 25] 25 #[t23_83, t25_18]) (fun t26_85 w => keepS S (fun w =>
   opW Tryz.prog (Instr.build 27 #[(0, t16_12), (1, t18_14), (2, t22_84), (3, t26_85)]) (fun t27_86 w => keepS S (fun w =>
   opU Tryz.prog (Instr.storeAt 27 out_77 t27_86) (fun _ w =>
   J_10 out_77 w) w) w) w) w) w) w) w) w) w)) w) w) ∧ (opW Tryz.prog (Instr.buildSlice 25 0 #[]) (fun t23_87 w => keepS S (fun w =>
   opW Tryz.prog (Instr.buildSlice 24 0 #[]) (fun t19_88 w => keepS S (fun w =>
   opW Tryz.prog (Builtin.append_ #[24, 24] 24 #[t19_88, t21_16]) (fun t22_89 w => keepS S (fun w =>
   opW Tryz.prog (Builtin.append_ #[25, 25] 25 #[t23_87, t25_18]) (fun t26_90 w => keepS S (fun w =>
   opW Tryz.prog (Instr.build 27 #[(0, t16_12), (1, t18_14), (2, t22_89), (3, t26_90)]) (fun t27_91 w => keepS S (fun w =>
   opU Tryz.prog (Instr.storeAt 27 out_77 t27_91) (fun _ w =>
   J_10 out_77 w) w) w) w) w) w) w) w) w) w) w) w)) w) w)) w) w) w) w) w) w) w) w)))) w) w) w) w) w
theorem S30_vc (r_1 : Value) (k : Value → World → Prop) (w : World) : vc Tryz.prog Tryz.f30.ntmps ann30 none ((Tryz.f30.body).getD Code.skip) 1 (params 0 [r_1]) [] (finQ Tryz.prog Tryz.f30.results.toList k) w = S30 r_1 k w := by kernel_rfl
theorem S30_calls (r_1 : Value) (k : Value → World → Prop) (w : World) (h : S30 r_1 k w) : Calls Tryz.prog 30 #[r_1] w (retP k) :=
  calls_of_vc (fn := Tryz.f30) (c := (Tryz.f30.body).getD Code.skip) ann30 Tryz.func30 (by kernel_rfl) [r_1] w k (by kernel_rfl) ((S30_vc r_1 k w).symm ▸ h)
theorem C30 (r_1 : Value) (k : Value → World → Prop) (w : World) (h : S30 r_1 k w) : callW Tryz.prog (.func (.func 30) #[] #[]) #[r_1] k w :=
  callW_calls ok30 (by simpa using S30_calls r_1 k w h)

/-! newswire/relay.Tell -/
def ann31 : Ann := [(14, Note.plan (Plan.takeP 0 (Plan.takeU 1 (Plan.takeP 2 (Plan.takeU 3 (Plan.takeP 5 (Plan.takeU 6 (Plan.run 4 (Plan.run 7 (Plan.run 8 (Plan.run 9 (Plan.takeP 10 Plan.done))))))))))))]
def S31 (r_1 : Value) (k : Value → World → Prop) (w : World) : Prop :=
   opW Tryz.prog (Instr.box 27 r_1) (fun r_2 w =>
   opW Tryz.prog (Instr.alloc 29 true (Value.tuple #[])) (fun t2_3 w =>
   opW Tryz.prog (Instr.loadAt 27 r_2) (fun t4_5 w =>
   callW Tryz.prog (Value.func (Fn.func 15) #[] #[]) #[t4_5] (fun t5_6 w =>
   opW Tryz.prog (Op.unary UnOp.not t5_6) (fun t6_7 w =>
   condW t6_7
   (opW Tryz.prog (Instr.build 29 #[]) (fun t7_8 w =>
   opU Tryz.prog (Instr.storeAt 29 t2_3 t7_8) (fun _ w =>
   resCell Tryz.prog 29 t2_3 (fun r_9 => k (Value.tuple #[r_9, (Value.int IntKind.i64 250)]) w) w) w) w)
   (drewW w (fun w =>
   ∃ S : World → Prop, S w ∧
   takeW Tryz.prog anyW (Instr.fieldAt 27 r_2 0) (fun t8_11 =>
   takeW Tryz.prog S (Instr.loadAt 3 t8_11) (fun t9_12 =>
   takeW Tryz.prog anyW (Instr.fieldAt 27 r_2 2) (fun t10_13 =>
   takeW Tryz.prog S (Instr.loadAt 24 t10_13) (fun t11_14 =>
   takeW Tryz.prog anyW (Instr.fieldAt 27 r_2 3) (fun t13_15 =>
   takeW Tryz.prog S (Instr.loadAt 25 t13_15) (fun t14_16 =>
   callW Tryz.prog (Value.func (Fn.func 60) #[] #[]) #[t11_14] (fun t12_17 w => keepS S (fun w =>
   callW Tryz.prog (Value.func (Fn.func 62) #[] #[]) #[t14_16] (fun t15_18 w => keepS S (fun w =>
   opW Tryz.prog (Instr.build 29 #[(0, t9_12), (1, t12_17), (2, t15_18)]) (fun t16_19 w => keepS S (fun w =>
   opU Tryz.prog (Instr.storeAt 29 t2_3 t16_19) (fun _ w =>
   resCell Tryz.prog 29 t2_3 (fun r_20 => k (Value.tuple #[r_20, (Value.int IntKind.i64 0)]) w) w) w) w) w) w) w) w) w) w) w) w) w) w) w))) w) w) w) w) w
theorem S31_vc (r_1 : Value) (k : Value → World → Prop) (w : World) : vc Tryz.prog Tryz.f31.ntmps ann31 none ((Tryz.f31.body).getD Code.skip) 1 (params 0 [r_1]) [] (finQ Tryz.prog Tryz.f31.results.toList k) w = S31 r_1 k w := by kernel_rfl
theorem S31_calls (r_1 : Value) (k : Value → World → Prop) (w : World) (h : S31 r_1 k w) : Calls Tryz.prog 31 #[r_1] w (retP k) :=
  calls_of_vc (fn := Tryz.f31) (c := (Tryz.f31.body).getD Code.skip) ann31 Tryz.func31 (by kernel_rfl) [r_1] w k (by kernel_rfl) ((S31_vc r_1 k w).symm ▸ h)
theorem C31 (r_1 : Value) (k : Value → World → Prop) (w : World) (h : S31 r_1 k w) : callW Tryz.prog (.func (.func 31) #[] #[]) #[r_1] k w :=
  callW_calls ok31 (by simpa using S31_calls r_1 k w h)

/-! newswire/newswirelaw25.pick -/
def ann33 : Ann := []
def S33 (c_1 n_2 : Value) (k : Value → World → Prop) (w : World) : Prop :=
   joinW (fun c_7 w =>
   opW Tryz.prog (binS BinOp.rem 3 (Operand.tmp 10) (Operand.tmp 11) c_7 n_2) (fun t12_8 w =>
   k t12_8 w) w) (fun J_3 =>
   opW Tryz.prog (binS BinOp.lss 3 (Operand.tmp 5) (Operand.const (Value.int IntKind.i64 0)) c_1 (Value.int IntKind.i64 0)) (fun t6_4 w =>
   condW t6_4
   (opW Tryz.prog (binS BinOp.add 3 (Operand.tmp 7) (Operand.const (Value.int IntKind.i64 1)) c_1 (Value.int IntKind.i64 1)) (fun t8_5 w =>
   opW Tryz.prog (Op.unary UnOp.neg t8_5) (fun t9_6 w =>
   J_3 t9_6 w) w) w)
   (J_3 c_1 w)) w)
theorem S33_vc (c_1 n_2 : Value) (k : Value → World → Prop) (w : World) : vc Tryz.prog Tryz.f33.ntmps ann33 none ((Tryz.f33.body).getD Code.skip) 1 (params 0 [c_1, n_2]) [] (finQ Tryz.prog Tryz.f33.results.toList k) w = S33 c_1 n_2 k w := by kernel_rfl
theorem S33_calls (c_1 n_2 : Value) (k : Value → World → Prop) (w : World) (h : S33 c_1 n_2 k w) : Calls Tryz.prog 33 #[c_1, n_2] w (retP k) :=
  calls_of_vc (fn := Tryz.f33) (c := (Tryz.f33.body).getD Code.skip) ann33 Tryz.func33 (by kernel_rfl) [c_1, n_2] w k (by kernel_rfl) ((S33_vc c_1 n_2 k w).symm ▸ h)
theorem C33 (c_1 n_2 : Value) (k : Value → World → Prop) (w : World) (h : S33 c_1 n_2 k w) : callW Tryz.prog (.func (.func 33) #[] #[]) #[c_1, n_2] k w :=
  callW_calls ok33 (by simpa using S33_calls c_1 n_2 k w h)

/-! newswire/relay.Refill -/
def ann34 : Ann := [(14, Note.plan (Plan.takeP 0 (Plan.takeU 1 (Plan.takeP 3 (Plan.takeU 4 (Plan.takeP 6 (Plan.takeU 7 (Plan.takeP 8 (Plan.takeP 9 (Plan.run 2 (Plan.takeP 10 (Plan.run 5 (Plan.run 11 (Plan.takeP 12 (Plan.run 13 (Plan.takeP 14 (Plan.run 15 Plan.done)))))))))))))))))]
def S34 (r_1 pages_2 : Value) (k : Value → World → Prop) (w : World) : Prop :=
   opW Tryz.prog (Instr.box 27 r_1) (fun r_3 w =>
   opW Tryz.prog (Instr.alloc 27 true (Value.tuple #[])) (fun t4_4 w =>
   opW Tryz.prog (Instr.loadAt 27 r_3) (fun t6_6 w =>
   callW Tryz.prog (Value.func (Fn.func 15) #[] #[]) #[t6_6] (fun t7_7 w =>
   opW Tryz.prog (Op.unary UnOp.not t7_7) (fun t8_8 w =>
   guardW (some t8_8, false) (fun k w => k pages_2 w) (fun t10_9 w =>
   guardW (some t8_8, false) (fun k w => opW Tryz.prog (Instr.fieldAt 27 r_3 1) k w) (fun t11_10 w =>
   guardW (some t8_8, false) (fun k w => opW Tryz.prog (Instr.loadAt 3 t11_10) k w) (fun t12_11 w =>
   guardW (some t8_8, false) (fun k w => opW Tryz.prog (binS BinOp.sub 3 (Operand.const (Value.int IntKind.i64 10000)) (Operand.tmp 12) (Value.int IntKind.i64 10000) t12_11) k w) (fun t13_12 w =>
   guardW (some t8_8, false) (fun k w => callW Tryz.prog (Value.func (Fn.func 43) #[] #[]) #[t10_9, (Value.int IntKind.i64 0), t13_12] k w) (fun t14_13 w =>
   guardW (some t8_8, false) (fun k w => opW Tryz.prog (Op.unary UnOp.not t14_13) k w) (fun t15_14 w =>
   pickW t8_8 (Value.bool true) t15_14 (fun t16_15 w =>
   condW t16_15
   (opW Tryz.prog (Instr.build 27 #[]) (fun t17_16 w =>
   opU Tryz.prog (Instr.storeAt 27 t4_4 t17_16) (fun _ w =>
   resCell Tryz.prog 27 t4_4 (fun r_17 => k (Value.tuple #[r_17, (Value.int IntKind.i64 250)]) w) w) w) w)
   (drewW w (fun w =>
   ∃ S : World → Prop, S w ∧
   takeW Tryz.prog anyW (Instr.fieldAt 27 r_3 2) (fun t18_19 =>
   takeW Tryz.prog S (Instr.loadAt 24 t18_19) (fun t19_20 =>
   takeW Tryz.prog anyW (Instr.fieldAt 27 r_3 3) (fun t21_21 =>
   takeW Tryz.prog S (Instr.loadAt 25 t21_21) (fun t22_22 =>
   takeW Tryz.prog anyW (Instr.fieldAt 27 r_3 1) (fun t24_23 =>
   takeW Tryz.prog S (Instr.loadAt 3 t24_23) (fun t25_24 =>
   takeW Tryz.prog anyW (binS BinOp.add 3 (Operand.tmp 25) (Operand.tmp 26) t25_24 pages_2) (fun t27_25 =>
   callW Tryz.prog (Value.func (Fn.func 60) #[] #[]) #[t19_20] (fun t20_26 w => keepS S (fun w =>
   takeW Tryz.prog anyW (Instr.fieldAt 27 r_3 2) (fun t28_27 =>
   callW Tryz.prog (Value.func (Fn.func 62) #[] #[]) #[t22_22] (fun t23_28 w => keepS S (fun w =>
   opU Tryz.prog (Instr.storeAt 24 t28_27 t20_26) (fun _ w =>
   takeW Tryz.prog anyW (Instr.fieldAt 27 r_3 3) (fun t29_29 =>
   opU Tryz.prog (Instr.storeAt 25 t29_29 t23_28) (fun _ w =>
   takeW Tryz.prog anyW (Instr.fieldAt 27 r_3 1) (fun t30_30 =>
   opU Tryz.prog (Instr.storeAt 3 t30_30 t27_25) (fun _ w =>
   opW Tryz.prog (Instr.loadAt 27 r_3) (fun t31_31 w =>
   opU Tryz.prog (Instr.storeAt 27 t4_4 t31_31) (fun _ w =>
   resCell Tryz.prog 27 t4_4 (fun r_32 => k (Value.tuple #[r_32, (Value.int IntKind.i64 0)]) w) w) w) w) w) w) w) w) w) w) w) w) w) w) w) w) w) w) w) w) w))) w) w) w) w) w) w) w) w) w) w) w) w
theorem S34_vc (r_1 pages_2 : Value) (k : Value → World → Prop) (w : World) : vc Tryz.prog Tryz.f34.ntmps ann34 none ((Tryz.f34.body).getD Code.skip) 1 (params 0 [r_1, pages_2]) [] (finQ Tryz.prog Tryz.f34.results.toList k) w = S34 r_1 pages_2 k w := by kernel_rfl
theorem S34_calls (r_1 pages_2 : Value) (k : Value → World → Prop) (w : World) (h : S34 r_1 pages_2 k w) : Calls Tryz.prog 34 #[r_1, pages_2] w (retP k) :=
  calls_of_vc (fn := Tryz.f34) (c := (Tryz.f34.body).getD Code.skip) ann34 Tryz.func34 (by kernel_rfl) [r_1, pages_2] w k (by kernel_rfl) ((S34_vc r_1 pages_2 k w).symm ▸ h)
theorem C34 (r_1 pages_2 : Value) (k : Value → World → Prop) (w : World) (h : S34 r_1 pages_2 k w) : callW Tryz.prog (.func (.func 34) #[] #[]) #[r_1, pages_2] k w :=
  callW_calls ok34 (by simpa using S34_calls r_1 pages_2 k w h)

/-! newswire/newswireref25.Refill -/
def ann35 : Ann := [(14, Note.plan (Plan.takeP 0 (Plan.takeU 1 (Plan.takeP 2 (Plan.takeU 3 (Plan.takeP 4 (Plan.takeP 5 (Plan.takeP 7 (Plan.takeU 8 (Plan.takeP 11 (Plan.takeU 12 (Plan.alt (Plan.run 6 (Plan.alt (Plan.run 9 (Plan.run 10 (Plan.run 13 (Plan.run 14 (Plan.run 15 (Plan.takeP 16 Plan.done)))))) (Plan.run 10 (Plan.run 9 (Plan.run 13 (Plan.run 14 (Plan.run 15 (Plan.takeP 16 Plan.done)))))))) (Plan.run 10 (Plan.run 6 (Plan.run 9 (Plan.run 13 (Plan.run 14 (Plan.run 15 (Plan.takeP 16 Plan.done)))))))))))))))))))]
def S35 (r_1 pages_2 : Value) (k : Value → World → Prop) (w : World) : Prop :=
   opW Tryz.prog (Instr.box 27 r_1) (fun r_3 w =>
   opW Tryz.prog (Instr.alloc 27 true (Value.tuple #[])) (fun t4_4 w =>
   opW Tryz.prog (Instr.loadAt 27 r_3) (fun t6_6 w =>
   callW Tryz.prog (Value.func (Fn.func 16) #[] #[]) #[t6_6] (fun t7_7 w =>
   opW Tryz.prog (Op.unary UnOp.not t7_7) (fun t8_8 w =>
   guardW (some t8_8, false) (fun k w => k pages_2 w) (fun t10_9 w =>
   guardW (some t8_8, false) (fun k w => opW Tryz.prog (Instr.fieldAt 27 r_3 1) k w) (fun t11_10 w =>
   guardW (some t8_8, false) (fun k w => opW Tryz.prog (Instr.loadAt 3 t11_10) k w) (fun t12_11 w =>
   guardW (some t8_8, false) (fun k w => opW Tryz.prog (binS BinOp.sub 3 (Operand.const (Value.int IntKind.i64 10000)) (Operand.tmp 12) (Value.int IntKind.i64 10000) t12_11) k w) (fun t13_12 w =>
   guardW (some t8_8, false) (fun k w => callW Tryz.prog (Value.func (Fn.func 45) #[] #[]) #[t10_9, (Value.int IntKind.i64 0), t13_12] k w) (fun t14_13 w =>
   guardW (some t8_8, false) (fun k w => opW Tryz.prog (Op.unary UnOp.not t14_13) k w) (fun t15_14 w =>
   pickW t8_8 (Value.bool true) t15_14 (fun t16_15 w =>
   condW t16_15
   (opW Tryz.prog (Instr.build 27 #[]) (fun t17_16 w =>
   opU Tryz.prog (Instr.storeAt 27 t4_4 t17_16) (fun _ w =>
   resCell Tryz.prog 27 t4_4 (fun r_17 => k (Value.tuple #[r_17, (Value.int IntKind.i64 250)]) w) w) w) w)
   (joinW (fun w =>
   resCell Tryz.prog 27 t4_4 (fun r_42 => k (Value.tuple #[r_42, (Value.int IntKind.i64 0)]) w) w) (fun J_18 =>
   drewW w (fun w =>
   ∃ S : World → Prop, S w ∧
   takeW Tryz.prog anyW (Instr.fieldAt 27 r_3 0) (fun t18_19 =>
   takeW Tryz.prog S (Instr.loadAt 3 t18_19) (fun t19_20 =>
   takeW Tryz.prog anyW (Instr.fieldAt 27 r_3 1) (fun t20_21 =>
   takeW Tryz.prog S (Instr.loadAt 3 t20_21) (fun t21_22 =>
   takeW Tryz.prog anyW (binS BinOp.add 3 (Operand.tmp 21) (Operand.tmp 22) t21_22 pages_2) (fun t23_23 =>
   takeW Tryz.prog anyW (Instr.fieldAt 27 r_3 2) (fun t25_24 =>
   takeW Tryz.prog S (Instr.loadAt 24 t25_24) (fun t26_25 =>
   takeW Tryz.prog anyW (Instr.fieldAt 27 r_3 3) (fun t29_26 =>
   takeW Tryz.prog S (Instr.loadAt 25 t29_26) (fun t30_27 =>
   (opW Tryz.prog (Instr.buildSlice 24 0 #[]) (fun t24_28 w => keepS S (fun w =>
   (opW Tryz.prog (Builtin.append_ #[24, 24] 24 #[t24_28, t26_25]) (fun t27_29 w => keepS S (fun w =>
   opW Tryz.prog (Instr.buildSlice 25 0 #[]) (fun t28_30 w => keepS S (fun w =>
   opW Tryz.prog (Builtin.append_ #[25, 25] 25 #[t28_30, t30_27]) (fun t31_31 w => keepS S (fun w =>
   opW Tryz.prog (Instr.build 27 #[(0, t19_20), (1, t23_23), (2, t27_29), (3, t31_31)]) (fun t32_32 w => keepS S (fun w =>
   opU Tryz.prog (Instr.storeAt 27 t4_4 t32_32) (fun _ w =>
   J_18 w) w) w) w) w) w) w) w) w) w) ∧ (opW Tryz.prog (Instr.buildSlice 25 0 #[]) (fun t28_33 w => keepS S (fun w =>
   opW Tryz.prog (Builtin.append_ #[24, 24] 24 #[t24_28, t26_25]) (fun t27_34 w => keepS S (fun w =>
   opW Tryz.prog (Builtin.append_ #[25, 25] 25 #[t28_33, t30_27]) (fun t31_35 w => keepS S (fun w =>
   opW Tryz.prog (Instr.build 27 #[(0, t19_20), (1, t23_23), (2, t27_34), (3, t31_35)]) (fun t32_36 w => keepS S (fun w =>
   opU Tryz.prog (Instr.storeAt 27 t4_4 t32_36) (fun _ w =>
   J_18 w) w) w) w) w) w) w) w) w) w)) w) w) ∧ (opW Tryz.prog (Instr.buildSlice 25 0 #[]) (fun t28_37 w => keepS S (fun w =>
   opW Tryz.prog (Instr.buildSlice 24 0 #[]) (fun t24_38 w => keepS S (fun w =>
   opW Tryz.prog (Builtin.append_ #[24, 24] 24 #[t24_38, t26_25]) (fun t27_39 w => keepS S (fun w =>
   opW Tryz.prog (Builtin.append_ #[25, 25] 25 #[t28_37, t30_27]) (fun t31_40 w => keepS S (fun w =>
   opW Tryz.prog (Instr.build 27 #[(0, t19_20), (1, t23_23), (2, t27_39), (3, t31_40)]) (fun t32_41 w => keepS S (fun w =>
   opU Tryz.prog (Instr.storeAt 27 t4_4 t32_41) (fun _ w =>
   J_18 w) w) w) w) w) w) w) w) w) w) w) w)) w) w) w) w) w) w) w) w) w)))) w) w) w) w) w) w) w) w) w) w) w) w
theorem S35_vc (r_1 pages_2 : Value) (k : Value → World → Prop) (w : World) : vc Tryz.prog Tryz.f35.ntmps ann35 none ((Tryz.f35.body).getD Code.skip) 1 (params 0 [r_1, pages_2]) [] (finQ Tryz.prog Tryz.f35.results.toList k) w = S35 r_1 pages_2 k w := by kernel_rfl
theorem S35_calls (r_1 pages_2 : Value) (k : Value → World → Prop) (w : World) (h : S35 r_1 pages_2 k w) : Calls Tryz.prog 35 #[r_1, pages_2] w (retP k) :=
  calls_of_vc (fn := Tryz.f35) (c := (Tryz.f35.body).getD Code.skip) ann35 Tryz.func35 (by kernel_rfl) [r_1, pages_2] w k (by kernel_rfl) ((S35_vc r_1 pages_2 k w).symm ▸ h)
theorem C35 (r_1 pages_2 : Value) (k : Value → World → Prop) (w : World) (h : S35 r_1 pages_2 k w) : callW Tryz.prog (.func (.func 35) #[] #[]) #[r_1, pages_2] k w :=
  callW_calls ok35 (by simpa using S35_calls r_1 pages_2 k w h)

/-! newswire/relay.New -/
def ann36 : Ann := []
def S36 (id_1 paper_2 : Value) (k : Value → World → Prop) (w : World) : Prop :=
   opW Tryz.prog (Instr.alloc 27 true (Value.tuple #[])) (fun t4_3 w =>
   opW Tryz.prog (Instr.build 27 #[(0, id_1), (1, paper_2)]) (fun t8_4 w =>
   callW Tryz.prog (Value.func (Fn.func 63) #[] #[]) #[t8_4] (fun t9_5 w =>
   opW Tryz.prog (Instr.extract t9_5 0) (fun t10_6 w =>
   opW Tryz.prog (Instr.extract t9_5 1) (fun t11_7 w =>
   opU Tryz.prog (Instr.storeAt 27 t4_3 t10_6) (fun _ w =>
   resCell Tryz.prog 27 t4_3 (fun r_8 => k (Value.tuple #[r_8, t11_7]) w) w) w) w) w) w) w) w
theorem S36_vc (id_1 paper_2 : Value) (k : Value → World → Prop) (w : World) : vc Tryz.prog Tryz.f36.ntmps ann36 none ((Tryz.f36.body).getD Code.skip) 1 (params 0 [id_1, paper_2]) [] (finQ Tryz.prog Tryz.f36.results.toList k) w = S36 id_1 paper_2 k w := by kernel_rfl
theorem S36_calls (id_1 paper_2 : Value) (k : Value → World → Prop) (w : World) (h : S36 id_1 paper_2 k w) : Calls Tryz.prog 36 #[id_1, paper_2] w (retP k) :=
  calls_of_vc (fn := Tryz.f36) (c := (Tryz.f36.body).getD Code.skip) ann36 Tryz.func36 (by kernel_rfl) [id_1, paper_2] w k (by kernel_rfl) ((S36_vc id_1 paper_2 k w).symm ▸ h)
theorem C36 (id_1 paper_2 : Value) (k : Value → World → Prop) (w : World) (h : S36 id_1 paper_2 k w) : callW Tryz.prog (.func (.func 36) #[] #[]) #[id_1, paper_2] k w :=
  callW_calls ok36 (by simpa using S36_calls id_1 paper_2 k w h)

/-! newswire/newswirelaw25.edition -/
def ann39 : Ann := [(13, Note.keep []), (26, Note.loop [5] [1, 2]), (210, Note.keep [1, 2, 5])]
def S39 (r_1 story_2 : Value) (k : Value → World → Prop) (w : World) : Prop :=
   opW Tryz.prog (Instr.box 27 r_1) (fun r_3 w =>
   Loop1 (fun i_5 w K_6 =>
   opW Tryz.prog (Instr.fieldAt 27 r_3 2) (fun t7_8 w =>
   opW Tryz.prog (Instr.loadAt 24 t7_8) (fun t8_9 w =>
   opW Tryz.prog (Builtin.len_ #[24] 3 #[t8_9]) (fun t9_10 w =>
   opW Tryz.prog (binS BinOp.lss 3 (Operand.tmp 6) (Operand.tmp 9) i_5 t9_10) (fun t10_11 w =>
   condW t10_11
   (opW Tryz.prog (Instr.fieldAt 27 r_3 2) (fun t13_13 w =>
   opW Tryz.prog (Instr.loadAt 24 t13_13) (fun t14_14 w =>
   opW Tryz.prog (Instr.indexAt 24 t14_14 i_5) (fun t16_15 w =>
   opW Tryz.prog (Instr.fieldAt 31 t16_15 0) (fun t17_16 w =>
   opW Tryz.prog (Instr.loadAt 3 t17_16) (fun t18_17 w =>
   opW Tryz.prog (binS BinOp.eql 3 (Operand.tmp 18) (Operand.tmp 19) t18_17 story_2) (fun t20_18 w =>
   condW t20_18
   (opW Tryz.prog (Instr.fieldAt 27 r_3 2) (fun t21_19 w =>
   opW Tryz.prog (Instr.loadAt 24 t21_19) (fun t22_20 w =>
   opW Tryz.prog (Instr.indexAt 24 t22_20 i_5) (fun t24_21 w =>
   opW Tryz.prog (Instr.fieldAt 31 t24_21 1) (fun t25_22 w =>
   opW Tryz.prog (Instr.loadAt 3 t25_22) (fun t26_23 w =>
   k t26_23 w) w) w) w) w) w)
   (opW Tryz.prog (binS BinOp.add 3 (Operand.tmp 11) (Operand.const (Value.int IntKind.i64 1)) i_5 (Value.int IntKind.i64 1)) (fun t12_24 w =>
   loopK [] [] [story_2, r_3] [story_2, r_3] (K_6 t12_24 w)) w)) w) w) w) w) w) w)
   (k (Value.int IntKind.i64 0) w)) w) w) w) w) (Value.int IntKind.i64 0) w) w
theorem S39_vc (r_1 story_2 : Value) (k : Value → World → Prop) (w : World) : vc Tryz.prog Tryz.f39.ntmps ann39 none ((Tryz.f39.body).getD Code.skip) 1 (params 0 [r_1, story_2]) [] (finQ Tryz.prog Tryz.f39.results.toList k) w = S39 r_1 story_2 k w := by kernel_rfl
theorem S39_calls (r_1 story_2 : Value) (k : Value → World → Prop) (w : World) (h : S39 r_1 story_2 k w) : Calls Tryz.prog 39 #[r_1, story_2] w (retP k) :=
  calls_of_vc (fn := Tryz.f39) (c := (Tryz.f39.body).getD Code.skip) ann39 Tryz.func39 (by kernel_rfl) [r_1, story_2] w k (by kernel_rfl) ((S39_vc r_1 story_2 k w).symm ▸ h)
theorem C39 (r_1 story_2 : Value) (k : Value → World → Prop) (w : World) (h : S39 r_1 story_2 k w) : callW Tryz.prog (.func (.func 39) #[] #[]) #[r_1, story_2] k w :=
  callW_calls ok39 (by simpa using S39_calls r_1 story_2 k w h)

/-! newswire/digest.Sum -/
def ann41 : Ann := [(30, Note.keep [0, 2, 3, 4]), (60, Note.loop [4] [0, 2, 3]), (125, Note.keep [2, 3, 4]), (241, Note.keep [0, 2, 3, 4]), (250, Note.loop [4, 5] [0, 2, 3]), (253, Note.keep [3]), (1013, Note.keep []), (2002, Note.keep [0, 2, 3, 4, 5])]
def S41 (s_1 : Value) (k : Value → World → Prop) (w : World) : Prop :=
   opW Tryz.prog (Instr.build 91 #[(0, (Value.int IntKind.u32 1779033703)), (1, (Value.int IntKind.u32 3144134277)), (2, (Value.int IntKind.u32 1013904242)), (3, (Value.int IntKind.u32 2773480762)), (4, (Value.int IntKind.u32 1359893119)), (5, (Value.int IntKind.u32 2600822924)), (6, (Value.int IntKind.u32 528734635)), (7, (Value.int IntKind.u32 1541459225))]) (fun t7_2 w =>
   opW Tryz.prog (Instr.alloc 91 true (Value.tuple #[])) (fun h_3 w =>
   opU Tryz.prog (Instr.storeAt 91 h_3 t7_2) (fun _ w =>
   opW Tryz.prog (convert 9 69 s_1) (fun t9_4 w =>
   opW Tryz.prog (Instr.buildSlice 69 1 #[(0, (Value.int IntKind.u8 128))]) (fun t10_5 w =>
   opW Tryz.prog (Builtin.append_ #[69, 69] 69 #[t9_4, t10_5]) (fun t11_6 w =>
   Loop1 (fun b_8 w K_9 =>
   opW Tryz.prog (Builtin.len_ #[69] 3 #[b_8]) (fun t13_11 w =>
   opW Tryz.prog (binS BinOp.rem 3 (Operand.tmp 13) (Operand.const (Value.int IntKind.i64 64)) t13_11 (Value.int IntKind.i64 64)) (fun t14_12 w =>
   opW Tryz.prog (binS BinOp.neq 3 (Operand.tmp 14) (Operand.const (Value.int IntKind.i64 56)) t14_12 (Value.int IntKind.i64 56)) (fun t15_13 w =>
   condW t15_13
   (opW Tryz.prog (Instr.buildSlice 69 1 #[(0, (Value.int IntKind.u8 0))]) (fun t17_15 w =>
   opW Tryz.prog (Builtin.append_ #[69, 69] 69 #[b_8, t17_15]) (fun t18_16 w =>
   loopK [] [] [s_1, (Value.string { data := #[] }), h_3] [s_1, (Value.string { data := #[] }), h_3] (K_9 t18_16 w)) w) w)
   (Loop2 (fun b_18 i_19 w K_20 =>
   opW Tryz.prog (binS BinOp.geq 3 (Operand.tmp 19) (Operand.const (Value.int IntKind.i64 0)) i_19 (Value.int IntKind.i64 0)) (fun t20_22 w =>
   condW t20_22
   (opW Tryz.prog (Builtin.len_ #[9] 3 #[s_1]) (fun t25_24 w =>
   opW Tryz.prog (binS BinOp.mul 3 (Operand.const (Value.int IntKind.i64 8)) (Operand.tmp 25) (Value.int IntKind.i64 8) t25_24) (fun t26_25 w =>
   opW Tryz.prog (binS BinOp.mul 3 (Operand.const (Value.int IntKind.i64 8)) (Operand.tmp 27) (Value.int IntKind.i64 8) i_19) (fun t28_26 w =>
   opW Tryz.prog (binS BinOp.shr 3 (Operand.tmp 26) (Operand.tmp 28) t26_25 t28_26) (fun t29_27 w =>
   opW Tryz.prog (convert 3 5 t29_27) (fun t30_28 w =>
   opW Tryz.prog (Instr.buildSlice 69 1 #[(0, t30_28)]) (fun t31_29 w =>
   opW Tryz.prog (Builtin.append_ #[69, 69] 69 #[b_18, t31_29]) (fun t32_30 w =>
   opW Tryz.prog (binS BinOp.sub 3 (Operand.tmp 21) (Operand.const (Value.int IntKind.i64 1)) i_19 (Value.int IntKind.i64 1)) (fun t22_31 w =>
   loopK [] [] [s_1, (Value.string { data := #[] }), h_3] [s_1, (Value.string { data := #[] }), h_3] (K_20 t32_30 t22_31 w)) w) w) w) w) w) w) w) w)
   (callW Tryz.prog (Value.func (Fn.func 64) #[] #[]) #[b_18, (Value.int IntKind.i64 64)] (fun t34_32 w =>
   rangeW Tryz.prog t34_32 1 (fun l_34 ready_34 busy_34 args_34 w k_34 =>
   ready_34 w ∧ (fun w => callW Tryz.prog (Value.func (Fn.func 65) #[] #[]) #[h_3, (args_34.headD undef)] (fun t37_36 w =>
   k_34 none w) w) (busy_34 w)) (fun d_34 j_34 w => jumpW j_34
   (opW Tryz.prog (Instr.loadAt 91 h_3) (fun t38_37 w =>
   callW Tryz.prog (Value.func (Fn.func 66) #[] #[]) #[t38_37] (fun t39_38 w =>
   leaveW [{ target := Target.collected d_34, args := #[] }] (fun w => k t39_38 w) w) w) w)
   (leaveW [{ target := Target.collected d_34, args := #[] }] (fun w => k (Value.string { data := #[] }) w) w)
   (fun x => False)) w) w)) w) b_8 (Value.int IntKind.i64 7) w)) w) w) w) t11_6 w) w) w) w) w) w) w
theorem S41_vc (s_1 : Value) (k : Value → World → Prop) (w : World) : vc Tryz.prog Tryz.f41.ntmps ann41 none ((Tryz.f41.body).getD Code.skip) 1 (params 0 [s_1]) [] (finQ Tryz.prog Tryz.f41.results.toList k) w = S41 s_1 k w := by kernel_rfl
theorem S41_calls (s_1 : Value) (k : Value → World → Prop) (w : World) (h : S41 s_1 k w) : Calls Tryz.prog 41 #[s_1] w (retP k) :=
  calls_of_vc (fn := Tryz.f41) (c := (Tryz.f41.body).getD Code.skip) ann41 Tryz.func41 (by kernel_rfl) [s_1] w k (by kernel_rfl) ((S41_vc s_1 k w).symm ▸ h)
theorem C41 (s_1 : Value) (k : Value → World → Prop) (w : World) (h : S41 s_1 k w) : callW Tryz.prog (.func (.func 41) #[] #[]) #[s_1] k w :=
  callW_calls ok41 (by simpa using S41_calls s_1 k w h)

/-! newswire/newswireref25.Deed -/
def ann42 : Ann := [(253, Note.keep [5, 6, 7, 8]), (2026, Note.plan (Plan.takeP 0 (Plan.takeP 1 (Plan.takeP 2 (Plan.takeU 3 (Plan.takeP 4 (Plan.takeU 5 (Plan.takeP 6 (Plan.takeU 7 (Plan.run 8 (Plan.run 9 (Plan.run 10 (Plan.takeP 11 (Plan.takeP 12 (Plan.takeP 13 (Plan.run 14 (Plan.takeP 15 Plan.done))))))))))))))))), (64886, Note.plan (Plan.takeP 0 (Plan.takeP 1 (Plan.takeP 2 (Plan.takeX 3 (Plan.takeX 4 (Plan.run 5 (Plan.takeP 6 (Plan.takeP 7 (Plan.takeP 8 (Plan.run 9 (Plan.takeP 10 Plan.done)))))))))))), (129790, Note.plan (Plan.takeP 0 (Plan.takeP 1 (Plan.takeP 2 (Plan.takeU 3 (Plan.takeP 4 (Plan.takeU 5 (Plan.run 6 (Plan.run 7 (Plan.takeP 8 (Plan.takeP 9 (Plan.takeP 10 (Plan.run 11 (Plan.takeP 12 Plan.done))))))))))))))]
def S42 (l_1 x_2 : Value) (k : Value → World → Prop) (w : World) : Prop :=
   opW Tryz.prog (Instr.box 59 x_2) (fun x_3 w =>
   opW Tryz.prog (Instr.buildSlice 34 0 #[]) (fun t11_4 w =>
   opW Tryz.prog (Builtin.append_ #[34, 34] 34 #[t11_4, l_1]) (fun t13_5 w =>
   opW Tryz.prog (Instr.indexAt 59 x_3 (Value.int IntKind.i64 1)) (fun t14_6 w =>
   opW Tryz.prog (Instr.loadAt 3 t14_6) (fun t15_7 w =>
   opW Tryz.prog (Builtin.len_ #[34] 3 #[l_1]) (fun t17_8 w =>
   callW Tryz.prog (Value.func (Fn.func 52) #[] #[]) #[t15_7, t17_8] (fun t18_9 w =>
   opW Tryz.prog (Instr.indexAt 34 l_1 t18_9) (fun t21_10 w =>
   opW Tryz.prog (Instr.loadAt 27 t21_10) (fun t22_11 w =>
   opW Tryz.prog (Instr.alloc 27 true (Value.tuple #[])) (fun r_12 w =>
   opU Tryz.prog (Instr.storeAt 27 r_12 t22_11) (fun _ w =>
   opW Tryz.prog (Instr.indexAt 59 x_3 (Value.int IntKind.i64 0)) (fun t23_13 w =>
   opW Tryz.prog (Instr.loadAt 3 t23_13) (fun t24_14 w =>
   callW Tryz.prog (Value.func (Fn.func 52) #[] #[]) #[t24_14, (Value.int IntKind.i64 5)] (fun t25_15 w =>
   joinW (fun e_69 w =>
   joinW (fun w =>
   k t13_5 w) (fun J_70 =>
   opW Tryz.prog (binS BinOp.eql 37 (Operand.tmp 92) (Operand.const (Value.int IntKind.i64 0)) e_69 (Value.int IntKind.i64 0)) (fun t93_71 w =>
   condW t93_71
   (opW Tryz.prog (Instr.loadAt 27 r_12) (fun t96_72 w =>
   opW Tryz.prog (Instr.indexAt 34 t13_5 t18_9) (fun t97_73 w =>
   opU Tryz.prog (Instr.storeAt 27 t97_73 t96_72) (fun _ w =>
   J_70 w) w) w) w)
   (J_70 w)) w)) (fun J_16 =>
   joinW (fun t26_20 w =>
   condW t26_20
   (drewW w (fun w =>
   ∃ S : World → Prop, S w ∧
   takeW Tryz.prog anyW (Instr.indexAt 34 l_1 t18_9) (fun t32_22 =>
   takeW Tryz.prog S (Instr.loadAt 27 t32_22) (fun t33_23 =>
   takeW Tryz.prog anyW (Instr.indexAt 59 x_3 (Value.int IntKind.i64 2)) (fun t34_24 =>
   takeW Tryz.prog S (Instr.loadAt 3 t34_24) (fun t35_25 =>
   takeW Tryz.prog anyW (Instr.indexAt 59 x_3 (Value.int IntKind.i64 3)) (fun t36_26 =>
   takeW Tryz.prog S (Instr.loadAt 3 t36_26) (fun t37_27 =>
   opW Tryz.prog (Instr.build 23 #[(0, t35_25), (1, t37_27)]) (fun t38_28 w => keepS S (fun w =>
   callW Tryz.prog (Value.func (Fn.func 22) #[] #[]) #[t38_28] (fun t39_29 w => keepS S (fun w =>
   callW Tryz.prog (Value.func (Fn.func 24) #[] #[]) #[t33_23, t39_29] (fun t40_30 w => keepS S (fun w =>
   takeW Tryz.prog anyW (Instr.extract t40_30 0) (fun t41_31 =>
   takeW Tryz.prog anyW (Instr.extract t40_30 1) (fun t42_32 =>
   opU Tryz.prog (Instr.storeAt 27 r_12 t41_31) (fun _ w =>
   J_16 t42_32 w) w) w) w) w) w) w) w) w) w) w) w) w) w) w) w))
   (opW Tryz.prog (binS BinOp.eql 3 (Operand.tmp 25) (Operand.const (Value.int IntKind.i64 2)) t25_15 (Value.int IntKind.i64 2)) (fun t44_33 w =>
   condW t44_33
   (opW Tryz.prog (Instr.indexAt 59 x_3 (Value.int IntKind.i64 2)) (fun t47_34 w =>
   opW Tryz.prog (Instr.loadAt 3 t47_34) (fun t48_35 w =>
   opW Tryz.prog (Builtin.len_ #[34] 3 #[l_1]) (fun t50_36 w =>
   callW Tryz.prog (Value.func (Fn.func 52) #[] #[]) #[t48_35, t50_36] (fun t51_37 w =>
   opW Tryz.prog (Instr.indexAt 34 l_1 t51_37) (fun t52_38 w =>
   opW Tryz.prog (Instr.loadAt 27 t52_38) (fun t53_39 w =>
   callW Tryz.prog (Value.func (Fn.func 13) #[] #[]) #[t53_39] (fun t54_40 w =>
   opW Tryz.prog (Instr.extract t54_40 0) (fun t55_41 w =>
   opW Tryz.prog (Instr.extract t54_40 1) (fun t56_42 w =>
   opW Tryz.prog (Instr.alloc 29 true (Value.tuple #[])) (fun p_43 w =>
   opU Tryz.prog (Instr.storeAt 29 p_43 t55_41) (fun _ w =>
   opW Tryz.prog (binS BinOp.eql 37 (Operand.tmp 57) (Operand.const (Value.int IntKind.i64 0)) t56_42 (Value.int IntKind.i64 0)) (fun t58_44 w =>
   condW t58_44
   (drewW w (fun w =>
   takeW Tryz.prog anyW (Instr.indexAt 34 l_1 t18_9) (fun t62_46 =>
   takeW Tryz.prog (sameW w) (Instr.loadAt 27 t62_46) (fun t63_47 =>
   takeW Tryz.prog (sameW w) (Instr.loadAt 29 p_43) (fun t64_48 =>
   callW Tryz.prog (Value.func (Fn.func 28) #[] #[]) #[t63_47, t64_48] (fun t65_49 w =>
   takeW Tryz.prog anyW (Instr.extract t65_49 0) (fun t66_50 =>
   takeW Tryz.prog anyW (Instr.extract t65_49 1) (fun t67_51 =>
   opU Tryz.prog (Instr.storeAt 27 r_12 t66_50) (fun _ w =>
   J_16 t67_51 w) w) w) w) w) w) w) w))
   (J_16 (Value.int IntKind.i64 0) w)) w) w) w) w) w) w) w) w) w) w) w) w)
   (opW Tryz.prog (binS BinOp.eql 3 (Operand.tmp 25) (Operand.const (Value.int IntKind.i64 3)) t25_15 (Value.int IntKind.i64 3)) (fun t69_52 w =>
   condW t69_52
   (opW Tryz.prog (Instr.indexAt 34 l_1 t18_9) (fun t73_53 w =>
   opW Tryz.prog (Instr.loadAt 27 t73_53) (fun t74_54 w =>
   callW Tryz.prog (Value.func (Fn.func 30) #[] #[]) #[t74_54] (fun t75_55 w =>
   opW Tryz.prog (Instr.extract t75_55 0) (fun t76_56 w =>
   opW Tryz.prog (Instr.extract t75_55 1) (fun t77_57 w =>
   opW Tryz.prog (Instr.extract t75_55 2) (fun t78_58 w =>
   opU Tryz.prog (Instr.storeAt 27 r_12 t76_56) (fun _ w =>
   J_16 t78_58 w) w) w) w) w) w) w) w)
   (opW Tryz.prog (binS BinOp.eql 3 (Operand.tmp 25) (Operand.const (Value.int IntKind.i64 4)) t25_15 (Value.int IntKind.i64 4)) (fun t80_59 w =>
   condW t80_59
   (drewW w (fun w =>
   ∃ S : World → Prop, S w ∧
   takeW Tryz.prog anyW (Instr.indexAt 34 l_1 t18_9) (fun t84_61 =>
   takeW Tryz.prog S (Instr.loadAt 27 t84_61) (fun t85_62 =>
   takeW Tryz.prog anyW (Instr.indexAt 59 x_3 (Value.int IntKind.i64 2)) (fun t86_63 =>
   takeW Tryz.prog S (Instr.loadAt 3 t86_63) (fun t87_64 =>
   callW Tryz.prog (Value.func (Fn.func 52) #[] #[]) #[t87_64, (Value.int IntKind.i64 5)] (fun t88_65 w => keepS S (fun w =>
   callW Tryz.prog (Value.func (Fn.func 35) #[] #[]) #[t85_62, t88_65] (fun t89_66 w => keepS S (fun w =>
   takeW Tryz.prog anyW (Instr.extract t89_66 0) (fun t90_67 =>
   takeW Tryz.prog anyW (Instr.extract t89_66 1) (fun t91_68 =>
   opU Tryz.prog (Instr.storeAt 27 r_12 t90_67) (fun _ w =>
   J_16 t91_68 w) w) w) w) w) w) w) w) w) w) w) w))
   (J_16 (Value.int IntKind.i64 0) w)) w)) w)) w)) (fun J_17 =>
   opW Tryz.prog (binS BinOp.eql 3 (Operand.tmp 25) (Operand.const (Value.int IntKind.i64 0)) t25_15 (Value.int IntKind.i64 0)) (fun t27_18 w =>
   condW t27_18
   (J_17 t27_18 w)
   (opW Tryz.prog (binS BinOp.eql 3 (Operand.tmp 25) (Operand.const (Value.int IntKind.i64 1)) t25_15 (Value.int IntKind.i64 1)) (fun t28_19 w =>
   J_17 t28_19 w) w)) w))) w) w) w) w) w) w) w) w) w) w) w) w) w) w
theorem S42_vc (l_1 x_2 : Value) (k : Value → World → Prop) (w : World) : vc Tryz.prog Tryz.f42.ntmps ann42 none ((Tryz.f42.body).getD Code.skip) 1 (params 0 [l_1, x_2]) [] (finQ Tryz.prog Tryz.f42.results.toList k) w = S42 l_1 x_2 k w := by kernel_rfl
theorem S42_calls (l_1 x_2 : Value) (k : Value → World → Prop) (w : World) (h : S42 l_1 x_2 k w) : Calls Tryz.prog 42 #[l_1, x_2] w (retP k) :=
  calls_of_vc (fn := Tryz.f42) (c := (Tryz.f42.body).getD Code.skip) ann42 Tryz.func42 (by kernel_rfl) [l_1, x_2] w k (by kernel_rfl) ((S42_vc l_1 x_2 k w).symm ▸ h)
theorem C42 (l_1 x_2 : Value) (k : Value → World → Prop) (w : World) (h : S42 l_1 x_2 k w) : callW Tryz.prog (.func (.func 42) #[] #[]) #[l_1, x_2] k w :=
  callW_calls ok42 (by simpa using S42_calls l_1 x_2 k w h)

/-! newswire/relay.in -/
def ann43 : Ann := []
def S43 (n_1 low_2 high_3 : Value) (k : Value → World → Prop) (w : World) : Prop :=
   opW Tryz.prog (binS BinOp.geq 3 (Operand.tmp 7) (Operand.tmp 8) n_1 low_2) (fun t9_4 w =>
   guardW (some t9_4, true) (fun k w => k n_1 w) (fun t11_5 w =>
   guardW (some t9_4, true) (fun k w => k high_3 w) (fun t12_6 w =>
   guardW (some t9_4, true) (fun k w => opW Tryz.prog (binS BinOp.leq 3 (Operand.tmp 11) (Operand.tmp 12) t11_5 t12_6) k w) (fun t13_7 w =>
   pickW t9_4 t13_7 (Value.bool false) (fun t14_8 w =>
   k t14_8 w) w) w) w) w) w
theorem S43_vc (n_1 low_2 high_3 : Value) (k : Value → World → Prop) (w : World) : vc Tryz.prog Tryz.f43.ntmps ann43 none ((Tryz.f43.body).getD Code.skip) 1 (params 0 [n_1, low_2, high_3]) [] (finQ Tryz.prog Tryz.f43.results.toList k) w = S43 n_1 low_2 high_3 k w := by kernel_rfl
theorem S43_calls (n_1 low_2 high_3 : Value) (k : Value → World → Prop) (w : World) (h : S43 n_1 low_2 high_3 k w) : Calls Tryz.prog 43 #[n_1, low_2, high_3] w (retP k) :=
  calls_of_vc (fn := Tryz.f43) (c := (Tryz.f43.body).getD Code.skip) ann43 Tryz.func43 (by kernel_rfl) [n_1, low_2, high_3] w k (by kernel_rfl) ((S43_vc n_1 low_2 high_3 k w).symm ▸ h)
theorem C43 (n_1 low_2 high_3 : Value) (k : Value → World → Prop) (w : World) (h : S43 n_1 low_2 high_3 k w) : callW Tryz.prog (.func (.func 43) #[] #[]) #[n_1, low_2, high_3] k w :=
  callW_calls ok43 (by simpa using S43_calls n_1 low_2 high_3 k w h)

/-! newswire/relay.lists -/
def ann44 : Ann := []
def S44 (kept_1 slips_2 : Value) (k : Value → World → Prop) (w : World) : Prop :=
   opW Tryz.prog (Builtin.len_ #[25] 3 #[slips_2]) (fun t7_3 w =>
   opW Tryz.prog (binS BinOp.leq 3 (Operand.tmp 7) (Operand.const (Value.int IntKind.i64 400)) t7_3 (Value.int IntKind.i64 400)) (fun t8_4 w =>
   guardW (some t8_4, true) (fun k w => k kept_1 w) (fun t10_5 w =>
   guardW (some t8_4, true) (fun k w => callW Tryz.prog (Value.func (Fn.func 68) #[] #[]) #[t10_5, (Value.func (Fn.func 53) #[] #[]), (Value.func (Fn.func 69) #[] #[])] k w) (fun t11_6 w =>
   pickW t8_4 t11_6 (Value.bool false) (fun t12_7 w =>
   guardW (some t12_7, true) (fun k w => k slips_2 w) (fun t14_8 w =>
   guardW (some t12_7, true) (fun k w => k (Value.func (Fn.func 67) #[] #[]) w) (fun t15_9 w =>
   guardW (some t12_7, true) (fun k w => callW Tryz.prog (Value.func (Fn.func 70) #[] #[]) #[t14_8, t15_9, (Value.func (Fn.func 59) #[] #[])] k w) (fun t16_10 w =>
   pickW t12_7 t16_10 (Value.bool false) (fun t17_11 w =>
   k t17_11 w) w) w) w) w) w) w) w) w) w
theorem S44_vc (kept_1 slips_2 : Value) (k : Value → World → Prop) (w : World) : vc Tryz.prog Tryz.f44.ntmps ann44 none ((Tryz.f44.body).getD Code.skip) 1 (params 0 [kept_1, slips_2]) [] (finQ Tryz.prog Tryz.f44.results.toList k) w = S44 kept_1 slips_2 k w := by kernel_rfl
theorem S44_calls (kept_1 slips_2 : Value) (k : Value → World → Prop) (w : World) (h : S44 kept_1 slips_2 k w) : Calls Tryz.prog 44 #[kept_1, slips_2] w (retP k) :=
  calls_of_vc (fn := Tryz.f44) (c := (Tryz.f44.body).getD Code.skip) ann44 Tryz.func44 (by kernel_rfl) [kept_1, slips_2] w k (by kernel_rfl) ((S44_vc kept_1 slips_2 k w).symm ▸ h)
theorem C44 (kept_1 slips_2 : Value) (k : Value → World → Prop) (w : World) (h : S44 kept_1 slips_2 k w) : callW Tryz.prog (.func (.func 44) #[] #[]) #[kept_1, slips_2] k w :=
  callW_calls ok44 (by simpa using S44_calls kept_1 slips_2 k w h)

/-! newswire/newswireref25.in -/
def ann45 : Ann := []
def S45 (n_1 low_2 high_3 : Value) (k : Value → World → Prop) (w : World) : Prop :=
   opW Tryz.prog (binS BinOp.geq 3 (Operand.tmp 7) (Operand.tmp 8) n_1 low_2) (fun t9_4 w =>
   guardW (some t9_4, true) (fun k w => k n_1 w) (fun t11_5 w =>
   guardW (some t9_4, true) (fun k w => k high_3 w) (fun t12_6 w =>
   guardW (some t9_4, true) (fun k w => opW Tryz.prog (binS BinOp.leq 3 (Operand.tmp 11) (Operand.tmp 12) t11_5 t12_6) k w) (fun t13_7 w =>
   pickW t9_4 t13_7 (Value.bool false) (fun t14_8 w =>
   k t14_8 w) w) w) w) w) w
theorem S45_vc (n_1 low_2 high_3 : Value) (k : Value → World → Prop) (w : World) : vc Tryz.prog Tryz.f45.ntmps ann45 none ((Tryz.f45.body).getD Code.skip) 1 (params 0 [n_1, low_2, high_3]) [] (finQ Tryz.prog Tryz.f45.results.toList k) w = S45 n_1 low_2 high_3 k w := by kernel_rfl
theorem S45_calls (n_1 low_2 high_3 : Value) (k : Value → World → Prop) (w : World) (h : S45 n_1 low_2 high_3 k w) : Calls Tryz.prog 45 #[n_1, low_2, high_3] w (retP k) :=
  calls_of_vc (fn := Tryz.f45) (c := (Tryz.f45.body).getD Code.skip) ann45 Tryz.func45 (by kernel_rfl) [n_1, low_2, high_3] w k (by kernel_rfl) ((S45_vc n_1 low_2 high_3 k w).symm ▸ h)
theorem C45 (n_1 low_2 high_3 : Value) (k : Value → World → Prop) (w : World) (h : S45 n_1 low_2 high_3 k w) : callW Tryz.prog (.func (.func 45) #[] #[]) #[n_1, low_2, high_3] k w :=
  callW_calls ok45 (by simpa using S45_calls n_1 low_2 high_3 k w h)

/-! newswire/newswireref25.store -/
def ann46 : Ann := [(13, Note.keep []), (26, Note.loop [3] [0]), (210, Note.keep [0, 3]), (840, Note.plan (Plan.takeP 0 (Plan.takeP 1 (Plan.takeP 2 (Plan.takeX 3 (Plan.run 4 (Plan.takeP 5 (Plan.takeP 6 (Plan.takeP 7 (Plan.takeP 8 (Plan.takeP 9 (Plan.takeP 10 (Plan.takeP 11 (Plan.takeP 12 (Plan.takeP 13 (Plan.takeX 14 (Plan.takeP 15 (Plan.takeP 16 (Plan.takeP 17 (Plan.takeP 18 (Plan.takeP 19 (Plan.takeX 20 (Plan.takeP 21 (Plan.takeP 22 (Plan.takeP 23 Plan.done)))))))))))))))))))))))))]
def S46 (l_1 : Value) (k : Value → World → Prop) (w : World) : Prop :=
   Loop1 (fun i_3 w K_4 =>
   opW Tryz.prog (Builtin.len_ #[24] 3 #[l_1]) (fun t6_6 w =>
   opW Tryz.prog (binS BinOp.lss 3 (Operand.tmp 4) (Operand.tmp 6) i_3 t6_6) (fun t7_7 w =>
   condW t7_7
   (drewW w (fun w =>
   takeW Tryz.prog anyW (Instr.indexAt 24 l_1 i_3) (fun t12_10 =>
   takeW Tryz.prog (sameW w) (Instr.loadAt 31 t12_10) (fun t13_11 =>
   callW Tryz.prog (Value.func (Fn.func 55) #[] #[]) #[t13_11] (fun t14_12 w =>
   takeW Tryz.prog anyW (Op.unary UnOp.not t14_12) (fun t15_13 =>
   guardT (some t15_13, false) (fun k => k i_3) (fun t17_14 =>
   guardT (some t15_13, false) (fun k => takeW Tryz.prog anyW (binS BinOp.gtr 3 (Operand.tmp 17) (Operand.const (Value.int IntKind.i64 0)) t17_14 (Value.int IntKind.i64 0)) k w) (fun t18_15 =>
   guardT (some t15_13, false) (fun k => k t18_15) (fun t19_16 =>
   guardT (some t19_16, true) (fun k => k l_1) (fun t20_17 =>
   guardT (some t19_16, true) (fun k => k i_3) (fun t21_18 =>
   guardT (some t19_16, true) (fun k => takeW Tryz.prog anyW (Instr.indexAt 24 t20_17 t21_18) k w) (fun t22_19 =>
   guardT (some t19_16, true) (fun k => takeW Tryz.prog anyW (Instr.fieldAt 31 t22_19 0) k w) (fun t23_20 =>
   guardT (some t19_16, true) (fun k => takeW Tryz.prog (sameW w) (Instr.loadAt 3 t23_20) k w) (fun t24_21 =>
   guardT (some t19_16, true) (fun k => k l_1) (fun t25_22 =>
   guardT (some t19_16, true) (fun k => k i_3) (fun t26_23 =>
   guardT (some t19_16, true) (fun k => takeW Tryz.prog anyW (binS BinOp.sub 3 (Operand.tmp 26) (Operand.const (Value.int IntKind.i64 1)) t26_23 (Value.int IntKind.i64 1)) k w) (fun t27_24 =>
   guardT (some t19_16, true) (fun k => takeW Tryz.prog anyW (Instr.indexAt 24 t25_22 t27_24) k w) (fun t28_25 =>
   guardT (some t19_16, true) (fun k => takeW Tryz.prog anyW (Instr.fieldAt 31 t28_25 0) k w) (fun t29_26 =>
   guardT (some t19_16, true) (fun k => takeW Tryz.prog (sameW w) (Instr.loadAt 3 t29_26) k w) (fun t30_27 =>
   guardT (some t19_16, true) (fun k => takeW Tryz.prog anyW (binS BinOp.leq 3 (Operand.tmp 24) (Operand.tmp 30) t24_21 t30_27) k w) (fun t31_28 =>
   guardT (some t15_13, false) (fun k => pickT t19_16 t31_28 (Value.bool false) k) (fun t32_29 =>
   pickT t15_13 (Value.bool true) t32_29 (fun t33_30 =>
   condW t33_30
   (k (Value.bool false) w)
   (opW Tryz.prog (binS BinOp.add 3 (Operand.tmp 8) (Operand.const (Value.int IntKind.i64 1)) i_3 (Value.int IntKind.i64 1)) (fun t9_31 w =>
   loopK [] [] [l_1] [l_1] (K_4 t9_31 w)) w))))))))))))))))))) w) w) w) w))
   (k (Value.bool true) w)) w) w) (Value.int IntKind.i64 0) w
theorem S46_vc (l_1 : Value) (k : Value → World → Prop) (w : World) : vc Tryz.prog Tryz.f46.ntmps ann46 none ((Tryz.f46.body).getD Code.skip) 1 (params 0 [l_1]) [] (finQ Tryz.prog Tryz.f46.results.toList k) w = S46 l_1 k w := by kernel_rfl
theorem S46_calls (l_1 : Value) (k : Value → World → Prop) (w : World) (h : S46 l_1 k w) : Calls Tryz.prog 46 #[l_1] w (retP k) :=
  calls_of_vc (fn := Tryz.f46) (c := (Tryz.f46.body).getD Code.skip) ann46 Tryz.func46 (by kernel_rfl) [l_1] w k (by kernel_rfl) ((S46_vc l_1 k w).symm ▸ h)
theorem C46 (l_1 : Value) (k : Value → World → Prop) (w : World) (h : S46 l_1 k w) : callW Tryz.prog (.func (.func 46) #[] #[]) #[l_1] k w :=
  callW_calls ok46 (by simpa using S46_calls l_1 k w h)

/-! newswire/newswireref25.sheaf -/
def ann47 : Ann := [(13, Note.keep [0]), (26, Note.loop [3] [0]), (210, Note.keep [0, 3]), (1682, Note.plan (Plan.takeP 0 (Plan.takeU 1 (Plan.run 2 (Plan.takeP 3 (Plan.takeP 4 (Plan.takeP 5 (Plan.takeU 6 (Plan.run 7 (Plan.takeP 8 (Plan.takeP 9 (Plan.takeP 10 (Plan.takeP 11 (Plan.takeU 12 (Plan.run 13 (Plan.takeP 14 (Plan.takeP 15 (Plan.takeP 16 (Plan.takeP 17 (Plan.takeU 18 (Plan.takeP 19 (Plan.takeP 20 (Plan.takeP 21 (Plan.takeP 22 (Plan.takeP 23 (Plan.takeP 24 (Plan.takeP 25 (Plan.takeP 26 (Plan.takeP 27 (Plan.takeP 28 (Plan.takeP 29 (Plan.takeX 30 (Plan.takeX 31 (Plan.run 32 (Plan.takeP 33 (Plan.takeP 34 (Plan.takeP 35 Plan.done)))))))))))))))))))))))))))))))))))))]
def S47 (l_1 : Value) (k : Value → World → Prop) (w : World) : Prop :=
   Loop1 (fun i_3 w K_4 =>
   opW Tryz.prog (Builtin.len_ #[25] 3 #[l_1]) (fun t7_6 w =>
   opW Tryz.prog (binS BinOp.lss 3 (Operand.tmp 5) (Operand.tmp 7) i_3 t7_6) (fun t8_7 w =>
   condW t8_7
   (opW Tryz.prog (Instr.indexAt 25 l_1 i_3) (fun t13_9 w =>
   opW Tryz.prog (Instr.loadAt 63 t13_9) (fun t14_10 w =>
   opW Tryz.prog (Instr.alloc 63 true (Value.tuple #[])) (fun s_11 w =>
   opU Tryz.prog (Instr.storeAt 63 s_11 t14_10) (fun _ w =>
   drewW w (fun w =>
   ∃ S : World → Prop, S w ∧
   takeW Tryz.prog anyW (Instr.fieldAt 63 s_11 0) (fun t15_13 =>
   takeW Tryz.prog S (Instr.loadAt 3 t15_13) (fun t16_14 =>
   callW Tryz.prog (Value.func (Fn.func 45) #[] #[]) #[t16_14, (Value.int IntKind.i64 0), (Value.int IntKind.i64 7)] (fun t17_15 w => keepS S (fun w =>
   takeW Tryz.prog anyW (Op.unary UnOp.not t17_15) (fun t18_16 =>
   guardT (some t18_16, false) (fun k => takeW Tryz.prog anyW (Instr.fieldAt 63 s_11 1) k w) (fun t20_17 =>
   guardT (some t18_16, false) (fun k => takeW Tryz.prog S (Instr.loadAt 3 t20_17) k w) (fun t21_18 =>
   guardW (some t18_16, false) (fun k w => callW Tryz.prog (Value.func (Fn.func 45) #[] #[]) #[t21_18, (Value.int IntKind.i64 0), (Value.int IntKind.i64 19)] k w) (fun t22_19 w => keepS S (fun w =>
   guardT (some t18_16, false) (fun k => takeW Tryz.prog anyW (Op.unary UnOp.not t22_19) k w) (fun t23_20 =>
   pickT t18_16 (Value.bool true) t23_20 (fun t24_21 =>
   guardT (some t24_21, false) (fun k => takeW Tryz.prog anyW (Instr.fieldAt 63 s_11 2) k w) (fun t26_22 =>
   guardT (some t24_21, false) (fun k => takeW Tryz.prog S (Instr.loadAt 3 t26_22) k w) (fun t27_23 =>
   guardW (some t24_21, false) (fun k w => callW Tryz.prog (Value.func (Fn.func 45) #[] #[]) #[t27_23, (Value.int IntKind.i64 1), (Value.int IntKind.i64 1000)] k w) (fun t28_24 w => keepS S (fun w =>
   guardT (some t24_21, false) (fun k => takeW Tryz.prog anyW (Op.unary UnOp.not t28_24) k w) (fun t29_25 =>
   pickT t24_21 (Value.bool true) t29_25 (fun t30_26 =>
   guardT (some t30_26, false) (fun k => takeW Tryz.prog anyW (Instr.fieldAt 63 s_11 3) k w) (fun t32_27 =>
   guardT (some t30_26, false) (fun k => takeW Tryz.prog S (Instr.loadAt 9 t32_27) k w) (fun t33_28 =>
   guardT (some t30_26, false) (fun k => takeW Tryz.prog anyW (Builtin.len_ #[9] 3 #[t33_28]) k w) (fun t34_29 =>
   guardT (some t30_26, false) (fun k => takeW Tryz.prog anyW (binS BinOp.neq 3 (Operand.tmp 34) (Operand.const (Value.int IntKind.i64 32)) t34_29 (Value.int IntKind.i64 32)) k w) (fun t35_30 =>
   pickT t30_26 (Value.bool true) t35_30 (fun t36_31 =>
   guardT (some t36_31, false) (fun k => k i_3) (fun t38_32 =>
   guardT (some t36_31, false) (fun k => takeW Tryz.prog anyW (binS BinOp.gtr 3 (Operand.tmp 38) (Operand.const (Value.int IntKind.i64 0)) t38_32 (Value.int IntKind.i64 0)) k w) (fun t39_33 =>
   guardT (some t36_31, false) (fun k => k t39_33) (fun t40_34 =>
   guardT (some t40_34, true) (fun k => k l_1) (fun t41_35 =>
   guardT (some t40_34, true) (fun k => k i_3) (fun t42_36 =>
   guardT (some t40_34, true) (fun k => takeW Tryz.prog anyW (binS BinOp.sub 3 (Operand.tmp 42) (Operand.const (Value.int IntKind.i64 1)) t42_36 (Value.int IntKind.i64 1)) k w) (fun t43_37 =>
   guardT (some t40_34, true) (fun k => takeW Tryz.prog anyW (Instr.indexAt 25 t41_35 t43_37) k w) (fun t44_38 =>
   guardT (some t40_34, true) (fun k => takeW Tryz.prog (sameW w) (Instr.loadAt 63 t44_38) k w) (fun t45_39 =>
   guardT (some t40_34, true) (fun k => takeW Tryz.prog (sameW w) (Instr.loadAt 63 s_11) k w) (fun t46_40 =>
   guardW (some t40_34, true) (fun k w => callW Tryz.prog (Value.func (Fn.func 71) #[] #[]) #[t45_39, t46_40] k w) (fun t47_41 w => keepS S (fun w =>
   guardT (some t40_34, true) (fun k => takeW Tryz.prog anyW (Op.unary UnOp.not t47_41) k w) (fun t48_42 =>
   guardT (some t36_31, false) (fun k => pickT t40_34 t48_42 (Value.bool false) k) (fun t49_43 =>
   pickT t36_31 (Value.bool true) t49_43 (fun t50_44 =>
   condW t50_44
   (k (Value.bool false) w)
   (opW Tryz.prog (binS BinOp.add 3 (Operand.tmp 9) (Operand.const (Value.int IntKind.i64 1)) i_3 (Value.int IntKind.i64 1)) (fun t10_45 w =>
   loopK [] [] [l_1] [l_1] (K_4 t10_45 w)) w))))) w) w))))))))))))))))) w) w))))) w) w))) w) w) w) w) w)) w) w) w) w)
   (opW Tryz.prog (Builtin.len_ #[25] 3 #[l_1]) (fun t52_46 w =>
   opW Tryz.prog (binS BinOp.leq 3 (Operand.tmp 52) (Operand.const (Value.int IntKind.i64 400)) t52_46 (Value.int IntKind.i64 400)) (fun t53_47 w =>
   k t53_47 w) w) w)) w) w) (Value.int IntKind.i64 0) w
theorem S47_vc (l_1 : Value) (k : Value → World → Prop) (w : World) : vc Tryz.prog Tryz.f47.ntmps ann47 none ((Tryz.f47.body).getD Code.skip) 1 (params 0 [l_1]) [] (finQ Tryz.prog Tryz.f47.results.toList k) w = S47 l_1 k w := by kernel_rfl
theorem S47_calls (l_1 : Value) (k : Value → World → Prop) (w : World) (h : S47 l_1 k w) : Calls Tryz.prog 47 #[l_1] w (retP k) :=
  calls_of_vc (fn := Tryz.f47) (c := (Tryz.f47.body).getD Code.skip) ann47 Tryz.func47 (by kernel_rfl) [l_1] w k (by kernel_rfl) ((S47_vc l_1 k w).symm ▸ h)
theorem C47 (l_1 : Value) (k : Value → World → Prop) (w : World) (h : S47 l_1 k w) : callW Tryz.prog (.func (.func 47) #[] #[]) #[l_1] k w :=
  callW_calls ok47 (by simpa using S47_calls l_1 k w h)

/-! slices.Equal[[]newswire/api.Dispatch,newswire/api.Dispatch] -/
def ann48 : Ann := [(29, Note.keep []), (58, Note.loop [13] [0, 1, 12]), (934, Note.keep [0, 1, 12, 13]), (7474, Note.plan (Plan.takeP 0 (Plan.takeP 1 (Plan.takeP 2 (Plan.takeX 3 (Plan.takeP 4 (Plan.takeP 5 (Plan.takeP 6 (Plan.takeX 7 (Plan.takeP 8 Plan.done))))))))))]
def S48 (s1_1 s2_2 : Value) (k : Value → World → Prop) (w : World) : Prop :=
   opW Tryz.prog (Builtin.len_ #[24] 3 #[s1_1]) (fun t7_4 w =>
   opW Tryz.prog (Builtin.len_ #[24] 3 #[s2_2]) (fun t9_5 w =>
   opW Tryz.prog (binS BinOp.neq 3 (Operand.tmp 7) (Operand.tmp 9) t7_4 t9_5) (fun t10_6 w =>
   condW t10_6
   (k (Value.bool false) w)
   (opW Tryz.prog (Builtin.len_ #[24] 3 #[s1_1]) (fun t12_7 w =>
   Loop1 (fun t13_9 w K_10 =>
   opW Tryz.prog (binS BinOp.lss 3 (Operand.tmp 13) (Operand.tmp 12) t13_9 t12_7) (fun t14_11 w =>
   condW t14_11
   (drewW w (fun w =>
   takeW Tryz.prog anyW (Instr.indexAt 24 s1_1 t13_9) (fun t18_15 =>
   takeW Tryz.prog (sameW w) (Instr.loadAt 31 t18_15) (fun t19_16 =>
   takeW Tryz.prog anyW (Instr.indexAt 24 s2_2 t13_9) (fun t22_17 =>
   takeW Tryz.prog (sameW w) (Instr.loadAt 31 t22_17) (fun t23_18 =>
   takeW Tryz.prog anyW (binS BinOp.neq 31 (Operand.tmp 19) (Operand.tmp 23) t19_16 t23_18) (fun t24_19 =>
   condW t24_19
   (k (Value.bool false) w)
   (opW Tryz.prog (binS BinOp.add 3 (Operand.tmp 13) (Operand.const (Value.int IntKind.i64 1)) t13_9 (Value.int IntKind.i64 1)) (fun t25_20 w =>
   loopK [] [] [s1_1, s2_2, t12_7] [s1_1, s2_2, t12_7] (K_10 t25_20 w)) w)) w) w) w) w) w))
   (k (Value.bool true) w)) w) (Value.int IntKind.i64 0) w) w)) w) w) w
theorem S48_vc (s1_1 s2_2 : Value) (k : Value → World → Prop) (w : World) : vc Tryz.prog Tryz.f48.ntmps ann48 none ((Tryz.f48.body).getD Code.skip) 1 (params 0 [s1_1, s2_2]) [] (finQ Tryz.prog Tryz.f48.results.toList k) w = S48 s1_1 s2_2 k w := by kernel_rfl
theorem S48_calls (s1_1 s2_2 : Value) (k : Value → World → Prop) (w : World) (h : S48 s1_1 s2_2 k w) : Calls Tryz.prog 48 #[s1_1, s2_2] w (retP k) :=
  calls_of_vc (fn := Tryz.f48) (c := (Tryz.f48.body).getD Code.skip) ann48 Tryz.func48 (by kernel_rfl) [s1_1, s2_2] w k (by kernel_rfl) ((S48_vc s1_1 s2_2 k w).symm ▸ h)
theorem C48 (s1_1 s2_2 : Value) (k : Value → World → Prop) (w : World) (h : S48 s1_1 s2_2 k w) : callW Tryz.prog (.func (.func 48) #[] #[]) #[s1_1, s2_2] k w :=
  callW_calls ok48 (by simpa using S48_calls s1_1 s2_2 k w h)

/-! slices.Equal[[]newswire/api.Slip,newswire/api.Slip] -/
def ann49 : Ann := [(29, Note.keep []), (58, Note.loop [13] [0, 1, 12]), (934, Note.keep [0, 1, 12, 13]), (7474, Note.plan (Plan.takeP 0 (Plan.takeP 1 (Plan.takeP 2 (Plan.takeX 3 (Plan.takeP 4 (Plan.takeP 5 (Plan.takeP 6 (Plan.takeX 7 (Plan.takeP 8 Plan.done))))))))))]
def S49 (s1_1 s2_2 : Value) (k : Value → World → Prop) (w : World) : Prop :=
   opW Tryz.prog (Builtin.len_ #[25] 3 #[s1_1]) (fun t7_4 w =>
   opW Tryz.prog (Builtin.len_ #[25] 3 #[s2_2]) (fun t9_5 w =>
   opW Tryz.prog (binS BinOp.neq 3 (Operand.tmp 7) (Operand.tmp 9) t7_4 t9_5) (fun t10_6 w =>
   condW t10_6
   (k (Value.bool false) w)
   (opW Tryz.prog (Builtin.len_ #[25] 3 #[s1_1]) (fun t12_7 w =>
   Loop1 (fun t13_9 w K_10 =>
   opW Tryz.prog (binS BinOp.lss 3 (Operand.tmp 13) (Operand.tmp 12) t13_9 t12_7) (fun t14_11 w =>
   condW t14_11
   (drewW w (fun w =>
   takeW Tryz.prog anyW (Instr.indexAt 25 s1_1 t13_9) (fun t18_15 =>
   takeW Tryz.prog (sameW w) (Instr.loadAt 63 t18_15) (fun t19_16 =>
   takeW Tryz.prog anyW (Instr.indexAt 25 s2_2 t13_9) (fun t22_17 =>
   takeW Tryz.prog (sameW w) (Instr.loadAt 63 t22_17) (fun t23_18 =>
   takeW Tryz.prog anyW (binS BinOp.neq 63 (Operand.tmp 19) (Operand.tmp 23) t19_16 t23_18) (fun t24_19 =>
   condW t24_19
   (k (Value.bool false) w)
   (opW Tryz.prog (binS BinOp.add 3 (Operand.tmp 13) (Operand.const (Value.int IntKind.i64 1)) t13_9 (Value.int IntKind.i64 1)) (fun t25_20 w =>
   loopK [] [] [s1_1, s2_2, t12_7] [s1_1, s2_2, t12_7] (K_10 t25_20 w)) w)) w) w) w) w) w))
   (k (Value.bool true) w)) w) (Value.int IntKind.i64 0) w) w)) w) w) w
theorem S49_vc (s1_1 s2_2 : Value) (k : Value → World → Prop) (w : World) : vc Tryz.prog Tryz.f49.ntmps ann49 none ((Tryz.f49.body).getD Code.skip) 1 (params 0 [s1_1, s2_2]) [] (finQ Tryz.prog Tryz.f49.results.toList k) w = S49 s1_1 s2_2 k w := by kernel_rfl
theorem S49_calls (s1_1 s2_2 : Value) (k : Value → World → Prop) (w : World) (h : S49 s1_1 s2_2 k w) : Calls Tryz.prog 49 #[s1_1, s2_2] w (retP k) :=
  calls_of_vc (fn := Tryz.f49) (c := (Tryz.f49.body).getD Code.skip) ann49 Tryz.func49 (by kernel_rfl) [s1_1, s2_2] w k (by kernel_rfl) ((S49_vc s1_1 s2_2 k w).symm ▸ h)
theorem C49 (s1_1 s2_2 : Value) (k : Value → World → Prop) (w : World) (h : S49 s1_1 s2_2 k w) : callW Tryz.prog (.func (.func 49) #[] #[]) #[s1_1, s2_2] k w :=
  callW_calls ok49 (by simpa using S49_calls s1_1 s2_2 k w h)

/-! newswire/relay.waiting -/
def ann50 : Ann := []
def S50 (r_1 : Value) (k : Value → World → Prop) (w : World) : Prop :=
   opW Tryz.prog (Instr.box 27 r_1) (fun r_2 w =>
   opW Tryz.prog (Instr.makeFunc (Fn.func 72) #[] #[r_2]) (fun t3_3 w =>
   k t3_3 w) w) w
theorem S50_vc (r_1 : Value) (k : Value → World → Prop) (w : World) : vc Tryz.prog Tryz.f50.ntmps ann50 none ((Tryz.f50.body).getD Code.skip) 1 (params 0 [r_1]) [] (finQ Tryz.prog Tryz.f50.results.toList k) w = S50 r_1 k w := by kernel_rfl
theorem S50_calls (r_1 : Value) (k : Value → World → Prop) (w : World) (h : S50 r_1 k w) : Calls Tryz.prog 50 #[r_1] w (retP k) :=
  calls_of_vc (fn := Tryz.f50) (c := (Tryz.f50.body).getD Code.skip) ann50 Tryz.func50 (by kernel_rfl) [r_1] w k (by kernel_rfl) ((S50_vc r_1 k w).symm ▸ h)
theorem C50 (r_1 : Value) (k : Value → World → Prop) (w : World) (h : S50 r_1 k w) : callW Tryz.prog (.func (.func 50) #[] #[]) #[r_1] k w :=
  callW_calls ok50 (by simpa using S50_calls r_1 k w h)

/-! newswire/newswireref25.printed -/
def ann51 : Ann := [(13, Note.keep []), (26, Note.loop [5] [2, 3]), (210, Note.keep [2, 3, 5]), (840, Note.plan (Plan.takeP 0 (Plan.takeX 1 (Plan.takeP 2 (Plan.takeP 3 (Plan.takeP 4 (Plan.takeX 5 (Plan.takeP 6 (Plan.takeX 7 (Plan.takeP 8 (Plan.takeP 9 (Plan.takeP 10 (Plan.takeX 11 (Plan.takeP 12 (Plan.takeP 13 (Plan.takeP 14 (Plan.takeX 15 (Plan.takeP 16 (Plan.takeX 17 (Plan.takeP 18 (Plan.takeP 19 (Plan.takeP 20 (Plan.takeP 21 (Plan.takeX 22 (Plan.takeP 23 (Plan.takeP 24 (Plan.takeP 25 (Plan.takeX 26 (Plan.takeP 27 (Plan.takeX 28 (Plan.takeP 29 (Plan.takeP 30 Plan.done))))))))))))))))))))))))))))))))]
def S51 (r_1 d_2 : Value) (k : Value → World → Prop) (w : World) : Prop :=
   opW Tryz.prog (Instr.box 27 r_1) (fun r_3 w =>
   opW Tryz.prog (Instr.box 31 d_2) (fun d_4 w =>
   Loop1 (fun i_6 w K_7 =>
   opW Tryz.prog (Instr.fieldAt 27 r_3 3) (fun t7_9 w =>
   opW Tryz.prog (Instr.loadAt 25 t7_9) (fun t8_10 w =>
   opW Tryz.prog (Builtin.len_ #[25] 3 #[t8_10]) (fun t9_11 w =>
   opW Tryz.prog (binS BinOp.lss 3 (Operand.tmp 6) (Operand.tmp 9) i_6 t9_11) (fun t10_12 w =>
   condW t10_12
   (drewW w (fun w =>
   takeW Tryz.prog anyW (Instr.fieldAt 27 r_3 3) (fun t13_15 =>
   takeW Tryz.prog (sameW w) (Instr.loadAt 25 t13_15) (fun t14_16 =>
   takeW Tryz.prog anyW (Instr.indexAt 25 t14_16 i_6) (fun t16_17 =>
   takeW Tryz.prog anyW (Instr.fieldAt 63 t16_17 0) (fun t17_18 =>
   takeW Tryz.prog (sameW w) (Instr.loadAt 3 t17_18) (fun t18_19 =>
   takeW Tryz.prog anyW (Instr.fieldAt 27 r_3 0) (fun t19_20 =>
   takeW Tryz.prog (sameW w) (Instr.loadAt 3 t19_20) (fun t20_21 =>
   takeW Tryz.prog anyW (binS BinOp.eql 3 (Operand.tmp 18) (Operand.tmp 20) t18_19 t20_21) (fun t21_22 =>
   guardT (some t21_22, true) (fun k => takeW Tryz.prog anyW (Instr.fieldAt 27 r_3 3) k w) (fun t23_23 =>
   guardT (some t21_22, true) (fun k => takeW Tryz.prog (sameW w) (Instr.loadAt 25 t23_23) k w) (fun t24_24 =>
   guardT (some t21_22, true) (fun k => k i_6) (fun t25_25 =>
   guardT (some t21_22, true) (fun k => takeW Tryz.prog anyW (Instr.indexAt 25 t24_24 t25_25) k w) (fun t26_26 =>
   guardT (some t21_22, true) (fun k => takeW Tryz.prog anyW (Instr.fieldAt 63 t26_26 1) k w) (fun t27_27 =>
   guardT (some t21_22, true) (fun k => takeW Tryz.prog (sameW w) (Instr.loadAt 3 t27_27) k w) (fun t28_28 =>
   guardT (some t21_22, true) (fun k => takeW Tryz.prog anyW (Instr.fieldAt 31 d_4 0) k w) (fun t29_29 =>
   guardT (some t21_22, true) (fun k => takeW Tryz.prog (sameW w) (Instr.loadAt 3 t29_29) k w) (fun t30_30 =>
   guardT (some t21_22, true) (fun k => takeW Tryz.prog anyW (binS BinOp.eql 3 (Operand.tmp 28) (Operand.tmp 30) t28_28 t30_30) k w) (fun t31_31 =>
   pickT t21_22 t31_31 (Value.bool false) (fun t32_32 =>
   guardT (some t32_32, true) (fun k => takeW Tryz.prog anyW (Instr.fieldAt 27 r_3 3) k w) (fun t34_33 =>
   guardT (some t32_32, true) (fun k => takeW Tryz.prog (sameW w) (Instr.loadAt 25 t34_33) k w) (fun t35_34 =>
   guardT (some t32_32, true) (fun k => k i_6) (fun t36_35 =>
   guardT (some t32_32, true) (fun k => takeW Tryz.prog anyW (Instr.indexAt 25 t35_34 t36_35) k w) (fun t37_36 =>
   guardT (some t32_32, true) (fun k => takeW Tryz.prog anyW (Instr.fieldAt 63 t37_36 2) k w) (fun t38_37 =>
   guardT (some t32_32, true) (fun k => takeW Tryz.prog (sameW w) (Instr.loadAt 3 t38_37) k w) (fun t39_38 =>
   guardT (some t32_32, true) (fun k => takeW Tryz.prog anyW (Instr.fieldAt 31 d_4 1) k w) (fun t40_39 =>
   guardT (some t32_32, true) (fun k => takeW Tryz.prog (sameW w) (Instr.loadAt 3 t40_39) k w) (fun t41_40 =>
   guardT (some t32_32, true) (fun k => takeW Tryz.prog anyW (binS BinOp.eql 3 (Operand.tmp 39) (Operand.tmp 41) t39_38 t41_40) k w) (fun t42_41 =>
   pickT t32_32 t42_41 (Value.bool false) (fun t43_42 =>
   condW t43_42
   (k (Value.bool true) w)
   (opW Tryz.prog (binS BinOp.add 3 (Operand.tmp 11) (Operand.const (Value.int IntKind.i64 1)) i_6 (Value.int IntKind.i64 1)) (fun t12_43 w =>
   loopK [] [] [r_3, d_4] [r_3, d_4] (K_7 t12_43 w)) w)))))))))))))))))))))) w) w) w) w) w) w) w) w))
   (k (Value.bool false) w)) w) w) w) w) (Value.int IntKind.i64 0) w) w) w
theorem S51_vc (r_1 d_2 : Value) (k : Value → World → Prop) (w : World) : vc Tryz.prog Tryz.f51.ntmps ann51 none ((Tryz.f51.body).getD Code.skip) 1 (params 0 [r_1, d_2]) [] (finQ Tryz.prog Tryz.f51.results.toList k) w = S51 r_1 d_2 k w := by kernel_rfl
theorem S51_calls (r_1 d_2 : Value) (k : Value → World → Prop) (w : World) (h : S51 r_1 d_2 k w) : Calls Tryz.prog 51 #[r_1, d_2] w (retP k) :=
  calls_of_vc (fn := Tryz.f51) (c := (Tryz.f51.body).getD Code.skip) ann51 Tryz.func51 (by kernel_rfl) [r_1, d_2] w k (by kernel_rfl) ((S51_vc r_1 d_2 k w).symm ▸ h)
theorem C51 (r_1 d_2 : Value) (k : Value → World → Prop) (w : World) (h : S51 r_1 d_2 k w) : callW Tryz.prog (.func (.func 51) #[] #[]) #[r_1, d_2] k w :=
  callW_calls ok51 (by simpa using S51_calls r_1 d_2 k w h)

/-! newswire/newswireref25.pick -/
def ann52 : Ann := []
def S52 (c_1 n_2 : Value) (k : Value → World → Prop) (w : World) : Prop :=
   joinW (fun c_7 w =>
   opW Tryz.prog (binS BinOp.rem 3 (Operand.tmp 10) (Operand.tmp 11) c_7 n_2) (fun t12_8 w =>
   k t12_8 w) w) (fun J_3 =>
   opW Tryz.prog (binS BinOp.lss 3 (Operand.tmp 5) (Operand.const (Value.int IntKind.i64 0)) c_1 (Value.int IntKind.i64 0)) (fun t6_4 w =>
   condW t6_4
   (opW Tryz.prog (binS BinOp.add 3 (Operand.tmp 7) (Operand.const (Value.int IntKind.i64 1)) c_1 (Value.int IntKind.i64 1)) (fun t8_5 w =>
   opW Tryz.prog (Op.unary UnOp.neg t8_5) (fun t9_6 w =>
   J_3 t9_6 w) w) w)
   (J_3 c_1 w)) w)
theorem S52_vc (c_1 n_2 : Value) (k : Value → World → Prop) (w : World) : vc Tryz.prog Tryz.f52.ntmps ann52 none ((Tryz.f52.body).getD Code.skip) 1 (params 0 [c_1, n_2]) [] (finQ Tryz.prog Tryz.f52.results.toList k) w = S52 c_1 n_2 k w := by kernel_rfl
theorem S52_calls (c_1 n_2 : Value) (k : Value → World → Prop) (w : World) (h : S52 c_1 n_2 k w) : Calls Tryz.prog 52 #[c_1, n_2] w (retP k) :=
  calls_of_vc (fn := Tryz.f52) (c := (Tryz.f52.body).getD Code.skip) ann52 Tryz.func52 (by kernel_rfl) [c_1, n_2] w k (by kernel_rfl) ((S52_vc c_1 n_2 k w).symm ▸ h)
theorem C52 (c_1 n_2 : Value) (k : Value → World → Prop) (w : World) (h : S52 c_1 n_2 k w) : callW Tryz.prog (.func (.func 52) #[] #[]) #[c_1, n_2] k w :=
  callW_calls ok52 (by simpa using S52_calls c_1 n_2 k w h)

/-! newswire/relay.right -/
def ann53 : Ann := []
def S53 (d_1 : Value) (k : Value → World → Prop) (w : World) : Prop :=
   opW Tryz.prog (Instr.box 31 d_1) (fun d_2 w =>
   opW Tryz.prog (Instr.fieldAt 31 d_2 0) (fun t3_3 w =>
   opW Tryz.prog (Instr.loadAt 3 t3_3) (fun t4_4 w =>
   callW Tryz.prog (Value.func (Fn.func 43) #[] #[]) #[t4_4, (Value.int IntKind.i64 0), (Value.int IntKind.i64 19)] (fun t5_5 w =>
   guardW (some t5_5, true) (fun k w => opW Tryz.prog (Instr.fieldAt 31 d_2 1) k w) (fun t7_6 w =>
   guardW (some t5_5, true) (fun k w => opW Tryz.prog (Instr.loadAt 3 t7_6) k w) (fun t8_7 w =>
   guardW (some t5_5, true) (fun k w => callW Tryz.prog (Value.func (Fn.func 43) #[] #[]) #[t8_7, (Value.int IntKind.i64 1), (Value.int IntKind.i64 1000)] k w) (fun t9_8 w =>
   pickW t5_5 t9_8 (Value.bool false) (fun t10_9 w =>
   guardW (some t10_9, true) (fun k w => opW Tryz.prog (Instr.fieldAt 31 d_2 2) k w) (fun t12_10 w =>
   guardW (some t10_9, true) (fun k w => opW Tryz.prog (Instr.loadAt 3 t12_10) k w) (fun t13_11 w =>
   guardW (some t10_9, true) (fun k w => callW Tryz.prog (Value.func (Fn.func 43) #[] #[]) #[t13_11, (Value.int IntKind.i64 1), (Value.int IntKind.i64 3)] k w) (fun t14_12 w =>
   pickW t10_9 t14_12 (Value.bool false) (fun t15_13 w =>
   guardW (some t15_13, true) (fun k w => opW Tryz.prog (Instr.fieldAt 31 d_2 3) k w) (fun t17_14 w =>
   guardW (some t15_13, true) (fun k w => opW Tryz.prog (Instr.loadAt 9 t17_14) k w) (fun t18_15 w =>
   guardW (some t15_13, true) (fun k w => opW Tryz.prog (Builtin.len_ #[9] 3 #[t18_15]) k w) (fun t19_16 w =>
   guardW (some t15_13, true) (fun k w => opW Tryz.prog (binS BinOp.leq 3 (Operand.tmp 19) (Operand.const (Value.int IntKind.i64 20000)) t19_16 (Value.int IntKind.i64 20000)) k w) (fun t20_17 w =>
   pickW t15_13 t20_17 (Value.bool false) (fun t21_18 w =>
   k t21_18 w) w) w) w) w) w) w) w) w) w) w) w) w) w) w) w) w) w
theorem S53_vc (d_1 : Value) (k : Value → World → Prop) (w : World) : vc Tryz.prog Tryz.f53.ntmps ann53 none ((Tryz.f53.body).getD Code.skip) 1 (params 0 [d_1]) [] (finQ Tryz.prog Tryz.f53.results.toList k) w = S53 d_1 k w := by kernel_rfl
theorem S53_calls (d_1 : Value) (k : Value → World → Prop) (w : World) (h : S53 d_1 k w) : Calls Tryz.prog 53 #[d_1] w (retP k) :=
  calls_of_vc (fn := Tryz.f53) (c := (Tryz.f53.body).getD Code.skip) ann53 Tryz.func53 (by kernel_rfl) [d_1] w k (by kernel_rfl) ((S53_vc d_1 k w).symm ▸ h)
theorem C53 (d_1 : Value) (k : Value → World → Prop) (w : World) (h : S53 d_1 k w) : callW Tryz.prog (.func (.func 53) #[] #[]) #[d_1] k w :=
  callW_calls ok53 (by simpa using S53_calls d_1 k w h)

/-! newswire/relay.join -/
def ann54 : Ann := []
def S54 (r_1 kept_2 slips_3 : Value) (k : Value → World → Prop) (w : World) : Prop :=
   opW Tryz.prog (Instr.box 27 r_1) (fun r_4 w =>
   opW Tryz.prog (Instr.alloc 27 true (Value.tuple #[])) (fun t6_5 w =>
   opW Tryz.prog (Instr.fieldAt 27 r_4 2) (fun t11_6 w =>
   opW Tryz.prog (Instr.loadAt 24 t11_6) (fun t12_7 w =>
   callW Tryz.prog (Value.func (Fn.func 76) #[] #[]) #[t12_7, kept_2, (Value.func (Fn.func 69) #[] #[]), (Value.func (Fn.func 77) #[] #[])] (fun t14_8 w =>
   opW Tryz.prog (Instr.extract t14_8 0) (fun t15_9 w =>
   opW Tryz.prog (Instr.extract t14_8 1) (fun t16_10 w =>
   opW Tryz.prog (Instr.fieldAt 27 r_4 2) (fun t17_11 w =>
   opU Tryz.prog (Instr.storeAt 24 t17_11 t15_9) (fun _ w =>
   opW Tryz.prog (Instr.fieldAt 27 r_4 3) (fun t19_12 w =>
   opW Tryz.prog (Instr.loadAt 25 t19_12) (fun t20_13 w =>
   callW Tryz.prog (Value.func (Fn.func 78) #[] #[]) #[t20_13, slips_3, (Value.func (Fn.func 59) #[] #[]), (Value.func (Fn.func 79) #[] #[])] (fun t22_14 w =>
   opW Tryz.prog (Instr.extract t22_14 0) (fun t23_15 w =>
   opW Tryz.prog (Instr.extract t22_14 1) (fun t24_16 w =>
   opW Tryz.prog (Instr.fieldAt 27 r_4 3) (fun t25_17 w =>
   opU Tryz.prog (Instr.storeAt 25 t25_17 t23_15) (fun _ w =>
   opW Tryz.prog (Op.unary UnOp.not t16_10) (fun t27_19 w =>
   guardW (some t27_19, false) (fun k w => k t24_16 w) (fun t29_20 w =>
   guardW (some t27_19, false) (fun k w => opW Tryz.prog (Op.unary UnOp.not t29_20) k w) (fun t30_21 w =>
   pickW t27_19 (Value.bool true) t30_21 (fun t31_22 w =>
   condW t31_22
   (opW Tryz.prog (Instr.build 27 #[]) (fun t32_23 w =>
   opU Tryz.prog (Instr.storeAt 27 t6_5 t32_23) (fun _ w =>
   resCell Tryz.prog 27 t6_5 (fun r_24 => k (Value.tuple #[r_24, (Value.int IntKind.i64 250)]) w) w) w) w)
   (opW Tryz.prog (Instr.loadAt 27 r_4) (fun t33_25 w =>
   callW Tryz.prog (Value.func (Fn.func 63) #[] #[]) #[t33_25] (fun t34_26 w =>
   opW Tryz.prog (Instr.extract t34_26 0) (fun t35_27 w =>
   opW Tryz.prog (Instr.extract t34_26 1) (fun t36_28 w =>
   opU Tryz.prog (Instr.storeAt 27 t6_5 t35_27) (fun _ w =>
   resCell Tryz.prog 27 t6_5 (fun r_29 => k (Value.tuple #[r_29, t36_28]) w) w) w) w) w) w) w)) w) w) w) w) w) w) w) w) w) w) w) w) w) w) w) w) w) w) w) w
theorem S54_vc (r_1 kept_2 slips_3 : Value) (k : Value → World → Prop) (w : World) : vc Tryz.prog Tryz.f54.ntmps ann54 none ((Tryz.f54.body).getD Code.skip) 1 (params 0 [r_1, kept_2, slips_3]) [] (finQ Tryz.prog Tryz.f54.results.toList k) w = S54 r_1 kept_2 slips_3 k w := by kernel_rfl
theorem S54_calls (r_1 kept_2 slips_3 : Value) (k : Value → World → Prop) (w : World) (h : S54 r_1 kept_2 slips_3 k w) : Calls Tryz.prog 54 #[r_1, kept_2, slips_3] w (retP k) :=
  calls_of_vc (fn := Tryz.f54) (c := (Tryz.f54.body).getD Code.skip) ann54 Tryz.func54 (by kernel_rfl) [r_1, kept_2, slips_3] w k (by kernel_rfl) ((S54_vc r_1 kept_2 slips_3 k w).symm ▸ h)
theorem C54 (r_1 kept_2 slips_3 : Value) (k : Value → World → Prop) (w : World) (h : S54 r_1 kept_2 slips_3 k w) : callW Tryz.prog (.func (.func 54) #[] #[]) #[r_1, kept_2, slips_3] k w :=
  callW_calls ok54 (by simpa using S54_calls r_1 kept_2 slips_3 k w h)

/-! newswire/newswireref25.dispatch -/
def ann55 : Ann := []
def S55 (d_1 : Value) (k : Value → World → Prop) (w : World) : Prop :=
   opW Tryz.prog (Instr.box 31 d_1) (fun d_2 w =>
   opW Tryz.prog (Instr.fieldAt 31 d_2 0) (fun t3_3 w =>
   opW Tryz.prog (Instr.loadAt 3 t3_3) (fun t4_4 w =>
   callW Tryz.prog (Value.func (Fn.func 45) #[] #[]) #[t4_4, (Value.int IntKind.i64 0), (Value.int IntKind.i64 19)] (fun t5_5 w =>
   guardW (some t5_5, true) (fun k w => opW Tryz.prog (Instr.fieldAt 31 d_2 1) k w) (fun t7_6 w =>
   guardW (some t5_5, true) (fun k w => opW Tryz.prog (Instr.loadAt 3 t7_6) k w) (fun t8_7 w =>
   guardW (some t5_5, true) (fun k w => callW Tryz.prog (Value.func (Fn.func 45) #[] #[]) #[t8_7, (Value.int IntKind.i64 1), (Value.int IntKind.i64 1000)] k w) (fun t9_8 w =>
   pickW t5_5 t9_8 (Value.bool false) (fun t10_9 w =>
   guardW (some t10_9, true) (fun k w => opW Tryz.prog (Instr.fieldAt 31 d_2 2) k w) (fun t12_10 w =>
   guardW (some t10_9, true) (fun k w => opW Tryz.prog (Instr.loadAt 3 t12_10) k w) (fun t13_11 w =>
   guardW (some t10_9, true) (fun k w => callW Tryz.prog (Value.func (Fn.func 45) #[] #[]) #[t13_11, (Value.int IntKind.i64 1), (Value.int IntKind.i64 3)] k w) (fun t14_12 w =>
   pickW t10_9 t14_12 (Value.bool false) (fun t15_13 w =>
   guardW (some t15_13, true) (fun k w => opW Tryz.prog (Instr.fieldAt 31 d_2 3) k w) (fun t17_14 w =>
   guardW (some t15_13, true) (fun k w => opW Tryz.prog (Instr.loadAt 9 t17_14) k w) (fun t18_15 w =>
   guardW (some t15_13, true) (fun k w => opW Tryz.prog (Builtin.len_ #[9] 3 #[t18_15]) k w) (fun t19_16 w =>
   guardW (some t15_13, true) (fun k w => opW Tryz.prog (binS BinOp.leq 3 (Operand.tmp 19) (Operand.const (Value.int IntKind.i64 20000)) t19_16 (Value.int IntKind.i64 20000)) k w) (fun t20_17 w =>
   pickW t15_13 t20_17 (Value.bool false) (fun t21_18 w =>
   k t21_18 w) w) w) w) w) w) w) w) w) w) w) w) w) w) w) w) w) w
theorem S55_vc (d_1 : Value) (k : Value → World → Prop) (w : World) : vc Tryz.prog Tryz.f55.ntmps ann55 none ((Tryz.f55.body).getD Code.skip) 1 (params 0 [d_1]) [] (finQ Tryz.prog Tryz.f55.results.toList k) w = S55 d_1 k w := by kernel_rfl
theorem S55_calls (d_1 : Value) (k : Value → World → Prop) (w : World) (h : S55 d_1 k w) : Calls Tryz.prog 55 #[d_1] w (retP k) :=
  calls_of_vc (fn := Tryz.f55) (c := (Tryz.f55.body).getD Code.skip) ann55 Tryz.func55 (by kernel_rfl) [d_1] w k (by kernel_rfl) ((S55_vc d_1 k w).symm ▸ h)
theorem C55 (d_1 : Value) (k : Value → World → Prop) (w : World) (h : S55 d_1 k w) : callW Tryz.prog (.func (.func 55) #[] #[]) #[d_1] k w :=
  callW_calls ok55 (by simpa using S55_calls d_1 k w h)

/-! newswire/newswireref25.kept -/
def ann56 : Ann := [(61, Note.keep [3, 6, 7]), (122, Note.loop [6, 7, 8] [0, 3]), (978, Note.keep [0, 3, 6, 7, 8]), (7824, Note.plan (Plan.takeP 0 (Plan.takeP 1 (Plan.takeP 2 (Plan.takeP 3 (Plan.takeX 4 (Plan.takeP 5 (Plan.takeX 6 (Plan.takeP 7 (Plan.takeP 8 (Plan.takeP 9 (Plan.takeP 10 (Plan.takeP 11 Plan.done))))))))))))), (15652, Note.plan (Plan.takeP 0 (Plan.takeP 1 (Plan.takeP 2 (Plan.takeP 3 (Plan.takeX 4 (Plan.takeP 5 (Plan.takeX 6 (Plan.takeP 7 Plan.done))))))))), (31308, Note.plan (Plan.takeP 0 (Plan.takeP 1 (Plan.takeP 2 (Plan.takeP 3 (Plan.takeX 4 (Plan.takeP 5 (Plan.takeX 6 (Plan.takeP 7 (Plan.takeP 8 (Plan.takeP 9 (Plan.takeP 10 (Plan.takeP 11 (Plan.takeP 12 (Plan.takeX 13 (Plan.takeP 14 (Plan.takeX 15 (Plan.takeP 16 (Plan.takeP 17 (Plan.takeP 18 (Plan.takeP 19 (Plan.takeP 20 (Plan.takeX 21 (Plan.takeX 22 (Plan.takeP 23 (Plan.takeP 24 (Plan.takeP 25 Plan.done))))))))))))))))))))))))))), (62620, Note.plan (Plan.takeP 0 (Plan.takeP 1 (Plan.takeP 2 (Plan.takeP 3 (Plan.takeX 4 (Plan.takeP 5 (Plan.takeX 6 (Plan.takeP 7 Plan.done)))))))))]
def S56 (l_1 d_2 : Value) (k : Value → World → Prop) (w : World) : Prop :=
   opW Tryz.prog (Instr.box 31 d_2) (fun d_3 w =>
   Loop3 (fun out_5 done_6 i_7 w K_8 =>
   opW Tryz.prog (Builtin.len_ #[24] 3 #[l_1]) (fun t11_10 w =>
   opW Tryz.prog (binS BinOp.lss 3 (Operand.tmp 9) (Operand.tmp 11) i_7 t11_10) (fun t12_11 w =>
   condW t12_11
   (joinW (fun out_82 done_83 w =>
   opW Tryz.prog (binS BinOp.add 3 (Operand.tmp 13) (Operand.const (Value.int IntKind.i64 1)) i_7 (Value.int IntKind.i64 1)) (fun t14_84 w =>
   loopK [] [] [l_1, d_3] [l_1, d_3] (K_8 out_82 done_83 t14_84 w)) w) (fun J_12 =>
   joinW (fun out_27 done_28 w =>
   drewW w (fun w =>
   takeW Tryz.prog anyW (Instr.indexAt 24 l_1 i_7) (fun t33_31 =>
   takeW Tryz.prog anyW (Instr.fieldAt 31 t33_31 0) (fun t34_32 =>
   takeW Tryz.prog (sameW w) (Instr.loadAt 3 t34_32) (fun t35_33 =>
   takeW Tryz.prog anyW (Instr.fieldAt 31 d_3 0) (fun t36_34 =>
   takeW Tryz.prog (sameW w) (Instr.loadAt 3 t36_34) (fun t37_35 =>
   takeW Tryz.prog anyW (binS BinOp.neq 3 (Operand.tmp 35) (Operand.tmp 37) t35_33 t37_35) (fun t38_36 =>
   condW t38_36
   (opW Tryz.prog (Instr.indexAt 24 l_1 i_7) (fun t42_37 w =>
   opW Tryz.prog (Instr.loadAt 31 t42_37) (fun t43_38 w =>
   opW Tryz.prog (Instr.buildSlice 24 1 #[(0, t43_38)]) (fun t44_39 w =>
   opW Tryz.prog (Builtin.append_ #[24, 24] 24 #[out_27, t44_39]) (fun t45_40 w =>
   J_12 t45_40 done_28 w) w) w) w) w)
   (drewW w (fun w =>
   takeW Tryz.prog anyW (Instr.indexAt 24 l_1 i_7) (fun t48_43 =>
   takeW Tryz.prog anyW (Instr.fieldAt 31 t48_43 2) (fun t49_44 =>
   takeW Tryz.prog (sameW w) (Instr.loadAt 3 t49_44) (fun t50_45 =>
   takeW Tryz.prog anyW (Instr.fieldAt 31 d_3 2) (fun t51_46 =>
   takeW Tryz.prog (sameW w) (Instr.loadAt 3 t51_46) (fun t52_47 =>
   takeW Tryz.prog anyW (binS BinOp.neq 3 (Operand.tmp 50) (Operand.tmp 52) t50_45 t52_47) (fun t53_48 =>
   guardT (some t53_48, false) (fun k => k l_1) (fun t55_49 =>
   guardT (some t53_48, false) (fun k => k i_7) (fun t56_50 =>
   guardT (some t53_48, false) (fun k => takeW Tryz.prog anyW (Instr.indexAt 24 t55_49 t56_50) k w) (fun t57_51 =>
   guardT (some t53_48, false) (fun k => takeW Tryz.prog anyW (Instr.fieldAt 31 t57_51 1) k w) (fun t58_52 =>
   guardT (some t53_48, false) (fun k => takeW Tryz.prog (sameW w) (Instr.loadAt 3 t58_52) k w) (fun t59_53 =>
   guardT (some t53_48, false) (fun k => takeW Tryz.prog anyW (Instr.fieldAt 31 d_3 1) k w) (fun t60_54 =>
   guardT (some t53_48, false) (fun k => takeW Tryz.prog (sameW w) (Instr.loadAt 3 t60_54) k w) (fun t61_55 =>
   guardT (some t53_48, false) (fun k => takeW Tryz.prog anyW (binS BinOp.eql 3 (Operand.tmp 59) (Operand.tmp 61) t59_53 t61_55) k w) (fun t62_56 =>
   guardT (some t53_48, false) (fun k => k t62_56) (fun t63_57 =>
   guardT (some t63_57, true) (fun k => k l_1) (fun t64_58 =>
   guardT (some t63_57, true) (fun k => k i_7) (fun t65_59 =>
   guardT (some t63_57, true) (fun k => takeW Tryz.prog anyW (Instr.indexAt 24 t64_58 t65_59) k w) (fun t66_60 =>
   guardT (some t63_57, true) (fun k => takeW Tryz.prog (sameW w) (Instr.loadAt 31 t66_60) k w) (fun t67_61 =>
   guardT (some t63_57, true) (fun k => takeW Tryz.prog (sameW w) (Instr.loadAt 31 d_3) k w) (fun t68_62 =>
   guardT (some t63_57, true) (fun k => takeW Tryz.prog anyW (binS BinOp.neq 31 (Operand.tmp 67) (Operand.tmp 68) t67_61 t68_62) k w) (fun t69_63 =>
   guardT (some t53_48, false) (fun k => pickT t63_57 t69_63 (Value.bool false) k) (fun t70_64 =>
   pickT t53_48 (Value.bool true) t70_64 (fun t71_65 =>
   condW t71_65
   (k (Value.tuple #[(Value.slice none 0 0), (Value.bool false)]) w)
   (joinW (fun out_81 w =>
   J_12 out_81 (Value.bool true) w) (fun J_66 =>
   drewW w (fun w =>
   takeW Tryz.prog anyW (Instr.indexAt 24 l_1 i_7) (fun t74_68 =>
   takeW Tryz.prog anyW (Instr.fieldAt 31 t74_68 1) (fun t75_69 =>
   takeW Tryz.prog (sameW w) (Instr.loadAt 3 t75_69) (fun t76_70 =>
   takeW Tryz.prog anyW (Instr.fieldAt 31 d_3 1) (fun t77_71 =>
   takeW Tryz.prog (sameW w) (Instr.loadAt 3 t77_71) (fun t78_72 =>
   takeW Tryz.prog anyW (binS BinOp.lss 3 (Operand.tmp 76) (Operand.tmp 78) t76_70 t78_72) (fun t79_73 =>
   condW t79_73
   (opW Tryz.prog (Instr.loadAt 31 d_3) (fun t81_74 w =>
   opW Tryz.prog (Instr.buildSlice 24 1 #[(0, t81_74)]) (fun t82_75 w =>
   opW Tryz.prog (Builtin.append_ #[24, 24] 24 #[out_27, t82_75]) (fun t83_76 w =>
   J_66 t83_76 w) w) w) w)
   (opW Tryz.prog (Instr.indexAt 24 l_1 i_7) (fun t87_77 w =>
   opW Tryz.prog (Instr.loadAt 31 t87_77) (fun t88_78 w =>
   opW Tryz.prog (Instr.buildSlice 24 1 #[(0, t88_78)]) (fun t89_79 w =>
   opW Tryz.prog (Builtin.append_ #[24, 24] 24 #[out_27, t89_79]) (fun t90_80 w =>
   J_66 t90_80 w) w) w) w) w)) w) w) w) w) w) w))))))))))))))))))))) w) w) w) w) w) w))) w) w) w) w) w) w)) (fun J_13 =>
   drewW w (fun w =>
   takeW Tryz.prog anyW (Instr.indexAt 24 l_1 i_7) (fun t17_15 =>
   takeW Tryz.prog anyW (Instr.fieldAt 31 t17_15 0) (fun t18_16 =>
   takeW Tryz.prog (sameW w) (Instr.loadAt 3 t18_16) (fun t19_17 =>
   takeW Tryz.prog anyW (Instr.fieldAt 31 d_3 0) (fun t20_18 =>
   takeW Tryz.prog (sameW w) (Instr.loadAt 3 t20_18) (fun t21_19 =>
   takeW Tryz.prog anyW (binS BinOp.gtr 3 (Operand.tmp 19) (Operand.tmp 21) t19_17 t21_19) (fun t22_20 =>
   guardT (some t22_20, true) (fun k => k done_6) (fun t24_21 =>
   guardT (some t22_20, true) (fun k => takeW Tryz.prog anyW (Op.unary UnOp.not t24_21) k w) (fun t25_22 =>
   pickT t22_20 t25_22 (Value.bool false) (fun t26_23 =>
   condW t26_23
   (opW Tryz.prog (Instr.loadAt 31 d_3) (fun t28_24 w =>
   opW Tryz.prog (Instr.buildSlice 24 1 #[(0, t28_24)]) (fun t29_25 w =>
   opW Tryz.prog (Builtin.append_ #[24, 24] 24 #[out_5, t29_25]) (fun t30_26 w =>
   J_13 t30_26 (Value.bool true) w) w) w) w)
   (J_13 out_5 done_6 w))))) w) w) w) w) w) w))))
   (joinW (fun out_90 w =>
   k (Value.tuple #[out_90, (Value.bool true)]) w) (fun J_85 =>
   opW Tryz.prog (Op.unary UnOp.not done_6) (fun t92_86 w =>
   condW t92_86
   (opW Tryz.prog (Instr.loadAt 31 d_3) (fun t94_87 w =>
   opW Tryz.prog (Instr.buildSlice 24 1 #[(0, t94_87)]) (fun t95_88 w =>
   opW Tryz.prog (Builtin.append_ #[24, 24] 24 #[out_5, t95_88]) (fun t96_89 w =>
   J_85 t96_89 w) w) w) w)
   (J_85 out_5 w)) w))) w) w) (Value.slice none 0 0) (Value.bool false) (Value.int IntKind.i64 0) w) w
theorem S56_vc (l_1 d_2 : Value) (k : Value → World → Prop) (w : World) : vc Tryz.prog Tryz.f56.ntmps ann56 none ((Tryz.f56.body).getD Code.skip) 1 (params 0 [l_1, d_2]) [] (finQ Tryz.prog Tryz.f56.results.toList k) w = S56 l_1 d_2 k w := by kernel_rfl
theorem S56_calls (l_1 d_2 : Value) (k : Value → World → Prop) (w : World) (h : S56 l_1 d_2 k w) : Calls Tryz.prog 56 #[l_1, d_2] w (retP k) :=
  calls_of_vc (fn := Tryz.f56) (c := (Tryz.f56.body).getD Code.skip) ann56 Tryz.func56 (by kernel_rfl) [l_1, d_2] w k (by kernel_rfl) ((S56_vc l_1 d_2 k w).symm ▸ h)
theorem C56 (l_1 d_2 : Value) (k : Value → World → Prop) (w : World) (h : S56 l_1 d_2 k w) : callW Tryz.prog (.func (.func 56) #[] #[]) #[l_1, d_2] k w :=
  callW_calls ok56 (by simpa using S56_calls l_1 d_2 k w h)

/-! newswire/newswireref25.slips -/
def ann57 : Ann := [(62, Note.keep [6]), (124, Note.loop [6, 7, 8] [0, 1]), (497, Note.keep [0, 1, 6, 7, 8]), (3976, Note.plan (Plan.takeP 0 (Plan.takeP 1 (Plan.takeP 2 (Plan.takeP 3 (Plan.takeP 4 (Plan.takeP 5 (Plan.takeP 6 (Plan.takeP 7 (Plan.takeP 8 (Plan.takeP 9 (Plan.takeP 10 (Plan.takeP 11 (Plan.takeP 12 (Plan.takeX 13 (Plan.takeP 14 (Plan.takeP 15 (Plan.takeP 16 (Plan.takeX 17 (Plan.run 18 (Plan.takeP 19 (Plan.takeP 20 Plan.done)))))))))))))))))))))), (7956, Note.plan (Plan.takeP 0 (Plan.takeP 1 (Plan.takeP 2 (Plan.takeP 3 (Plan.takeP 4 (Plan.takeP 5 (Plan.takeP 6 (Plan.takeP 7 (Plan.takeX 8 (Plan.takeP 9 (Plan.takeP 10 (Plan.takeP 11 (Plan.takeX 12 (Plan.run 13 (Plan.takeP 14 (Plan.takeP 15 Plan.done))))))))))))))))), (63656, Note.plan (Plan.takeP 0 (Plan.takeP 1 (Plan.takeP 2 (Plan.takeX 3 (Plan.takeP 4 (Plan.takeP 5 (Plan.takeP 6 (Plan.takeX 7 (Plan.takeP 8 Plan.done))))))))))]
def S57 (a_1 b_2 : Value) (k : Value → World → Prop) (w : World) : Prop :=
   Loop3 (fun out_4 i_5 k_6 w K_7 =>
   opW Tryz.prog (Builtin.len_ #[25] 3 #[a_1]) (fun t11_9 w =>
   opW Tryz.prog (binS BinOp.lss 3 (Operand.tmp 9) (Operand.tmp 11) i_5 t11_9) (fun t12_10 w =>
   guardW (some t12_10, false) (fun k w => k k_6 w) (fun t14_11 w =>
   guardW (some t12_10, false) (fun k w => k b_2 w) (fun t15_12 w =>
   guardW (some t12_10, false) (fun k w => opW Tryz.prog (Builtin.len_ #[25] 3 #[t15_12]) k w) (fun t16_13 w =>
   guardW (some t12_10, false) (fun k w => opW Tryz.prog (binS BinOp.lss 3 (Operand.tmp 14) (Operand.tmp 16) t14_11 t16_13) k w) (fun t17_14 w =>
   pickW t12_10 (Value.bool true) t17_14 (fun t18_15 w =>
   condW t18_15
   (joinW (fun out_71 i_72 k_73 w =>
   loopK [] [] [a_1, b_2] [a_1, b_2] (K_7 out_71 i_72 k_73 w)) (fun J_16 =>
   drewW w (fun w =>
   takeW Tryz.prog anyW (Builtin.len_ #[25] 3 #[b_2]) (fun t21_19 =>
   takeW Tryz.prog anyW (binS BinOp.eql 3 (Operand.tmp 19) (Operand.tmp 21) k_6 t21_19) (fun t22_20 =>
   guardT (some t22_20, false) (fun k => k i_5) (fun t24_21 =>
   guardT (some t22_20, false) (fun k => k a_1) (fun t25_22 =>
   guardT (some t22_20, false) (fun k => takeW Tryz.prog anyW (Builtin.len_ #[25] 3 #[t25_22]) k w) (fun t26_23 =>
   guardT (some t22_20, false) (fun k => takeW Tryz.prog anyW (binS BinOp.lss 3 (Operand.tmp 24) (Operand.tmp 26) t24_21 t26_23) k w) (fun t27_24 =>
   guardT (some t22_20, false) (fun k => k t27_24) (fun t28_25 =>
   guardT (some t28_25, true) (fun k => k a_1) (fun t29_26 =>
   guardT (some t28_25, true) (fun k => k i_5) (fun t30_27 =>
   guardT (some t28_25, true) (fun k => takeW Tryz.prog anyW (Instr.indexAt 25 t29_26 t30_27) k w) (fun t31_28 =>
   guardT (some t28_25, true) (fun k => takeW Tryz.prog (sameW w) (Instr.loadAt 63 t31_28) k w) (fun t32_29 =>
   guardT (some t28_25, true) (fun k => k b_2) (fun t33_30 =>
   guardT (some t28_25, true) (fun k => k k_6) (fun t34_31 =>
   guardT (some t28_25, true) (fun k => takeW Tryz.prog anyW (Instr.indexAt 25 t33_30 t34_31) k w) (fun t35_32 =>
   guardT (some t28_25, true) (fun k => takeW Tryz.prog (sameW w) (Instr.loadAt 63 t35_32) k w) (fun t36_33 =>
   guardW (some t28_25, true) (fun k w => callW Tryz.prog (Value.func (Fn.func 71) #[] #[]) #[t32_29, t36_33] k w) (fun t37_34 w =>
   guardT (some t22_20, false) (fun k => pickT t28_25 t37_34 (Value.bool false) k) (fun t38_35 =>
   pickT t22_20 (Value.bool true) t38_35 (fun t39_36 =>
   condW t39_36
   (opW Tryz.prog (Instr.indexAt 25 a_1 i_5) (fun t43_37 w =>
   opW Tryz.prog (Instr.loadAt 63 t43_37) (fun t44_38 w =>
   opW Tryz.prog (Instr.buildSlice 25 1 #[(0, t44_38)]) (fun t45_39 w =>
   opW Tryz.prog (Builtin.append_ #[25, 25] 25 #[out_4, t45_39]) (fun t46_40 w =>
   opW Tryz.prog (binS BinOp.add 3 (Operand.tmp 47) (Operand.const (Value.int IntKind.i64 1)) i_5 (Value.int IntKind.i64 1)) (fun t48_41 w =>
   J_16 t46_40 t48_41 k_6 w) w) w) w) w) w)
   (joinW (fun i_65 w =>
   opW Tryz.prog (Instr.indexAt 25 b_2 k_6) (fun t79_66 w =>
   opW Tryz.prog (Instr.loadAt 63 t79_66) (fun t80_67 w =>
   opW Tryz.prog (Instr.buildSlice 25 1 #[(0, t80_67)]) (fun t81_68 w =>
   opW Tryz.prog (Builtin.append_ #[25, 25] 25 #[out_4, t81_68]) (fun t82_69 w =>
   opW Tryz.prog (binS BinOp.add 3 (Operand.tmp 83) (Operand.const (Value.int IntKind.i64 1)) k_6 (Value.int IntKind.i64 1)) (fun t84_70 w =>
   J_16 t82_69 i_65 t84_70 w) w) w) w) w) w) (fun J_42 =>
   drewW w (fun w =>
   takeW Tryz.prog anyW (Builtin.len_ #[25] 3 #[a_1]) (fun t51_44 =>
   takeW Tryz.prog anyW (binS BinOp.lss 3 (Operand.tmp 49) (Operand.tmp 51) i_5 t51_44) (fun t52_45 =>
   guardT (some t52_45, true) (fun k => k b_2) (fun t54_46 =>
   guardT (some t52_45, true) (fun k => k k_6) (fun t55_47 =>
   guardT (some t52_45, true) (fun k => takeW Tryz.prog anyW (Instr.indexAt 25 t54_46 t55_47) k w) (fun t56_48 =>
   guardT (some t52_45, true) (fun k => takeW Tryz.prog (sameW w) (Instr.loadAt 63 t56_48) k w) (fun t57_49 =>
   guardT (some t52_45, true) (fun k => k a_1) (fun t58_50 =>
   guardT (some t52_45, true) (fun k => k i_5) (fun t59_51 =>
   guardT (some t52_45, true) (fun k => takeW Tryz.prog anyW (Instr.indexAt 25 t58_50 t59_51) k w) (fun t60_52 =>
   guardT (some t52_45, true) (fun k => takeW Tryz.prog (sameW w) (Instr.loadAt 63 t60_52) k w) (fun t61_53 =>
   guardW (some t52_45, true) (fun k w => callW Tryz.prog (Value.func (Fn.func 71) #[] #[]) #[t57_49, t61_53] k w) (fun t62_54 w =>
   guardT (some t52_45, true) (fun k => takeW Tryz.prog anyW (Op.unary UnOp.not t62_54) k w) (fun t63_55 =>
   pickT t52_45 t63_55 (Value.bool false) (fun t64_56 =>
   condW t64_56
   (drewW w (fun w =>
   takeW Tryz.prog anyW (Instr.indexAt 25 a_1 i_5) (fun t67_59 =>
   takeW Tryz.prog (sameW w) (Instr.loadAt 63 t67_59) (fun t68_60 =>
   takeW Tryz.prog anyW (Instr.indexAt 25 b_2 k_6) (fun t71_61 =>
   takeW Tryz.prog (sameW w) (Instr.loadAt 63 t71_61) (fun t72_62 =>
   takeW Tryz.prog anyW (binS BinOp.neq 63 (Operand.tmp 68) (Operand.tmp 72) t68_60 t72_62) (fun t73_63 =>
   condW t73_63
   (k (Value.tuple #[(Value.slice none 0 0), (Value.bool false)]) w)
   (opW Tryz.prog (binS BinOp.add 3 (Operand.tmp 74) (Operand.const (Value.int IntKind.i64 1)) i_5 (Value.int IntKind.i64 1)) (fun t75_64 w =>
   J_42 t75_64 w) w)) w) w) w) w) w))
   (J_42 i_5 w)))) w))))))))) w) w)))))) w)))))))))))))) w) w)))
   (k (Value.tuple #[out_4, (Value.bool true)]) w)) w) w) w) w) w) w) w) (Value.slice none 0 0) (Value.int IntKind.i64 0) (Value.int IntKind.i64 0) w
theorem S57_vc (a_1 b_2 : Value) (k : Value → World → Prop) (w : World) : vc Tryz.prog Tryz.f57.ntmps ann57 none ((Tryz.f57.body).getD Code.skip) 1 (params 0 [a_1, b_2]) [] (finQ Tryz.prog Tryz.f57.results.toList k) w = S57 a_1 b_2 k w := by kernel_rfl
theorem S57_calls (a_1 b_2 : Value) (k : Value → World → Prop) (w : World) (h : S57 a_1 b_2 k w) : Calls Tryz.prog 57 #[a_1, b_2] w (retP k) :=
  calls_of_vc (fn := Tryz.f57) (c := (Tryz.f57.body).getD Code.skip) ann57 Tryz.func57 (by kernel_rfl) [a_1, b_2] w k (by kernel_rfl) ((S57_vc a_1 b_2 k w).symm ▸ h)
theorem C57 (a_1 b_2 : Value) (k : Value → World → Prop) (w : World) (h : S57 a_1 b_2 k w) : callW Tryz.prog (.func (.func 57) #[] #[]) #[a_1, b_2] k w :=
  callW_calls ok57 (by simpa using S57_calls a_1 b_2 k w h)

/-! slices.SortFunc[[]newswire/api.Slip,newswire/api.Slip] -/
def ann58 : Ann := []
def S58 (x_1 cmp_2 : Value) (k : Value → World → Prop) (w : World) : Prop :=
   opW Tryz.prog (Builtin.len_ #[25] 3 #[x_1]) (fun t6_3 w =>
   opW Tryz.prog (convert 3 113 t6_3) (fun t10_4 w =>
   callW Tryz.prog (Value.func (Fn.func 81) #[] #[]) #[t10_4] (fun t11_5 w =>
   callW Tryz.prog (Value.func (Fn.func 80) #[] #[]) #[x_1, (Value.int IntKind.i64 0), t6_3, t11_5, cmp_2] (fun t13_6 w =>
   k (Value.tuple #[]) w) w) w) w) w
theorem S58_vc (x_1 cmp_2 : Value) (k : Value → World → Prop) (w : World) : vc Tryz.prog Tryz.f58.ntmps ann58 none ((Tryz.f58.body).getD Code.skip) 1 (params 0 [x_1, cmp_2]) [] (finQ Tryz.prog Tryz.f58.results.toList k) w = S58 x_1 cmp_2 k w := by kernel_rfl
theorem S58_calls (x_1 cmp_2 : Value) (k : Value → World → Prop) (w : World) (h : S58 x_1 cmp_2 k w) : Calls Tryz.prog 58 #[x_1, cmp_2] w (retP k) :=
  calls_of_vc (fn := Tryz.f58) (c := (Tryz.f58.body).getD Code.skip) ann58 Tryz.func58 (by kernel_rfl) [x_1, cmp_2] w k (by kernel_rfl) ((S58_vc x_1 cmp_2 k w).symm ▸ h)
theorem C58 (x_1 cmp_2 : Value) (k : Value → World → Prop) (w : World) (h : S58 x_1 cmp_2 k w) : callW Tryz.prog (.func (.func 58) #[] #[]) #[x_1, cmp_2] k w :=
  callW_calls ok58 (by simpa using S58_calls x_1 cmp_2 k w h)

/-! newswire/relay.bySlip -/
def ann59 : Ann := [(6, Note.plan (Plan.takeP 0 (Plan.takeU 1 (Plan.takeP 2 (Plan.takeU 3 (Plan.takeP 5 (Plan.takeU 6 (Plan.takeP 7 (Plan.takeU 8 (Plan.takeP 10 (Plan.takeU 11 (Plan.takeP 12 (Plan.takeU 13 (Plan.run 4 (Plan.run 9 (Plan.run 14 (Plan.run 15 (Plan.run 16 (Plan.takeP 17 Plan.done)))))))))))))))))))]
def S59 (a_1 b_2 : Value) (k : Value → World → Prop) (w : World) : Prop :=
   opW Tryz.prog (Instr.box 63 a_1) (fun a_3 w =>
   opW Tryz.prog (Instr.box 63 b_2) (fun b_4 w =>
   drewW w (fun w =>
   ∃ S : World → Prop, S w ∧
   takeW Tryz.prog anyW (Instr.fieldAt 63 a_3 0) (fun t5_6 =>
   takeW Tryz.prog S (Instr.loadAt 3 t5_6) (fun t6_7 =>
   takeW Tryz.prog anyW (Instr.fieldAt 63 b_4 0) (fun t7_8 =>
   takeW Tryz.prog S (Instr.loadAt 3 t7_8) (fun t8_9 =>
   takeW Tryz.prog anyW (Instr.fieldAt 63 a_3 1) (fun t10_10 =>
   takeW Tryz.prog S (Instr.loadAt 3 t10_10) (fun t11_11 =>
   takeW Tryz.prog anyW (Instr.fieldAt 63 b_4 1) (fun t12_12 =>
   takeW Tryz.prog S (Instr.loadAt 3 t12_12) (fun t13_13 =>
   takeW Tryz.prog anyW (Instr.fieldAt 63 a_3 2) (fun t15_14 =>
   takeW Tryz.prog S (Instr.loadAt 3 t15_14) (fun t16_15 =>
   takeW Tryz.prog anyW (Instr.fieldAt 63 b_4 2) (fun t17_16 =>
   takeW Tryz.prog S (Instr.loadAt 3 t17_16) (fun t18_17 =>
   callW Tryz.prog (Value.func (Fn.func 83) #[] #[]) #[t6_7, t8_9] (fun t9_18 w => keepS S (fun w =>
   callW Tryz.prog (Value.func (Fn.func 83) #[] #[]) #[t11_11, t13_13] (fun t14_19 w => keepS S (fun w =>
   callW Tryz.prog (Value.func (Fn.func 83) #[] #[]) #[t16_15, t18_17] (fun t19_20 w => keepS S (fun w =>
   opW Tryz.prog (Instr.buildSlice 54 3 #[(0, t9_18), (1, t14_19), (2, t19_20)]) (fun t20_21 w => keepS S (fun w =>
   callW Tryz.prog (Value.func (Fn.func 82) #[] #[]) #[t20_21] (fun t21_22 w => keepS S (fun w =>
   k t21_22 w) w) w) w) w) w) w) w) w) w) w) w) w) w) w) w) w) w) w) w) w) w) w)) w) w
theorem S59_vc (a_1 b_2 : Value) (k : Value → World → Prop) (w : World) : vc Tryz.prog Tryz.f59.ntmps ann59 none ((Tryz.f59.body).getD Code.skip) 1 (params 0 [a_1, b_2]) [] (finQ Tryz.prog Tryz.f59.results.toList k) w = S59 a_1 b_2 k w := by kernel_rfl
theorem S59_calls (a_1 b_2 : Value) (k : Value → World → Prop) (w : World) (h : S59 a_1 b_2 k w) : Calls Tryz.prog 59 #[a_1, b_2] w (retP k) :=
  calls_of_vc (fn := Tryz.f59) (c := (Tryz.f59.body).getD Code.skip) ann59 Tryz.func59 (by kernel_rfl) [a_1, b_2] w k (by kernel_rfl) ((S59_vc a_1 b_2 k w).symm ▸ h)
theorem C59 (a_1 b_2 : Value) (k : Value → World → Prop) (w : World) (h : S59 a_1 b_2 k w) : callW Tryz.prog (.func (.func 59) #[] #[]) #[a_1, b_2] k w :=
  callW_calls ok59 (by simpa using S59_calls a_1 b_2 k w h)

/-! slices.Clone[[]newswire/api.Dispatch,newswire/api.Dispatch] -/
def ann60 : Ann := []
def S60 (s_1 : Value) (k : Value → World → Prop) (w : World) : Prop :=
   opW Tryz.prog (binS BinOp.eql 24 (Operand.tmp 3) (Operand.const (Value.slice none 0 0)) s_1 (Value.slice none 0 0)) (fun t4_3 w =>
   condW t4_3
   (k (Value.slice none 0 0) w)
   (opW Tryz.prog (Instr.buildSlice 24 0 #[]) (fun t5_4 w =>
   opW Tryz.prog (Builtin.append_ #[24, 24] 24 #[t5_4, s_1]) (fun t7_5 w =>
   k t7_5 w) w) w)) w
theorem S60_vc (s_1 : Value) (k : Value → World → Prop) (w : World) : vc Tryz.prog Tryz.f60.ntmps ann60 none ((Tryz.f60.body).getD Code.skip) 1 (params 0 [s_1]) [] (finQ Tryz.prog Tryz.f60.results.toList k) w = S60 s_1 k w := by kernel_rfl
theorem S60_calls (s_1 : Value) (k : Value → World → Prop) (w : World) (h : S60 s_1 k w) : Calls Tryz.prog 60 #[s_1] w (retP k) :=
  calls_of_vc (fn := Tryz.f60) (c := (Tryz.f60.body).getD Code.skip) ann60 Tryz.func60 (by kernel_rfl) [s_1] w k (by kernel_rfl) ((S60_vc s_1 k w).symm ▸ h)
theorem C60 (s_1 : Value) (k : Value → World → Prop) (w : World) (h : S60 s_1 k w) : callW Tryz.prog (.func (.func 60) #[] #[]) #[s_1] k w :=
  callW_calls ok60 (by simpa using S60_calls s_1 k w h)

/-! newswire/newswireref02.Sum -/
def ann61 : Ann := [(61, Note.keep [3]), (122, Note.loop [3, 5] [4]), (253, Note.keep [6]), (506, Note.loop [6, 7] [3]), (978, Note.keep [3, 4, 5]), (4050, Note.keep [3, 6, 7]), (8100, Note.plan (Plan.takeP 0 (Plan.takeP 1 (Plan.takeP 2 (Plan.takeP 3 (Plan.takeU 4 (Plan.takeP 5 (Plan.takeU 6 (Plan.takeP 7 (Plan.takeP 8 (Plan.takeP 9 (Plan.takeU 10 (Plan.takeP 11 (Plan.takeU 12 (Plan.takeP 13 (Plan.takeP 14 (Plan.takeP 15 (Plan.takeU 16 (Plan.takeP 17 (Plan.takeU 18 (Plan.takeP 19 (Plan.takeP 20 (Plan.takeP 21 (Plan.takeU 22 (Plan.takeU 23 (Plan.run 24 (Plan.run 25 (Plan.takeP 26 Plan.done))))))))))))))))))))))))))))]
def S61 (s_1 : Value) (k : Value → World → Prop) (w : World) : Prop :=
   opW Tryz.prog (Instr.buildSlice 115 8 #[(0, (Value.int IntKind.u32 1779033703)), (1, (Value.int IntKind.u32 3144134277)), (2, (Value.int IntKind.u32 1013904242)), (3, (Value.int IntKind.u32 2773480762)), (4, (Value.int IntKind.u32 1359893119)), (5, (Value.int IntKind.u32 2600822924)), (6, (Value.int IntKind.u32 528734635)), (7, (Value.int IntKind.u32 1541459225))]) (fun t8_2 w =>
   callW Tryz.prog (Value.func (Fn.func 84) #[] #[]) #[s_1] (fun t10_3 w =>
   Loop2 (fun h_5 i_6 w K_7 =>
   opW Tryz.prog (Builtin.len_ #[69] 3 #[t10_3]) (fun t13_9 w =>
   opW Tryz.prog (binS BinOp.lss 3 (Operand.tmp 11) (Operand.tmp 13) i_6 t13_9) (fun t14_10 w =>
   condW t14_10
   (opW Tryz.prog (binS BinOp.add 3 (Operand.tmp 20) (Operand.const (Value.int IntKind.i64 64)) i_6 (Value.int IntKind.i64 64)) (fun t21_12 w =>
   opW Tryz.prog (Instr.sliceAt 69 t10_3 (some i_6) (some t21_12) none) (fun t22_13 w =>
   callW Tryz.prog (Value.func (Fn.func 85) #[] #[]) #[h_5, t22_13] (fun t23_14 w =>
   opW Tryz.prog (binS BinOp.add 3 (Operand.tmp 15) (Operand.const (Value.int IntKind.i64 64)) i_6 (Value.int IntKind.i64 64)) (fun t16_15 w =>
   loopK [] [] [t10_3] [t10_3] (K_7 t23_14 t16_15 w)) w) w) w) w)
   (Loop2 (fun out_17 i_18 w K_19 =>
   opW Tryz.prog (binS BinOp.lss 3 (Operand.tmp 24) (Operand.const (Value.int IntKind.i64 8)) i_18 (Value.int IntKind.i64 8)) (fun t25_21 w =>
   condW t25_21
   (drewW w (fun w =>
   ∃ S : World → Prop, S w ∧
   takeW Tryz.prog anyW (Instr.indexAt 115 h_5 i_18) (fun t31_24 =>
   takeW Tryz.prog S (Instr.loadAt 89 t31_24) (fun t32_25 =>
   takeW Tryz.prog anyW (binS BinOp.shr 89 (Operand.tmp 32) (Operand.const (Value.int IntKind.u64 24)) t32_25 (Value.int IntKind.u64 24)) (fun t33_26 =>
   takeW Tryz.prog S (convert 89 5 t33_26) (fun t34_27 =>
   takeW Tryz.prog anyW (Instr.indexAt 115 h_5 i_18) (fun t37_28 =>
   takeW Tryz.prog S (Instr.loadAt 89 t37_28) (fun t38_29 =>
   takeW Tryz.prog anyW (binS BinOp.shr 89 (Operand.tmp 38) (Operand.const (Value.int IntKind.u64 16)) t38_29 (Value.int IntKind.u64 16)) (fun t39_30 =>
   takeW Tryz.prog S (convert 89 5 t39_30) (fun t40_31 =>
   takeW Tryz.prog anyW (Instr.indexAt 115 h_5 i_18) (fun t43_32 =>
   takeW Tryz.prog S (Instr.loadAt 89 t43_32) (fun t44_33 =>
   takeW Tryz.prog anyW (binS BinOp.shr 89 (Operand.tmp 44) (Operand.const (Value.int IntKind.u64 8)) t44_33 (Value.int IntKind.u64 8)) (fun t45_34 =>
   takeW Tryz.prog S (convert 89 5 t45_34) (fun t46_35 =>
   takeW Tryz.prog anyW (Instr.indexAt 115 h_5 i_18) (fun t49_36 =>
   takeW Tryz.prog S (Instr.loadAt 89 t49_36) (fun t50_37 =>
   takeW Tryz.prog S (convert 89 5 t50_37) (fun t51_38 =>
   opW Tryz.prog (Instr.buildSlice 69 4 #[(0, t34_27), (1, t40_31), (2, t46_35), (3, t51_38)]) (fun t52_39 w => keepS S (fun w =>
   opW Tryz.prog (Builtin.append_ #[69, 69] 69 #[out_17, t52_39]) (fun t53_40 w => keepS S (fun w =>
   opW Tryz.prog (binS BinOp.add 3 (Operand.tmp 26) (Operand.const (Value.int IntKind.i64 1)) i_18 (Value.int IntKind.i64 1)) (fun t27_41 w =>
   loopK [] [] [h_5] [h_5] (K_19 t53_40 t27_41 w)) w) w) w) w) w) w) w) w) w) w) w) w) w) w) w) w) w) w) w) w))
   (opW Tryz.prog (convert 69 9 out_17) (fun t55_42 w =>
   k t55_42 w) w)) w) (Value.slice none 0 0) (Value.int IntKind.i64 0) w)) w) w) t8_2 (Value.int IntKind.i64 0) w) w) w
theorem S61_vc (s_1 : Value) (k : Value → World → Prop) (w : World) : vc Tryz.prog Tryz.f61.ntmps ann61 none ((Tryz.f61.body).getD Code.skip) 1 (params 0 [s_1]) [] (finQ Tryz.prog Tryz.f61.results.toList k) w = S61 s_1 k w := by kernel_rfl
theorem S61_calls (s_1 : Value) (k : Value → World → Prop) (w : World) (h : S61 s_1 k w) : Calls Tryz.prog 61 #[s_1] w (retP k) :=
  calls_of_vc (fn := Tryz.f61) (c := (Tryz.f61.body).getD Code.skip) ann61 Tryz.func61 (by kernel_rfl) [s_1] w k (by kernel_rfl) ((S61_vc s_1 k w).symm ▸ h)
theorem C61 (s_1 : Value) (k : Value → World → Prop) (w : World) (h : S61 s_1 k w) : callW Tryz.prog (.func (.func 61) #[] #[]) #[s_1] k w :=
  callW_calls ok61 (by simpa using S61_calls s_1 k w h)

/-! slices.Clone[[]newswire/api.Slip,newswire/api.Slip] -/
def ann62 : Ann := []
def S62 (s_1 : Value) (k : Value → World → Prop) (w : World) : Prop :=
   opW Tryz.prog (binS BinOp.eql 25 (Operand.tmp 3) (Operand.const (Value.slice none 0 0)) s_1 (Value.slice none 0 0)) (fun t4_3 w =>
   condW t4_3
   (k (Value.slice none 0 0) w)
   (opW Tryz.prog (Instr.buildSlice 25 0 #[]) (fun t5_4 w =>
   opW Tryz.prog (Builtin.append_ #[25, 25] 25 #[t5_4, s_1]) (fun t7_5 w =>
   k t7_5 w) w) w)) w
theorem S62_vc (s_1 : Value) (k : Value → World → Prop) (w : World) : vc Tryz.prog Tryz.f62.ntmps ann62 none ((Tryz.f62.body).getD Code.skip) 1 (params 0 [s_1]) [] (finQ Tryz.prog Tryz.f62.results.toList k) w = S62 s_1 k w := by kernel_rfl
theorem S62_calls (s_1 : Value) (k : Value → World → Prop) (w : World) (h : S62 s_1 k w) : Calls Tryz.prog 62 #[s_1] w (retP k) :=
  calls_of_vc (fn := Tryz.f62) (c := (Tryz.f62.body).getD Code.skip) ann62 Tryz.func62 (by kernel_rfl) [s_1] w k (by kernel_rfl) ((S62_vc s_1 k w).symm ▸ h)
theorem C62 (s_1 : Value) (k : Value → World → Prop) (w : World) (h : S62 s_1 k w) : callW Tryz.prog (.func (.func 62) #[] #[]) #[s_1] k w :=
  callW_calls ok62 (by simpa using S62_calls s_1 k w h)

/-! newswire/relay.checked -/
def ann63 : Ann := []
def S63 (r_1 : Value) (k : Value → World → Prop) (w : World) : Prop :=
   opW Tryz.prog (Instr.box 27 r_1) (fun r_2 w =>
   opW Tryz.prog (Instr.alloc 27 true (Value.tuple #[])) (fun t2_3 w =>
   opW Tryz.prog (Instr.loadAt 27 r_2) (fun t4_5 w =>
   callW Tryz.prog (Value.func (Fn.func 15) #[] #[]) #[t4_5] (fun t5_6 w =>
   opW Tryz.prog (Op.unary UnOp.not t5_6) (fun t6_7 w =>
   condW t6_7
   (opW Tryz.prog (Instr.build 27 #[]) (fun t7_8 w =>
   opU Tryz.prog (Instr.storeAt 27 t2_3 t7_8) (fun _ w =>
   resCell Tryz.prog 27 t2_3 (fun r_9 => k (Value.tuple #[r_9, (Value.int IntKind.i64 250)]) w) w) w) w)
   (opW Tryz.prog (Instr.loadAt 27 r_2) (fun t8_10 w =>
   opU Tryz.prog (Instr.storeAt 27 t2_3 t8_10) (fun _ w =>
   resCell Tryz.prog 27 t2_3 (fun r_11 => k (Value.tuple #[r_11, (Value.int IntKind.i64 0)]) w) w) w) w)) w) w) w) w) w
theorem S63_vc (r_1 : Value) (k : Value → World → Prop) (w : World) : vc Tryz.prog Tryz.f63.ntmps ann63 none ((Tryz.f63.body).getD Code.skip) 1 (params 0 [r_1]) [] (finQ Tryz.prog Tryz.f63.results.toList k) w = S63 r_1 k w := by kernel_rfl
theorem S63_calls (r_1 : Value) (k : Value → World → Prop) (w : World) (h : S63 r_1 k w) : Calls Tryz.prog 63 #[r_1] w (retP k) :=
  calls_of_vc (fn := Tryz.f63) (c := (Tryz.f63.body).getD Code.skip) ann63 Tryz.func63 (by kernel_rfl) [r_1] w k (by kernel_rfl) ((S63_vc r_1 k w).symm ▸ h)
theorem C63 (r_1 : Value) (k : Value → World → Prop) (w : World) (h : S63 r_1 k w) : callW Tryz.prog (.func (.func 63) #[] #[]) #[r_1] k w :=
  callW_calls ok63 (by simpa using S63_calls r_1 k w h)

/-! slices.Chunk[[]byte,byte] -/
def ann64 : Ann := []
def S64 (s_1 n_2 : Value) (k : Value → World → Prop) (w : World) : Prop :=
   opW Tryz.prog (Instr.box 69 s_1) (fun s_3 w =>
   opW Tryz.prog (Instr.box 3 n_2) (fun n_4 w =>
   joinW (fun w =>
   opW Tryz.prog (Instr.makeFunc (Fn.func 86) #[] #[s_3, n_4]) (fun t8_9 w =>
   k t8_9 w) w) (fun J_5 =>
   opW Tryz.prog (Instr.loadAt 3 n_4) (fun t5_6 w =>
   opW Tryz.prog (binS BinOp.lss 3 (Operand.tmp 5) (Operand.const (Value.int IntKind.i64 1)) t5_6 (Value.int IntKind.i64 1)) (fun t6_7 w =>
   condW t6_7
   (opW Tryz.prog (Instr.makeInterface 9 (Value.string { data := #[99, 97, 110, 110, 111, 116, 32, 98, 101, 32, 108, 101, 115, 115, 32, 116, 104, 97, 110, 32, 49] })) (fun t7_8 w =>
   False) w)
   (J_5 w)) w) w)) w) w
theorem S64_vc (s_1 n_2 : Value) (k : Value → World → Prop) (w : World) : vc Tryz.prog Tryz.f64.ntmps ann64 none ((Tryz.f64.body).getD Code.skip) 1 (params 0 [s_1, n_2]) [] (finQ Tryz.prog Tryz.f64.results.toList k) w = S64 s_1 n_2 k w := by kernel_rfl
theorem S64_calls (s_1 n_2 : Value) (k : Value → World → Prop) (w : World) (h : S64 s_1 n_2 k w) : Calls Tryz.prog 64 #[s_1, n_2] w (retP k) :=
  calls_of_vc (fn := Tryz.f64) (c := (Tryz.f64.body).getD Code.skip) ann64 Tryz.func64 (by kernel_rfl) [s_1, n_2] w k (by kernel_rfl) ((S64_vc s_1 n_2 k w).symm ▸ h)
theorem C64 (s_1 n_2 : Value) (k : Value → World → Prop) (w : World) (h : S64 s_1 n_2 k w) : callW Tryz.prog (.func (.func 64) #[] #[]) #[s_1, n_2] k w :=
  callW_calls ok64 (by simpa using S64_calls s_1 n_2 k w h)

/-! (*newswire/digest.words).add -/
def ann65 : Ann := [(29, Note.keep [0, 5]), (31, Note.keep []), (58, Note.loop [19] [0, 4, 5, 18]), (62, Note.loop [82] [0, 5]), (934, Note.keep [0, 4, 5, 18, 19]), (998, Note.keep [0, 5, 82]), (3993, Note.plan (Plan.takeP 0 (Plan.takeP 1 (Plan.takeP 2 (Plan.takeP 3 (Plan.takeX 4 (Plan.takeP 5 (Plan.takeP 6 (Plan.takeX 7 (Plan.takeP 8 (Plan.takeP 9 (Plan.takeP 10 (Plan.run 11 Plan.done))))))))))))), (7474, Note.plan (Plan.takeP 0 (Plan.takeX 1 (Plan.takeP 2 (Plan.takeX 3 (Plan.takeP 4 (Plan.takeP 5 Plan.done))))))), (14950, Note.plan (Plan.takeP 0 (Plan.takeU 1 (Plan.takeP 2 (Plan.takeP 6 (Plan.takeP 7 (Plan.takeU 8 (Plan.takeP 9 (Plan.takeP 10 (Plan.takeP 11 (Plan.takeP 12 (Plan.takeU 13 (Plan.takeP 14 (Plan.takeP 15 (Plan.takeP 17 (Plan.takeP 19 (Plan.takeP 20 (Plan.takeU 21 (Plan.run 3 (Plan.run 4 (Plan.takeP 5 (Plan.takeP 16 (Plan.takeP 18 (Plan.takeP 22 (Plan.takeP 23 Plan.done))))))))))))))))))))))))), (29902, Note.plan (Plan.takeP 0 (Plan.takeP 3 (Plan.takeP 4 (Plan.takeU 5 (Plan.takeP 6 (Plan.takeP 7 (Plan.takeP 8 (Plan.takeU 9 (Plan.takeP 10 (Plan.takeP 11 (Plan.takeP 12 (Plan.takeU 13 (Plan.takeP 14 (Plan.takeU 15 (Plan.takeP 16 (Plan.takeP 17 (Plan.run 1 (Plan.run 2 (Plan.takeP 18 (Plan.takeP 19 Plan.done))))))))))))))))))))), (59806, Note.plan (Plan.takeP 0 (Plan.takeP 1 (Plan.run 2 Plan.done))))]
def S65 (h_1 b_2 : Value) (k : Value → World → Prop) (w : World) : Prop :=
   callW Tryz.prog (Value.func (Fn.func 87) #[] #[]) #[b_2] (fun t14_3 w =>
   opW Tryz.prog (Instr.alloc 120 true (Value.tuple #[])) (fun w_4 w =>
   opU Tryz.prog (Instr.storeAt 120 w_4 t14_3) (fun _ w =>
   nilW h_1 (fun t16_5 w =>
   opW Tryz.prog (Instr.loadAt 91 t16_5) (fun t17_6 w =>
   opW Tryz.prog (Instr.alloc 91 true (Value.tuple #[])) (fun v_7 w =>
   opU Tryz.prog (Instr.storeAt 91 v_7 t17_6) (fun _ w =>
   opW Tryz.prog (Instr.loadAt 120 (Value.pointer (some ⟨0, 0, none⟩))) (fun t18_8 w =>
   Loop1 (fun t19_10 w K_11 =>
   opW Tryz.prog (binS BinOp.lss 3 (Operand.tmp 19) (Operand.const (Value.int IntKind.i64 64)) t19_10 (Value.int IntKind.i64 64)) (fun t20_12 w =>
   condW t20_12
   (opW Tryz.prog (Instr.index 120 t18_8 t19_10) (fun t22_15 w =>
   drewW w (fun w =>
   takeW Tryz.prog anyW (Instr.indexAt 91 v_7 (Value.int IntKind.i64 0)) (fun t23_17 =>
   takeW Tryz.prog (sameW w) (Instr.loadAt 89 t23_17) (fun t24_18 =>
   takeW Tryz.prog anyW (Instr.indexAt 91 v_7 (Value.int IntKind.i64 4)) (fun t25_19 =>
   takeW Tryz.prog (sameW w) (Instr.loadAt 89 t25_19) (fun t26_20 =>
   drewW w (fun w =>
   ∃ S : World → Prop, S w ∧
   takeW Tryz.prog anyW (Instr.indexAt 91 v_7 (Value.int IntKind.i64 7)) (fun t27_22 =>
   takeW Tryz.prog S (Instr.loadAt 89 t27_22) (fun t28_23 =>
   takeW Tryz.prog anyW (Instr.indexAt 91 v_7 (Value.int IntKind.i64 5)) (fun t34_24 =>
   takeW Tryz.prog S (Instr.loadAt 89 t34_24) (fun t35_25 =>
   takeW Tryz.prog anyW (binS BinOp.and 89 (Operand.tmp 33) (Operand.tmp 35) t26_20 t35_25) (fun t36_26 =>
   takeW Tryz.prog anyW (Op.unary UnOp.xor t26_20) (fun t38_27 =>
   takeW Tryz.prog anyW (Instr.indexAt 91 v_7 (Value.int IntKind.i64 6)) (fun t39_28 =>
   takeW Tryz.prog S (Instr.loadAt 89 t39_28) (fun t40_29 =>
   takeW Tryz.prog anyW (binS BinOp.and 89 (Operand.tmp 38) (Operand.tmp 40) t38_27 t40_29) (fun t41_30 =>
   takeW Tryz.prog anyW (binS BinOp.xor 89 (Operand.tmp 36) (Operand.tmp 41) t36_26 t41_30) (fun t42_31 =>
   takeW Tryz.prog anyW (Instr.indexAt 120 w_4 t19_10) (fun t47_32 =>
   takeW Tryz.prog S (Instr.loadAt 89 t47_32) (fun t48_33 =>
   opW Tryz.prog (Instr.buildSlice 54 3 #[(0, (Value.int IntKind.i64 6)), (1, (Value.int IntKind.i64 11)), (2, (Value.int IntKind.i64 25))]) (fun t30_34 w => keepS S (fun w =>
   callW Tryz.prog (Value.func (Fn.func 88) #[] #[]) #[t26_20, t30_34] (fun t31_35 w => keepS S (fun w =>
   takeW Tryz.prog anyW (binS BinOp.add 89 (Operand.tmp 28) (Operand.tmp 31) t28_23 t31_35) (fun t32_36 =>
   takeW Tryz.prog anyW (binS BinOp.add 89 (Operand.tmp 32) (Operand.tmp 42) t32_36 t42_31) (fun t43_37 =>
   takeW Tryz.prog anyW (binS BinOp.add 89 (Operand.tmp 43) (Operand.tmp 44) t43_37 t22_15) (fun t45_38 =>
   takeW Tryz.prog anyW (binS BinOp.add 89 (Operand.tmp 45) (Operand.tmp 48) t45_38 t48_33) (fun t49_39 =>
   drewW w (fun w =>
   ∃ S : World → Prop, S w ∧
   takeW Tryz.prog anyW (Instr.indexAt 91 v_7 (Value.int IntKind.i64 1)) (fun t54_41 =>
   takeW Tryz.prog S (Instr.loadAt 89 t54_41) (fun t55_42 =>
   takeW Tryz.prog anyW (binS BinOp.and 89 (Operand.tmp 53) (Operand.tmp 55) t24_18 t55_42) (fun t56_43 =>
   takeW Tryz.prog anyW (Instr.indexAt 91 v_7 (Value.int IntKind.i64 2)) (fun t58_44 =>
   takeW Tryz.prog S (Instr.loadAt 89 t58_44) (fun t59_45 =>
   takeW Tryz.prog anyW (binS BinOp.and 89 (Operand.tmp 57) (Operand.tmp 59) t24_18 t59_45) (fun t60_46 =>
   takeW Tryz.prog anyW (binS BinOp.xor 89 (Operand.tmp 56) (Operand.tmp 60) t56_43 t60_46) (fun t61_47 =>
   takeW Tryz.prog anyW (Instr.indexAt 91 v_7 (Value.int IntKind.i64 1)) (fun t62_48 =>
   takeW Tryz.prog S (Instr.loadAt 89 t62_48) (fun t63_49 =>
   takeW Tryz.prog anyW (Instr.indexAt 91 v_7 (Value.int IntKind.i64 2)) (fun t64_50 =>
   takeW Tryz.prog S (Instr.loadAt 89 t64_50) (fun t65_51 =>
   takeW Tryz.prog anyW (binS BinOp.and 89 (Operand.tmp 63) (Operand.tmp 65) t63_49 t65_51) (fun t66_52 =>
   takeW Tryz.prog anyW (binS BinOp.xor 89 (Operand.tmp 61) (Operand.tmp 66) t61_47 t66_52) (fun t67_53 =>
   opW Tryz.prog (Instr.buildSlice 54 3 #[(0, (Value.int IntKind.i64 2)), (1, (Value.int IntKind.i64 13)), (2, (Value.int IntKind.i64 22))]) (fun t51_54 w => keepS S (fun w =>
   callW Tryz.prog (Value.func (Fn.func 88) #[] #[]) #[t24_18, t51_54] (fun t52_55 w => keepS S (fun w =>
   takeW Tryz.prog anyW (binS BinOp.add 89 (Operand.tmp 52) (Operand.tmp 67) t52_55 t67_53) (fun t68_56 =>
   drewW w (fun w =>
   takeW Tryz.prog anyW (Instr.sliceAt 91 v_7 (some (Value.int IntKind.i64 1)) none none) (fun t69_58 =>
   takeW Tryz.prog anyW (Instr.sliceAt 91 v_7 none (some (Value.int IntKind.i64 7)) none) (fun t70_59 =>
   opW Tryz.prog (Builtin.copy_ #[115, 115] 3 #[t69_58, t70_59]) (fun t71_60 w =>
   opW Tryz.prog (binS BinOp.add 89 (Operand.tmp 72) (Operand.tmp 73) t49_39 t68_56) (fun t74_61 w =>
   opW Tryz.prog (Instr.indexAt 91 v_7 (Value.int IntKind.i64 4)) (fun t75_62 w =>
   opW Tryz.prog (Instr.loadAt 89 t75_62) (fun t76_63 w =>
   opW Tryz.prog (binS BinOp.add 89 (Operand.tmp 76) (Operand.tmp 77) t76_63 t49_39) (fun t78_64 w =>
   opW Tryz.prog (Instr.indexAt 91 v_7 (Value.int IntKind.i64 0)) (fun t79_65 w =>
   opU Tryz.prog (Instr.storeAt 89 t79_65 t74_61) (fun _ w =>
   opW Tryz.prog (Instr.indexAt 91 v_7 (Value.int IntKind.i64 4)) (fun t80_66 w =>
   opU Tryz.prog (Instr.storeAt 89 t80_66 t78_64) (fun _ w =>
   opW Tryz.prog (binS BinOp.add 3 (Operand.tmp 19) (Operand.const (Value.int IntKind.i64 1)) t19_10 (Value.int IntKind.i64 1)) (fun t81_67 w =>
   loopK [] [] [h_1, w_4, v_7, t18_8] [h_1, w_4, v_7, t18_8] (K_11 t81_67 w)) w) w) w) w) w) w) w) w) w) w) w) w)) w) w) w) w) w) w) w) w) w) w) w) w) w) w) w) w) w) w)) w) w) w) w) w) w) w) w) w) w) w) w) w) w) w) w) w) w) w) w)) w) w) w) w)) w)
   (Loop1 (fun t82_69 w K_70 =>
   opW Tryz.prog (binS BinOp.lss 3 (Operand.tmp 82) (Operand.const (Value.int IntKind.i64 8)) t82_69 (Value.int IntKind.i64 8)) (fun t83_71 w =>
   condW t83_71
   (drewW w (fun w =>
   nilT h_1 (fun t87_75 =>
   takeW Tryz.prog anyW (Instr.indexAt 91 t87_75 t82_69) (fun t88_76 =>
   takeW Tryz.prog (sameW w) (Instr.loadAt 89 t88_76) (fun t89_77 =>
   takeW Tryz.prog anyW (Instr.indexAt 91 v_7 t82_69) (fun t91_78 =>
   takeW Tryz.prog (sameW w) (Instr.loadAt 89 t91_78) (fun t92_79 =>
   takeW Tryz.prog anyW (binS BinOp.add 89 (Operand.tmp 89) (Operand.tmp 92) t89_77 t92_79) (fun t93_80 =>
   nilT h_1 (fun t94_81 =>
   takeW Tryz.prog anyW (Instr.indexAt 91 t94_81 t82_69) (fun t95_82 =>
   opU Tryz.prog (Instr.storeAt 89 t95_82 t93_80) (fun _ w =>
   opW Tryz.prog (binS BinOp.add 3 (Operand.tmp 82) (Operand.const (Value.int IntKind.i64 1)) t82_69 (Value.int IntKind.i64 1)) (fun t96_83 w =>
   loopK [] [] [h_1, v_7] [h_1, v_7] (K_70 t96_83 w)) w) w) w)) w) w) w) w) w)))
   (k (Value.tuple #[]) w)) w) (Value.int IntKind.i64 0) w)) w) (Value.int IntKind.i64 0) w) w) w) w) w) w) w) w) w
theorem S65_vc (h_1 b_2 : Value) (k : Value → World → Prop) (w : World) : vc Tryz.prog Tryz.f65.ntmps ann65 none ((Tryz.f65.body).getD Code.skip) 1 (params 0 [h_1, b_2]) [] (finQ Tryz.prog Tryz.f65.results.toList k) w = S65 h_1 b_2 k w := by kernel_rfl
theorem S65_calls (h_1 b_2 : Value) (k : Value → World → Prop) (w : World) (h : S65 h_1 b_2 k w) : Calls Tryz.prog 65 #[h_1, b_2] w (retP k) :=
  calls_of_vc (fn := Tryz.f65) (c := (Tryz.f65.body).getD Code.skip) ann65 Tryz.func65 (by kernel_rfl) [h_1, b_2] w k (by kernel_rfl) ((S65_vc h_1 b_2 k w).symm ▸ h)
theorem C65 (h_1 b_2 : Value) (k : Value → World → Prop) (w : World) (h : S65 h_1 b_2 k w) : callW Tryz.prog (.func (.func 65) #[] #[]) #[h_1, b_2] k w :=
  callW_calls ok65 (by simpa using S65_calls h_1 b_2 k w h)

/-! (newswire/digest.words).digest -/
def ann66 : Ann := [(29, Note.keep [3]), (58, Note.loop [8] [3, 7]), (934, Note.keep [3, 7, 8]), (7475, Note.keep [3, 7, 8]), (14950, Note.loop [12] [3, 4, 5, 7, 8]), (239206, Note.keep [3, 4, 5, 7, 8, 12])]
def S66 (h_1 : Value) (k : Value → World → Prop) (w : World) : Prop :=
   opW Tryz.prog (Instr.box 91 h_1) (fun h_2 w =>
   opW Tryz.prog (Instr.alloc 123 true (Value.tuple #[])) (fun out_3 w =>
   opW Tryz.prog (Instr.loadAt 91 h_2) (fun t7_4 w =>
   Loop1 (fun t8_6 w K_7 =>
   opW Tryz.prog (binS BinOp.lss 3 (Operand.tmp 8) (Operand.const (Value.int IntKind.i64 8)) t8_6 (Value.int IntKind.i64 8)) (fun t9_8 w =>
   condW t9_8
   (opW Tryz.prog (Instr.index 91 t7_4 t8_6) (fun t11_11 w =>
   Loop1 (fun t12_13 w K_14 =>
   opW Tryz.prog (binS BinOp.lss 3 (Operand.tmp 12) (Operand.const (Value.int IntKind.i64 4)) t12_13 (Value.int IntKind.i64 4)) (fun t13_15 w =>
   condW t13_15
   (opW Tryz.prog (binS BinOp.mul 3 (Operand.const (Value.int IntKind.i64 4)) (Operand.tmp 15) (Value.int IntKind.i64 4) t8_6) (fun t16_18 w =>
   opW Tryz.prog (binS BinOp.add 3 (Operand.tmp 16) (Operand.tmp 17) t16_18 t12_13) (fun t18_19 w =>
   opW Tryz.prog (binS BinOp.mul 3 (Operand.const (Value.int IntKind.i64 8)) (Operand.tmp 20) (Value.int IntKind.i64 8) t12_13) (fun t21_20 w =>
   opW Tryz.prog (binS BinOp.sub 3 (Operand.const (Value.int IntKind.i64 24)) (Operand.tmp 21) (Value.int IntKind.i64 24) t21_20) (fun t22_21 w =>
   opW Tryz.prog (binS BinOp.shr 89 (Operand.tmp 19) (Operand.tmp 22) t11_11 t22_21) (fun t23_22 w =>
   opW Tryz.prog (convert 89 5 t23_22) (fun t24_23 w =>
   opW Tryz.prog (Instr.indexAt 123 out_3 t18_19) (fun t25_24 w =>
   opU Tryz.prog (Instr.storeAt 5 t25_24 t24_23) (fun _ w =>
   opW Tryz.prog (binS BinOp.add 3 (Operand.tmp 12) (Operand.const (Value.int IntKind.i64 1)) t12_13 (Value.int IntKind.i64 1)) (fun t26_25 w =>
   loopK [] [] [out_3, t8_6, t11_11, t7_4, t8_6] [out_3, t8_6, t11_11, t7_4, t8_6] (K_14 t26_25 w)) w) w) w) w) w) w) w) w) w)
   (opW Tryz.prog (binS BinOp.add 3 (Operand.tmp 8) (Operand.const (Value.int IntKind.i64 1)) t8_6 (Value.int IntKind.i64 1)) (fun t27_26 w =>
   loopK [] [] [out_3, t7_4] [out_3, t7_4] (K_7 t27_26 w)) w)) w) (Value.int IntKind.i64 0) w) w)
   (opW Tryz.prog (Instr.sliceAt 123 out_3 none none none) (fun t28_27 w =>
   opW Tryz.prog (convert 69 9 t28_27) (fun t29_28 w =>
   k t29_28 w) w) w)) w) (Value.int IntKind.i64 0) w) w) w) w
theorem S66_vc (h_1 : Value) (k : Value → World → Prop) (w : World) : vc Tryz.prog Tryz.f66.ntmps ann66 none ((Tryz.f66.body).getD Code.skip) 1 (params 0 [h_1]) [] (finQ Tryz.prog Tryz.f66.results.toList k) w = S66 h_1 k w := by kernel_rfl
theorem S66_calls (h_1 : Value) (k : Value → World → Prop) (w : World) (h : S66 h_1 k w) : Calls Tryz.prog 66 #[h_1] w (retP k) :=
  calls_of_vc (fn := Tryz.f66) (c := (Tryz.f66.body).getD Code.skip) ann66 Tryz.func66 (by kernel_rfl) [h_1] w k (by kernel_rfl) ((S66_vc h_1 k w).symm ▸ h)
theorem C66 (h_1 : Value) (k : Value → World → Prop) (w : World) (h : S66 h_1 k w) : callW Tryz.prog (.func (.func 66) #[] #[]) #[h_1] k w :=
  callW_calls ok66 (by simpa using S66_calls h_1 k w h)

/-! newswire/relay.lists$1 -/
def ann67 : Ann := []
def S67 (s_1 : Value) (k : Value → World → Prop) (w : World) : Prop :=
   opW Tryz.prog (Instr.box 63 s_1) (fun s_2 w =>
   opW Tryz.prog (Instr.fieldAt 63 s_2 0) (fun t3_3 w =>
   opW Tryz.prog (Instr.loadAt 3 t3_3) (fun t4_4 w =>
   callW Tryz.prog (Value.func (Fn.func 43) #[] #[]) #[t4_4, (Value.int IntKind.i64 0), (Value.int IntKind.i64 7)] (fun t5_5 w =>
   guardW (some t5_5, true) (fun k w => opW Tryz.prog (Instr.fieldAt 63 s_2 1) k w) (fun t7_6 w =>
   guardW (some t5_5, true) (fun k w => opW Tryz.prog (Instr.loadAt 3 t7_6) k w) (fun t8_7 w =>
   guardW (some t5_5, true) (fun k w => callW Tryz.prog (Value.func (Fn.func 43) #[] #[]) #[t8_7, (Value.int IntKind.i64 0), (Value.int IntKind.i64 19)] k w) (fun t9_8 w =>
   pickW t5_5 t9_8 (Value.bool false) (fun t10_9 w =>
   guardW (some t10_9, true) (fun k w => opW Tryz.prog (Instr.fieldAt 63 s_2 2) k w) (fun t12_10 w =>
   guardW (some t10_9, true) (fun k w => opW Tryz.prog (Instr.loadAt 3 t12_10) k w) (fun t13_11 w =>
   guardW (some t10_9, true) (fun k w => callW Tryz.prog (Value.func (Fn.func 43) #[] #[]) #[t13_11, (Value.int IntKind.i64 1), (Value.int IntKind.i64 1000)] k w) (fun t14_12 w =>
   pickW t10_9 t14_12 (Value.bool false) (fun t15_13 w =>
   guardW (some t15_13, true) (fun k w => opW Tryz.prog (Instr.fieldAt 63 s_2 3) k w) (fun t17_14 w =>
   guardW (some t15_13, true) (fun k w => opW Tryz.prog (Instr.loadAt 9 t17_14) k w) (fun t18_15 w =>
   guardW (some t15_13, true) (fun k w => opW Tryz.prog (Builtin.len_ #[9] 3 #[t18_15]) k w) (fun t19_16 w =>
   guardW (some t15_13, true) (fun k w => opW Tryz.prog (binS BinOp.eql 3 (Operand.tmp 19) (Operand.const (Value.int IntKind.i64 32)) t19_16 (Value.int IntKind.i64 32)) k w) (fun t20_17 w =>
   pickW t15_13 t20_17 (Value.bool false) (fun t21_18 w =>
   k t21_18 w) w) w) w) w) w) w) w) w) w) w) w) w) w) w) w) w) w
theorem S67_vc (s_1 : Value) (k : Value → World → Prop) (w : World) : vc Tryz.prog Tryz.f67.ntmps ann67 none ((Tryz.f67.body).getD Code.skip) 1 (params 0 [s_1]) [] (finQ Tryz.prog Tryz.f67.results.toList k) w = S67 s_1 k w := by kernel_rfl
theorem S67_calls (s_1 : Value) (k : Value → World → Prop) (w : World) (h : S67 s_1 k w) : Calls Tryz.prog 67 #[s_1] w (retP k) :=
  calls_of_vc (fn := Tryz.f67) (c := (Tryz.f67.body).getD Code.skip) ann67 Tryz.func67 (by kernel_rfl) [s_1] w k (by kernel_rfl) ((S67_vc s_1 k w).symm ▸ h)
theorem C67 (s_1 : Value) (k : Value → World → Prop) (w : World) (h : S67 s_1 k w) : callW Tryz.prog (.func (.func 67) #[] #[]) #[s_1] k w :=
  callW_calls ok67 (by simpa using S67_calls s_1 k w h)

/-! newswire/relay.sorted[newswire/api.Dispatch] -/
def ann68 : Ann := [(13, Note.keep []), (26, Note.loop [11] [0, 1, 2, 9, 10]), (422, Note.keep [0, 1, 2, 9, 10, 11]), (3378, Note.plan (Plan.takeP 0 (Plan.takeU 1 (Plan.run 2 (Plan.takeP 3 (Plan.takeP 4 (Plan.takeP 5 (Plan.takeP 6 (Plan.takeP 7 (Plan.takeP 8 (Plan.takeP 9 (Plan.takeP 10 (Plan.takeP 11 (Plan.takeP 12 (Plan.takeX 13 (Plan.takeX 14 (Plan.run 15 (Plan.takeP 16 (Plan.takeP 17 (Plan.takeP 18 Plan.done))))))))))))))))))))]
def S68 (l_1 good_2 compare_3 : Value) (k : Value → World → Prop) (w : World) : Prop :=
   opW Tryz.prog (Builtin.len_ #[24] 3 #[l_1]) (fun t10_4 w =>
   Loop1 (fun t11_6 w K_7 =>
   opW Tryz.prog (binS BinOp.lss 3 (Operand.tmp 11) (Operand.tmp 10) t11_6 t10_4) (fun t12_8 w =>
   condW t12_8
   (opW Tryz.prog (Instr.indexAt 24 l_1 t11_6) (fun t14_11 w =>
   opW Tryz.prog (Instr.loadAt 31 t14_11) (fun t15_12 w =>
   opW Tryz.prog (Instr.alloc 31 true (Value.tuple #[])) (fun x_13 w =>
   opU Tryz.prog (Instr.storeAt 31 x_13 t15_12) (fun _ w =>
   drewW w (fun w =>
   ∃ S : World → Prop, S w ∧
   takeW Tryz.prog S (Instr.loadAt 31 x_13) (fun t17_15 =>
   callW Tryz.prog good_2 #[t17_15] (fun t18_16 w =>
   takeW Tryz.prog anyW (Op.unary UnOp.not t18_16) (fun t19_17 =>
   guardT (some t19_17, false) (fun k => k t11_6) (fun t21_18 =>
   guardT (some t19_17, false) (fun k => takeW Tryz.prog anyW (binS BinOp.gtr 3 (Operand.tmp 21) (Operand.const (Value.int IntKind.i64 0)) t21_18 (Value.int IntKind.i64 0)) k w) (fun t22_19 =>
   guardT (some t19_17, false) (fun k => k t22_19) (fun t23_20 =>
   guardT (some t23_20, true) (fun k => k compare_3) (fun t24_21 =>
   guardT (some t23_20, true) (fun k => k l_1) (fun t25_22 =>
   guardT (some t23_20, true) (fun k => k t11_6) (fun t26_23 =>
   guardT (some t23_20, true) (fun k => takeW Tryz.prog anyW (binS BinOp.sub 3 (Operand.tmp 26) (Operand.const (Value.int IntKind.i64 1)) t26_23 (Value.int IntKind.i64 1)) k w) (fun t27_24 =>
   guardT (some t23_20, true) (fun k => takeW Tryz.prog anyW (Instr.indexAt 24 t25_22 t27_24) k w) (fun t28_25 =>
   guardT (some t23_20, true) (fun k => takeW Tryz.prog (sameW w) (Instr.loadAt 31 t28_25) k w) (fun t29_26 =>
   guardT (some t23_20, true) (fun k => takeW Tryz.prog (sameW w) (Instr.loadAt 31 x_13) k w) (fun t30_27 =>
   guardW (some t23_20, true) (fun k w => callW Tryz.prog t24_21 #[t29_26, t30_27] k w) (fun t31_28 w => keepS S (fun w =>
   guardT (some t23_20, true) (fun k => takeW Tryz.prog anyW (binS BinOp.geq 3 (Operand.tmp 31) (Operand.const (Value.int IntKind.i64 0)) t31_28 (Value.int IntKind.i64 0)) k w) (fun t32_29 =>
   guardT (some t19_17, false) (fun k => pickT t23_20 t32_29 (Value.bool false) k) (fun t33_30 =>
   pickT t19_17 (Value.bool true) t33_30 (fun t34_31 =>
   condW t34_31
   (k (Value.bool false) w)
   (opW Tryz.prog (binS BinOp.add 3 (Operand.tmp 11) (Operand.const (Value.int IntKind.i64 1)) t11_6 (Value.int IntKind.i64 1)) (fun t35_32 w =>
   loopK [] [] [l_1, good_2, compare_3, l_1, t10_4] [l_1, good_2, compare_3, l_1, t10_4] (K_7 t35_32 w)) w))))) w) w))))))))))) w) w) w)) w) w) w) w)
   (k (Value.bool true) w)) w) (Value.int IntKind.i64 0) w) w
theorem S68_vc (l_1 good_2 compare_3 : Value) (k : Value → World → Prop) (w : World) : vc Tryz.prog Tryz.f68.ntmps ann68 none ((Tryz.f68.body).getD Code.skip) 1 (params 0 [l_1, good_2, compare_3]) [] (finQ Tryz.prog Tryz.f68.results.toList k) w = S68 l_1 good_2 compare_3 k w := by kernel_rfl
theorem S68_calls (l_1 good_2 compare_3 : Value) (k : Value → World → Prop) (w : World) (h : S68 l_1 good_2 compare_3 k w) : Calls Tryz.prog 68 #[l_1, good_2, compare_3] w (retP k) :=
  calls_of_vc (fn := Tryz.f68) (c := (Tryz.f68.body).getD Code.skip) ann68 Tryz.func68 (by kernel_rfl) [l_1, good_2, compare_3] w k (by kernel_rfl) ((S68_vc l_1 good_2 compare_3 k w).symm ▸ h)
theorem C68 (l_1 good_2 compare_3 : Value) (k : Value → World → Prop) (w : World) (h : S68 l_1 good_2 compare_3 k w) : callW Tryz.prog (.func (.func 68) #[] #[]) #[l_1, good_2, compare_3] k w :=
  callW_calls ok68 (by simpa using S68_calls l_1 good_2 compare_3 k w h)

/-! newswire/relay.byStory -/
def ann69 : Ann := []
def S69 (a_1 b_2 : Value) (k : Value → World → Prop) (w : World) : Prop :=
   opW Tryz.prog (Instr.box 31 a_1) (fun a_3 w =>
   opW Tryz.prog (Instr.box 31 b_2) (fun b_4 w =>
   opW Tryz.prog (Instr.fieldAt 31 a_3 0) (fun t5_5 w =>
   opW Tryz.prog (Instr.loadAt 3 t5_5) (fun t6_6 w =>
   opW Tryz.prog (Instr.fieldAt 31 b_4 0) (fun t7_7 w =>
   opW Tryz.prog (Instr.loadAt 3 t7_7) (fun t8_8 w =>
   callW Tryz.prog (Value.func (Fn.func 83) #[] #[]) #[t6_6, t8_8] (fun t9_9 w =>
   k t9_9 w) w) w) w) w) w) w) w
theorem S69_vc (a_1 b_2 : Value) (k : Value → World → Prop) (w : World) : vc Tryz.prog Tryz.f69.ntmps ann69 none ((Tryz.f69.body).getD Code.skip) 1 (params 0 [a_1, b_2]) [] (finQ Tryz.prog Tryz.f69.results.toList k) w = S69 a_1 b_2 k w := by kernel_rfl
theorem S69_calls (a_1 b_2 : Value) (k : Value → World → Prop) (w : World) (h : S69 a_1 b_2 k w) : Calls Tryz.prog 69 #[a_1, b_2] w (retP k) :=
  calls_of_vc (fn := Tryz.f69) (c := (Tryz.f69.body).getD Code.skip) ann69 Tryz.func69 (by kernel_rfl) [a_1, b_2] w k (by kernel_rfl) ((S69_vc a_1 b_2 k w).symm ▸ h)
theorem C69 (a_1 b_2 : Value) (k : Value → World → Prop) (w : World) (h : S69 a_1 b_2 k w) : callW Tryz.prog (.func (.func 69) #[] #[]) #[a_1, b_2] k w :=
  callW_calls ok69 (by simpa using S69_calls a_1 b_2 k w h)

/-! newswire/relay.sorted[newswire/api.Slip] -/
def ann70 : Ann := [(13, Note.keep []), (26, Note.loop [11] [0, 1, 2, 9, 10]), (422, Note.keep [0, 1, 2, 9, 10, 11]), (3378, Note.plan (Plan.takeP 0 (Plan.takeU 1 (Plan.run 2 (Plan.takeP 3 (Plan.takeP 4 (Plan.takeP 5 (Plan.takeP 6 (Plan.takeP 7 (Plan.takeP 8 (Plan.takeP 9 (Plan.takeP 10 (Plan.takeP 11 (Plan.takeP 12 (Plan.takeX 13 (Plan.takeX 14 (Plan.run 15 (Plan.takeP 16 (Plan.takeP 17 (Plan.takeP 18 Plan.done))))))))))))))))))))]
def S70 (l_1 good_2 compare_3 : Value) (k : Value → World → Prop) (w : World) : Prop :=
   opW Tryz.prog (Builtin.len_ #[25] 3 #[l_1]) (fun t10_4 w =>
   Loop1 (fun t11_6 w K_7 =>
   opW Tryz.prog (binS BinOp.lss 3 (Operand.tmp 11) (Operand.tmp 10) t11_6 t10_4) (fun t12_8 w =>
   condW t12_8
   (opW Tryz.prog (Instr.indexAt 25 l_1 t11_6) (fun t14_11 w =>
   opW Tryz.prog (Instr.loadAt 63 t14_11) (fun t15_12 w =>
   opW Tryz.prog (Instr.alloc 63 true (Value.tuple #[])) (fun x_13 w =>
   opU Tryz.prog (Instr.storeAt 63 x_13 t15_12) (fun _ w =>
   drewW w (fun w =>
   ∃ S : World → Prop, S w ∧
   takeW Tryz.prog S (Instr.loadAt 63 x_13) (fun t17_15 =>
   callW Tryz.prog good_2 #[t17_15] (fun t18_16 w =>
   takeW Tryz.prog anyW (Op.unary UnOp.not t18_16) (fun t19_17 =>
   guardT (some t19_17, false) (fun k => k t11_6) (fun t21_18 =>
   guardT (some t19_17, false) (fun k => takeW Tryz.prog anyW (binS BinOp.gtr 3 (Operand.tmp 21) (Operand.const (Value.int IntKind.i64 0)) t21_18 (Value.int IntKind.i64 0)) k w) (fun t22_19 =>
   guardT (some t19_17, false) (fun k => k t22_19) (fun t23_20 =>
   guardT (some t23_20, true) (fun k => k compare_3) (fun t24_21 =>
   guardT (some t23_20, true) (fun k => k l_1) (fun t25_22 =>
   guardT (some t23_20, true) (fun k => k t11_6) (fun t26_23 =>
   guardT (some t23_20, true) (fun k => takeW Tryz.prog anyW (binS BinOp.sub 3 (Operand.tmp 26) (Operand.const (Value.int IntKind.i64 1)) t26_23 (Value.int IntKind.i64 1)) k w) (fun t27_24 =>
   guardT (some t23_20, true) (fun k => takeW Tryz.prog anyW (Instr.indexAt 25 t25_22 t27_24) k w) (fun t28_25 =>
   guardT (some t23_20, true) (fun k => takeW Tryz.prog (sameW w) (Instr.loadAt 63 t28_25) k w) (fun t29_26 =>
   guardT (some t23_20, true) (fun k => takeW Tryz.prog (sameW w) (Instr.loadAt 63 x_13) k w) (fun t30_27 =>
   guardW (some t23_20, true) (fun k w => callW Tryz.prog t24_21 #[t29_26, t30_27] k w) (fun t31_28 w => keepS S (fun w =>
   guardT (some t23_20, true) (fun k => takeW Tryz.prog anyW (binS BinOp.geq 3 (Operand.tmp 31) (Operand.const (Value.int IntKind.i64 0)) t31_28 (Value.int IntKind.i64 0)) k w) (fun t32_29 =>
   guardT (some t19_17, false) (fun k => pickT t23_20 t32_29 (Value.bool false) k) (fun t33_30 =>
   pickT t19_17 (Value.bool true) t33_30 (fun t34_31 =>
   condW t34_31
   (k (Value.bool false) w)
   (opW Tryz.prog (binS BinOp.add 3 (Operand.tmp 11) (Operand.const (Value.int IntKind.i64 1)) t11_6 (Value.int IntKind.i64 1)) (fun t35_32 w =>
   loopK [] [] [l_1, good_2, compare_3, l_1, t10_4] [l_1, good_2, compare_3, l_1, t10_4] (K_7 t35_32 w)) w))))) w) w))))))))))) w) w) w)) w) w) w) w)
   (k (Value.bool true) w)) w) (Value.int IntKind.i64 0) w) w
theorem S70_vc (l_1 good_2 compare_3 : Value) (k : Value → World → Prop) (w : World) : vc Tryz.prog Tryz.f70.ntmps ann70 none ((Tryz.f70.body).getD Code.skip) 1 (params 0 [l_1, good_2, compare_3]) [] (finQ Tryz.prog Tryz.f70.results.toList k) w = S70 l_1 good_2 compare_3 k w := by kernel_rfl
theorem S70_calls (l_1 good_2 compare_3 : Value) (k : Value → World → Prop) (w : World) (h : S70 l_1 good_2 compare_3 k w) : Calls Tryz.prog 70 #[l_1, good_2, compare_3] w (retP k) :=
  calls_of_vc (fn := Tryz.f70) (c := (Tryz.f70.body).getD Code.skip) ann70 Tryz.func70 (by kernel_rfl) [l_1, good_2, compare_3] w k (by kernel_rfl) ((S70_vc l_1 good_2 compare_3 k w).symm ▸ h)
theorem C70 (l_1 good_2 compare_3 : Value) (k : Value → World → Prop) (w : World) (h : S70 l_1 good_2 compare_3 k w) : callW Tryz.prog (.func (.func 70) #[] #[]) #[l_1, good_2, compare_3] k w :=
  callW_calls ok70 (by simpa using S70_calls l_1 good_2 compare_3 k w h)

/-! newswire/newswireref25.before -/
def ann71 : Ann := []
def S71 (a_1 b_2 : Value) (k : Value → World → Prop) (w : World) : Prop :=
   opW Tryz.prog (Instr.box 63 a_1) (fun a_3 w =>
   opW Tryz.prog (Instr.box 63 b_2) (fun b_4 w =>
   opW Tryz.prog (Instr.fieldAt 63 a_3 0) (fun t5_6 w =>
   opW Tryz.prog (Instr.loadAt 3 t5_6) (fun t6_7 w =>
   opW Tryz.prog (Instr.fieldAt 63 b_4 0) (fun t7_8 w =>
   opW Tryz.prog (Instr.loadAt 3 t7_8) (fun t8_9 w =>
   opW Tryz.prog (binS BinOp.neq 3 (Operand.tmp 6) (Operand.tmp 8) t6_7 t8_9) (fun t9_10 w =>
   condW t9_10
   (opW Tryz.prog (Instr.fieldAt 63 a_3 0) (fun t10_11 w =>
   opW Tryz.prog (Instr.loadAt 3 t10_11) (fun t11_12 w =>
   opW Tryz.prog (Instr.fieldAt 63 b_4 0) (fun t12_13 w =>
   opW Tryz.prog (Instr.loadAt 3 t12_13) (fun t13_14 w =>
   opW Tryz.prog (binS BinOp.lss 3 (Operand.tmp 11) (Operand.tmp 13) t11_12 t13_14) (fun t14_15 w =>
   k t14_15 w) w) w) w) w) w)
   (opW Tryz.prog (Instr.fieldAt 63 a_3 1) (fun t15_17 w =>
   opW Tryz.prog (Instr.loadAt 3 t15_17) (fun t16_18 w =>
   opW Tryz.prog (Instr.fieldAt 63 b_4 1) (fun t17_19 w =>
   opW Tryz.prog (Instr.loadAt 3 t17_19) (fun t18_20 w =>
   opW Tryz.prog (binS BinOp.neq 3 (Operand.tmp 16) (Operand.tmp 18) t16_18 t18_20) (fun t19_21 w =>
   condW t19_21
   (opW Tryz.prog (Instr.fieldAt 63 a_3 1) (fun t20_22 w =>
   opW Tryz.prog (Instr.loadAt 3 t20_22) (fun t21_23 w =>
   opW Tryz.prog (Instr.fieldAt 63 b_4 1) (fun t22_24 w =>
   opW Tryz.prog (Instr.loadAt 3 t22_24) (fun t23_25 w =>
   opW Tryz.prog (binS BinOp.lss 3 (Operand.tmp 21) (Operand.tmp 23) t21_23 t23_25) (fun t24_26 w =>
   k t24_26 w) w) w) w) w) w)
   (opW Tryz.prog (Instr.fieldAt 63 a_3 2) (fun t25_27 w =>
   opW Tryz.prog (Instr.loadAt 3 t25_27) (fun t26_28 w =>
   opW Tryz.prog (Instr.fieldAt 63 b_4 2) (fun t27_29 w =>
   opW Tryz.prog (Instr.loadAt 3 t27_29) (fun t28_30 w =>
   opW Tryz.prog (binS BinOp.lss 3 (Operand.tmp 26) (Operand.tmp 28) t26_28 t28_30) (fun t29_31 w =>
   k t29_31 w) w) w) w) w) w)) w) w) w) w) w)) w) w) w) w) w) w) w
theorem S71_vc (a_1 b_2 : Value) (k : Value → World → Prop) (w : World) : vc Tryz.prog Tryz.f71.ntmps ann71 none ((Tryz.f71.body).getD Code.skip) 1 (params 0 [a_1, b_2]) [] (finQ Tryz.prog Tryz.f71.results.toList k) w = S71 a_1 b_2 k w := by kernel_rfl
theorem S71_calls (a_1 b_2 : Value) (k : Value → World → Prop) (w : World) (h : S71 a_1 b_2 k w) : Calls Tryz.prog 71 #[a_1, b_2] w (retP k) :=
  calls_of_vc (fn := Tryz.f71) (c := (Tryz.f71.body).getD Code.skip) ann71 Tryz.func71 (by kernel_rfl) [a_1, b_2] w k (by kernel_rfl) ((S71_vc a_1 b_2 k w).symm ▸ h)
theorem C71 (a_1 b_2 : Value) (k : Value → World → Prop) (w : World) (h : S71 a_1 b_2 k w) : callW Tryz.prog (.func (.func 71) #[] #[]) #[a_1, b_2] k w :=
  callW_calls ok71 (by simpa using S71_calls a_1 b_2 k w h)

/-! newswire/relay.waiting$1 -/
def ann72 : Ann := [(13, Note.keep [0, 1, 3]), (26, Note.loop [13] [0, 1, 3, 11, 12]), (63, Note.keep []), (126, Note.loop [36] [0, 3, 34, 35]), (422, Note.keep [0, 1, 3, 11, 12, 13]), (2022, Note.keep [0, 3, 34, 35, 36])]
def S72 (yield_1 x1_2 : Value) (k : Value → World → Prop) (w : World) : Prop :=
   opW Tryz.prog (Instr.makeMap 102 none) (fun t9_3 w =>
   opW Tryz.prog (Instr.fieldAt 27 x1_2 3) (fun t10_4 w =>
   opW Tryz.prog (Instr.loadAt 25 t10_4) (fun t11_5 w =>
   opW Tryz.prog (Builtin.len_ #[25] 3 #[t11_5]) (fun t12_6 w =>
   Loop1 (fun t13_8 w K_9 =>
   opW Tryz.prog (binS BinOp.lss 3 (Operand.tmp 13) (Operand.tmp 12) t13_8 t12_6) (fun t14_10 w =>
   condW t14_10
   (joinW (fun w =>
   opW Tryz.prog (binS BinOp.add 3 (Operand.tmp 13) (Operand.const (Value.int IntKind.i64 1)) t13_8 (Value.int IntKind.i64 1)) (fun t28_26 w =>
   loopK [] [] [yield_1, x1_2, t9_3, t11_5, t12_6] [yield_1, x1_2, t9_3, t11_5, t12_6] (K_9 t28_26 w)) w) (fun J_12 =>
   opW Tryz.prog (Instr.indexAt 25 t11_5 t13_8) (fun t15_13 w =>
   opW Tryz.prog (Instr.loadAt 63 t15_13) (fun t16_14 w =>
   opW Tryz.prog (Instr.alloc 63 true (Value.tuple #[])) (fun s_15 w =>
   opU Tryz.prog (Instr.storeAt 63 s_15 t16_14) (fun _ w =>
   opW Tryz.prog (Instr.fieldAt 63 s_15 0) (fun t17_16 w =>
   opW Tryz.prog (Instr.loadAt 3 t17_16) (fun t18_17 w =>
   opW Tryz.prog (Instr.fieldAt 27 x1_2 0) (fun t19_18 w =>
   opW Tryz.prog (Instr.loadAt 3 t19_18) (fun t20_19 w =>
   opW Tryz.prog (binS BinOp.eql 3 (Operand.tmp 18) (Operand.tmp 20) t18_17 t20_19) (fun t21_20 w =>
   condW t21_20
   (opW Tryz.prog (Instr.fieldAt 63 s_15 1) (fun t23_21 w =>
   opW Tryz.prog (Instr.loadAt 3 t23_21) (fun t24_22 w =>
   opW Tryz.prog (Instr.fieldAt 63 s_15 2) (fun t25_23 w =>
   opW Tryz.prog (Instr.loadAt 3 t25_23) (fun t26_24 w =>
   opW Tryz.prog (Instr.build 23 #[(0, t24_22), (1, t26_24)]) (fun t27_25 w =>
   opU Tryz.prog (Instr.mapUpdate 102 t9_3 t27_25 (Value.bool true)) (fun _ w =>
   J_12 w) w) w) w) w) w) w)
   (J_12 w)) w) w) w) w) w) w) w) w) w))
   (opW Tryz.prog (Instr.fieldAt 27 x1_2 2) (fun t29_27 w =>
   opW Tryz.prog (Instr.loadAt 24 t29_27) (fun t30_28 w =>
   callW Tryz.prog (Value.func (Fn.func 60) #[] #[]) #[t30_28] (fun t31_29 w =>
   callW Tryz.prog (Value.func (Fn.func 73) #[] #[]) #[t31_29, (Value.func (Fn.func 74) #[] #[])] (fun t33_30 w =>
   opW Tryz.prog (Builtin.len_ #[24] 3 #[t31_29]) (fun t35_31 w =>
   Loop1 (fun t36_33 w K_34 =>
   opW Tryz.prog (binS BinOp.lss 3 (Operand.tmp 36) (Operand.tmp 35) t36_33 t35_31) (fun t37_35 w =>
   condW t37_35
   (opW Tryz.prog (Instr.indexAt 24 t31_29 t36_33) (fun t38_38 w =>
   opW Tryz.prog (Instr.loadAt 31 t38_38) (fun t39_39 w =>
   opW Tryz.prog (Instr.alloc 31 true (Value.tuple #[])) (fun d_40 w =>
   opU Tryz.prog (Instr.storeAt 31 d_40 t39_39) (fun _ w =>
   opW Tryz.prog (Instr.fieldAt 31 d_40 0) (fun t41_41 w =>
   opW Tryz.prog (Instr.loadAt 3 t41_41) (fun t42_42 w =>
   opW Tryz.prog (Instr.fieldAt 31 d_40 1) (fun t43_43 w =>
   opW Tryz.prog (Instr.loadAt 3 t43_43) (fun t44_44 w =>
   opW Tryz.prog (Instr.build 23 #[(0, t42_42), (1, t44_44)]) (fun t45_45 w =>
   opW Tryz.prog (Instr.lookup 102 t9_3 t45_45 false) (fun t46_46 w =>
   opW Tryz.prog (Op.unary UnOp.not t46_46) (fun t47_47 w =>
   guardW (some t47_47, true) (fun k w => k yield_1 w) (fun t49_48 w =>
   guardW (some t47_47, true) (fun k w => opW Tryz.prog (Instr.loadAt 31 d_40) k w) (fun t50_49 w =>
   guardW (some t47_47, true) (fun k w => callW Tryz.prog t49_48 #[t50_49] k w) (fun t51_50 w =>
   guardW (some t47_47, true) (fun k w => opW Tryz.prog (Op.unary UnOp.not t51_50) k w) (fun t52_51 w =>
   pickW t47_47 t52_51 (Value.bool false) (fun t53_52 w =>
   condW t53_52
   (k (Value.tuple #[]) w)
   (opW Tryz.prog (binS BinOp.add 3 (Operand.tmp 36) (Operand.const (Value.int IntKind.i64 1)) t36_33 (Value.int IntKind.i64 1)) (fun t54_53 w =>
   loopK [] [] [yield_1, t9_3, t31_29, t35_31] [yield_1, t9_3, t31_29, t35_31] (K_34 t54_53 w)) w)) w) w) w) w) w) w) w) w) w) w) w) w) w) w) w) w)
   (k (Value.tuple #[]) w)) w) (Value.int IntKind.i64 0) w) w) w) w) w) w)) w) (Value.int IntKind.i64 0) w) w) w) w) w
theorem S72_vc (yield_1 x1_2 : Value) (k : Value → World → Prop) (w : World) : vc Tryz.prog Tryz.f72.ntmps ann72 none ((Tryz.f72.body).getD Code.skip) 1 (params 0 [yield_1, x1_2]) [] (finQ Tryz.prog Tryz.f72.results.toList k) w = S72 yield_1 x1_2 k w := by kernel_rfl
theorem S72_calls (yield_1 x1_2 : Value) (k : Value → World → Prop) (w : World) (h : S72 yield_1 x1_2 k w) : Calls Tryz.prog 72 #[yield_1, x1_2] w (retP k) :=
  calls_of_vc (fn := Tryz.f72) (c := (Tryz.f72.body).getD Code.skip) ann72 Tryz.func72 (by kernel_rfl) [yield_1, x1_2] w k (by kernel_rfl) ((S72_vc yield_1 x1_2 k w).symm ▸ h)
/-! slices.SortFunc[[]newswire/api.Dispatch,newswire/api.Dispatch] -/
def ann73 : Ann := []
def S73 (x_1 cmp_2 : Value) (k : Value → World → Prop) (w : World) : Prop :=
   opW Tryz.prog (Builtin.len_ #[24] 3 #[x_1]) (fun t6_3 w =>
   opW Tryz.prog (convert 3 113 t6_3) (fun t10_4 w =>
   callW Tryz.prog (Value.func (Fn.func 81) #[] #[]) #[t10_4] (fun t11_5 w =>
   callW Tryz.prog (Value.func (Fn.func 89) #[] #[]) #[x_1, (Value.int IntKind.i64 0), t6_3, t11_5, cmp_2] (fun t13_6 w =>
   k (Value.tuple #[]) w) w) w) w) w
theorem S73_vc (x_1 cmp_2 : Value) (k : Value → World → Prop) (w : World) : vc Tryz.prog Tryz.f73.ntmps ann73 none ((Tryz.f73.body).getD Code.skip) 1 (params 0 [x_1, cmp_2]) [] (finQ Tryz.prog Tryz.f73.results.toList k) w = S73 x_1 cmp_2 k w := by kernel_rfl
theorem S73_calls (x_1 cmp_2 : Value) (k : Value → World → Prop) (w : World) (h : S73 x_1 cmp_2 k w) : Calls Tryz.prog 73 #[x_1, cmp_2] w (retP k) :=
  calls_of_vc (fn := Tryz.f73) (c := (Tryz.f73.body).getD Code.skip) ann73 Tryz.func73 (by kernel_rfl) [x_1, cmp_2] w k (by kernel_rfl) ((S73_vc x_1 cmp_2 k w).symm ▸ h)
theorem C73 (x_1 cmp_2 : Value) (k : Value → World → Prop) (w : World) (h : S73 x_1 cmp_2 k w) : callW Tryz.prog (.func (.func 73) #[] #[]) #[x_1, cmp_2] k w :=
  callW_calls ok73 (by simpa using S73_calls x_1 cmp_2 k w h)

/-! newswire/relay.waiting$1$1 -/
def ann74 : Ann := []
def S74 (a_1 b_2 : Value) (k : Value → World → Prop) (w : World) : Prop :=
   opW Tryz.prog (Instr.box 31 a_1) (fun a_3 w =>
   opW Tryz.prog (Instr.box 31 b_2) (fun b_4 w =>
   opW Tryz.prog (Instr.loadAt 31 a_3) (fun t5_5 w =>
   opW Tryz.prog (Instr.loadAt 31 b_4) (fun t6_6 w =>
   callW Tryz.prog (Value.func (Fn.func 75) #[] #[]) #[t5_5, t6_6] (fun t7_7 w =>
   k t7_7 w) w) w) w) w) w
theorem S74_vc (a_1 b_2 : Value) (k : Value → World → Prop) (w : World) : vc Tryz.prog Tryz.f74.ntmps ann74 none ((Tryz.f74.body).getD Code.skip) 1 (params 0 [a_1, b_2]) [] (finQ Tryz.prog Tryz.f74.results.toList k) w = S74 a_1 b_2 k w := by kernel_rfl
theorem S74_calls (a_1 b_2 : Value) (k : Value → World → Prop) (w : World) (h : S74 a_1 b_2 k w) : Calls Tryz.prog 74 #[a_1, b_2] w (retP k) :=
  calls_of_vc (fn := Tryz.f74) (c := (Tryz.f74.body).getD Code.skip) ann74 Tryz.func74 (by kernel_rfl) [a_1, b_2] w k (by kernel_rfl) ((S74_vc a_1 b_2 k w).symm ▸ h)
theorem C74 (a_1 b_2 : Value) (k : Value → World → Prop) (w : World) (h : S74 a_1 b_2 k w) : callW Tryz.prog (.func (.func 74) #[] #[]) #[a_1, b_2] k w :=
  callW_calls ok74 (by simpa using S74_calls a_1 b_2 k w h)

/-! (newswire/relay.dispatch).byClass -/
def ann75 : Ann := [(6, Note.plan (Plan.takeP 0 (Plan.takeU 1 (Plan.takeP 2 (Plan.takeU 3 (Plan.takeP 5 (Plan.takeU 6 (Plan.takeP 7 (Plan.takeU 8 (Plan.run 4 (Plan.run 9 (Plan.run 10 (Plan.run 11 (Plan.takeP 12 Plan.done))))))))))))))]
def S75 (d_1 e_2 : Value) (k : Value → World → Prop) (w : World) : Prop :=
   opW Tryz.prog (Instr.box 106 d_1) (fun d_3 w =>
   opW Tryz.prog (Instr.box 106 e_2) (fun e_4 w =>
   drewW w (fun w =>
   ∃ S : World → Prop, S w ∧
   takeW Tryz.prog anyW (Instr.fieldAt 106 d_3 2) (fun t5_6 =>
   takeW Tryz.prog S (Instr.loadAt 3 t5_6) (fun t6_7 =>
   takeW Tryz.prog anyW (Instr.fieldAt 106 e_4 2) (fun t7_8 =>
   takeW Tryz.prog S (Instr.loadAt 3 t7_8) (fun t8_9 =>
   takeW Tryz.prog anyW (Instr.fieldAt 106 d_3 0) (fun t10_10 =>
   takeW Tryz.prog S (Instr.loadAt 3 t10_10) (fun t11_11 =>
   takeW Tryz.prog anyW (Instr.fieldAt 106 e_4 0) (fun t12_12 =>
   takeW Tryz.prog S (Instr.loadAt 3 t12_12) (fun t13_13 =>
   callW Tryz.prog (Value.func (Fn.func 83) #[] #[]) #[t6_7, t8_9] (fun t9_14 w => keepS S (fun w =>
   callW Tryz.prog (Value.func (Fn.func 83) #[] #[]) #[t11_11, t13_13] (fun t14_15 w => keepS S (fun w =>
   opW Tryz.prog (Instr.buildSlice 54 2 #[(0, t9_14), (1, t14_15)]) (fun t15_16 w => keepS S (fun w =>
   callW Tryz.prog (Value.func (Fn.func 82) #[] #[]) #[t15_16] (fun t16_17 w => keepS S (fun w =>
   k t16_17 w) w) w) w) w) w) w) w) w) w) w) w) w) w) w) w) w)) w) w
theorem S75_vc (d_1 e_2 : Value) (k : Value → World → Prop) (w : World) : vc Tryz.prog Tryz.f75.ntmps ann75 none ((Tryz.f75.body).getD Code.skip) 1 (params 0 [d_1, e_2]) [] (finQ Tryz.prog Tryz.f75.results.toList k) w = S75 d_1 e_2 k w := by kernel_rfl
theorem S75_calls (d_1 e_2 : Value) (k : Value → World → Prop) (w : World) (h : S75 d_1 e_2 k w) : Calls Tryz.prog 75 #[d_1, e_2] w (retP k) :=
  calls_of_vc (fn := Tryz.f75) (c := (Tryz.f75.body).getD Code.skip) ann75 Tryz.func75 (by kernel_rfl) [d_1, e_2] w k (by kernel_rfl) ((S75_vc d_1 e_2 k w).symm ▸ h)
theorem C75 (d_1 e_2 : Value) (k : Value → World → Prop) (w : World) (h : S75 d_1 e_2 k w) : callW Tryz.prog (.func (.func 75) #[] #[]) #[d_1, e_2] k w :=
  callW_calls ok75 (by simpa using S75_calls d_1 e_2 k w h)

/-! newswire/relay.merge[newswire/api.Dispatch] -/
def ann76 : Ann := [(14, Note.keep [0, 1, 10]), (28, Note.loop [0, 1, 10] [2, 3]), (113, Note.keep [0, 1, 2, 3, 10]), (452, Note.plan (Plan.takeP 0 (Plan.takeP 1 (Plan.takeP 2 (Plan.takeX 3 (Plan.takeP 4 (Plan.takeP 5 (Plan.takeX 6 (Plan.run 7 (Plan.takeP 8 Plan.done)))))))))), (453, Note.keep [0, 1, 2, 3, 10]), (3626, Note.plan (Plan.takeP 0 (Plan.takeP 1 (Plan.takeP 2 (Plan.takeU 3 (Plan.takeP 6 (Plan.takeP 7 (Plan.run 4 (Plan.run 5 (Plan.takeP 8 (Plan.takeP 9 Plan.done))))))))))), (14510, Note.plan (Plan.takeP 0 (Plan.takeP 1 (Plan.takeP 2 (Plan.takeU 3 (Plan.takeP 6 (Plan.takeP 7 (Plan.run 4 (Plan.run 5 (Plan.takeP 8 (Plan.takeP 9 Plan.done))))))))))), (29022, Note.plan (Plan.takeP 0 (Plan.takeP 1 (Plan.takeP 2 (Plan.takeU 3 (Plan.takeP 4 (Plan.takeP 5 (Plan.takeU 6 (Plan.alt (Plan.run 7 (Plan.takeP 8 (Plan.takeP 9 (Plan.takeP 10 (Plan.run 11 (Plan.run 12 (Plan.takeP 13 Plan.done))))))) (Plan.run 11 (Plan.run 7 (Plan.takeP 8 (Plan.takeP 9 (Plan.takeP 10 (Plan.run 12 (Plan.takeP 13 Plan.done)))))))))))))))), (58047, Note.plan (Plan.takeP 0 (Plan.takeU 1 (Plan.takeP 4 (Plan.takeP 5 (Plan.takeP 6 (Plan.takeP 7 (Plan.run 2 (Plan.run 3 (Plan.takeP 8 (Plan.takeP 9 (Plan.takeP 10 Plan.done))))))))))))]
def S76 (a_1 b_2 compare_3 combine_4 : Value) (k : Value → World → Prop) (w : World) : Prop :=
   Loop3 (fun a_6 b_7 out_8 w K_9 =>
   opW Tryz.prog (Builtin.len_ #[24] 3 #[a_6]) (fun t15_11 w =>
   opW Tryz.prog (binS BinOp.gtr 3 (Operand.tmp 15) (Operand.const (Value.int IntKind.i64 0)) t15_11 (Value.int IntKind.i64 0)) (fun t16_12 w =>
   guardW (some t16_12, true) (fun k w => k b_7 w) (fun t18_13 w =>
   guardW (some t16_12, true) (fun k w => opW Tryz.prog (Builtin.len_ #[24] 3 #[t18_13]) k w) (fun t19_14 w =>
   guardW (some t16_12, true) (fun k w => opW Tryz.prog (binS BinOp.gtr 3 (Operand.tmp 19) (Operand.const (Value.int IntKind.i64 0)) t19_14 (Value.int IntKind.i64 0)) k w) (fun t20_15 w =>
   pickW t16_12 t20_15 (Value.bool false) (fun t21_16 w =>
   condW t21_16
   (drewW w (fun w =>
   takeW Tryz.prog anyW (Instr.indexAt 24 a_6 (Value.int IntKind.i64 0)) (fun t24_19 =>
   takeW Tryz.prog (sameW w) (Instr.loadAt 31 t24_19) (fun t25_20 =>
   takeW Tryz.prog anyW (Instr.indexAt 24 b_7 (Value.int IntKind.i64 0)) (fun t27_21 =>
   takeW Tryz.prog (sameW w) (Instr.loadAt 31 t27_21) (fun t28_22 =>
   callW Tryz.prog compare_3 #[t25_20, t28_22] (fun t29_23 w =>
   joinW (fun a_62 b_63 out_64 w =>
   loopK [] [] [compare_3, combine_4] [compare_3, combine_4] (K_9 a_62 b_63 out_64 w)) (fun J_24 =>
   opW Tryz.prog (binS BinOp.lss 3 (Operand.tmp 52) (Operand.const (Value.int IntKind.i64 0)) t29_23 (Value.int IntKind.i64 0)) (fun t53_25 w =>
   condW t53_25
   (drewW w (fun w =>
   ∃ S : World → Prop, S w ∧
   takeW Tryz.prog anyW (Instr.indexAt 24 a_6 (Value.int IntKind.i64 0)) (fun t56_27 =>
   takeW Tryz.prog S (Instr.loadAt 31 t56_27) (fun t57_28 =>
   takeW Tryz.prog anyW (Instr.sliceAt 24 a_6 (some (Value.int IntKind.i64 1)) none none) (fun t61_29 =>
   opW Tryz.prog (Instr.buildSlice 24 1 #[(0, t57_28)]) (fun t58_30 w =>
   opW Tryz.prog (Builtin.append_ #[24, 24] 24 #[out_8, t58_30]) (fun t59_31 w => keepS S (fun w =>
   J_24 t61_29 b_7 t59_31 w) w) w) w) w) w) w))
   (opW Tryz.prog (binS BinOp.gtr 3 (Operand.tmp 63) (Operand.const (Value.int IntKind.i64 0)) t29_23 (Value.int IntKind.i64 0)) (fun t64_32 w =>
   condW t64_32
   (drewW w (fun w =>
   ∃ S : World → Prop, S w ∧
   takeW Tryz.prog anyW (Instr.indexAt 24 b_7 (Value.int IntKind.i64 0)) (fun t67_34 =>
   takeW Tryz.prog S (Instr.loadAt 31 t67_34) (fun t68_35 =>
   takeW Tryz.prog anyW (Instr.sliceAt 24 b_7 (some (Value.int IntKind.i64 1)) none none) (fun t72_36 =>
   opW Tryz.prog (Instr.buildSlice 24 1 #[(0, t68_35)]) (fun t69_37 w =>
   opW Tryz.prog (Builtin.append_ #[24, 24] 24 #[out_8, t69_37]) (fun t70_38 w => keepS S (fun w =>
   J_24 a_6 t72_36 t70_38 w) w) w) w) w) w) w))
   (joinW (fun x_52 ok_53 w =>
   opW Tryz.prog (Op.unary UnOp.not ok_53) (fun t42_55 w =>
   condW t42_55
   (k (Value.tuple #[(Value.slice none 0 0), (Value.bool false)]) w)
   (drewW w (fun w =>
   ∃ S : World → Prop, S w ∧
   takeW Tryz.prog S (Instr.loadAt 31 x_52) (fun t44_57 =>
   takeW Tryz.prog anyW (Instr.sliceAt 24 a_6 (some (Value.int IntKind.i64 1)) none none) (fun t48_58 =>
   takeW Tryz.prog anyW (Instr.sliceAt 24 b_7 (some (Value.int IntKind.i64 1)) none none) (fun t50_59 =>
   opW Tryz.prog (Instr.buildSlice 24 1 #[(0, t44_57)]) (fun t45_60 w =>
   opW Tryz.prog (Builtin.append_ #[24, 24] 24 #[out_8, t45_60]) (fun t46_61 w => keepS S (fun w =>
   J_24 t48_58 t50_59 t46_61 w) w) w) w) w) w) w))) w) (fun J_39 =>
   drewW w (fun w =>
   ∃ S : World → Prop, S w ∧
   takeW Tryz.prog anyW (Instr.indexAt 24 a_6 (Value.int IntKind.i64 0)) (fun t33_40 =>
   takeW Tryz.prog S (Instr.loadAt 31 t33_40) (fun t34_41 =>
   takeW Tryz.prog anyW (Instr.indexAt 24 b_7 (Value.int IntKind.i64 0)) (fun t36_42 =>
   takeW Tryz.prog S (Instr.loadAt 31 t36_42) (fun t37_43 =>
   (callW Tryz.prog combine_4 #[t34_41, t37_43] (fun t38_44 w =>
   takeW Tryz.prog anyW (Instr.extract t38_44 0) (fun t39_45 =>
   takeW Tryz.prog anyW (Instr.extract t38_44 1) (fun t40_46 =>
   opW Tryz.prog (Instr.alloc 31 true (Value.tuple #[])) (fun x_47 w => keepS S (fun w =>
   opU Tryz.prog (Instr.storeAt 31 x_47 t39_45) (fun _ w =>
   J_39 x_47 t40_46 w) w) w) w) w) w) w) ∧ (opW Tryz.prog (Instr.alloc 31 true (Value.tuple #[])) (fun x_48 w => keepS S (fun w =>
   callW Tryz.prog combine_4 #[t34_41, t37_43] (fun t38_49 w =>
   takeW Tryz.prog anyW (Instr.extract t38_49 0) (fun t39_50 =>
   takeW Tryz.prog anyW (Instr.extract t38_49 1) (fun t40_51 =>
   opU Tryz.prog (Instr.storeAt 31 x_48 t39_50) (fun _ w =>
   J_39 x_48 t40_51 w) w) w) w) w) w) w)) w) w) w) w)))) w)) w)) w) w) w) w) w))
   (opW Tryz.prog (Builtin.append_ #[24, 24] 24 #[out_8, a_6]) (fun t75_65 w =>
   opW Tryz.prog (Builtin.append_ #[24, 24] 24 #[t75_65, b_7]) (fun t77_66 w =>
   k (Value.tuple #[t77_66, (Value.bool true)]) w) w) w)) w) w) w) w) w) w) a_1 b_2 (Value.slice none 0 0) w
theorem S76_vc (a_1 b_2 compare_3 combine_4 : Value) (k : Value → World → Prop) (w : World) : vc Tryz.prog Tryz.f76.ntmps ann76 none ((Tryz.f76.body).getD Code.skip) 1 (params 0 [a_1, b_2, compare_3, combine_4]) [] (finQ Tryz.prog Tryz.f76.results.toList k) w = S76 a_1 b_2 compare_3 combine_4 k w := by kernel_rfl
theorem S76_calls (a_1 b_2 compare_3 combine_4 : Value) (k : Value → World → Prop) (w : World) (h : S76 a_1 b_2 compare_3 combine_4 k w) : Calls Tryz.prog 76 #[a_1, b_2, compare_3, combine_4] w (retP k) :=
  calls_of_vc (fn := Tryz.f76) (c := (Tryz.f76.body).getD Code.skip) ann76 Tryz.func76 (by kernel_rfl) [a_1, b_2, compare_3, combine_4] w k (by kernel_rfl) ((S76_vc a_1 b_2 compare_3 combine_4 k w).symm ▸ h)
theorem C76 (a_1 b_2 compare_3 combine_4 : Value) (k : Value → World → Prop) (w : World) (h : S76 a_1 b_2 compare_3 combine_4 k w) : callW Tryz.prog (.func (.func 76) #[] #[]) #[a_1, b_2, compare_3, combine_4] k w :=
  callW_calls ok76 (by simpa using S76_calls a_1 b_2 compare_3 combine_4 k w h)

/-! newswire/relay.newer -/
def ann77 : Ann := []
def S77 (a_1 b_2 : Value) (k : Value → World → Prop) (w : World) : Prop :=
   opW Tryz.prog (Instr.box 31 a_1) (fun a_3 w =>
   opW Tryz.prog (Instr.box 31 b_2) (fun b_4 w =>
   opW Tryz.prog (Instr.alloc 31 true (Value.tuple #[])) (fun t4_5 w =>
   opW Tryz.prog (Instr.fieldAt 31 a_3 2) (fun t6_7 w =>
   opW Tryz.prog (Instr.loadAt 3 t6_7) (fun t7_8 w =>
   opW Tryz.prog (Instr.fieldAt 31 b_4 2) (fun t8_9 w =>
   opW Tryz.prog (Instr.loadAt 3 t8_9) (fun t9_10 w =>
   opW Tryz.prog (binS BinOp.neq 3 (Operand.tmp 7) (Operand.tmp 9) t7_8 t9_10) (fun t10_11 w =>
   guardW (some t10_11, false) (fun k w => opW Tryz.prog (Instr.fieldAt 31 a_3 1) k w) (fun t12_12 w =>
   guardW (some t10_11, false) (fun k w => opW Tryz.prog (Instr.loadAt 3 t12_12) k w) (fun t13_13 w =>
   guardW (some t10_11, false) (fun k w => opW Tryz.prog (Instr.fieldAt 31 b_4 1) k w) (fun t14_14 w =>
   guardW (some t10_11, false) (fun k w => opW Tryz.prog (Instr.loadAt 3 t14_14) k w) (fun t15_15 w =>
   guardW (some t10_11, false) (fun k w => opW Tryz.prog (binS BinOp.eql 3 (Operand.tmp 13) (Operand.tmp 15) t13_13 t15_15) k w) (fun t16_16 w =>
   guardW (some t10_11, false) (fun k w => k t16_16 w) (fun t17_17 w =>
   guardW (some t17_17, true) (fun k w => opW Tryz.prog (Instr.loadAt 31 a_3) k w) (fun t18_18 w =>
   guardW (some t17_17, true) (fun k w => opW Tryz.prog (Instr.loadAt 31 b_4) k w) (fun t19_19 w =>
   guardW (some t17_17, true) (fun k w => opW Tryz.prog (binS BinOp.neq 31 (Operand.tmp 18) (Operand.tmp 19) t18_18 t19_19) k w) (fun t20_20 w =>
   guardW (some t10_11, false) (fun k w => pickW t17_17 t20_20 (Value.bool false) k w) (fun t21_21 w =>
   pickW t10_11 (Value.bool true) t21_21 (fun t22_22 w =>
   condW t22_22
   (opW Tryz.prog (Instr.loadAt 31 a_3) (fun t23_23 w =>
   opU Tryz.prog (Instr.storeAt 31 t4_5 t23_23) (fun _ w =>
   resCell Tryz.prog 31 t4_5 (fun r_24 => k (Value.tuple #[r_24, (Value.bool false)]) w) w) w) w)
   (opW Tryz.prog (Instr.fieldAt 31 a_3 1) (fun t24_26 w =>
   opW Tryz.prog (Instr.loadAt 3 t24_26) (fun t25_27 w =>
   opW Tryz.prog (Instr.fieldAt 31 b_4 1) (fun t26_28 w =>
   opW Tryz.prog (Instr.loadAt 3 t26_28) (fun t27_29 w =>
   opW Tryz.prog (binS BinOp.geq 3 (Operand.tmp 25) (Operand.tmp 27) t25_27 t27_29) (fun t28_30 w =>
   condW t28_30
   (opW Tryz.prog (Instr.loadAt 31 a_3) (fun t29_31 w =>
   opU Tryz.prog (Instr.storeAt 31 t4_5 t29_31) (fun _ w =>
   resCell Tryz.prog 31 t4_5 (fun r_32 => k (Value.tuple #[r_32, (Value.bool true)]) w) w) w) w)
   (opW Tryz.prog (Instr.loadAt 31 b_4) (fun t30_33 w =>
   opU Tryz.prog (Instr.storeAt 31 t4_5 t30_33) (fun _ w =>
   resCell Tryz.prog 31 t4_5 (fun r_34 => k (Value.tuple #[r_34, (Value.bool true)]) w) w) w) w)) w) w) w) w) w)) w) w) w) w) w) w) w) w) w) w) w) w) w) w) w) w) w) w) w
theorem S77_vc (a_1 b_2 : Value) (k : Value → World → Prop) (w : World) : vc Tryz.prog Tryz.f77.ntmps ann77 none ((Tryz.f77.body).getD Code.skip) 1 (params 0 [a_1, b_2]) [] (finQ Tryz.prog Tryz.f77.results.toList k) w = S77 a_1 b_2 k w := by kernel_rfl
theorem S77_calls (a_1 b_2 : Value) (k : Value → World → Prop) (w : World) (h : S77 a_1 b_2 k w) : Calls Tryz.prog 77 #[a_1, b_2] w (retP k) :=
  calls_of_vc (fn := Tryz.f77) (c := (Tryz.f77.body).getD Code.skip) ann77 Tryz.func77 (by kernel_rfl) [a_1, b_2] w k (by kernel_rfl) ((S77_vc a_1 b_2 k w).symm ▸ h)
theorem C77 (a_1 b_2 : Value) (k : Value → World → Prop) (w : World) (h : S77 a_1 b_2 k w) : callW Tryz.prog (.func (.func 77) #[] #[]) #[a_1, b_2] k w :=
  callW_calls ok77 (by simpa using S77_calls a_1 b_2 k w h)

/-! newswire/relay.merge[newswire/api.Slip] -/
def ann78 : Ann := [(14, Note.keep [0, 1, 10]), (28, Note.loop [0, 1, 10] [2, 3]), (113, Note.keep [0, 1, 2, 3, 10]), (452, Note.plan (Plan.takeP 0 (Plan.takeP 1 (Plan.takeP 2 (Plan.takeX 3 (Plan.takeP 4 (Plan.takeP 5 (Plan.takeX 6 (Plan.run 7 (Plan.takeP 8 Plan.done)))))))))), (453, Note.keep [0, 1, 2, 3, 10]), (3626, Note.plan (Plan.takeP 0 (Plan.takeP 1 (Plan.takeP 2 (Plan.takeU 3 (Plan.takeP 6 (Plan.takeP 7 (Plan.run 4 (Plan.run 5 (Plan.takeP 8 (Plan.takeP 9 Plan.done))))))))))), (14510, Note.plan (Plan.takeP 0 (Plan.takeP 1 (Plan.takeP 2 (Plan.takeU 3 (Plan.takeP 6 (Plan.takeP 7 (Plan.run 4 (Plan.run 5 (Plan.takeP 8 (Plan.takeP 9 Plan.done))))))))))), (29022, Note.plan (Plan.takeP 0 (Plan.takeP 1 (Plan.takeP 2 (Plan.takeU 3 (Plan.takeP 4 (Plan.takeP 5 (Plan.takeU 6 (Plan.alt (Plan.run 7 (Plan.takeP 8 (Plan.takeP 9 (Plan.takeP 10 (Plan.run 11 (Plan.run 12 (Plan.takeP 13 Plan.done))))))) (Plan.run 11 (Plan.run 7 (Plan.takeP 8 (Plan.takeP 9 (Plan.takeP 10 (Plan.run 12 (Plan.takeP 13 Plan.done)))))))))))))))), (58047, Note.plan (Plan.takeP 0 (Plan.takeU 1 (Plan.takeP 4 (Plan.takeP 5 (Plan.takeP 6 (Plan.takeP 7 (Plan.run 2 (Plan.run 3 (Plan.takeP 8 (Plan.takeP 9 (Plan.takeP 10 Plan.done))))))))))))]
def S78 (a_1 b_2 compare_3 combine_4 : Value) (k : Value → World → Prop) (w : World) : Prop :=
   Loop3 (fun a_6 b_7 out_8 w K_9 =>
   opW Tryz.prog (Builtin.len_ #[25] 3 #[a_6]) (fun t15_11 w =>
   opW Tryz.prog (binS BinOp.gtr 3 (Operand.tmp 15) (Operand.const (Value.int IntKind.i64 0)) t15_11 (Value.int IntKind.i64 0)) (fun t16_12 w =>
   guardW (some t16_12, true) (fun k w => k b_7 w) (fun t18_13 w =>
   guardW (some t16_12, true) (fun k w => opW Tryz.prog (Builtin.len_ #[25] 3 #[t18_13]) k w) (fun t19_14 w =>
   guardW (some t16_12, true) (fun k w => opW Tryz.prog (binS BinOp.gtr 3 (Operand.tmp 19) (Operand.const (Value.int IntKind.i64 0)) t19_14 (Value.int IntKind.i64 0)) k w) (fun t20_15 w =>
   pickW t16_12 t20_15 (Value.bool false) (fun t21_16 w =>
   condW t21_16
   (drewW w (fun w =>
   takeW Tryz.prog anyW (Instr.indexAt 25 a_6 (Value.int IntKind.i64 0)) (fun t24_19 =>
   takeW Tryz.prog (sameW w) (Instr.loadAt 63 t24_19) (fun t25_20 =>
   takeW Tryz.prog anyW (Instr.indexAt 25 b_7 (Value.int IntKind.i64 0)) (fun t27_21 =>
   takeW Tryz.prog (sameW w) (Instr.loadAt 63 t27_21) (fun t28_22 =>
   callW Tryz.prog compare_3 #[t25_20, t28_22] (fun t29_23 w =>
   joinW (fun a_62 b_63 out_64 w =>
   loopK [] [] [compare_3, combine_4] [compare_3, combine_4] (K_9 a_62 b_63 out_64 w)) (fun J_24 =>
   opW Tryz.prog (binS BinOp.lss 3 (Operand.tmp 52) (Operand.const (Value.int IntKind.i64 0)) t29_23 (Value.int IntKind.i64 0)) (fun t53_25 w =>
   condW t53_25
   (drewW w (fun w =>
   ∃ S : World → Prop, S w ∧
   takeW Tryz.prog anyW (Instr.indexAt 25 a_6 (Value.int IntKind.i64 0)) (fun t56_27 =>
   takeW Tryz.prog S (Instr.loadAt 63 t56_27) (fun t57_28 =>
   takeW Tryz.prog anyW (Instr.sliceAt 25 a_6 (some (Value.int IntKind.i64 1)) none none) (fun t61_29 =>
   opW Tryz.prog (Instr.buildSlice 25 1 #[(0, t57_28)]) (fun t58_30 w =>
   opW Tryz.prog (Builtin.append_ #[25, 25] 25 #[out_8, t58_30]) (fun t59_31 w => keepS S (fun w =>
   J_24 t61_29 b_7 t59_31 w) w) w) w) w) w) w))
   (opW Tryz.prog (binS BinOp.gtr 3 (Operand.tmp 63) (Operand.const (Value.int IntKind.i64 0)) t29_23 (Value.int IntKind.i64 0)) (fun t64_32 w =>
   condW t64_32
   (drewW w (fun w =>
   ∃ S : World → Prop, S w ∧
   takeW Tryz.prog anyW (Instr.indexAt 25 b_7 (Value.int IntKind.i64 0)) (fun t67_34 =>
   takeW Tryz.prog S (Instr.loadAt 63 t67_34) (fun t68_35 =>
   takeW Tryz.prog anyW (Instr.sliceAt 25 b_7 (some (Value.int IntKind.i64 1)) none none) (fun t72_36 =>
   opW Tryz.prog (Instr.buildSlice 25 1 #[(0, t68_35)]) (fun t69_37 w =>
   opW Tryz.prog (Builtin.append_ #[25, 25] 25 #[out_8, t69_37]) (fun t70_38 w => keepS S (fun w =>
   J_24 a_6 t72_36 t70_38 w) w) w) w) w) w) w))
   (joinW (fun x_52 ok_53 w =>
   opW Tryz.prog (Op.unary UnOp.not ok_53) (fun t42_55 w =>
   condW t42_55
   (k (Value.tuple #[(Value.slice none 0 0), (Value.bool false)]) w)
   (drewW w (fun w =>
   ∃ S : World → Prop, S w ∧
   takeW Tryz.prog S (Instr.loadAt 63 x_52) (fun t44_57 =>
   takeW Tryz.prog anyW (Instr.sliceAt 25 a_6 (some (Value.int IntKind.i64 1)) none none) (fun t48_58 =>
   takeW Tryz.prog anyW (Instr.sliceAt 25 b_7 (some (Value.int IntKind.i64 1)) none none) (fun t50_59 =>
   opW Tryz.prog (Instr.buildSlice 25 1 #[(0, t44_57)]) (fun t45_60 w =>
   opW Tryz.prog (Builtin.append_ #[25, 25] 25 #[out_8, t45_60]) (fun t46_61 w => keepS S (fun w =>
   J_24 t48_58 t50_59 t46_61 w) w) w) w) w) w) w))) w) (fun J_39 =>
   drewW w (fun w =>
   ∃ S : World → Prop, S w ∧
   takeW Tryz.prog anyW (Instr.indexAt 25 a_6 (Value.int IntKind.i64 0)) (fun t33_40 =>
   takeW Tryz.prog S (Instr.loadAt 63 t33_40) (fun t34_41 =>
   takeW Tryz.prog anyW (Instr.indexAt 25 b_7 (Value.int IntKind.i64 0)) (fun t36_42 =>
   takeW Tryz.prog S (Instr.loadAt 63 t36_42) (fun t37_43 =>
   (callW Tryz.prog combine_4 #[t34_41, t37_43] (fun t38_44 w =>
   takeW Tryz.prog anyW (Instr.extract t38_44 0) (fun t39_45 =>
   takeW Tryz.prog anyW (Instr.extract t38_44 1) (fun t40_46 =>
   opW Tryz.prog (Instr.alloc 63 true (Value.tuple #[])) (fun x_47 w => keepS S (fun w =>
   opU Tryz.prog (Instr.storeAt 63 x_47 t39_45) (fun _ w =>
   J_39 x_47 t40_46 w) w) w) w) w) w) w) ∧ (opW Tryz.prog (Instr.alloc 63 true (Value.tuple #[])) (fun x_48 w => keepS S (fun w =>
   callW Tryz.prog combine_4 #[t34_41, t37_43] (fun t38_49 w =>
   takeW Tryz.prog anyW (Instr.extract t38_49 0) (fun t39_50 =>
   takeW Tryz.prog anyW (Instr.extract t38_49 1) (fun t40_51 =>
   opU Tryz.prog (Instr.storeAt 63 x_48 t39_50) (fun _ w =>
   J_39 x_48 t40_51 w) w) w) w) w) w) w)) w) w) w) w)))) w)) w)) w) w) w) w) w))
   (opW Tryz.prog (Builtin.append_ #[25, 25] 25 #[out_8, a_6]) (fun t75_65 w =>
   opW Tryz.prog (Builtin.append_ #[25, 25] 25 #[t75_65, b_7]) (fun t77_66 w =>
   k (Value.tuple #[t77_66, (Value.bool true)]) w) w) w)) w) w) w) w) w) w) a_1 b_2 (Value.slice none 0 0) w
theorem S78_vc (a_1 b_2 compare_3 combine_4 : Value) (k : Value → World → Prop) (w : World) : vc Tryz.prog Tryz.f78.ntmps ann78 none ((Tryz.f78.body).getD Code.skip) 1 (params 0 [a_1, b_2, compare_3, combine_4]) [] (finQ Tryz.prog Tryz.f78.results.toList k) w = S78 a_1 b_2 compare_3 combine_4 k w := by kernel_rfl
theorem S78_calls (a_1 b_2 compare_3 combine_4 : Value) (k : Value → World → Prop) (w : World) (h : S78 a_1 b_2 compare_3 combine_4 k w) : Calls Tryz.prog 78 #[a_1, b_2, compare_3, combine_4] w (retP k) :=
  calls_of_vc (fn := Tryz.f78) (c := (Tryz.f78.body).getD Code.skip) ann78 Tryz.func78 (by kernel_rfl) [a_1, b_2, compare_3, combine_4] w k (by kernel_rfl) ((S78_vc a_1 b_2 compare_3 combine_4 k w).symm ▸ h)
theorem C78 (a_1 b_2 compare_3 combine_4 : Value) (k : Value → World → Prop) (w : World) (h : S78 a_1 b_2 compare_3 combine_4 k w) : callW Tryz.prog (.func (.func 78) #[] #[]) #[a_1, b_2, compare_3, combine_4] k w :=
  callW_calls ok78 (by simpa using S78_calls a_1 b_2 compare_3 combine_4 k w h)

/-! newswire/relay.join$1 -/
def ann79 : Ann := [(6, Note.plan (Plan.takeX 0 (Plan.takeU 1 (Plan.takeU 2 (Plan.takeP 3 (Plan.run 4 (Plan.takeP 5 Plan.done)))))))]
def S79 (a_1 b_2 : Value) (k : Value → World → Prop) (w : World) : Prop :=
   opW Tryz.prog (Instr.box 63 a_1) (fun a_3 w =>
   opW Tryz.prog (Instr.box 63 b_2) (fun b_4 w =>
   opW Tryz.prog (Instr.alloc 63 true (Value.tuple #[])) (fun t4_5 w =>
   drewW w (fun w =>
   ∃ S : World → Prop, S w ∧
   takeW Tryz.prog (sameW w) (Instr.loadAt 63 a_3) (fun t6_7 =>
   takeW Tryz.prog S (Instr.loadAt 63 a_3) (fun t7_8 =>
   takeW Tryz.prog S (Instr.loadAt 63 b_4) (fun t8_9 =>
   takeW Tryz.prog anyW (binS BinOp.eql 63 (Operand.tmp 7) (Operand.tmp 8) t7_8 t8_9) (fun t9_10 =>
   opU Tryz.prog (Instr.storeAt 63 t4_5 t6_7) (fun _ w => keepS S (fun w =>
   resCell Tryz.prog 63 t4_5 (fun r_11 => k (Value.tuple #[r_11, t9_10]) w) w) w) w) w) w) w) w)) w) w) w
theorem S79_vc (a_1 b_2 : Value) (k : Value → World → Prop) (w : World) : vc Tryz.prog Tryz.f79.ntmps ann79 none ((Tryz.f79.body).getD Code.skip) 1 (params 0 [a_1, b_2]) [] (finQ Tryz.prog Tryz.f79.results.toList k) w = S79 a_1 b_2 k w := by kernel_rfl
theorem S79_calls (a_1 b_2 : Value) (k : Value → World → Prop) (w : World) (h : S79 a_1 b_2 k w) : Calls Tryz.prog 79 #[a_1, b_2] w (retP k) :=
  calls_of_vc (fn := Tryz.f79) (c := (Tryz.f79.body).getD Code.skip) ann79 Tryz.func79 (by kernel_rfl) [a_1, b_2] w k (by kernel_rfl) ((S79_vc a_1 b_2 k w).symm ▸ h)
theorem C79 (a_1 b_2 : Value) (k : Value → World → Prop) (w : World) (h : S79 a_1 b_2 k w) : callW Tryz.prog (.func (.func 79) #[] #[]) #[a_1, b_2] k w :=
  callW_calls ok79 (by simpa using S79_calls a_1 b_2 k w h)

/-! slices.pdqsortCmpFunc[newswire/api.Slip] -/
def ann80 : Ann := [(7, Note.keep []), (14, Note.loop [1, 2, 3, 10, 11] [0, 4]), (28, Note.keep [0, 1, 2, 3, 4, 10, 11]), (29180, Note.plan (Plan.takeP 0 (Plan.takeP 1 (Plan.takeP 2 (Plan.takeP 3 (Plan.takeP 4 (Plan.takeP 5 (Plan.takeP 6 (Plan.takeP 7 (Plan.takeX 8 (Plan.takeP 9 (Plan.takeP 10 (Plan.takeP 11 (Plan.takeX 12 (Plan.run 13 (Plan.takeP 14 (Plan.takeP 15 (Plan.takeP 16 Plan.done))))))))))))))))))]
def S80 (data_1 a_2 b_3 limit_4 cmp_5 : Value) (k : Value → World → Prop) (w : World) : Prop :=
   Loop5 (fun a_7 b_8 limit_9 wasBalanced_10 wasPartitioned_11 w K_12 =>
   joinW (fun a_75 b_76 limit_77 wasBalanced_78 wasPartitioned_79 w =>
   loopK [] [] [data_1, cmp_5] [data_1, cmp_5] (K_12 a_75 b_76 limit_77 wasBalanced_78 wasPartitioned_79 w)) (fun J_13 =>
   opW Tryz.prog (binS BinOp.sub 3 (Operand.tmp 21) (Operand.tmp 22) b_8 a_7) (fun t23_14 w =>
   opW Tryz.prog (binS BinOp.leq 3 (Operand.tmp 24) (Operand.const (Value.int IntKind.i64 12)) t23_14 (Value.int IntKind.i64 12)) (fun t25_16 w =>
   condW t25_16
   (callW Tryz.prog (Value.func (Fn.func 90) #[] #[]) #[data_1, a_7, b_8, cmp_5] (fun t30_17 w =>
   k (Value.tuple #[]) w) w)
   (opW Tryz.prog (binS BinOp.eql 3 (Operand.tmp 31) (Operand.const (Value.int IntKind.i64 0)) limit_9 (Value.int IntKind.i64 0)) (fun t32_19 w =>
   condW t32_19
   (callW Tryz.prog (Value.func (Fn.func 91) #[] #[]) #[data_1, a_7, b_8, cmp_5] (fun t37_20 w =>
   k (Value.tuple #[]) w) w)
   (joinW (fun limit_25 w =>
   callW Tryz.prog (Value.func (Fn.func 93) #[] #[]) #[data_1, a_7, b_8, cmp_5] (fun t52_26 w =>
   opW Tryz.prog (Instr.extract t52_26 0) (fun t53_27 w =>
   opW Tryz.prog (Instr.extract t52_26 1) (fun t54_28 w =>
   joinW (fun pivot_35 hint_36 w =>
   joinW (fun w =>
   drewW w (fun w =>
   takeW Tryz.prog anyW (binS BinOp.gtr 3 (Operand.tmp 81) (Operand.const (Value.int IntKind.i64 0)) a_7 (Value.int IntKind.i64 0)) (fun t82_46 =>
   guardT (some t82_46, true) (fun k => k cmp_5) (fun t84_47 =>
   guardT (some t82_46, true) (fun k => k data_1) (fun t85_48 =>
   guardT (some t82_46, true) (fun k => k a_7) (fun t86_49 =>
   guardT (some t82_46, true) (fun k => takeW Tryz.prog anyW (binS BinOp.sub 3 (Operand.tmp 86) (Operand.const (Value.int IntKind.i64 1)) t86_49 (Value.int IntKind.i64 1)) k w) (fun t87_50 =>
   guardT (some t82_46, true) (fun k => takeW Tryz.prog anyW (Instr.indexAt 25 t85_48 t87_50) k w) (fun t88_51 =>
   guardT (some t82_46, true) (fun k => takeW Tryz.prog (sameW w) (Instr.loadAt 63 t88_51) k w) (fun t89_52 =>
   guardT (some t82_46, true) (fun k => k data_1) (fun t90_53 =>
   guardT (some t82_46, true) (fun k => k pivot_35) (fun t91_54 =>
   guardT (some t82_46, true) (fun k => takeW Tryz.prog anyW (Instr.indexAt 25 t90_53 t91_54) k w) (fun t92_55 =>
   guardT (some t82_46, true) (fun k => takeW Tryz.prog (sameW w) (Instr.loadAt 63 t92_55) k w) (fun t93_56 =>
   guardW (some t82_46, true) (fun k w => callW Tryz.prog t84_47 #[t89_52, t93_56] k w) (fun t94_57 w =>
   guardT (some t82_46, true) (fun k => takeW Tryz.prog anyW (binS BinOp.lss 3 (Operand.tmp 94) (Operand.const (Value.int IntKind.i64 0)) t94_57 (Value.int IntKind.i64 0)) k w) (fun t95_58 =>
   guardT (some t82_46, true) (fun k => takeW Tryz.prog anyW (Op.unary UnOp.not t95_58) k w) (fun t96_59 =>
   pickT t82_46 t96_59 (Value.bool false) (fun t97_60 =>
   condW t97_60
   (callW Tryz.prog (Value.func (Fn.func 96) #[] #[]) #[data_1, a_7, b_8, pivot_35, cmp_5] (fun t103_61 w =>
   J_13 t103_61 b_8 limit_25 wasBalanced_10 wasPartitioned_11 w) w)
   (callW Tryz.prog (Value.func (Fn.func 97) #[] #[]) #[data_1, a_7, b_8, pivot_35, cmp_5] (fun t111_62 w =>
   opW Tryz.prog (Instr.extract t111_62 0) (fun t112_63 w =>
   opW Tryz.prog (Instr.extract t111_62 1) (fun t113_64 w =>
   opW Tryz.prog (binS BinOp.sub 3 (Operand.tmp 115) (Operand.tmp 116) t112_63 a_7) (fun t117_65 w =>
   opW Tryz.prog (binS BinOp.sub 3 (Operand.tmp 118) (Operand.tmp 119) b_8 t112_63) (fun t120_66 w =>
   opW Tryz.prog (binS BinOp.quo 3 (Operand.tmp 121) (Operand.const (Value.int IntKind.i64 8)) t23_14 (Value.int IntKind.i64 8)) (fun t122_67 w =>
   opW Tryz.prog (binS BinOp.lss 3 (Operand.tmp 123) (Operand.tmp 124) t117_65 t120_66) (fun t125_68 w =>
   condW t125_68
   (opW Tryz.prog (binS BinOp.geq 3 (Operand.tmp 126) (Operand.tmp 127) t117_65 t122_67) (fun t128_69 w =>
   callW Tryz.prog (Value.func (Fn.func 80) #[] #[]) #[data_1, a_7, t112_63, limit_25, cmp_5] (fun t134_70 w =>
   opW Tryz.prog (binS BinOp.add 3 (Operand.tmp 135) (Operand.const (Value.int IntKind.i64 1)) t112_63 (Value.int IntKind.i64 1)) (fun t136_71 w =>
   J_13 t136_71 b_8 limit_25 t128_69 t113_64 w) w) w) w)
   (opW Tryz.prog (binS BinOp.geq 3 (Operand.tmp 137) (Operand.tmp 138) t120_66 t122_67) (fun t139_72 w =>
   opW Tryz.prog (binS BinOp.add 3 (Operand.tmp 141) (Operand.const (Value.int IntKind.i64 1)) t112_63 (Value.int IntKind.i64 1)) (fun t142_73 w =>
   callW Tryz.prog (Value.func (Fn.func 80) #[] #[]) #[data_1, t142_73, b_8, limit_25, cmp_5] (fun t146_74 w =>
   J_13 a_7 t112_63 limit_25 t139_72 t113_64 w) w) w) w)) w) w) w) w) w) w) w))))) w))))))))))) w)) (fun J_37 =>
   guardW (some wasBalanced_10, true) (fun k w => k wasPartitioned_11 w) (fun t70_38 w =>
   pickW wasBalanced_10 t70_38 (Value.bool false) (fun t71_39 w =>
   guardW (some t71_39, true) (fun k w => k hint_36 w) (fun t73_40 w =>
   guardW (some t71_39, true) (fun k w => opW Tryz.prog (binS BinOp.eql 128 (Operand.tmp 73) (Operand.const (Value.int IntKind.i64 1)) t73_40 (Value.int IntKind.i64 1)) k w) (fun t74_41 w =>
   pickW t71_39 t74_41 (Value.bool false) (fun t75_42 w =>
   condW t75_42
   (callW Tryz.prog (Value.func (Fn.func 95) #[] #[]) #[data_1, a_7, b_8, cmp_5] (fun t80_43 w =>
   condW t80_43
   (k (Value.tuple #[]) w)
   (J_37 w)) w)
   (J_37 w)) w) w) w) w) w)) (fun J_29 =>
   opW Tryz.prog (binS BinOp.eql 128 (Operand.tmp 55) (Operand.const (Value.int IntKind.i64 2)) t54_28 (Value.int IntKind.i64 2)) (fun t56_30 w =>
   condW t56_30
   (callW Tryz.prog (Value.func (Fn.func 94) #[] #[]) #[data_1, a_7, b_8, cmp_5] (fun t61_31 w =>
   opW Tryz.prog (binS BinOp.sub 3 (Operand.tmp 62) (Operand.const (Value.int IntKind.i64 1)) b_8 (Value.int IntKind.i64 1)) (fun t63_32 w =>
   opW Tryz.prog (binS BinOp.sub 3 (Operand.tmp 64) (Operand.tmp 65) t53_27 a_7) (fun t66_33 w =>
   opW Tryz.prog (binS BinOp.sub 3 (Operand.tmp 63) (Operand.tmp 66) t63_32 t66_33) (fun t67_34 w =>
   J_29 t67_34 (Value.int IntKind.i64 1) w) w) w) w) w)
   (J_29 t53_27 t54_28 w)) w)) w) w) w) (fun J_21 =>
   opW Tryz.prog (Op.unary UnOp.not wasBalanced_10) (fun t39_22 w =>
   condW t39_22
   (callW Tryz.prog (Value.func (Fn.func 92) #[] #[]) #[data_1, a_7, b_8, cmp_5] (fun t44_23 w =>
   opW Tryz.prog (binS BinOp.sub 3 (Operand.tmp 45) (Operand.const (Value.int IntKind.i64 1)) limit_9 (Value.int IntKind.i64 1)) (fun t46_24 w =>
   J_21 t46_24 w) w) w)
   (J_21 limit_9 w)) w))) w)) w) w)) a_2 b_3 limit_4 (Value.bool true) (Value.bool true) w
theorem S80_vc (data_1 a_2 b_3 limit_4 cmp_5 : Value) (k : Value → World → Prop) (w : World) : vc Tryz.prog Tryz.f80.ntmps ann80 none ((Tryz.f80.body).getD Code.skip) 1 (params 0 [data_1, a_2, b_3, limit_4, cmp_5]) [] (finQ Tryz.prog Tryz.f80.results.toList k) w = S80 data_1 a_2 b_3 limit_4 cmp_5 k w := by kernel_rfl
theorem S80_calls (data_1 a_2 b_3 limit_4 cmp_5 : Value) (k : Value → World → Prop) (w : World) (h : S80 data_1 a_2 b_3 limit_4 cmp_5 k w) : Calls Tryz.prog 80 #[data_1, a_2, b_3, limit_4, cmp_5] w (retP k) :=
  calls_of_vc (fn := Tryz.f80) (c := (Tryz.f80.body).getD Code.skip) ann80 Tryz.func80 (by kernel_rfl) [data_1, a_2, b_3, limit_4, cmp_5] w k (by kernel_rfl) ((S80_vc data_1 a_2 b_3 limit_4 cmp_5 k w).symm ▸ h)
theorem C80 (data_1 a_2 b_3 limit_4 cmp_5 : Value) (k : Value → World → Prop) (w : World) (h : S80 data_1 a_2 b_3 limit_4 cmp_5 k w) : callW Tryz.prog (.func (.func 80) #[] #[]) #[data_1, a_2, b_3, limit_4, cmp_5] k w :=
  callW_calls ok80 (by simpa using S80_calls data_1 a_2 b_3 limit_4 cmp_5 k w h)

/-! math/bits.Len -/
def ann81 : Ann := []
def S81 (x_1 : Value) (k : Value → World → Prop) (w : World) : Prop :=
   condW (Value.bool false)
   (opW Tryz.prog (convert 113 89 x_1) (fun t4_3 w =>
   callW Tryz.prog (Value.func (Fn.func 98) #[] #[]) #[t4_3] (fun t5_4 w =>
   k t5_4 w) w) w)
   (callW Tryz.prog (Value.func (Fn.func 99) #[] #[]) #[x_1] (fun t7_5 w =>
   k t7_5 w) w)
theorem S81_vc (x_1 : Value) (k : Value → World → Prop) (w : World) : vc Tryz.prog Tryz.f81.ntmps ann81 none ((Tryz.f81.body).getD Code.skip) 1 (params 0 [x_1]) [] (finQ Tryz.prog Tryz.f81.results.toList k) w = S81 x_1 k w := by kernel_rfl
theorem S81_calls (x_1 : Value) (k : Value → World → Prop) (w : World) (h : S81 x_1 k w) : Calls Tryz.prog 81 #[x_1] w (retP k) :=
  calls_of_vc (fn := Tryz.f81) (c := (Tryz.f81.body).getD Code.skip) ann81 Tryz.func81 (by kernel_rfl) [x_1] w k (by kernel_rfl) ((S81_vc x_1 k w).symm ▸ h)
theorem C81 (x_1 : Value) (k : Value → World → Prop) (w : World) (h : S81 x_1 k w) : callW Tryz.prog (.func (.func 81) #[] #[]) #[x_1] k w :=
  callW_calls ok81 (by simpa using S81_calls x_1 k w h)

/-! cmp.Or[int] -/
def ann82 : Ann := [(29, Note.keep [3]), (58, Note.loop [8] [3, 6, 7]), (934, Note.keep [3, 6, 7, 8])]
def S82 (vals_1 : Value) (k : Value → World → Prop) (w : World) : Prop :=
   opW Tryz.prog (Builtin.len_ #[54] 3 #[vals_1]) (fun t7_2 w =>
   Loop1 (fun t8_4 w K_5 =>
   opW Tryz.prog (binS BinOp.lss 3 (Operand.tmp 8) (Operand.tmp 7) t8_4 t7_2) (fun t9_6 w =>
   condW t9_6
   (opW Tryz.prog (Instr.indexAt 54 vals_1 t8_4) (fun t10_9 w =>
   opW Tryz.prog (Instr.loadAt 3 t10_9) (fun t11_10 w =>
   opW Tryz.prog (binS BinOp.neq 3 (Operand.tmp 12) (Operand.tmp 13) t11_10 (Value.int IntKind.i64 0)) (fun t14_11 w =>
   condW t14_11
   (k t11_10 w)
   (opW Tryz.prog (binS BinOp.add 3 (Operand.tmp 8) (Operand.const (Value.int IntKind.i64 1)) t8_4 (Value.int IntKind.i64 1)) (fun t16_12 w =>
   loopK [] [] [(Value.int IntKind.i64 0), vals_1, t7_2] [(Value.int IntKind.i64 0), vals_1, t7_2] (K_5 t16_12 w)) w)) w) w) w)
   (k (Value.int IntKind.i64 0) w)) w) (Value.int IntKind.i64 0) w) w
theorem S82_vc (vals_1 : Value) (k : Value → World → Prop) (w : World) : vc Tryz.prog Tryz.f82.ntmps ann82 none ((Tryz.f82.body).getD Code.skip) 1 (params 0 [vals_1]) [] (finQ Tryz.prog Tryz.f82.results.toList k) w = S82 vals_1 k w := by kernel_rfl
theorem S82_calls (vals_1 : Value) (k : Value → World → Prop) (w : World) (h : S82 vals_1 k w) : Calls Tryz.prog 82 #[vals_1] w (retP k) :=
  calls_of_vc (fn := Tryz.f82) (c := (Tryz.f82.body).getD Code.skip) ann82 Tryz.func82 (by kernel_rfl) [vals_1] w k (by kernel_rfl) ((S82_vc vals_1 k w).symm ▸ h)
theorem C82 (vals_1 : Value) (k : Value → World → Prop) (w : World) (h : S82 vals_1 k w) : callW Tryz.prog (.func (.func 82) #[] #[]) #[vals_1] k w :=
  callW_calls ok82 (by simpa using S82_calls vals_1 k w h)

/-! cmp.Compare[int] -/
def ann83 : Ann := []
def S83 (x_1 y_2 : Value) (k : Value → World → Prop) (w : World) : Prop :=
   callW Tryz.prog (Value.func (Fn.func 100) #[] #[]) #[x_1] (fun t8_3 w =>
   callW Tryz.prog (Value.func (Fn.func 100) #[] #[]) #[y_2] (fun t10_4 w =>
   condW t8_3
   (condW t10_4
   (k (Value.int IntKind.i64 0) w)
   (k (Value.int IntKind.i64 (-1)) w))
   (condW t10_4
   (k (Value.int IntKind.i64 1) w)
   (opW Tryz.prog (binS BinOp.lss 3 (Operand.tmp 14) (Operand.tmp 15) x_1 y_2) (fun t16_9 w =>
   condW t16_9
   (k (Value.int IntKind.i64 (-1)) w)
   (opW Tryz.prog (binS BinOp.gtr 3 (Operand.tmp 17) (Operand.tmp 18) x_1 y_2) (fun t19_11 w =>
   condW t19_11
   (k (Value.int IntKind.i64 1) w)
   (k (Value.int IntKind.i64 0) w)) w)) w))) w) w
theorem S83_vc (x_1 y_2 : Value) (k : Value → World → Prop) (w : World) : vc Tryz.prog Tryz.f83.ntmps ann83 none ((Tryz.f83.body).getD Code.skip) 1 (params 0 [x_1, y_2]) [] (finQ Tryz.prog Tryz.f83.results.toList k) w = S83 x_1 y_2 k w := by kernel_rfl
theorem S83_calls (x_1 y_2 : Value) (k : Value → World → Prop) (w : World) (h : S83 x_1 y_2 k w) : Calls Tryz.prog 83 #[x_1, y_2] w (retP k) :=
  calls_of_vc (fn := Tryz.f83) (c := (Tryz.f83.body).getD Code.skip) ann83 Tryz.func83 (by kernel_rfl) [x_1, y_2] w k (by kernel_rfl) ((S83_vc x_1 y_2 k w).symm ▸ h)
theorem C83 (x_1 y_2 : Value) (k : Value → World → Prop) (w : World) (h : S83 x_1 y_2 k w) : callW Tryz.prog (.func (.func 83) #[] #[]) #[x_1, y_2] k w :=
  callW_calls ok83 (by simpa using S83_calls x_1 y_2 k w h)

end
end Go.Proofs.YtklknkmeljjmgaaGreatDoor
