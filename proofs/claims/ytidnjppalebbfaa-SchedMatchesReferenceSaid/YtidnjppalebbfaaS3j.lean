/- The conditions of the functions, printed by program out of the loaded code, each with the contract that follows from it. -/
import Derived.Test.YtidnjppalebbfaaF
import Derived.KernelRfl
set_option linter.unusedVariables false
set_option maxRecDepth 100000
namespace Go.Proofs.Ytidnjppalebbfaa
open Go Go.V
noncomputable section

/-! newswire/newswirelaw24.SchedMatchesReference -/
def ann3j : Ann := [(2042, Note.plan (Plan.takeP 0 (Plan.takeP 1 (Plan.takeP 2 (Plan.takeP 3 (Plan.takeP 5 (Plan.takeP 6 (Plan.takeS 7 (Plan.run 4 (Plan.takeP 8 (Plan.run 9 Plan.done))))))))))), (8186, Note.plan (Plan.takeP 0 (Plan.takeP 1 (Plan.takeP 2 (Plan.takeP 3 (Plan.takeP 5 (Plan.takeP 6 (Plan.takeS 7 (Plan.run 4 (Plan.takeP 8 (Plan.run 9 Plan.done))))))))))), (8189, Note.keep [5, 6]), (16378, Note.loop [105] [5, 6, 16, 18, 19, 103, 104]), (65533, Note.keep [5, 37, 38]), (131066, Note.loop [38, 39] [5, 37]), (131069, Note.keep []), (262054, Note.keep [5, 6, 16, 18, 19, 103, 104, 105]), (262138, Note.loop [226] [5, 224, 225]), (1048530, Note.keep [5, 37, 38, 39]), (4194214, Note.keep [5, 224, 225, 226]), (16771487, Note.keep [5, 6, 16, 18, 19, 103, 104, 105]), (33542974, Note.loop [140] [5, 6, 16, 18, 19, 22, 103, 104, 105, 138, 139]), (33553715, Note.keep [5, 224, 225, 226]), (67107430, Note.loop [235] [5, 41, 224, 225, 226, 233, 234]), (536687590, Note.keep [5, 6, 16, 18, 19, 22, 103, 104, 105, 138, 139, 140]), (1073718886, Note.keep [5, 41, 224, 225, 226, 233, 234, 235])]
def S3j (raw_1 odd_2 x_3 y_4 at_5 bytes_6 wants_7 : Value) (k : Value → World → Prop) (w : World) : Prop :=
   callW Try.prog (Value.func (Fn.func 9) #[] #[]) #[] (fun t48_9 w =>
   opW Try.prog (Op.unary UnOp.not t48_9) (fun t49_10 w =>
   condW t49_10
   (k (Value.bool false) w)
   (opW Try.prog (Builtin.len_ #[22] 3 #[raw_1]) (fun t52_11 w =>
   opW Try.prog (Builtin.min_ #[3, 3] 3 #[t52_11, (Value.int IntKind.i64 9)]) (fun t53_12 w =>
   opW Try.prog (Instr.sliceAt 22 raw_1 none (some t53_12) none) (fun t54_13 w =>
   opW Try.prog (Builtin.len_ #[23] 3 #[odd_2]) (fun t57_14 w =>
   opW Try.prog (Builtin.min_ #[3, 3] 3 #[t57_14, (Value.int IntKind.i64 61)]) (fun t58_15 w =>
   opW Try.prog (Instr.sliceAt 23 odd_2 none (some t58_15) none) (fun t59_16 w =>
   callW Try.prog (Value.func (Fn.func 10) #[] #[]) #[x_3] (fun t61_17 w =>
   callW Try.prog (Value.func (Fn.func 11) #[] #[]) #[t61_17, y_4] (fun t64_18 w =>
   opW Try.prog (Instr.buildSlice 23 0 #[]) (fun t65_19 w =>
   opW Try.prog (Builtin.append_ #[23, 23] 23 #[t65_19, t64_18]) (fun t67_20 w =>
   joinW (fun w =>
   opW Try.prog (Instr.buildSlice 22 0 #[]) (fun t85_34 w =>
   opW Try.prog (Builtin.append_ #[22, 22] 22 #[t85_34, t61_17]) (fun t87_35 w =>
   joinW (fun w =>
   opW Try.prog (Instr.buildSlice 35 3 #[(0, t54_13), (1, t61_17), (2, t87_35)]) (fun t103_45 w =>
   opW Try.prog (Builtin.len_ #[35] 3 #[t103_45]) (fun t104_46 w =>
   Loop1 (fun t105_48 w K_49 =>
   opW Try.prog (binS BinOp.lss 3 (Operand.tmp 105) (Operand.tmp 104) t105_48 t104_46) (fun t106_50 w =>
   condW t106_50
   (opW Try.prog (Instr.indexAt 35 t103_45 t105_48) (fun t107_53 w =>
   opW Try.prog (Instr.loadAt 22 t107_53) (fun t108_54 w =>
   callW Try.prog (Value.func (Fn.func 13) #[] #[]) #[t108_54] (fun t111_55 w =>
   opW Try.prog (Instr.extract t111_55 0) (fun t112_56 w =>
   opW Try.prog (Instr.extract t111_55 1) (fun t113_57 w =>
   callW Try.prog (Value.func (Fn.func 14) #[] #[]) #[t108_54] (fun t116_58 w =>
   opW Try.prog (Instr.extract t116_58 0) (fun t117_59 w =>
   opW Try.prog (Instr.extract t116_58 1) (fun t118_60 w =>
   callW Try.prog (Value.func (Fn.func 15) #[] #[]) #[t108_54] (fun t120_62 w =>
   callW Try.prog (Value.func (Fn.func 16) #[] #[]) #[t108_54] (fun t122_63 w =>
   opW Try.prog (binS BinOp.neq 4 (Operand.tmp 120) (Operand.tmp 122) t120_62 t122_63) (fun t123_64 w =>
   guardW (some t123_64, false) (fun k w => k t113_57 w) (fun t125_65 w =>
   guardW (some t123_64, false) (fun k w => k t118_60 w) (fun t126_66 w =>
   guardW (some t123_64, false) (fun k w => opW Try.prog (binS BinOp.neq 36 (Operand.tmp 125) (Operand.tmp 126) t125_65 t126_66) k w) (fun t127_67 w =>
   pickW t123_64 (Value.bool true) t127_67 (fun t128_68 w =>
   guardW (some t128_68, false) (fun k w => k t112_56 w) (fun t130_69 w =>
   guardW (some t128_68, false) (fun k w => k t117_59 w) (fun t131_70 w =>
   guardW (some t128_68, false) (fun k w => callW Try.prog (Value.func (Fn.func 17) #[] #[]) #[t130_69, t131_70] k w) (fun t132_71 w =>
   guardW (some t128_68, false) (fun k w => opW Try.prog (Op.unary UnOp.not t132_71) k w) (fun t133_72 w =>
   pickW t128_68 (Value.bool true) t133_72 (fun t134_73 w =>
   condW t134_73
   (k (Value.bool false) w)
   (opW Try.prog (Instr.buildSlice 41 3 #[(0, t59_16), (1, t64_18), (2, t67_20)]) (fun t138_74 w =>
   opW Try.prog (Builtin.len_ #[41] 3 #[t138_74]) (fun t139_75 w =>
   Loop1 (fun t140_77 w K_78 =>
   opW Try.prog (binS BinOp.lss 3 (Operand.tmp 140) (Operand.tmp 139) t140_77 t139_75) (fun t141_79 w =>
   condW t141_79
   (opW Try.prog (Instr.indexAt 41 t138_74 t140_77) (fun t142_82 w =>
   opW Try.prog (Instr.loadAt 23 t142_82) (fun t143_83 w =>
   callW Try.prog (Value.func (Fn.func 18) #[] #[]) #[t108_54, t143_83] (fun t147_84 w =>
   opW Try.prog (Instr.extract t147_84 0) (fun t148_85 w =>
   opW Try.prog (Instr.extract t147_84 1) (fun t149_86 w =>
   callW Try.prog (Value.func (Fn.func 19) #[] #[]) #[t108_54, t143_83] (fun t153_87 w =>
   opW Try.prog (Instr.extract t153_87 0) (fun t154_88 w =>
   opW Try.prog (Instr.extract t153_87 1) (fun t155_89 w =>
   callW Try.prog (Value.func (Fn.func 20) #[] #[]) #[t108_54, t143_83] (fun t159_90 w =>
   opW Try.prog (Instr.extract t159_90 0) (fun t160_91 w =>
   opW Try.prog (Instr.extract t159_90 1) (fun t161_92 w =>
   callW Try.prog (Value.func (Fn.func 21) #[] #[]) #[t108_54, t143_83] (fun t165_93 w =>
   opW Try.prog (Instr.extract t165_93 0) (fun t166_94 w =>
   opW Try.prog (Instr.extract t165_93 1) (fun t167_95 w =>
   callW Try.prog (Value.func (Fn.func 22) #[] #[]) #[t108_54, t143_83] (fun t170_96 w =>
   callW Try.prog (Value.func (Fn.func 23) #[] #[]) #[t108_54, t143_83] (fun t173_97 w =>
   opW Try.prog (binS BinOp.neq 4 (Operand.tmp 170) (Operand.tmp 173) t170_96 t173_97) (fun t174_98 w =>
   guardW (some t174_98, false) (fun k w => k t149_86 w) (fun t176_99 w =>
   guardW (some t174_98, false) (fun k w => k t155_89 w) (fun t177_100 w =>
   guardW (some t174_98, false) (fun k w => opW Try.prog (binS BinOp.neq 36 (Operand.tmp 176) (Operand.tmp 177) t176_99 t177_100) k w) (fun t178_101 w =>
   pickW t174_98 (Value.bool true) t178_101 (fun t179_102 w =>
   guardW (some t179_102, false) (fun k w => k t161_92 w) (fun t181_103 w =>
   guardW (some t179_102, false) (fun k w => k t167_95 w) (fun t182_104 w =>
   guardW (some t179_102, false) (fun k w => opW Try.prog (binS BinOp.neq 36 (Operand.tmp 181) (Operand.tmp 182) t181_103 t182_104) k w) (fun t183_105 w =>
   pickW t179_102 (Value.bool true) t183_105 (fun t184_106 w =>
   guardW (some t184_106, false) (fun k w => k t148_85 w) (fun t186_107 w =>
   guardW (some t184_106, false) (fun k w => k t154_88 w) (fun t187_108 w =>
   guardW (some t184_106, false) (fun k w => callW Try.prog (Value.func (Fn.func 17) #[] #[]) #[t186_107, t187_108] k w) (fun t188_109 w =>
   guardW (some t184_106, false) (fun k w => opW Try.prog (Op.unary UnOp.not t188_109) k w) (fun t189_110 w =>
   pickW t184_106 (Value.bool true) t189_110 (fun t190_111 w =>
   guardW (some t190_111, false) (fun k w => k t160_91 w) (fun t192_112 w =>
   guardW (some t190_111, false) (fun k w => k t166_94 w) (fun t193_113 w =>
   guardW (some t190_111, false) (fun k w => callW Try.prog (Value.func (Fn.func 17) #[] #[]) #[t192_112, t193_113] k w) (fun t194_114 w =>
   guardW (some t190_111, false) (fun k w => opW Try.prog (Op.unary UnOp.not t194_114) k w) (fun t195_115 w =>
   pickW t190_111 (Value.bool true) t195_115 (fun t196_116 w =>
   condW t196_116
   (k (Value.bool false) w)
   (opW Try.prog (binS BinOp.add 3 (Operand.tmp 140) (Operand.const (Value.int IntKind.i64 1)) t140_77 (Value.int IntKind.i64 1)) (fun t197_117 w =>
   loopK [] [] [bytes_6, wants_7, t59_16, t64_18, t67_20, t108_54, t103_45, t104_46, t105_48, t138_74, t139_75] [bytes_6, wants_7, t59_16, t64_18, t67_20, t108_54, t103_45, t104_46, t105_48, t138_74, t139_75] (K_78 t197_117 w)) w)) w) w) w) w) w) w) w) w) w) w) w) w) w) w) w) w) w) w) w) w) w) w) w) w) w) w) w) w) w) w) w) w) w) w) w)
   (opW Try.prog (binS BinOp.add 3 (Operand.tmp 105) (Operand.const (Value.int IntKind.i64 1)) t105_48 (Value.int IntKind.i64 1)) (fun t198_118 w =>
   loopK [] [] [bytes_6, wants_7, t59_16, t64_18, t67_20, t103_45, t104_46] [bytes_6, wants_7, t59_16, t64_18, t67_20, t103_45, t104_46] (K_49 t198_118 w)) w)) w) (Value.int IntKind.i64 0) w) w) w)) w) w) w) w) w) w) w) w) w) w) w) w) w) w) w) w) w) w) w) w)
   (opW Try.prog (Builtin.len_ #[26] 3 #[wants_7]) (fun t201_119 w =>
   opW Try.prog (Builtin.min_ #[3, 3] 3 #[t201_119, (Value.int IntKind.i64 9)]) (fun t202_120 w =>
   opW Try.prog (Instr.sliceAt 26 wants_7 none (some t202_120) none) (fun t203_121 w =>
   Loop2 (fun within_123 i_124 w K_125 =>
   opW Try.prog (Builtin.len_ #[26] 3 #[t203_121]) (fun t206_127 w =>
   opW Try.prog (binS BinOp.lss 3 (Operand.tmp 204) (Operand.tmp 206) i_124 t206_127) (fun t207_128 w =>
   guardW (some t207_128, true) (fun k w => k i_124 w) (fun t209_129 w =>
   guardW (some t207_128, true) (fun k w => opW Try.prog (binS BinOp.lss 3 (Operand.tmp 209) (Operand.const (Value.int IntKind.i64 8)) t209_129 (Value.int IntKind.i64 8)) k w) (fun t210_130 w =>
   pickW t207_128 t210_130 (Value.bool false) (fun t211_131 w =>
   condW t211_131
   (opW Try.prog (Instr.indexAt 26 t203_121 i_124) (fun t217_133 w =>
   opW Try.prog (Instr.loadAt 3 t217_133) (fun t218_134 w =>
   callW Try.prog (Value.func (Fn.func 12) #[] #[]) #[t218_134, (Value.int IntKind.i64 2000)] (fun t219_135 w =>
   opW Try.prog (Instr.buildSlice 26 1 #[(0, t219_135)]) (fun t220_136 w =>
   opW Try.prog (Builtin.append_ #[26, 26] 26 #[within_123, t220_136]) (fun t221_137 w =>
   opW Try.prog (binS BinOp.add 3 (Operand.tmp 212) (Operand.const (Value.int IntKind.i64 1)) i_124 (Value.int IntKind.i64 1)) (fun t213_138 w =>
   loopK [] [] [bytes_6, t203_121] [bytes_6, t203_121] (K_125 t221_137 t213_138 w)) w) w) w) w) w) w)
   (opW Try.prog (Instr.buildSlice 44 2 #[(0, t203_121), (1, within_123)]) (fun t224_139 w =>
   opW Try.prog (Builtin.len_ #[44] 3 #[t224_139]) (fun t225_140 w =>
   Loop1 (fun t226_142 w K_143 =>
   opW Try.prog (binS BinOp.lss 3 (Operand.tmp 226) (Operand.tmp 225) t226_142 t225_140) (fun t227_144 w =>
   condW t227_144
   (opW Try.prog (Instr.indexAt 44 t224_139 t226_142) (fun t228_147 w =>
   opW Try.prog (Instr.loadAt 26 t228_147) (fun t229_148 w =>
   callW Try.prog (Value.func (Fn.func 12) #[] #[]) #[bytes_6, (Value.int IntKind.i64 9000)] (fun t232_149 w =>
   opW Try.prog (Instr.buildSlice 26 2 #[(0, bytes_6), (1, t232_149)]) (fun t233_150 w =>
   opW Try.prog (Builtin.len_ #[26] 3 #[t233_150]) (fun t234_151 w =>
   Loop1 (fun t235_153 w K_154 =>
   opW Try.prog (binS BinOp.lss 3 (Operand.tmp 235) (Operand.tmp 234) t235_153 t234_151) (fun t236_155 w =>
   condW t236_155
   (opW Try.prog (Instr.indexAt 26 t233_150 t235_153) (fun t237_158 w =>
   opW Try.prog (Instr.loadAt 3 t237_158) (fun t238_159 w =>
   callW Try.prog (Value.func (Fn.func 24) #[] #[]) #[t238_159, t229_148] (fun t242_160 w =>
   opW Try.prog (Instr.extract t242_160 0) (fun t243_161 w =>
   opW Try.prog (Instr.extract t242_160 1) (fun t244_162 w =>
   callW Try.prog (Value.func (Fn.func 25) #[] #[]) #[t238_159, t229_148] (fun t248_163 w =>
   opW Try.prog (Instr.extract t248_163 0) (fun t249_164 w =>
   opW Try.prog (Instr.extract t248_163 1) (fun t250_165 w =>
   opW Try.prog (binS BinOp.neq 36 (Operand.tmp 251) (Operand.tmp 252) t244_162 t250_165) (fun t253_166 w =>
   guardW (some t253_166, false) (fun k w => k t243_161 w) (fun t255_167 w =>
   guardW (some t253_166, false) (fun k w => k t249_164 w) (fun t256_168 w =>
   guardW (some t253_166, false) (fun k w => callW Try.prog (Value.func (Fn.func 17) #[] #[]) #[t255_167, t256_168] k w) (fun t257_169 w =>
   guardW (some t253_166, false) (fun k w => opW Try.prog (Op.unary UnOp.not t257_169) k w) (fun t258_170 w =>
   pickW t253_166 (Value.bool true) t258_170 (fun t259_171 w =>
   condW t259_171
   (k (Value.bool false) w)
   (opW Try.prog (binS BinOp.add 3 (Operand.tmp 235) (Operand.const (Value.int IntKind.i64 1)) t235_153 (Value.int IntKind.i64 1)) (fun t260_172 w =>
   loopK [] [] [bytes_6, t229_148, t224_139, t225_140, t226_142, t233_150, t234_151] [bytes_6, t229_148, t224_139, t225_140, t226_142, t233_150, t234_151] (K_154 t260_172 w)) w)) w) w) w) w) w) w) w) w) w) w) w) w) w) w)
   (opW Try.prog (binS BinOp.add 3 (Operand.tmp 226) (Operand.const (Value.int IntKind.i64 1)) t226_142 (Value.int IntKind.i64 1)) (fun t261_173 w =>
   loopK [] [] [bytes_6, t224_139, t225_140] [bytes_6, t224_139, t225_140] (K_143 t261_173 w)) w)) w) (Value.int IntKind.i64 0) w) w) w) w) w) w)
   (k (Value.bool true) w)) w) (Value.int IntKind.i64 0) w) w) w)) w) w) w) w) w) (Value.slice none 0 0) (Value.int IntKind.i64 0) w) w) w) w)) w) (Value.int IntKind.i64 0) w) w) w) (fun J_36 =>
   opW Try.prog (Builtin.len_ #[22] 3 #[t54_13]) (fun t89_37 w =>
   opW Try.prog (binS BinOp.gtr 3 (Operand.tmp 89) (Operand.const (Value.int IntKind.i64 0)) t89_37 (Value.int IntKind.i64 0)) (fun t90_38 w =>
   condW t90_38
   (drewW w (fun w =>
   ∃ S : World → Prop, S w ∧
   takeW Try.prog anyW (Builtin.len_ #[22] 3 #[t87_35]) (fun t94_40 =>
   takeW Try.prog anyW (Instr.indexAt 22 t54_13 (Value.int IntKind.i64 0)) (fun t97_41 =>
   takeW Try.prog S (Instr.loadAt 34 t97_41) (fun t98_42 =>
   callW Try.prog (Value.func (Fn.func 12) #[] #[]) #[at_5, t94_40] (fun t95_43 w => keepS S (fun w =>
   takeW Try.prog anyW (Instr.indexAt 22 t87_35 t95_43) (fun t99_44 =>
   opU Try.prog (Instr.storeAt 34 t99_44 t98_42) (fun _ w => keepS S (fun w =>
   J_36 w) w) w) w) w) w) w) w) w))
   (J_36 w)) w) w)) w) w) (fun J_21 =>
   opW Try.prog (Builtin.len_ #[23] 3 #[t67_20]) (fun t69_22 w =>
   opW Try.prog (binS BinOp.gtr 3 (Operand.tmp 69) (Operand.const (Value.int IntKind.i64 0)) t69_22 (Value.int IntKind.i64 0)) (fun t70_23 w =>
   guardW (some t70_23, true) (fun k w => k t59_16 w) (fun t72_24 w =>
   guardW (some t70_23, true) (fun k w => opW Try.prog (Builtin.len_ #[23] 3 #[t72_24]) k w) (fun t73_25 w =>
   guardW (some t70_23, true) (fun k w => opW Try.prog (binS BinOp.gtr 3 (Operand.tmp 73) (Operand.const (Value.int IntKind.i64 0)) t73_25 (Value.int IntKind.i64 0)) k w) (fun t74_26 w =>
   pickW t70_23 t74_26 (Value.bool false) (fun t75_27 w =>
   condW t75_27
   (drewW w (fun w =>
   ∃ S : World → Prop, S w ∧
   takeW Try.prog anyW (Builtin.len_ #[23] 3 #[t67_20]) (fun t79_29 =>
   takeW Try.prog anyW (Instr.indexAt 23 t59_16 (Value.int IntKind.i64 0)) (fun t82_30 =>
   takeW Try.prog S (Instr.loadAt 31 t82_30) (fun t83_31 =>
   callW Try.prog (Value.func (Fn.func 12) #[] #[]) #[at_5, t79_29] (fun t80_32 w => keepS S (fun w =>
   takeW Try.prog anyW (Instr.indexAt 23 t67_20 t80_32) (fun t84_33 =>
   opU Try.prog (Instr.storeAt 31 t84_33 t83_31) (fun _ w => keepS S (fun w =>
   J_21 w) w) w) w) w) w) w) w) w))
   (J_21 w)) w) w) w) w) w) w)) w) w) w) w) w) w) w) w) w) w)) w) w
theorem S3j_vc (raw_1 odd_2 x_3 y_4 at_5 bytes_6 wants_7 : Value) (k : Value → World → Prop) (w : World) : vc Try.prog Try.f3.ntmps ann3j none ((Try.f3.body).getD Code.skip) 1 (params 0 [raw_1, odd_2, x_3, y_4, at_5, bytes_6, wants_7]) [] (finQ Try.prog Try.f3.results.toList k) w = S3j raw_1 odd_2 x_3 y_4 at_5 bytes_6 wants_7 k w := by kernel_rfl
theorem S3j_calls (raw_1 odd_2 x_3 y_4 at_5 bytes_6 wants_7 : Value) (k : Value → World → Prop) (w : World) (h : S3j raw_1 odd_2 x_3 y_4 at_5 bytes_6 wants_7 k w) : Calls Try.prog 3 #[raw_1, odd_2, x_3, y_4, at_5, bytes_6, wants_7] w (retP k) :=
  calls_of_vc (fn := Try.f3) (c := (Try.f3.body).getD Code.skip) ann3j Try.func3 (by kernel_rfl) [raw_1, odd_2, x_3, y_4, at_5, bytes_6, wants_7] w k (by kernel_rfl) ((S3j_vc raw_1 odd_2 x_3 y_4 at_5 bytes_6 wants_7 k w).symm ▸ h)
theorem C3j (raw_1 odd_2 x_3 y_4 at_5 bytes_6 wants_7 : Value) (k : Value → World → Prop) (w : World) (h : S3j raw_1 odd_2 x_3 y_4 at_5 bytes_6 wants_7 k w) : callW Try.prog (.func (.func 3) #[] #[]) #[raw_1, odd_2, x_3, y_4, at_5, bytes_6, wants_7] k w :=
  callW_calls ok3 (by simpa using S3j_calls raw_1 odd_2 x_3 y_4 at_5 bytes_6 wants_7 k w h)

end
end Go.Proofs.Ytidnjppalebbfaa
