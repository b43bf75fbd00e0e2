/- The conditions of the functions, printed by program out of the loaded code, each with the contract that follows from it. -/
import Derived.Test.YtidnjppalebbfaaF
import Derived.KernelRfl
set_option linter.unusedVariables false
set_option maxRecDepth 100000
namespace Go.Proofs.Ytidnjppalebbfaa
open Go Go.V
noncomputable section

/-! newswire/newswirelaw24.SchedMatchesReference -/
def ann3 : Ann := [(2042, Note.plan (Plan.takeP 0 (Plan.takeP 1 (Plan.takeP 2 (Plan.takeP 3 (Plan.takeP 5 (Plan.takeP 6 (Plan.takeS 7 (Plan.run 4 (Plan.takeP 8 (Plan.run 9 Plan.done))))))))))), (8186, Note.plan (Plan.takeP 0 (Plan.takeP 1 (Plan.takeP 2 (Plan.takeP 3 (Plan.takeP 5 (Plan.takeP 6 (Plan.takeS 7 (Plan.run 4 (Plan.takeP 8 (Plan.run 9 Plan.done))))))))))), (8189, Note.keep [5, 6]), (16378, Note.loop [105] [5, 6, 16, 18, 19, 103, 104]), (65533, Note.keep [5, 37, 38]), (131066, Note.loop [38, 39] [5, 37]), (131069, Note.keep []), (262054, Note.keep [5, 6, 16, 18, 19, 103, 104, 105]), (262138, Note.loop [226] [5, 224, 225]), (1048530, Note.keep [5, 37, 38, 39]), (4194214, Note.keep [5, 224, 225, 226]), (16771487, Note.keep [5, 6, 16, 18, 19, 103, 104, 105]), (33542974, Note.loop [140] [5, 6, 16, 18, 19, 22, 103, 104, 105, 138, 139]), (33553715, Note.keep [5, 224, 225, 226]), (67107430, Note.loop [235] [5, 41, 224, 225, 226, 233, 234]), (536687590, Note.keep [5, 6, 16, 18, 19, 22, 103, 104, 105, 138, 139, 140]), (1073718886, Note.keep [5, 41, 224, 225, 226, 233, 234, 235])]
def S3 (raw_1 odd_2 x_3 y_4 at_5 bytes_6 wants_7 : Value) (k : Value → World → Prop) (w : World) : Prop :=
   callW Try.prog (Value.func (Fn.func 9) #[] #[]) #[] (fun t48_8 w =>
   opW Try.prog (Op.unary UnOp.not t48_8) (fun t49_9 w =>
   condW t49_9
   (k (Value.bool false) w)
   (opW Try.prog (Builtin.len_ #[22] 3 #[raw_1]) (fun t52_10 w =>
   opW Try.prog (Builtin.min_ #[3, 3] 3 #[t52_10, (Value.int IntKind.i64 9)]) (fun t53_11 w =>
   opW Try.prog (Instr.sliceAt 22 raw_1 none (some t53_11) none) (fun t54_12 w =>
   opW Try.prog (Builtin.len_ #[23] 3 #[odd_2]) (fun t57_13 w =>
   opW Try.prog (Builtin.min_ #[3, 3] 3 #[t57_13, (Value.int IntKind.i64 61)]) (fun t58_14 w =>
   opW Try.prog (Instr.sliceAt 23 odd_2 none (some t58_14) none) (fun t59_15 w =>
   callW Try.prog (Value.func (Fn.func 10) #[] #[]) #[x_3] (fun t61_16 w =>
   callW Try.prog (Value.func (Fn.func 11) #[] #[]) #[t61_16, y_4] (fun t64_17 w =>
   opW Try.prog (Instr.buildSlice 23 0 #[]) (fun t65_18 w =>
   opW Try.prog (Builtin.append_ #[23, 23] 23 #[t65_18, t64_17]) (fun t67_19 w =>
   opW Try.prog (Builtin.len_ #[23] 3 #[t67_19]) (fun t69_20 w =>
   opW Try.prog (binS BinOp.gtr 3 (Operand.tmp 69) (Operand.const (Value.int IntKind.i64 0)) t69_20 (Value.int IntKind.i64 0)) (fun t70_21 w =>
   guardW (some t70_21, true) (fun k w => k t59_15 w) (fun t72_22 w =>
   guardW (some t70_21, true) (fun k w => opW Try.prog (Builtin.len_ #[23] 3 #[t72_22]) k w) (fun t73_23 w =>
   guardW (some t70_21, true) (fun k w => opW Try.prog (binS BinOp.gtr 3 (Operand.tmp 73) (Operand.const (Value.int IntKind.i64 0)) t73_23 (Value.int IntKind.i64 0)) k w) (fun t74_24 w =>
   pickW t70_21 t74_24 (Value.bool false) (fun t75_25 w =>
   condW t75_25
   (drewW w (fun w =>
   ∃ S : World → Prop, S w ∧
   takeW Try.prog anyW (Builtin.len_ #[23] 3 #[t67_19]) (fun t79_27 =>
   takeW Try.prog anyW (Instr.indexAt 23 t59_15 (Value.int IntKind.i64 0)) (fun t82_28 =>
   takeW Try.prog S (Instr.loadAt 31 t82_28) (fun t83_29 =>
   callW Try.prog (Value.func (Fn.func 12) #[] #[]) #[at_5, t79_27] (fun t80_30 w => keepS S (fun w =>
   takeW Try.prog anyW (Instr.indexAt 23 t67_19 t80_30) (fun t84_31 =>
   opU Try.prog (Instr.storeAt 31 t84_31 t83_29) (fun _ w => keepS S (fun w =>
   opW Try.prog (Instr.buildSlice 22 0 #[]) (fun t85_32 w =>
   opW Try.prog (Builtin.append_ #[22, 22] 22 #[t85_32, t61_16]) (fun t87_33 w =>
   opW Try.prog (Builtin.len_ #[22] 3 #[t54_12]) (fun t89_34 w =>
   opW Try.prog (binS BinOp.gtr 3 (Operand.tmp 89) (Operand.const (Value.int IntKind.i64 0)) t89_34 (Value.int IntKind.i64 0)) (fun t90_35 w =>
   condW t90_35
   (drewW w (fun w =>
   ∃ S : World → Prop, S w ∧
   takeW Try.prog anyW (Builtin.len_ #[22] 3 #[t87_33]) (fun t94_37 =>
   takeW Try.prog anyW (Instr.indexAt 22 t54_12 (Value.int IntKind.i64 0)) (fun t97_38 =>
   takeW Try.prog S (Instr.loadAt 34 t97_38) (fun t98_39 =>
   callW Try.prog (Value.func (Fn.func 12) #[] #[]) #[at_5, t94_37] (fun t95_40 w => keepS S (fun w =>
   takeW Try.prog anyW (Instr.indexAt 22 t87_33 t95_40) (fun t99_41 =>
   opU Try.prog (Instr.storeAt 34 t99_41 t98_39) (fun _ w => keepS S (fun w =>
   opW Try.prog (Instr.buildSlice 35 3 #[(0, t54_12), (1, t61_16), (2, t87_33)]) (fun t103_42 w =>
   opW Try.prog (Builtin.len_ #[35] 3 #[t103_42]) (fun t104_43 w =>
   Loop1 (fun t105_45 w K_46 =>
   opW Try.prog (binS BinOp.lss 3 (Operand.tmp 105) (Operand.tmp 104) t105_45 t104_43) (fun t106_47 w =>
   condW t106_47
   (opW Try.prog (Instr.indexAt 35 t103_42 t105_45) (fun t107_49 w =>
   opW Try.prog (Instr.loadAt 22 t107_49) (fun t108_50 w =>
   callW Try.prog (Value.func (Fn.func 13) #[] #[]) #[t108_50] (fun t111_51 w =>
   opW Try.prog (Instr.extract t111_51 0) (fun t112_52 w =>
   opW Try.prog (Instr.extract t111_51 1) (fun t113_53 w =>
   callW Try.prog (Value.func (Fn.func 14) #[] #[]) #[t108_50] (fun t116_54 w =>
   opW Try.prog (Instr.extract t116_54 0) (fun t117_55 w =>
   opW Try.prog (Instr.extract t116_54 1) (fun t118_56 w =>
   callW Try.prog (Value.func (Fn.func 15) #[] #[]) #[t108_50] (fun t120_57 w =>
   callW Try.prog (Value.func (Fn.func 16) #[] #[]) #[t108_50] (fun t122_58 w =>
   opW Try.prog (binS BinOp.neq 4 (Operand.tmp 120) (Operand.tmp 122) t120_57 t122_58) (fun t123_59 w =>
   guardW (some t123_59, false) (fun k w => k t113_53 w) (fun t125_60 w =>
   guardW (some t123_59, false) (fun k w => k t118_56 w) (fun t126_61 w =>
   guardW (some t123_59, false) (fun k w => opW Try.prog (binS BinOp.neq 36 (Operand.tmp 125) (Operand.tmp 126) t125_60 t126_61) k w) (fun t127_62 w =>
   pickW t123_59 (Value.bool true) t127_62 (fun t128_63 w =>
   guardW (some t128_63, false) (fun k w => k t112_52 w) (fun t130_64 w =>
   guardW (some t128_63, false) (fun k w => k t117_55 w) (fun t131_65 w =>
   guardW (some t128_63, false) (fun k w => callW Try.prog (Value.func (Fn.func 17) #[] #[]) #[t130_64, t131_65] k w) (fun t132_66 w =>
   guardW (some t128_63, false) (fun k w => opW Try.prog (Op.unary UnOp.not t132_66) k w) (fun t133_67 w =>
   pickW t128_63 (Value.bool true) t133_67 (fun t134_68 w =>
   condW t134_68
   (k (Value.bool false) w)
   (opW Try.prog (Instr.buildSlice 41 3 #[(0, t59_15), (1, t64_17), (2, t67_19)]) (fun t138_69 w =>
   opW Try.prog (Builtin.len_ #[41] 3 #[t138_69]) (fun t139_70 w =>
   Loop1 (fun t140_72 w K_73 =>
   opW Try.prog (binS BinOp.lss 3 (Operand.tmp 140) (Operand.tmp 139) t140_72 t139_70) (fun t141_74 w =>
   condW t141_74
   (opW Try.prog (Instr.indexAt 41 t138_69 t140_72) (fun t142_76 w =>
   opW Try.prog (Instr.loadAt 23 t142_76) (fun t143_77 w =>
   callW Try.prog (Value.func (Fn.func 18) #[] #[]) #[t108_50, t143_77] (fun t147_78 w =>
   opW Try.prog (Instr.extract t147_78 0) (fun t148_79 w =>
   opW Try.prog (Instr.extract t147_78 1) (fun t149_80 w =>
   callW Try.prog (Value.func (Fn.func 19) #[] #[]) #[t108_50, t143_77] (fun t153_81 w =>
   opW Try.prog (Instr.extract t153_81 0) (fun t154_82 w =>
   opW Try.prog (Instr.extract t153_81 1) (fun t155_83 w =>
   callW Try.prog (Value.func (Fn.func 20) #[] #[]) #[t108_50, t143_77] (fun t159_84 w =>
   opW Try.prog (Instr.extract t159_84 0) (fun t160_85 w =>
   opW Try.prog (Instr.extract t159_84 1) (fun t161_86 w =>
   callW Try.prog (Value.func (Fn.func 21) #[] #[]) #[t108_50, t143_77] (fun t165_87 w =>
   opW Try.prog (Instr.extract t165_87 0) (fun t166_88 w =>
   opW Try.prog (Instr.extract t165_87 1) (fun t167_89 w =>
   callW Try.prog (Value.func (Fn.func 22) #[] #[]) #[t108_50, t143_77] (fun t170_90 w =>
   callW Try.prog (Value.func (Fn.func 23) #[] #[]) #[t108_50, t143_77] (fun t173_91 w =>
   opW Try.prog (binS BinOp.neq 4 (Operand.tmp 170) (Operand.tmp 173) t170_90 t173_91) (fun t174_92 w =>
   guardW (some t174_92, false) (fun k w => k t149_80 w) (fun t176_93 w =>
   guardW (some t174_92, false) (fun k w => k t155_83 w) (fun t177_94 w =>
   guardW (some t174_92, false) (fun k w => opW Try.prog (binS BinOp.neq 36 (Operand.tmp 176) (Operand.tmp 177) t176_93 t177_94) k w) (fun t178_95 w =>
   pickW t174_92 (Value.bool true) t178_95 (fun t179_96 w =>
   guardW (some t179_96, false) (fun k w => k t161_86 w) (fun t181_97 w =>
   guardW (some t179_96, false) (fun k w => k t167_89 w) (fun t182_98 w =>
   guardW (some t179_96, false) (fun k w => opW Try.prog (binS BinOp.neq 36 (Operand.tmp 181) (Operand.tmp 182) t181_97 t182_98) k w) (fun t183_99 w =>
   pickW t179_96 (Value.bool true) t183_99 (fun t184_100 w =>
   guardW (some t184_100, false) (fun k w => k t148_79 w) (fun t186_101 w =>
   guardW (some t184_100, false) (fun k w => k t154_82 w) (fun t187_102 w =>
   guardW (some t184_100, false) (fun k w => callW Try.prog (Value.func (Fn.func 17) #[] #[]) #[t186_101, t187_102] k w) (fun t188_103 w =>
   guardW (some t184_100, false) (fun k w => opW Try.prog (Op.unary UnOp.not t188_103) k w) (fun t189_104 w =>
   pickW t184_100 (Value.bool true) t189_104 (fun t190_105 w =>
   guardW (some t190_105, false) (fun k w => k t160_85 w) (fun t192_106 w =>
   guardW (some t190_105, false) (fun k w => k t166_88 w) (fun t193_107 w =>
   guardW (some t190_105, false) (fun k w => callW Try.prog (Value.func (Fn.func 17) #[] #[]) #[t192_106, t193_107] k w) (fun t194_108 w =>
   guardW (some t190_105, false) (fun k w => opW Try.prog (Op.unary UnOp.not t194_108) k w) (fun t195_109 w =>
   pickW t190_105 (Value.bool true) t195_109 (fun t196_110 w =>
   condW t196_110
   (k (Value.bool false) w)
   (opW Try.prog (binS BinOp.add 3 (Operand.tmp 140) (Operand.const (Value.int IntKind.i64 1)) t140_72 (Value.int IntKind.i64 1)) (fun t197_111 w =>
   loopK [] [] [bytes_6, wants_7, t59_15, t64_17, t67_19, t108_50, t103_42, t104_43, t105_45, t138_69, t139_70] [bytes_6, wants_7, t59_15, t64_17, t67_19, t108_50, t103_42, t104_43, t105_45, t138_69, t139_70] (K_73 t197_111 w)) w)) w) w) w) w) w) w) w) w) w) w) w) w) w) w) w) w) w) w) w) w) w) w) w) w) w) w) w) w) w) w) w) w) w) w) w)
   (opW Try.prog (binS BinOp.add 3 (Operand.tmp 105) (Operand.const (Value.int IntKind.i64 1)) t105_45 (Value.int IntKind.i64 1)) (fun t198_112 w =>
   loopK [] [] [bytes_6, wants_7, t59_15, t64_17, t67_19, t103_42, t104_43] [bytes_6, wants_7, t59_15, t64_17, t67_19, t103_42, t104_43] (K_46 t198_112 w)) w)) w) (Value.int IntKind.i64 0) w) w) w)) w) w) w) w) w) w) w) w) w) w) w) w) w) w) w) w) w) w) w) w)
   (opW Try.prog (Builtin.len_ #[26] 3 #[wants_7]) (fun t201_113 w =>
   opW Try.prog (Builtin.min_ #[3, 3] 3 #[t201_113, (Value.int IntKind.i64 9)]) (fun t202_114 w =>
   opW Try.prog (Instr.sliceAt 26 wants_7 none (some t202_114) none) (fun t203_115 w =>
   Loop2 (fun within_117 i_118 w K_119 =>
   opW Try.prog (Builtin.len_ #[26] 3 #[t203_115]) (fun t206_120 w =>
   opW Try.prog (binS BinOp.lss 3 (Operand.tmp 204) (Operand.tmp 206) i_118 t206_120) (fun t207_121 w =>
   guardW (some t207_121, true) (fun k w => k i_118 w) (fun t209_122 w =>
   guardW (some t207_121, true) (fun k w => opW Try.prog (binS BinOp.lss 3 (Operand.tmp 209) (Operand.const (Value.int IntKind.i64 8)) t209_122 (Value.int IntKind.i64 8)) k w) (fun t210_123 w =>
   pickW t207_121 t210_123 (Value.bool false) (fun t211_124 w =>
   condW t211_124
   (opW Try.prog (Instr.indexAt 26 t203_115 i_118) (fun t217_126 w =>
   opW Try.prog (Instr.loadAt 3 t217_126) (fun t218_127 w =>
   callW Try.prog (Value.func (Fn.func 12) #[] #[]) #[t218_127, (Value.int IntKind.i64 2000)] (fun t219_128 w =>
   opW Try.prog (Instr.buildSlice 26 1 #[(0, t219_128)]) (fun t220_129 w =>
   opW Try.prog (Builtin.append_ #[26, 26] 26 #[within_117, t220_129]) (fun t221_130 w =>
   opW Try.prog (binS BinOp.add 3 (Operand.tmp 212) (Operand.const (Value.int IntKind.i64 1)) i_118 (Value.int IntKind.i64 1)) (fun t213_131 w =>
   loopK [] [] [bytes_6, t203_115] [bytes_6, t203_115] (K_119 t221_130 t213_131 w)) w) w) w) w) w) w)
   (opW Try.prog (Instr.buildSlice 44 2 #[(0, t203_115), (1, within_117)]) (fun t224_132 w =>
   opW Try.prog (Builtin.len_ #[44] 3 #[t224_132]) (fun t225_133 w =>
   Loop1 (fun t226_135 w K_136 =>
   opW Try.prog (binS BinOp.lss 3 (Operand.tmp 226) (Operand.tmp 225) t226_135 t225_133) (fun t227_137 w =>
   condW t227_137
   (opW Try.prog (Instr.indexAt 44 t224_132 t226_135) (fun t228_139 w =>
   opW Try.prog (Instr.loadAt 26 t228_139) (fun t229_140 w =>
   callW Try.prog (Value.func (Fn.func 12) #[] #[]) #[bytes_6, (Value.int IntKind.i64 9000)] (fun t232_141 w =>
   opW Try.prog (Instr.buildSlice 26 2 #[(0, bytes_6), (1, t232_141)]) (fun t233_142 w =>
   opW Try.prog (Builtin.len_ #[26] 3 #[t233_142]) (fun t234_143 w =>
   Loop1 (fun t235_145 w K_146 =>
   opW Try.prog (binS BinOp.lss 3 (Operand.tmp 235) (Operand.tmp 234) t235_145 t234_143) (fun t236_147 w =>
   condW t236_147
   (opW Try.prog (Instr.indexAt 26 t233_142 t235_145) (fun t237_149 w =>
   opW Try.prog (Instr.loadAt 3 t237_149) (fun t238_150 w =>
   callW Try.prog (Value.func (Fn.func 24) #[] #[]) #[t238_150, t229_140] (fun t242_151 w =>
   opW Try.prog (Instr.extract t242_151 0) (fun t243_152 w =>
   opW Try.prog (Instr.extract t242_151 1) (fun t244_153 w =>
   callW Try.prog (Value.func (Fn.func 25) #[] #[]) #[t238_150, t229_140] (fun t248_154 w =>
   opW Try.prog (Instr.extract t248_154 0) (fun t249_155 w =>
   opW Try.prog (Instr.extract t248_154 1) (fun t250_156 w =>
   opW Try.prog (binS BinOp.neq 36 (Operand.tmp 251) (Operand.tmp 252) t244_153 t250_156) (fun t253_157 w =>
   guardW (some t253_157, false) (fun k w => k t243_152 w) (fun t255_158 w =>
   guardW (some t253_157, false) (fun k w => k t249_155 w) (fun t256_159 w =>
   guardW (some t253_157, false) (fun k w => callW Try.prog (Value.func (Fn.func 17) #[] #[]) #[t255_158, t256_159] k w) (fun t257_160 w =>
   guardW (some t253_157, false) (fun k w => opW Try.prog (Op.unary UnOp.not t257_160) k w) (fun t258_161 w =>
   pickW t253_157 (Value.bool true) t258_161 (fun t259_162 w =>
   condW t259_162
   (k (Value.bool false) w)
   (opW Try.prog (binS BinOp.add 3 (Operand.tmp 235) (Operand.const (Value.int IntKind.i64 1)) t235_145 (Value.int IntKind.i64 1)) (fun t260_163 w =>
   loopK [] [] [bytes_6, t229_140, t224_132, t225_133, t226_135, t233_142, t234_143] [bytes_6, t229_140, t224_132, t225_133, t226_135, t233_142, t234_143] (K_146 t260_163 w)) w)) w) w) w) w) w) w) w) w) w) w) w) w) w) w)
   (opW Try.prog (binS BinOp.add 3 (Operand.tmp 226) (Operand.const (Value.int IntKind.i64 1)) t226_135 (Value.int IntKind.i64 1)) (fun t261_164 w =>
   loopK [] [] [bytes_6, t224_132, t225_133] [bytes_6, t224_132, t225_133] (K_136 t261_164 w)) w)) w) (Value.int IntKind.i64 0) w) w) w) w) w) w)
   (k (Value.bool true) w)) w) (Value.int IntKind.i64 0) w) w) w)) w) w) w) w) w) (Value.slice none 0 0) (Value.int IntKind.i64 0) w) w) w) w)) w) (Value.int IntKind.i64 0) w) w) w) w) w) w) w) w) w) w) w))
   (opW Try.prog (Instr.buildSlice 35 3 #[(0, t54_12), (1, t61_16), (2, t87_33)]) (fun t103_165 w =>
   opW Try.prog (Builtin.len_ #[35] 3 #[t103_165]) (fun t104_166 w =>
   Loop1 (fun t105_168 w K_169 =>
   opW Try.prog (binS BinOp.lss 3 (Operand.tmp 105) (Operand.tmp 104) t105_168 t104_166) (fun t106_170 w =>
   condW t106_170
   (opW Try.prog (Instr.indexAt 35 t103_165 t105_168) (fun t107_172 w =>
   opW Try.prog (Instr.loadAt 22 t107_172) (fun t108_173 w =>
   callW Try.prog (Value.func (Fn.func 13) #[] #[]) #[t108_173] (fun t111_174 w =>
   opW Try.prog (Instr.extract t111_174 0) (fun t112_175 w =>
   opW Try.prog (Instr.extract t111_174 1) (fun t113_176 w =>
   callW Try.prog (Value.func (Fn.func 14) #[] #[]) #[t108_173] (fun t116_177 w =>
   opW Try.prog (Instr.extract t116_177 0) (fun t117_178 w =>
   opW Try.prog (Instr.extract t116_177 1) (fun t118_179 w =>
   callW Try.prog (Value.func (Fn.func 15) #[] #[]) #[t108_173] (fun t120_180 w =>
   callW Try.prog (Value.func (Fn.func 16) #[] #[]) #[t108_173] (fun t122_181 w =>
   opW Try.prog (binS BinOp.neq 4 (Operand.tmp 120) (Operand.tmp 122) t120_180 t122_181) (fun t123_182 w =>
   guardW (some t123_182, false) (fun k w => k t113_176 w) (fun t125_183 w =>
   guardW (some t123_182, false) (fun k w => k t118_179 w) (fun t126_184 w =>
   guardW (some t123_182, false) (fun k w => opW Try.prog (binS BinOp.neq 36 (Operand.tmp 125) (Operand.tmp 126) t125_183 t126_184) k w) (fun t127_185 w =>
   pickW t123_182 (Value.bool true) t127_185 (fun t128_186 w =>
   guardW (some t128_186, false) (fun k w => k t112_175 w) (fun t130_187 w =>
   guardW (some t128_186, false) (fun k w => k t117_178 w) (fun t131_188 w =>
   guardW (some t128_186, false) (fun k w => callW Try.prog (Value.func (Fn.func 17) #[] #[]) #[t130_187, t131_188] k w) (fun t132_189 w =>
   guardW (some t128_186, false) (fun k w => opW Try.prog (Op.unary UnOp.not t132_189) k w) (fun t133_190 w =>
   pickW t128_186 (Value.bool true) t133_190 (fun t134_191 w =>
   condW t134_191
   (k (Value.bool false) w)
   (opW Try.prog (Instr.buildSlice 41 3 #[(0, t59_15), (1, t64_17), (2, t67_19)]) (fun t138_192 w =>
   opW Try.prog (Builtin.len_ #[41] 3 #[t138_192]) (fun t139_193 w =>
   Loop1 (fun t140_195 w K_196 =>
   opW Try.prog (binS BinOp.lss 3 (Operand.tmp 140) (Operand.tmp 139) t140_195 t139_193) (fun t141_197 w =>
   condW t141_197
   (opW Try.prog (Instr.indexAt 41 t138_192 t140_195) (fun t142_199 w =>
   opW Try.prog (Instr.loadAt 23 t142_199) (fun t143_200 w =>
   callW Try.prog (Value.func (Fn.func 18) #[] #[]) #[t108_173, t143_200] (fun t147_201 w =>
   opW Try.prog (Instr.extract t147_201 0) (fun t148_202 w =>
   opW Try.prog (Instr.extract t147_201 1) (fun t149_203 w =>
   callW Try.prog (Value.func (Fn.func 19) #[] #[]) #[t108_173, t143_200] (fun t153_204 w =>
   opW Try.prog (Instr.extract t153_204 0) (fun t154_205 w =>
   opW Try.prog (Instr.extract t153_204 1) (fun t155_206 w =>
   callW Try.prog (Value.func (Fn.func 20) #[] #[]) #[t108_173, t143_200] (fun t159_207 w =>
   opW Try.prog (Instr.extract t159_207 0) (fun t160_208 w =>
   opW Try.prog (Instr.extract t159_207 1) (fun t161_209 w =>
   callW Try.prog (Value.func (Fn.func 21) #[] #[]) #[t108_173, t143_200] (fun t165_210 w =>
   opW Try.prog (Instr.extract t165_210 0) (fun t166_211 w =>
   opW Try.prog (Instr.extract t165_210 1) (fun t167_212 w =>
   callW Try.prog (Value.func (Fn.func 22) #[] #[]) #[t108_173, t143_200] (fun t170_213 w =>
   callW Try.prog (Value.func (Fn.func 23) #[] #[]) #[t108_173, t143_200] (fun t173_214 w =>
   opW Try.prog (binS BinOp.neq 4 (Operand.tmp 170) (Operand.tmp 173) t170_213 t173_214) (fun t174_215 w =>
   guardW (some t174_215, false) (fun k w => k t149_203 w) (fun t176_216 w =>
   guardW (some t174_215, false) (fun k w => k t155_206 w) (fun t177_217 w =>
   guardW (some t174_215, false) (fun k w => opW Try.prog (binS BinOp.neq 36 (Operand.tmp 176) (Operand.tmp 177) t176_216 t177_217) k w) (fun t178_218 w =>
   pickW t174_215 (Value.bool true) t178_218 (fun t179_219 w =>
   guardW (some t179_219, false) (fun k w => k t161_209 w) (fun t181_220 w =>
   guardW (some t179_219, false) (fun k w => k t167_212 w) (fun t182_221 w =>
   guardW (some t179_219, false) (fun k w => opW Try.prog (binS BinOp.neq 36 (Operand.tmp 181) (Operand.tmp 182) t181_220 t182_221) k w) (fun t183_222 w =>
   pickW t179_219 (Value.bool true) t183_222 (fun t184_223 w =>
   guardW (some t184_223, false) (fun k w => k t148_202 w) (fun t186_224 w =>
   guardW (some t184_223, false) (fun k w => k t154_205 w) (fun t187_225 w =>
   guardW (some t184_223, false) (fun k w => callW Try.prog (Value.func (Fn.func 17) #[] #[]) #[t186_224, t187_225] k w) (fun t188_226 w =>
   guardW (some t184_223, false) (fun k w => opW Try.prog (Op.unary UnOp.not t188_226) k w) (fun t189_227 w =>
   pickW t184_223 (Value.bool true) t189_227 (fun t190_228 w =>
   guardW (some t190_228, false) (fun k w => k t160_208 w) (fun t192_229 w =>
   guardW (some t190_228, false) (fun k w => k t166_211 w) (fun t193_230 w =>
   guardW (some t190_228, false) (fun k w => callW Try.prog (Value.func (Fn.func 17) #[] #[]) #[t192_229, t193_230] k w) (fun t194_231 w =>
   guardW (some t190_228, false) (fun k w => opW Try.prog (Op.unary UnOp.not t194_231) k w) (fun t195_232 w =>
   pickW t190_228 (Value.bool true) t195_232 (fun t196_233 w =>
   condW t196_233
   (k (Value.bool false) w)
   (opW Try.prog (binS BinOp.add 3 (Operand.tmp 140) (Operand.const (Value.int IntKind.i64 1)) t140_195 (Value.int IntKind.i64 1)) (fun t197_234 w =>
   loopK [] [] [bytes_6, wants_7, t59_15, t64_17, t67_19, t108_173, t103_165, t104_166, t105_168, t138_192, t139_193] [bytes_6, wants_7, t59_15, t64_17, t67_19, t108_173, t103_165, t104_166, t105_168, t138_192, t139_193] (K_196 t197_234 w)) w)) w) w) w) w) w) w) w) w) w) w) w) w) w) w) w) w) w) w) w) w) w) w) w) w) w) w) w) w) w) w) w) w) w) w) w)
   (opW Try.prog (binS BinOp.add 3 (Operand.tmp 105) (Operand.const (Value.int IntKind.i64 1)) t105_168 (Value.int IntKind.i64 1)) (fun t198_235 w =>
   loopK [] [] [bytes_6, wants_7, t59_15, t64_17, t67_19, t103_165, t104_166] [bytes_6, wants_7, t59_15, t64_17, t67_19, t103_165, t104_166] (K_169 t198_235 w)) w)) w) (Value.int IntKind.i64 0) w) w) w)) w) w) w) w) w) w) w) w) w) w) w) w) w) w) w) w) w) w) w) w)
   (opW Try.prog (Builtin.len_ #[26] 3 #[wants_7]) (fun t201_236 w =>
   opW Try.prog (Builtin.min_ #[3, 3] 3 #[t201_236, (Value.int IntKind.i64 9)]) (fun t202_237 w =>
   opW Try.prog (Instr.sliceAt 26 wants_7 none (some t202_237) none) (fun t203_238 w =>
   Loop2 (fun within_240 i_241 w K_242 =>
   opW Try.prog (Builtin.len_ #[26] 3 #[t203_238]) (fun t206_243 w =>
   opW Try.prog (binS BinOp.lss 3 (Operand.tmp 204) (Operand.tmp 206) i_241 t206_243) (fun t207_244 w =>
   guardW (some t207_244, true) (fun k w => k i_241 w) (fun t209_245 w =>
   guardW (some t207_244, true) (fun k w => opW Try.prog (binS BinOp.lss 3 (Operand.tmp 209) (Operand.const (Value.int IntKind.i64 8)) t209_245 (Value.int IntKind.i64 8)) k w) (fun t210_246 w =>
   pickW t207_244 t210_246 (Value.bool false) (fun t211_247 w =>
   condW t211_247
   (opW Try.prog (Instr.indexAt 26 t203_238 i_241) (fun t217_249 w =>
   opW Try.prog (Instr.loadAt 3 t217_249) (fun t218_250 w =>
   callW Try.prog (Value.func (Fn.func 12) #[] #[]) #[t218_250, (Value.int IntKind.i64 2000)] (fun t219_251 w =>
   opW Try.prog (Instr.buildSlice 26 1 #[(0, t219_251)]) (fun t220_252 w =>
   opW Try.prog (Builtin.append_ #[26, 26] 26 #[within_240, t220_252]) (fun t221_253 w =>
   opW Try.prog (binS BinOp.add 3 (Operand.tmp 212) (Operand.const (Value.int IntKind.i64 1)) i_241 (Value.int IntKind.i64 1)) (fun t213_254 w =>
   loopK [] [] [bytes_6, t203_238] [bytes_6, t203_238] (K_242 t221_253 t213_254 w)) w) w) w) w) w) w)
   (opW Try.prog (Instr.buildSlice 44 2 #[(0, t203_238), (1, within_240)]) (fun t224_255 w =>
   opW Try.prog (Builtin.len_ #[44] 3 #[t224_255]) (fun t225_256 w =>
   Loop1 (fun t226_258 w K_259 =>
   opW Try.prog (binS BinOp.lss 3 (Operand.tmp 226) (Operand.tmp 225) t226_258 t225_256) (fun t227_260 w =>
   condW t227_260
   (opW Try.prog (Instr.indexAt 44 t224_255 t226_258) (fun t228_262 w =>
   opW Try.prog (Instr.loadAt 26 t228_262) (fun t229_263 w =>
   callW Try.prog (Value.func (Fn.func 12) #[] #[]) #[bytes_6, (Value.int IntKind.i64 9000)] (fun t232_264 w =>
   opW Try.prog (Instr.buildSlice 26 2 #[(0, bytes_6), (1, t232_264)]) (fun t233_265 w =>
   opW Try.prog (Builtin.len_ #[26] 3 #[t233_265]) (fun t234_266 w =>
   Loop1 (fun t235_268 w K_269 =>
   opW Try.prog (binS BinOp.lss 3 (Operand.tmp 235) (Operand.tmp 234) t235_268 t234_266) (fun t236_270 w =>
   condW t236_270
   (opW Try.prog (Instr.indexAt 26 t233_265 t235_268) (fun t237_272 w =>
   opW Try.prog (Instr.loadAt 3 t237_272) (fun t238_273 w =>
   callW Try.prog (Value.func (Fn.func 24) #[] #[]) #[t238_273, t229_263] (fun t242_274 w =>
   opW Try.prog (Instr.extract t242_274 0) (fun t243_275 w =>
   opW Try.prog (Instr.extract t242_274 1) (fun t244_276 w =>
   callW Try.prog (Value.func (Fn.func 25) #[] #[]) #[t238_273, t229_263] (fun t248_277 w =>
   opW Try.prog (Instr.extract t248_277 0) (fun t249_278 w =>
   opW Try.prog (Instr.extract t248_277 1) (fun t250_279 w =>
   opW Try.prog (binS BinOp.neq 36 (Operand.tmp 251) (Operand.tmp 252) t244_276 t250_279) (fun t253_280 w =>
   guardW (some t253_280, false) (fun k w => k t243_275 w) (fun t255_281 w =>
   guardW (some t253_280, false) (fun k w => k t249_278 w) (fun t256_282 w =>
   guardW (some t253_280, false) (fun k w => callW Try.prog (Value.func (Fn.func 17) #[] #[]) #[t255_281, t256_282] k w) (fun t257_283 w =>
   guardW (some t253_280, false) (fun k w => opW Try.prog (Op.unary UnOp.not t257_283) k w) (fun t258_284 w =>
   pickW t253_280 (Value.bool true) t258_284 (fun t259_285 w =>
   condW t259_285
   (k (Value.bool false) w)
   (opW Try.prog (binS BinOp.add 3 (Operand.tmp 235) (Operand.const (Value.int IntKind.i64 1)) t235_268 (Value.int IntKind.i64 1)) (fun t260_286 w =>
   loopK [] [] [bytes_6, t229_263, t224_255, t225_256, t226_258, t233_265, t234_266] [bytes_6, t229_263, t224_255, t225_256, t226_258, t233_265, t234_266] (K_269 t260_286 w)) w)) w) w) w) w) w) w) w) w) w) w) w) w) w) w)
   (opW Try.prog (binS BinOp.add 3 (Operand.tmp 226) (Operand.const (Value.int IntKind.i64 1)) t226_258 (Value.int IntKind.i64 1)) (fun t261_287 w =>
   loopK [] [] [bytes_6, t224_255, t225_256] [bytes_6, t224_255, t225_256] (K_259 t261_287 w)) w)) w) (Value.int IntKind.i64 0) w) w) w) w) w) w)
   (k (Value.bool true) w)) w) (Value.int IntKind.i64 0) w) w) w)) w) w) w) w) w) (Value.slice none 0 0) (Value.int IntKind.i64 0) w) w) w) w)) w) (Value.int IntKind.i64 0) w) w) w)) w) w) w) w) w) w) w) w) w) w) w) w))
   (opW Try.prog (Instr.buildSlice 22 0 #[]) (fun t85_288 w =>
   opW Try.prog (Builtin.append_ #[22, 22] 22 #[t85_288, t61_16]) (fun t87_289 w =>
   opW Try.prog (Builtin.len_ #[22] 3 #[t54_12]) (fun t89_290 w =>
   opW Try.prog (binS BinOp.gtr 3 (Operand.tmp 89) (Operand.const (Value.int IntKind.i64 0)) t89_290 (Value.int IntKind.i64 0)) (fun t90_291 w =>
   condW t90_291
   (drewW w (fun w =>
   ∃ S : World → Prop, S w ∧
   takeW Try.prog anyW (Builtin.len_ #[22] 3 #[t87_289]) (fun t94_293 =>
   takeW Try.prog anyW (Instr.indexAt 22 t54_12 (Value.int IntKind.i64 0)) (fun t97_294 =>
   takeW Try.prog S (Instr.loadAt 34 t97_294) (fun t98_295 =>
   callW Try.prog (Value.func (Fn.func 12) #[] #[]) #[at_5, t94_293] (fun t95_296 w => keepS S (fun w =>
   takeW Try.prog anyW (Instr.indexAt 22 t87_289 t95_296) (fun t99_297 =>
   opU Try.prog (Instr.storeAt 34 t99_297 t98_295) (fun _ w => keepS S (fun w =>
   opW Try.prog (Instr.buildSlice 35 3 #[(0, t54_12), (1, t61_16), (2, t87_289)]) (fun t103_298 w =>
   opW Try.prog (Builtin.len_ #[35] 3 #[t103_298]) (fun t104_299 w =>
   Loop1 (fun t105_301 w K_302 =>
   opW Try.prog (binS BinOp.lss 3 (Operand.tmp 105) (Operand.tmp 104) t105_301 t104_299) (fun t106_303 w =>
   condW t106_303
   (opW Try.prog (Instr.indexAt 35 t103_298 t105_301) (fun t107_305 w =>
   opW Try.prog (Instr.loadAt 22 t107_305) (fun t108_306 w =>
   callW Try.prog (Value.func (Fn.func 13) #[] #[]) #[t108_306] (fun t111_307 w =>
   opW Try.prog (Instr.extract t111_307 0) (fun t112_308 w =>
   opW Try.prog (Instr.extract t111_307 1) (fun t113_309 w =>
   callW Try.prog (Value.func (Fn.func 14) #[] #[]) #[t108_306] (fun t116_310 w =>
   opW Try.prog (Instr.extract t116_310 0) (fun t117_311 w =>
   opW Try.prog (Instr.extract t116_310 1) (fun t118_312 w =>
   callW Try.prog (Value.func (Fn.func 15) #[] #[]) #[t108_306] (fun t120_313 w =>
   callW Try.prog (Value.func (Fn.func 16) #[] #[]) #[t108_306] (fun t122_314 w =>
   opW Try.prog (binS BinOp.neq 4 (Operand.tmp 120) (Operand.tmp 122) t120_313 t122_314) (fun t123_315 w =>
   guardW (some t123_315, false) (fun k w => k t113_309 w) (fun t125_316 w =>
   guardW (some t123_315, false) (fun k w => k t118_312 w) (fun t126_317 w =>
   guardW (some t123_315, false) (fun k w => opW Try.prog (binS BinOp.neq 36 (Operand.tmp 125) (Operand.tmp 126) t125_316 t126_317) k w) (fun t127_318 w =>
   pickW t123_315 (Value.bool true) t127_318 (fun t128_319 w =>
   guardW (some t128_319, false) (fun k w => k t112_308 w) (fun t130_320 w =>
   guardW (some t128_319, false) (fun k w => k t117_311 w) (fun t131_321 w =>
   guardW (some t128_319, false) (fun k w => callW Try.prog (Value.func (Fn.func 17) #[] #[]) #[t130_320, t131_321] k w) (fun t132_322 w =>
   guardW (some t128_319, false) (fun k w => opW Try.prog (Op.unary UnOp.not t132_322) k w) (fun t133_323 w =>
   pickW t128_319 (Value.bool true) t133_323 (fun t134_324 w =>
   condW t134_324
   (k (Value.bool false) w)
   (opW Try.prog (Instr.buildSlice 41 3 #[(0, t59_15), (1, t64_17), (2, t67_19)]) (fun t138_325 w =>
   opW Try.prog (Builtin.len_ #[41] 3 #[t138_325]) (fun t139_326 w =>
   Loop1 (fun t140_328 w K_329 =>
   opW Try.prog (binS BinOp.lss 3 (Operand.tmp 140) (Operand.tmp 139) t140_328 t139_326) (fun t141_330 w =>
   condW t141_330
   (opW Try.prog (Instr.indexAt 41 t138_325 t140_328) (fun t142_332 w =>
   opW Try.prog (Instr.loadAt 23 t142_332) (fun t143_333 w =>
   callW Try.prog (Value.func (Fn.func 18) #[] #[]) #[t108_306, t143_333] (fun t147_334 w =>
   opW Try.prog (Instr.extract t147_334 0) (fun t148_335 w =>
   opW Try.prog (Instr.extract t147_334 1) (fun t149_336 w =>
   callW Try.prog (Value.func (Fn.func 19) #[] #[]) #[t108_306, t143_333] (fun t153_337 w =>
   opW Try.prog (Instr.extract t153_337 0) (fun t154_338 w =>
   opW Try.prog (Instr.extract t153_337 1) (fun t155_339 w =>
   callW Try.prog (Value.func (Fn.func 20) #[] #[]) #[t108_306, t143_333] (fun t159_340 w =>
   opW Try.prog (Instr.extract t159_340 0) (fun t160_341 w =>
   opW Try.prog (Instr.extract t159_340 1) (fun t161_342 w =>
   callW Try.prog (Value.func (Fn.func 21) #[] #[]) #[t108_306, t143_333] (fun t165_343 w =>
   opW Try.prog (Instr.extract t165_343 0) (fun t166_344 w =>
   opW Try.prog (Instr.extract t165_343 1) (fun t167_345 w =>
   callW Try.prog (Value.func (Fn.func 22) #[] #[]) #[t108_306, t143_333] (fun t170_346 w =>
   callW Try.prog (Value.func (Fn.func 23) #[] #[]) #[t108_306, t143_333] (fun t173_347 w =>
   opW Try.prog (binS BinOp.neq 4 (Operand.tmp 170) (Operand.tmp 173) t170_346 t173_347) (fun t174_348 w =>
   guardW (some t174_348, false) (fun k w => k t149_336 w) (fun t176_349 w =>
   guardW (some t174_348, false) (fun k w => k t155_339 w) (fun t177_350 w =>
   guardW (some t174_348, false) (fun k w => opW Try.prog (binS BinOp.neq 36 (Operand.tmp 176) (Operand.tmp 177) t176_349 t177_350) k w) (fun t178_351 w =>
   pickW t174_348 (Value.bool true) t178_351 (fun t179_352 w =>
   guardW (some t179_352, false) (fun k w => k t161_342 w) (fun t181_353 w =>
   guardW (some t179_352, false) (fun k w => k t167_345 w) (fun t182_354 w =>
   guardW (some t179_352, false) (fun k w => opW Try.prog (binS BinOp.neq 36 (Operand.tmp 181) (Operand.tmp 182) t181_353 t182_354) k w) (fun t183_355 w =>
   pickW t179_352 (Value.bool true) t183_355 (fun t184_356 w =>
   guardW (some t184_356, false) (fun k w => k t148_335 w) (fun t186_357 w =>
   guardW (some t184_356, false) (fun k w => k t154_338 w) (fun t187_358 w =>
   guardW (some t184_356, false) (fun k w => callW Try.prog (Value.func (Fn.func 17) #[] #[]) #[t186_357, t187_358] k w) (fun t188_359 w =>
   guardW (some t184_356, false) (fun k w => opW Try.prog (Op.unary UnOp.not t188_359) k w) (fun t189_360 w =>
   pickW t184_356 (Value.bool true) t189_360 (fun t190_361 w =>
   guardW (some t190_361, false) (fun k w => k t160_341 w) (fun t192_362 w =>
   guardW (some t190_361, false) (fun k w => k t166_344 w) (fun t193_363 w =>
   guardW (some t190_361, false) (fun k w => callW Try.prog (Value.func (Fn.func 17) #[] #[]) #[t192_362, t193_363] k w) (fun t194_364 w =>
   guardW (some t190_361, false) (fun k w => opW Try.prog (Op.unary UnOp.not t194_364) k w) (fun t195_365 w =>
   pickW t190_361 (Value.bool true) t195_365 (fun t196_366 w =>
   condW t196_366
   (k (Value.bool false) w)
   (opW Try.prog (binS BinOp.add 3 (Operand.tmp 140) (Operand.const (Value.int IntKind.i64 1)) t140_328 (Value.int IntKind.i64 1)) (fun t197_367 w =>
   loopK [] [] [bytes_6, wants_7, t59_15, t64_17, t67_19, t108_306, t103_298, t104_299, t105_301, t138_325, t139_326] [bytes_6, wants_7, t59_15, t64_17, t67_19, t108_306, t103_298, t104_299, t105_301, t138_325, t139_326] (K_329 t197_367 w)) w)) w) w) w) w) w) w) w) w) w) w) w) w) w) w) w) w) w) w) w) w) w) w) w) w) w) w) w) w) w) w) w) w) w) w) w)
   (opW Try.prog (binS BinOp.add 3 (Operand.tmp 105) (Operand.const (Value.int IntKind.i64 1)) t105_301 (Value.int IntKind.i64 1)) (fun t198_368 w =>
   loopK [] [] [bytes_6, wants_7, t59_15, t64_17, t67_19, t103_298, t104_299] [bytes_6, wants_7, t59_15, t64_17, t67_19, t103_298, t104_299] (K_302 t198_368 w)) w)) w) (Value.int IntKind.i64 0) w) w) w)) w) w) w) w) w) w) w) w) w) w) w) w) w) w) w) w) w) w) w) w)
   (opW Try.prog (Builtin.len_ #[26] 3 #[wants_7]) (fun t201_369 w =>
   opW Try.prog (Builtin.min_ #[3, 3] 3 #[t201_369, (Value.int IntKind.i64 9)]) (fun t202_370 w =>
   opW Try.prog (Instr.sliceAt 26 wants_7 none (some t202_370) none) (fun t203_371 w =>
   Loop2 (fun within_373 i_374 w K_375 =>
   opW Try.prog (Builtin.len_ #[26] 3 #[t203_371]) (fun t206_376 w =>
   opW Try.prog (binS BinOp.lss 3 (Operand.tmp 204) (Operand.tmp 206) i_374 t206_376) (fun t207_377 w =>
   guardW (some t207_377, true) (fun k w => k i_374 w) (fun t209_378 w =>
   guardW (some t207_377, true) (fun k w => opW Try.prog (binS BinOp.lss 3 (Operand.tmp 209) (Operand.const (Value.int IntKind.i64 8)) t209_378 (Value.int IntKind.i64 8)) k w) (fun t210_379 w =>
   pickW t207_377 t210_379 (Value.bool false) (fun t211_380 w =>
   condW t211_380
   (opW Try.prog (Instr.indexAt 26 t203_371 i_374) (fun t217_382 w =>
   opW Try.prog (Instr.loadAt 3 t217_382) (fun t218_383 w =>
   callW Try.prog (Value.func (Fn.func 12) #[] #[]) #[t218_383, (Value.int IntKind.i64 2000)] (fun t219_384 w =>
   opW Try.prog (Instr.buildSlice 26 1 #[(0, t219_384)]) (fun t220_385 w =>
   opW Try.prog (Builtin.append_ #[26, 26] 26 #[within_373, t220_385]) (fun t221_386 w =>
   opW Try.prog (binS BinOp.add 3 (Operand.tmp 212) (Operand.const (Value.int IntKind.i64 1)) i_374 (Value.int IntKind.i64 1)) (fun t213_387 w =>
   loopK [] [] [bytes_6, t203_371] [bytes_6, t203_371] (K_375 t221_386 t213_387 w)) w) w) w) w) w) w)
   (opW Try.prog (Instr.buildSlice 44 2 #[(0, t203_371), (1, within_373)]) (fun t224_388 w =>
   opW Try.prog (Builtin.len_ #[44] 3 #[t224_388]) (fun t225_389 w =>
   Loop1 (fun t226_391 w K_392 =>
   opW Try.prog (binS BinOp.lss 3 (Operand.tmp 226) (Operand.tmp 225) t226_391 t225_389) (fun t227_393 w =>
   condW t227_393
   (opW Try.prog (Instr.indexAt 44 t224_388 t226_391) (fun t228_395 w =>
   opW Try.prog (Instr.loadAt 26 t228_395) (fun t229_396 w =>
   callW Try.prog (Value.func (Fn.func 12) #[] #[]) #[bytes_6, (Value.int IntKind.i64 9000)] (fun t232_397 w =>
   opW Try.prog (Instr.buildSlice 26 2 #[(0, bytes_6), (1, t232_397)]) (fun t233_398 w =>
   opW Try.prog (Builtin.len_ #[26] 3 #[t233_398]) (fun t234_399 w =>
   Loop1 (fun t235_401 w K_402 =>
   opW Try.prog (binS BinOp.lss 3 (Operand.tmp 235) (Operand.tmp 234) t235_401 t234_399) (fun t236_403 w =>
   condW t236_403
   (opW Try.prog (Instr.indexAt 26 t233_398 t235_401) (fun t237_405 w =>
   opW Try.prog (Instr.loadAt 3 t237_405) (fun t238_406 w =>
   callW Try.prog (Value.func (Fn.func 24) #[] #[]) #[t238_406, t229_396] (fun t242_407 w =>
   opW Try.prog (Instr.extract t242_407 0) (fun t243_408 w =>
   opW Try.prog (Instr.extract t242_407 1) (fun t244_409 w =>
   callW Try.prog (Value.func (Fn.func 25) #[] #[]) #[t238_406, t229_396] (fun t248_410 w =>
   opW Try.prog (Instr.extract t248_410 0) (fun t249_411 w =>
   opW Try.prog (Instr.extract t248_410 1) (fun t250_412 w =>
   opW Try.prog (binS BinOp.neq 36 (Operand.tmp 251) (Operand.tmp 252) t244_409 t250_412) (fun t253_413 w =>
   guardW (some t253_413, false) (fun k w => k t243_408 w) (fun t255_414 w =>
   guardW (some t253_413, false) (fun k w => k t249_411 w) (fun t256_415 w =>
   guardW (some t253_413, false) (fun k w => callW Try.prog (Value.func (Fn.func 17) #[] #[]) #[t255_414, t256_415] k w) (fun t257_416 w =>
   guardW (some t253_413, false) (fun k w => opW Try.prog (Op.unary UnOp.not t257_416) k w) (fun t258_417 w =>
   pickW t253_413 (Value.bool true) t258_417 (fun t259_418 w =>
   condW t259_418
   (k (Value.bool false) w)
   (opW Try.prog (binS BinOp.add 3 (Operand.tmp 235) (Operand.const (Value.int IntKind.i64 1)) t235_401 (Value.int IntKind.i64 1)) (fun t260_419 w =>
   loopK [] [] [bytes_6, t229_396, t224_388, t225_389, t226_391, t233_398, t234_399] [bytes_6, t229_396, t224_388, t225_389, t226_391, t233_398, t234_399] (K_402 t260_419 w)) w)) w) w) w) w) w) w) w) w) w) w) w) w) w) w)
   (opW Try.prog (binS BinOp.add 3 (Operand.tmp 226) (Operand.const (Value.int IntKind.i64 1)) t226_391 (Value.int IntKind.i64 1)) (fun t261_420 w =>
   loopK [] [] [bytes_6, t224_388, t225_389] [bytes_6, t224_388, t225_389] (K_392 t261_420 w)) w)) w) (Value.int IntKind.i64 0) w) w) w) w) w) w)
   (k (Value.bool true) w)) w) (Value.int IntKind.i64 0) w) w) w)) w) w) w) w) w) (Value.slice none 0 0) (Value.int IntKind.i64 0) w) w) w) w)) w) (Value.int IntKind.i64 0) w) w) w) w) w) w) w) w) w) w) w))
   (opW Try.prog (Instr.buildSlice 35 3 #[(0, t54_12), (1, t61_16), (2, t87_289)]) (fun t103_421 w =>
   opW Try.prog (Builtin.len_ #[35] 3 #[t103_421]) (fun t104_422 w =>
   Loop1 (fun t105_424 w K_425 =>
   opW Try.prog (binS BinOp.lss 3 (Operand.tmp 105) (Operand.tmp 104) t105_424 t104_422) (fun t106_426 w =>
   condW t106_426
   (opW Try.prog (Instr.indexAt 35 t103_421 t105_424) (fun t107_428 w =>
   opW Try.prog (Instr.loadAt 22 t107_428) (fun t108_429 w =>
   callW Try.prog (Value.func (Fn.func 13) #[] #[]) #[t108_429] (fun t111_430 w =>
   opW Try.prog (Instr.extract t111_430 0) (fun t112_431 w =>
   opW Try.prog (Instr.extract t111_430 1) (fun t113_432 w =>
   callW Try.prog (Value.func (Fn.func 14) #[] #[]) #[t108_429] (fun t116_433 w =>
   opW Try.prog (Instr.extract t116_433 0) (fun t117_434 w =>
   opW Try.prog (Instr.extract t116_433 1) (fun t118_435 w =>
   callW Try.prog (Value.func (Fn.func 15) #[] #[]) #[t108_429] (fun t120_436 w =>
   callW Try.prog (Value.func (Fn.func 16) #[] #[]) #[t108_429] (fun t122_437 w =>
   opW Try.prog (binS BinOp.neq 4 (Operand.tmp 120) (Operand.tmp 122) t120_436 t122_437) (fun t123_438 w =>
   guardW (some t123_438, false) (fun k w => k t113_432 w) (fun t125_439 w =>
   guardW (some t123_438, false) (fun k w => k t118_435 w) (fun t126_440 w =>
   guardW (some t123_438, false) (fun k w => opW Try.prog (binS BinOp.neq 36 (Operand.tmp 125) (Operand.tmp 126) t125_439 t126_440) k w) (fun t127_441 w =>
   pickW t123_438 (Value.bool true) t127_441 (fun t128_442 w =>
   guardW (some t128_442, false) (fun k w => k t112_431 w) (fun t130_443 w =>
   guardW (some t128_442, false) (fun k w => k t117_434 w) (fun t131_444 w =>
   guardW (some t128_442, false) (fun k w => callW Try.prog (Value.func (Fn.func 17) #[] #[]) #[t130_443, t131_444] k w) (fun t132_445 w =>
   guardW (some t128_442, false) (fun k w => opW Try.prog (Op.unary UnOp.not t132_445) k w) (fun t133_446 w =>
   pickW t128_442 (Value.bool true) t133_446 (fun t134_447 w =>
   condW t134_447
   (k (Value.bool false) w)
   (opW Try.prog (Instr.buildSlice 41 3 #[(0, t59_15), (1, t64_17), (2, t67_19)]) (fun t138_448 w =>
   opW Try.prog (Builtin.len_ #[41] 3 #[t138_448]) (fun t139_449 w =>
   Loop1 (fun t140_451 w K_452 =>
   opW Try.prog (binS BinOp.lss 3 (Operand.tmp 140) (Operand.tmp 139) t140_451 t139_449) (fun t141_453 w =>
   condW t141_453
   (opW Try.prog (Instr.indexAt 41 t138_448 t140_451) (fun t142_455 w =>
   opW Try.prog (Instr.loadAt 23 t142_455) (fun t143_456 w =>
   callW Try.prog (Value.func (Fn.func 18) #[] #[]) #[t108_429, t143_456] (fun t147_457 w =>
   opW Try.prog (Instr.extract t147_457 0) (fun t148_458 w =>
   opW Try.prog (Instr.extract t147_457 1) (fun t149_459 w =>
   callW Try.prog (Value.func (Fn.func 19) #[] #[]) #[t108_429, t143_456] (fun t153_460 w =>
   opW Try.prog (Instr.extract t153_460 0) (fun t154_461 w =>
   opW Try.prog (Instr.extract t153_460 1) (fun t155_462 w =>
   callW Try.prog (Value.func (Fn.func 20) #[] #[]) #[t108_429, t143_456] (fun t159_463 w =>
   opW Try.prog (Instr.extract t159_463 0) (fun t160_464 w =>
   opW Try.prog (Instr.extract t159_463 1) (fun t161_465 w =>
   callW Try.prog (Value.func (Fn.func 21) #[] #[]) #[t108_429, t143_456] (fun t165_466 w =>
   opW Try.prog (Instr.extract t165_466 0) (fun t166_467 w =>
   opW Try.prog (Instr.extract t165_466 1) (fun t167_468 w =>
   callW Try.prog (Value.func (Fn.func 22) #[] #[]) #[t108_429, t143_456] (fun t170_469 w =>
   callW Try.prog (Value.func (Fn.func 23) #[] #[]) #[t108_429, t143_456] (fun t173_470 w =>
   opW Try.prog (binS BinOp.neq 4 (Operand.tmp 170) (Operand.tmp 173) t170_469 t173_470) (fun t174_471 w =>
   guardW (some t174_471, false) (fun k w => k t149_459 w) (fun t176_472 w =>
   guardW (some t174_471, false) (fun k w => k t155_462 w) (fun t177_473 w =>
   guardW (some t174_471, false) (fun k w => opW Try.prog (binS BinOp.neq 36 (Operand.tmp 176) (Operand.tmp 177) t176_472 t177_473) k w) (fun t178_474 w =>
   pickW t174_471 (Value.bool true) t178_474 (fun t179_475 w =>
   guardW (some t179_475, false) (fun k w => k t161_465 w) (fun t181_476 w =>
   guardW (some t179_475, false) (fun k w => k t167_468 w) (fun t182_477 w =>
   guardW (some t179_475, false) (fun k w => opW Try.prog (binS BinOp.neq 36 (Operand.tmp 181) (Operand.tmp 182) t181_476 t182_477) k w) (fun t183_478 w =>
   pickW t179_475 (Value.bool true) t183_478 (fun t184_479 w =>
   guardW (some t184_479, false) (fun k w => k t148_458 w) (fun t186_480 w =>
   guardW (some t184_479, false) (fun k w => k t154_461 w) (fun t187_481 w =>
   guardW (some t184_479, false) (fun k w => callW Try.prog (Value.func (Fn.func 17) #[] #[]) #[t186_480, t187_481] k w) (fun t188_482 w =>
   guardW (some t184_479, false) (fun k w => opW Try.prog (Op.unary UnOp.not t188_482) k w) (fun t189_483 w =>
   pickW t184_479 (Value.bool true) t189_483 (fun t190_484 w =>
   guardW (some t190_484, false) (fun k w => k t160_464 w) (fun t192_485 w =>
   guardW (some t190_484, false) (fun k w => k t166_467 w) (fun t193_486 w =>
   guardW (some t190_484, false) (fun k w => callW Try.prog (Value.func (Fn.func 17) #[] #[]) #[t192_485, t193_486] k w) (fun t194_487 w =>
   guardW (some t190_484, false) (fun k w => opW Try.prog (Op.unary UnOp.not t194_487) k w) (fun t195_488 w =>
   pickW t190_484 (Value.bool true) t195_488 (fun t196_489 w =>
   condW t196_489
   (k (Value.bool false) w)
   (opW Try.prog (binS BinOp.add 3 (Operand.tmp 140) (Operand.const (Value.int IntKind.i64 1)) t140_451 (Value.int IntKind.i64 1)) (fun t197_490 w =>
   loopK [] [] [bytes_6, wants_7, t59_15, t64_17, t67_19, t108_429, t103_421, t104_422, t105_424, t138_448, t139_449] [bytes_6, wants_7, t59_15, t64_17, t67_19, t108_429, t103_421, t104_422, t105_424, t138_448, t139_449] (K_452 t197_490 w)) w)) w) w) w) w) w) w) w) w) w) w) w) w) w) w) w) w) w) w) w) w) w) w) w) w) w) w) w) w) w) w) w) w) w) w) w)
   (opW Try.prog (binS BinOp.add 3 (Operand.tmp 105) (Operand.const (Value.int IntKind.i64 1)) t105_424 (Value.int IntKind.i64 1)) (fun t198_491 w =>
   loopK [] [] [bytes_6, wants_7, t59_15, t64_17, t67_19, t103_421, t104_422] [bytes_6, wants_7, t59_15, t64_17, t67_19, t103_421, t104_422] (K_425 t198_491 w)) w)) w) (Value.int IntKind.i64 0) w) w) w)) w) w) w) w) w) w) w) w) w) w) w) w) w) w) w) w) w) w) w) w)
   (opW Try.prog (Builtin.len_ #[26] 3 #[wants_7]) (fun t201_492 w =>
   opW Try.prog (Builtin.min_ #[3, 3] 3 #[t201_492, (Value.int IntKind.i64 9)]) (fun t202_493 w =>
   opW Try.prog (Instr.sliceAt 26 wants_7 none (some t202_493) none) (fun t203_494 w =>
   Loop2 (fun within_496 i_497 w K_498 =>
   opW Try.prog (Builtin.len_ #[26] 3 #[t203_494]) (fun t206_499 w =>
   opW Try.prog (binS BinOp.lss 3 (Operand.tmp 204) (Operand.tmp 206) i_497 t206_499) (fun t207_500 w =>
   guardW (some t207_500, true) (fun k w => k i_497 w) (fun t209_501 w =>
   guardW (some t207_500, true) (fun k w => opW Try.prog (binS BinOp.lss 3 (Operand.tmp 209) (Operand.const (Value.int IntKind.i64 8)) t209_501 (Value.int IntKind.i64 8)) k w) (fun t210_502 w =>
   pickW t207_500 t210_502 (Value.bool false) (fun t211_503 w =>
   condW t211_503
   (opW Try.prog (Instr.indexAt 26 t203_494 i_497) (fun t217_505 w =>
   opW Try.prog (Instr.loadAt 3 t217_505) (fun t218_506 w =>
   callW Try.prog (Value.func (Fn.func 12) #[] #[]) #[t218_506, (Value.int IntKind.i64 2000)] (fun t219_507 w =>
   opW Try.prog (Instr.buildSlice 26 1 #[(0, t219_507)]) (fun t220_508 w =>
   opW Try.prog (Builtin.append_ #[26, 26] 26 #[within_496, t220_508]) (fun t221_509 w =>
   opW Try.prog (binS BinOp.add 3 (Operand.tmp 212) (Operand.const (Value.int IntKind.i64 1)) i_497 (Value.int IntKind.i64 1)) (fun t213_510 w =>
   loopK [] [] [bytes_6, t203_494] [bytes_6, t203_494] (K_498 t221_509 t213_510 w)) w) w) w) w) w) w)
   (opW Try.prog (Instr.buildSlice 44 2 #[(0, t203_494), (1, within_496)]) (fun t224_511 w =>
   opW Try.prog (Builtin.len_ #[44] 3 #[t224_511]) (fun t225_512 w =>
   Loop1 (fun t226_514 w K_515 =>
   opW Try.prog (binS BinOp.lss 3 (Operand.tmp 226) (Operand.tmp 225) t226_514 t225_512) (fun t227_516 w =>
   condW t227_516
   (opW Try.prog (Instr.indexAt 44 t224_511 t226_514) (fun t228_518 w =>
   opW Try.prog (Instr.loadAt 26 t228_518) (fun t229_519 w =>
   callW Try.prog (Value.func (Fn.func 12) #[] #[]) #[bytes_6, (Value.int IntKind.i64 9000)] (fun t232_520 w =>
   opW Try.prog (Instr.buildSlice 26 2 #[(0, bytes_6), (1, t232_520)]) (fun t233_521 w =>
   opW Try.prog (Builtin.len_ #[26] 3 #[t233_521]) (fun t234_522 w =>
   Loop1 (fun t235_524 w K_525 =>
   opW Try.prog (binS BinOp.lss 3 (Operand.tmp 235) (Operand.tmp 234) t235_524 t234_522) (fun t236_526 w =>
   condW t236_526
   (opW Try.prog (Instr.indexAt 26 t233_521 t235_524) (fun t237_528 w =>
   opW Try.prog (Instr.loadAt 3 t237_528) (fun t238_529 w =>
   callW Try.prog (Value.func (Fn.func 24) #[] #[]) #[t238_529, t229_519] (fun t242_530 w =>
   opW Try.prog (Instr.extract t242_530 0) (fun t243_531 w =>
   opW Try.prog (Instr.extract t242_530 1) (fun t244_532 w =>
   callW Try.prog (Value.func (Fn.func 25) #[] #[]) #[t238_529, t229_519] (fun t248_533 w =>
   opW Try.prog (Instr.extract t248_533 0) (fun t249_534 w =>
   opW Try.prog (Instr.extract t248_533 1) (fun t250_535 w =>
   opW Try.prog (binS BinOp.neq 36 (Operand.tmp 251) (Operand.tmp 252) t244_532 t250_535) (fun t253_536 w =>
   guardW (some t253_536, false) (fun k w => k t243_531 w) (fun t255_537 w =>
   guardW (some t253_536, false) (fun k w => k t249_534 w) (fun t256_538 w =>
   guardW (some t253_536, false) (fun k w => callW Try.prog (Value.func (Fn.func 17) #[] #[]) #[t255_537, t256_538] k w) (fun t257_539 w =>
   guardW (some t253_536, false) (fun k w => opW Try.prog (Op.unary UnOp.not t257_539) k w) (fun t258_540 w =>
   pickW t253_536 (Value.bool true) t258_540 (fun t259_541 w =>
   condW t259_541
   (k (Value.bool false) w)
   (opW Try.prog (binS BinOp.add 3 (Operand.tmp 235) (Operand.const (Value.int IntKind.i64 1)) t235_524 (Value.int IntKind.i64 1)) (fun t260_542 w =>
   loopK [] [] [bytes_6, t229_519, t224_511, t225_512, t226_514, t233_521, t234_522] [bytes_6, t229_519, t224_511, t225_512, t226_514, t233_521, t234_522] (K_525 t260_542 w)) w)) w) w) w) w) w) w) w) w) w) w) w) w) w) w)
   (opW Try.prog (binS BinOp.add 3 (Operand.tmp 226) (Operand.const (Value.int IntKind.i64 1)) t226_514 (Value.int IntKind.i64 1)) (fun t261_543 w =>
   loopK [] [] [bytes_6, t224_511, t225_512] [bytes_6, t224_511, t225_512] (K_515 t261_543 w)) w)) w) (Value.int IntKind.i64 0) w) w) w) w) w) w)
   (k (Value.bool true) w)) w) (Value.int IntKind.i64 0) w) w) w)) w) w) w) w) w) (Value.slice none 0 0) (Value.int IntKind.i64 0) w) w) w) w)) w) (Value.int IntKind.i64 0) w) w) w)) w) w) w) w)) w) w) w) w) w) w) w) w) w) w) w) w) w) w) w) w)) w) w
theorem S3_vc (raw_1 odd_2 x_3 y_4 at_5 bytes_6 wants_7 : Value) (k : Value → World → Prop) (w : World) : vc Try.prog Try.f3.ntmps ann3 none ((Try.f3.body).getD Code.skip) 1 (params 0 [raw_1, odd_2, x_3, y_4, at_5, bytes_6, wants_7]) [] (finQ Try.prog Try.f3.results.toList k) w = S3 raw_1 odd_2 x_3 y_4 at_5 bytes_6 wants_7 k w := by kernel_rfl
theorem S3_calls (raw_1 odd_2 x_3 y_4 at_5 bytes_6 wants_7 : Value) (k : Value → World → Prop) (w : World) (h : S3 raw_1 odd_2 x_3 y_4 at_5 bytes_6 wants_7 k w) : Calls Try.prog 3 #[raw_1, odd_2, x_3, y_4, at_5, bytes_6, wants_7] w (retP k) :=
  calls_of_vc (fn := Try.f3) (c := (Try.f3.body).getD Code.skip) ann3 Try.func3 (by kernel_rfl) [raw_1, odd_2, x_3, y_4, at_5, bytes_6, wants_7] w k (by kernel_rfl) ((S3_vc raw_1 odd_2 x_3 y_4 at_5 bytes_6 wants_7 k w).symm ▸ h)
theorem C3 (raw_1 odd_2 x_3 y_4 at_5 bytes_6 wants_7 : Value) (k : Value → World → Prop) (w : World) (h : S3 raw_1 odd_2 x_3 y_4 at_5 bytes_6 wants_7 k w) : callW Try.prog (.func (.func 3) #[] #[]) #[raw_1, odd_2, x_3, y_4, at_5, bytes_6, wants_7] k w :=
  callW_calls ok3 (by simpa using S3_calls raw_1 odd_2 x_3 y_4 at_5 bytes_6 wants_7 k w h)

/-! newswire/newswirelaw24.SchedLatest -/
def ann4 : Ann := [(1021, Note.keep []), (2042, Note.loop [11] [5, 6, 7, 9]), (16338, Note.keep [5, 6, 7, 9, 11]), (130706, Note.plan (Plan.takeP 0 (Plan.takeP 1 (Plan.takeP 2 (Plan.takeX 3 (Plan.takeP 4 (Plan.takeP 5 (Plan.takeP 6 (Plan.takeP 7 (Plan.takeX 8 (Plan.takeP 9 (Plan.takeP 10 (Plan.takeP 11 (Plan.takeP 12 (Plan.takeP 13 (Plan.takeX 14 (Plan.takeP 15 (Plan.takeP 16 (Plan.takeX 17 (Plan.takeP 18 (Plan.takeP 19 (Plan.takeP 20 (Plan.takeP 21 (Plan.takeP 22 (Plan.takeP 23 (Plan.takeP 24 (Plan.takeP 25 (Plan.takeP 26 (Plan.takeX 27 (Plan.takeP 28 (Plan.takeP 29 (Plan.takeP 30 (Plan.takeP 31 (Plan.takeX 32 (Plan.takeP 33 (Plan.takeP 34 (Plan.takeP 35 (Plan.takeP 36 (Plan.takeP 37 Plan.done)))))))))))))))))))))))))))))))))))))))]
def S4 (x_1 y_2 : Value) (k : Value → World → Prop) (w : World) : Prop :=
   callW Try.prog (Value.func (Fn.func 9) #[] #[]) #[] (fun t13_3 w =>
   opW Try.prog (Op.unary UnOp.not t13_3) (fun t14_4 w =>
   condW t14_4
   (k (Value.bool false) w)
   (callW Try.prog (Value.func (Fn.func 10) #[] #[]) #[x_1] (fun t16_5 w =>
   callW Try.prog (Value.func (Fn.func 11) #[] #[]) #[t16_5, y_2] (fun t19_6 w =>
   callW Try.prog (Value.func (Fn.func 13) #[] #[]) #[t16_5] (fun t22_7 w =>
   opW Try.prog (Instr.extract t22_7 0) (fun t23_8 w =>
   opW Try.prog (Instr.extract t22_7 1) (fun t24_9 w =>
   callW Try.prog (Value.func (Fn.func 20) #[] #[]) #[t16_5, t19_6] (fun t28_10 w =>
   opW Try.prog (Instr.extract t28_10 0) (fun t29_11 w =>
   opW Try.prog (Instr.extract t28_10 1) (fun t30_12 w =>
   opW Try.prog (binS BinOp.neq 36 (Operand.tmp 31) (Operand.const (Value.int IntKind.i64 0)) t24_9 (Value.int IntKind.i64 0)) (fun t32_13 w =>
   guardW (some t32_13, false) (fun k w => k t30_12 w) (fun t34_14 w =>
   guardW (some t32_13, false) (fun k w => opW Try.prog (binS BinOp.neq 36 (Operand.tmp 34) (Operand.const (Value.int IntKind.i64 0)) t34_14 (Value.int IntKind.i64 0)) k w) (fun t35_15 w =>
   pickW t32_13 (Value.bool true) t35_15 (fun t36_16 w =>
   guardW (some t36_16, false) (fun k w => k t23_8 w) (fun t38_17 w =>
   guardW (some t36_16, false) (fun k w => opW Try.prog (Builtin.len_ #[26] 3 #[t38_17]) k w) (fun t39_18 w =>
   guardW (some t36_16, false) (fun k w => k t16_5 w) (fun t40_19 w =>
   guardW (some t36_16, false) (fun k w => opW Try.prog (Builtin.len_ #[22] 3 #[t40_19]) k w) (fun t41_20 w =>
   guardW (some t36_16, false) (fun k w => opW Try.prog (binS BinOp.neq 3 (Operand.tmp 39) (Operand.tmp 41) t39_18 t41_20) k w) (fun t42_21 w =>
   pickW t36_16 (Value.bool true) t42_21 (fun t43_22 w =>
   guardW (some t43_22, false) (fun k w => k t29_11 w) (fun t45_23 w =>
   guardW (some t43_22, false) (fun k w => opW Try.prog (Builtin.len_ #[26] 3 #[t45_23]) k w) (fun t46_24 w =>
   guardW (some t43_22, false) (fun k w => k t19_6 w) (fun t47_25 w =>
   guardW (some t43_22, false) (fun k w => opW Try.prog (Builtin.len_ #[23] 3 #[t47_25]) k w) (fun t48_26 w =>
   guardW (some t43_22, false) (fun k w => opW Try.prog (binS BinOp.neq 3 (Operand.tmp 46) (Operand.tmp 48) t46_24 t48_26) k w) (fun t49_27 w =>
   pickW t43_22 (Value.bool true) t49_27 (fun t50_28 w =>
   condW t50_28
   (k (Value.bool false) w)
   (Loop1 (fun i_30 w K_31 =>
   opW Try.prog (Builtin.len_ #[23] 3 #[t19_6]) (fun t53_32 w =>
   opW Try.prog (binS BinOp.lss 3 (Operand.tmp 51) (Operand.tmp 53) i_30 t53_32) (fun t54_33 w =>
   condW t54_33
   (opW Try.prog (Instr.indexAt 23 t19_6 i_30) (fun t60_35 w =>
   opW Try.prog (Instr.fieldAt 31 t60_35 0) (fun t61_36 w =>
   opW Try.prog (Instr.loadAt 3 t61_36) (fun t62_37 w =>
   opW Try.prog (Instr.indexAt 26 t23_8 t62_37) (fun t63_38 w =>
   opW Try.prog (Instr.loadAt 3 t63_38) (fun t64_39 w =>
   drewW w (fun w =>
   takeW Try.prog anyW (Instr.indexAt 26 t29_11 i_30) (fun t67_41 =>
   takeW Try.prog (sameW w) (Instr.loadAt 3 t67_41) (fun t68_42 =>
   takeW Try.prog anyW (Instr.indexAt 23 t19_6 i_30) (fun t71_43 =>
   takeW Try.prog anyW (Instr.fieldAt 31 t71_43 1) (fun t72_44 =>
   takeW Try.prog (sameW w) (Instr.loadAt 3 t72_44) (fun t73_45 =>
   takeW Try.prog anyW (Instr.indexAt 23 t19_6 i_30) (fun t77_46 =>
   takeW Try.prog anyW (Instr.fieldAt 31 t77_46 0) (fun t78_47 =>
   takeW Try.prog (sameW w) (Instr.loadAt 3 t78_47) (fun t79_48 =>
   takeW Try.prog anyW (Instr.indexAt 22 t16_5 t79_48) (fun t80_49 =>
   takeW Try.prog anyW (Instr.fieldAt 34 t80_49 1) (fun t81_50 =>
   takeW Try.prog (sameW w) (Instr.loadAt 3 t81_50) (fun t82_51 =>
   takeW Try.prog anyW (binS BinOp.add 3 (Operand.tmp 73) (Operand.tmp 82) t73_45 t82_51) (fun t83_52 =>
   takeW Try.prog anyW (binS BinOp.lss 3 (Operand.tmp 68) (Operand.tmp 83) t68_42 t83_52) (fun t84_53 =>
   guardT (some t84_53, false) (fun k => k t64_39) (fun t86_54 =>
   guardT (some t84_53, false) (fun k => takeW Try.prog anyW (binS BinOp.geq 3 (Operand.tmp 86) (Operand.const (Value.int IntKind.i64 0)) t86_54 (Value.int IntKind.i64 0)) k w) (fun t87_55 =>
   guardT (some t84_53, false) (fun k => k t87_55) (fun t88_56 =>
   guardT (some t88_56, true) (fun k => k t29_11) (fun t89_57 =>
   guardT (some t88_56, true) (fun k => k i_30) (fun t90_58 =>
   guardT (some t88_56, true) (fun k => takeW Try.prog anyW (Instr.indexAt 26 t89_57 t90_58) k w) (fun t91_59 =>
   guardT (some t88_56, true) (fun k => takeW Try.prog (sameW w) (Instr.loadAt 3 t91_59) k w) (fun t92_60 =>
   guardT (some t88_56, true) (fun k => k t19_6) (fun t93_61 =>
   guardT (some t88_56, true) (fun k => k i_30) (fun t94_62 =>
   guardT (some t88_56, true) (fun k => takeW Try.prog anyW (Instr.indexAt 23 t93_61 t94_62) k w) (fun t95_63 =>
   guardT (some t88_56, true) (fun k => takeW Try.prog anyW (Instr.fieldAt 31 t95_63 1) k w) (fun t96_64 =>
   guardT (some t88_56, true) (fun k => takeW Try.prog (sameW w) (Instr.loadAt 3 t96_64) k w) (fun t97_65 =>
   guardT (some t88_56, true) (fun k => k t64_39) (fun t98_66 =>
   guardT (some t88_56, true) (fun k => takeW Try.prog anyW (binS BinOp.add 3 (Operand.tmp 97) (Operand.tmp 98) t97_65 t98_66) k w) (fun t99_67 =>
   guardT (some t88_56, true) (fun k => takeW Try.prog anyW (binS BinOp.gtr 3 (Operand.tmp 92) (Operand.tmp 99) t92_60 t99_67) k w) (fun t100_68 =>
   guardT (some t84_53, false) (fun k => pickT t88_56 t100_68 (Value.bool false) k) (fun t101_69 =>
   pickT t84_53 (Value.bool true) t101_69 (fun t102_70 =>
   condW t102_70
   (k (Value.bool false) w)
   (opW Try.prog (binS BinOp.add 3 (Operand.tmp 55) (Operand.const (Value.int IntKind.i64 1)) i_30 (Value.int IntKind.i64 1)) (fun t56_71 w =>
   loopK [] [] [t16_5, t19_6, t23_8, t29_11] [t16_5, t19_6, t23_8, t29_11] (K_31 t56_71 w)) w))))))))))))))))))) w) w) w) w) w) w) w) w) w) w) w) w) w)) w) w) w) w) w)
   (k (Value.bool true) w)) w) w) (Value.int IntKind.i64 0) w)) w) w) w) w) w) w) w) w) w) w) w) w) w) w) w) w) w) w) w) w) w) w) w) w)) w) w
theorem S4_vc (x_1 y_2 : Value) (k : Value → World → Prop) (w : World) : vc Try.prog Try.f4.ntmps ann4 none ((Try.f4.body).getD Code.skip) 1 (params 0 [x_1, y_2]) [] (finQ Try.prog Try.f4.results.toList k) w = S4 x_1 y_2 k w := by kernel_rfl
theorem S4_calls (x_1 y_2 : Value) (k : Value → World → Prop) (w : World) (h : S4 x_1 y_2 k w) : Calls Try.prog 4 #[x_1, y_2] w (retP k) :=
  calls_of_vc (fn := Try.f4) (c := (Try.f4.body).getD Code.skip) ann4 Try.func4 (by kernel_rfl) [x_1, y_2] w k (by kernel_rfl) ((S4_vc x_1 y_2 k w).symm ▸ h)
theorem C4 (x_1 y_2 : Value) (k : Value → World → Prop) (w : World) (h : S4 x_1 y_2 k w) : callW Try.prog (.func (.func 4) #[] #[]) #[x_1, y_2] k w :=
  callW_calls ok4 (by simpa using S4_calls x_1 y_2 k w h)

/-! newswire/newswirelaw24.SchedTight -/
def ann5 : Ann := [(4093, Note.keep [5, 6, 7, 9, 10]), (8186, Note.loop [9, 10, 11] [5, 6, 7]), (16382, Note.plan (Plan.takeP 0 (Plan.takeP 1 (Plan.takeP 2 (Plan.takeP 3 (Plan.takeP 4 (Plan.takeP 5 (Plan.takeP 6 (Plan.takeP 7 (Plan.takeP 8 (Plan.takeP 9 (Plan.takeP 10 (Plan.takeP 11 (Plan.takeP 12 (Plan.takeP 13 (Plan.takeP 14 (Plan.takeP 15 (Plan.takeP 16 (Plan.takeX 17 (Plan.takeP 18 (Plan.takeP 19 (Plan.takeP 20 (Plan.takeX 21 (Plan.takeP 22 (Plan.takeP 23 (Plan.takeP 24 Plan.done)))))))))))))))))))))))))), (65490, Note.keep [5, 6, 7, 9, 10, 11]), (261961, Note.keep [5, 6, 7, 9, 10, 11]), (523922, Note.loop [9, 10, 12] [5, 6, 7, 11]), (4191378, Note.keep [5, 6, 7, 9, 10, 11, 12])]
def S5 (x_1 which_2 : Value) (k : Value → World → Prop) (w : World) : Prop :=
   callW Try.prog (Value.func (Fn.func 9) #[] #[]) #[] (fun t15_3 w =>
   opW Try.prog (Op.unary UnOp.not t15_3) (fun t16_4 w =>
   condW t16_4
   (k (Value.bool false) w)
   (callW Try.prog (Value.func (Fn.func 10) #[] #[]) #[x_1] (fun t18_5 w =>
   opW Try.prog (Builtin.len_ #[22] 3 #[t18_5]) (fun t21_6 w =>
   callW Try.prog (Value.func (Fn.func 12) #[] #[]) #[which_2, t21_6] (fun t22_7 w =>
   callW Try.prog (Value.func (Fn.func 13) #[] #[]) #[t18_5] (fun t25_8 w =>
   opW Try.prog (Instr.extract t25_8 0) (fun t26_9 w =>
   opW Try.prog (Instr.extract t25_8 1) (fun t27_10 w =>
   opW Try.prog (binS BinOp.neq 36 (Operand.tmp 28) (Operand.const (Value.int IntKind.i64 0)) t27_10 (Value.int IntKind.i64 0)) (fun t29_11 w =>
   guardW (some t29_11, false) (fun k w => k t26_9 w) (fun t31_12 w =>
   guardW (some t29_11, false) (fun k w => opW Try.prog (Builtin.len_ #[26] 3 #[t31_12]) k w) (fun t32_13 w =>
   guardW (some t29_11, false) (fun k w => k t18_5 w) (fun t33_14 w =>
   guardW (some t29_11, false) (fun k w => opW Try.prog (Builtin.len_ #[22] 3 #[t33_14]) k w) (fun t34_15 w =>
   guardW (some t29_11, false) (fun k w => opW Try.prog (binS BinOp.neq 3 (Operand.tmp 32) (Operand.tmp 34) t32_13 t34_15) k w) (fun t35_16 w =>
   pickW t29_11 (Value.bool true) t35_16 (fun t36_17 w =>
   condW t36_17
   (k (Value.bool false) w)
   (opW Try.prog (Instr.indexAt 26 t26_9 t22_7) (fun t39_18 w =>
   opW Try.prog (Instr.loadAt 3 t39_18) (fun t40_19 w =>
   opW Try.prog (binS BinOp.lss 3 (Operand.tmp 40) (Operand.const (Value.int IntKind.i64 0)) t40_19 (Value.int IntKind.i64 0)) (fun t41_20 w =>
   condW t41_20
   (k (Value.bool true) w)
   (Loop3 (fun a_22 first_23 t_24 w K_25 =>
   opW Try.prog (Instr.indexAt 26 t26_9 t22_7) (fun t45_26 w =>
   opW Try.prog (Instr.loadAt 3 t45_26) (fun t46_27 w =>
   opW Try.prog (binS BinOp.lss 3 (Operand.tmp 42) (Operand.tmp 46) t_24 t46_27) (fun t47_28 w =>
   guardW (some t47_28, true) (fun k w => k t_24 w) (fun t49_29 w =>
   guardW (some t47_28, true) (fun k w => opW Try.prog (binS BinOp.leq 3 (Operand.tmp 49) (Operand.const (Value.int IntKind.i64 2000)) t49_29 (Value.int IntKind.i64 2000)) k w) (fun t50_30 w =>
   pickW t47_28 t50_30 (Value.bool false) (fun t51_31 w =>
   condW t51_31
   (Loop3 (fun a_34 first_35 k_36 w K_37 =>
   opW Try.prog (Builtin.len_ #[22] 3 #[t18_5]) (fun t56_38 w =>
   opW Try.prog (binS BinOp.lss 3 (Operand.tmp 54) (Operand.tmp 56) k_36 t56_38) (fun t57_39 w =>
   condW t57_39
   (joinW (fun a_68 first_69 w =>
   opW Try.prog (binS BinOp.add 3 (Operand.tmp 58) (Operand.const (Value.int IntKind.i64 1)) k_36 (Value.int IntKind.i64 1)) (fun t59_70 w =>
   loopK [] [] [t18_5, t22_7, t26_9, t_24] [t18_5, t22_7, t26_9, t_24] (K_37 a_68 first_69 t59_70 w)) w) (fun J_40 =>
   opW Try.prog (Instr.indexAt 22 t18_5 k_36) (fun t63_41 w =>
   opW Try.prog (Instr.fieldAt 34 t63_41 2) (fun t64_42 w =>
   opW Try.prog (Instr.loadAt 3 t64_42) (fun t65_43 w =>
   opW Try.prog (binS BinOp.rem 3 (Operand.tmp 60) (Operand.tmp 65) t_24 t65_43) (fun t66_44 w =>
   opW Try.prog (binS BinOp.neq 3 (Operand.tmp 66) (Operand.const (Value.int IntKind.i64 0)) t66_44 (Value.int IntKind.i64 0)) (fun t67_45 w =>
   guardW (some t67_45, false) (fun k w => k k_36 w) (fun t69_46 w =>
   guardW (some t67_45, false) (fun k w => k t22_7 w) (fun t70_47 w =>
   guardW (some t67_45, false) (fun k w => opW Try.prog (binS BinOp.neq 3 (Operand.tmp 69) (Operand.tmp 70) t69_46 t70_47) k w) (fun t71_48 w =>
   guardW (some t67_45, false) (fun k w => k t71_48 w) (fun t72_49 w =>
   guardW (some t72_49, true) (fun k w => k t18_5 w) (fun t73_50 w =>
   guardW (some t72_49, true) (fun k w => k k_36 w) (fun t74_51 w =>
   guardW (some t72_49, true) (fun k w => k t22_7 w) (fun t75_52 w =>
   guardW (some t72_49, true) (fun k w => callW Try.prog (Value.func (Fn.func 26) #[] #[]) #[t73_50, t74_51, t75_52] k w) (fun t76_53 w =>
   guardW (some t72_49, true) (fun k w => opW Try.prog (Op.unary UnOp.not t76_53) k w) (fun t77_54 w =>
   guardW (some t67_45, false) (fun k w => pickW t72_49 t77_54 (Value.bool false) k w) (fun t78_55 w =>
   pickW t67_45 (Value.bool true) t78_55 (fun t79_56 w =>
   condW t79_56
   (J_40 a_34 first_35 w)
   (opW Try.prog (binS BinOp.eql 3 (Operand.tmp 80) (Operand.tmp 81) k_36 t22_7) (fun t82_57 w =>
   guardW (some t82_57, true) (fun k w => k first_35 w) (fun t84_58 w =>
   guardW (some t82_57, true) (fun k w => opW Try.prog (binS BinOp.lss 3 (Operand.tmp 84) (Operand.const (Value.int IntKind.i64 0)) t84_58 (Value.int IntKind.i64 0)) k w) (fun t85_59 w =>
   pickW t82_57 t85_59 (Value.bool false) (fun t86_60 w =>
   condW t86_60
   (opW Try.prog (Builtin.len_ #[23] 3 #[a_34]) (fun t88_61 w =>
   opW Try.prog (Instr.build 31 #[(0, k_36), (1, t_24)]) (fun t92_62 w =>
   opW Try.prog (Instr.buildSlice 23 1 #[(0, t92_62)]) (fun t93_63 w =>
   opW Try.prog (Builtin.append_ #[23, 23] 23 #[a_34, t93_63]) (fun t94_64 w =>
   J_40 t94_64 t88_61 w) w) w) w) w)
   (opW Try.prog (Instr.build 31 #[(0, k_36), (1, t_24)]) (fun t92_65 w =>
   opW Try.prog (Instr.buildSlice 23 1 #[(0, t92_65)]) (fun t93_66 w =>
   opW Try.prog (Builtin.append_ #[23, 23] 23 #[a_34, t93_66]) (fun t94_67 w =>
   J_40 t94_67 first_35 w) w) w) w)) w) w) w) w)) w) w) w) w) w) w) w) w) w) w) w) w) w) w) w) w))
   (opW Try.prog (binS BinOp.add 3 (Operand.tmp 52) (Operand.const (Value.int IntKind.i64 1)) t_24 (Value.int IntKind.i64 1)) (fun t53_71 w =>
   loopK [] [] [t18_5, t22_7, t26_9] [t18_5, t22_7, t26_9] (K_25 a_34 first_35 t53_71 w)) w)) w) w) a_22 first_23 (Value.int IntKind.i64 0) w)
   (opW Try.prog (Builtin.len_ #[23] 3 #[a_22]) (fun t96_72 w =>
   opW Try.prog (binS BinOp.gtr 3 (Operand.tmp 96) (Operand.const (Value.int IntKind.i64 60)) t96_72 (Value.int IntKind.i64 60)) (fun t97_73 w =>
   condW t97_73
   (k (Value.bool true) w)
   (callW Try.prog (Value.func (Fn.func 20) #[] #[]) #[t18_5, a_22] (fun t101_74 w =>
   opW Try.prog (Instr.extract t101_74 0) (fun t102_75 w =>
   opW Try.prog (Instr.extract t101_74 1) (fun t103_76 w =>
   drewW w (fun w =>
   takeW Try.prog anyW (binS BinOp.eql 36 (Operand.tmp 104) (Operand.const (Value.int IntKind.i64 0)) t103_76 (Value.int IntKind.i64 0)) (fun t105_78 =>
   guardT (some t105_78, true) (fun k => k first_23) (fun t107_79 =>
   guardT (some t105_78, true) (fun k => takeW Try.prog anyW (binS BinOp.geq 3 (Operand.tmp 107) (Operand.const (Value.int IntKind.i64 0)) t107_79 (Value.int IntKind.i64 0)) k w) (fun t108_80 =>
   pickT t105_78 t108_80 (Value.bool false) (fun t109_81 =>
   guardT (some t109_81, true) (fun k => k t102_75) (fun t111_82 =>
   guardT (some t109_81, true) (fun k => takeW Try.prog anyW (Builtin.len_ #[26] 3 #[t111_82]) k w) (fun t112_83 =>
   guardT (some t109_81, true) (fun k => k a_22) (fun t113_84 =>
   guardT (some t109_81, true) (fun k => takeW Try.prog anyW (Builtin.len_ #[23] 3 #[t113_84]) k w) (fun t114_85 =>
   guardT (some t109_81, true) (fun k => takeW Try.prog anyW (binS BinOp.eql 3 (Operand.tmp 112) (Operand.tmp 114) t112_83 t114_85) k w) (fun t115_86 =>
   pickT t109_81 t115_86 (Value.bool false) (fun t116_87 =>
   guardT (some t116_87, true) (fun k => k t102_75) (fun t118_88 =>
   guardT (some t116_87, true) (fun k => k first_23) (fun t119_89 =>
   guardT (some t116_87, true) (fun k => takeW Try.prog anyW (Instr.indexAt 26 t118_88 t119_89) k w) (fun t120_90 =>
   guardT (some t116_87, true) (fun k => takeW Try.prog (sameW w) (Instr.loadAt 3 t120_90) k w) (fun t121_91 =>
   guardT (some t116_87, true) (fun k => k t26_9) (fun t122_92 =>
   guardT (some t116_87, true) (fun k => k t22_7) (fun t123_93 =>
   guardT (some t116_87, true) (fun k => takeW Try.prog anyW (Instr.indexAt 26 t122_92 t123_93) k w) (fun t124_94 =>
   guardT (some t116_87, true) (fun k => takeW Try.prog (sameW w) (Instr.loadAt 3 t124_94) k w) (fun t125_95 =>
   guardT (some t116_87, true) (fun k => takeW Try.prog anyW (binS BinOp.eql 3 (Operand.tmp 121) (Operand.tmp 125) t121_91 t125_95) k w) (fun t126_96 =>
   pickT t116_87 t126_96 (Value.bool false) (fun t127_97 =>
   k t127_97 w)))))))))))))))))))) w)) w) w) w)) w) w)) w) w) w) w) w) w) (Value.slice none 0 0) (Value.int IntKind.i64 (-1)) (Value.int IntKind.i64 0) w)) w) w) w)) w) w) w) w) w) w) w) w) w) w) w) w) w)) w) w
theorem S5_vc (x_1 which_2 : Value) (k : Value → World → Prop) (w : World) : vc Try.prog Try.f5.ntmps ann5 none ((Try.f5.body).getD Code.skip) 1 (params 0 [x_1, which_2]) [] (finQ Try.prog Try.f5.results.toList k) w = S5 x_1 which_2 k w := by kernel_rfl
theorem S5_calls (x_1 which_2 : Value) (k : Value → World → Prop) (w : World) (h : S5 x_1 which_2 k w) : Calls Try.prog 5 #[x_1, which_2] w (retP k) :=
  calls_of_vc (fn := Try.f5) (c := (Try.f5.body).getD Code.skip) ann5 Try.func5 (by kernel_rfl) [x_1, which_2] w k (by kernel_rfl) ((S5_vc x_1 which_2 k w).symm ▸ h)
theorem C5 (x_1 which_2 : Value) (k : Value → World → Prop) (w : World) (h : S5 x_1 which_2 k w) : callW Try.prog (.func (.func 5) #[] #[]) #[x_1, which_2] k w :=
  callW_calls ok5 (by simpa using S5_calls x_1 which_2 k w h)

/-! newswire/newswirelaw24.SchedPreempts -/
def ann6 : Ann := [(1021, Note.keep [9, 10, 12, 13]), (2042, Note.loop [14] [9, 10, 11, 12, 13]), (16338, Note.keep [9, 10, 11, 12, 13, 14]), (32765, Note.keep []), (65530, Note.loop [73] [9, 10, 16, 71, 72]), (1048486, Note.keep [9, 10, 16, 71, 72, 73]), (134206271, Note.keep [9, 10, 16, 71, 72, 73]), (268412542, Note.loop [23, 24] [9, 10, 16, 18, 19, 21, 71, 72, 73]), (2147300338, Note.keep [9, 10, 16, 18, 19, 21, 23, 24, 71, 72, 73]), (34356805412, Note.plan (Plan.takeP 0 (Plan.takeP 1 (Plan.takeP 2 (Plan.takeP 3 (Plan.takeP 4 (Plan.takeP 5 (Plan.takeX 6 (Plan.takeP 7 (Plan.takeP 8 (Plan.takeP 9 (Plan.takeX 10 (Plan.takeP 11 (Plan.takeP 12 (Plan.takeP 13 (Plan.takeP 14 (Plan.takeP 15 (Plan.takeP 16 (Plan.takeX 17 (Plan.takeP 18 (Plan.takeP 19 (Plan.takeP 20 (Plan.takeX 21 (Plan.takeP 22 (Plan.takeP 23 Plan.done)))))))))))))))))))))))))]
def S6 (x_1 y_2 one_3 two_4 : Value) (k : Value → World → Prop) (w : World) : Prop :=
   callW Try.prog (Value.func (Fn.func 9) #[] #[]) #[] (fun t25_5 w =>
   opW Try.prog (Op.unary UnOp.not t25_5) (fun t26_6 w =>
   condW t26_6
   (k (Value.bool false) w)
   (callW Try.prog (Value.func (Fn.func 10) #[] #[]) #[x_1] (fun t28_7 w =>
   callW Try.prog (Value.func (Fn.func 11) #[] #[]) #[t28_7, y_2] (fun t31_8 w =>
   opW Try.prog (Builtin.len_ #[22] 3 #[t28_7]) (fun t34_9 w =>
   callW Try.prog (Value.func (Fn.func 12) #[] #[]) #[one_3, t34_9] (fun t35_10 w =>
   opW Try.prog (Builtin.len_ #[22] 3 #[t28_7]) (fun t38_11 w =>
   callW Try.prog (Value.func (Fn.func 12) #[] #[]) #[two_4, t38_11] (fun t39_12 w =>
   opW Try.prog (Instr.alloc 50 true (Value.tuple #[])) (fun later_13 w =>
   Loop1 (fun j_15 w K_16 =>
   opW Try.prog (Builtin.len_ #[22] 3 #[t28_7]) (fun t42_17 w =>
   opW Try.prog (binS BinOp.lss 3 (Operand.tmp 40) (Operand.tmp 42) j_15 t42_17) (fun t43_18 w =>
   condW t43_18
   (callW Try.prog (Value.func (Fn.func 26) #[] #[]) #[t28_7, t35_10, j_15] (fun t50_20 w =>
   opW Try.prog (Instr.indexAt 50 later_13 j_15) (fun t51_21 w =>
   opU Try.prog (Instr.storeAt 4 t51_21 t50_20) (fun _ w =>
   opW Try.prog (binS BinOp.add 3 (Operand.tmp 44) (Operand.const (Value.int IntKind.i64 1)) j_15 (Value.int IntKind.i64 1)) (fun t45_22 w =>
   loopK [] [] [t28_7, t31_8, t35_10, t39_12, later_13] [t28_7, t31_8, t35_10, t39_12, later_13] (K_16 t45_22 w)) w) w) w) w)
   (opW Try.prog (Instr.alloc 50 true (Value.tuple #[])) (fun other_23 w =>
   opW Try.prog (Instr.indexAt 50 other_23 t39_12) (fun t53_24 w =>
   opU Try.prog (Instr.storeAt 4 t53_24 (Value.bool true)) (fun _ w =>
   callW Try.prog (Value.func (Fn.func 20) #[] #[]) #[t28_7, t31_8] (fun t57_25 w =>
   opW Try.prog (Instr.extract t57_25 0) (fun t58_26 w =>
   opW Try.prog (Instr.extract t57_25 1) (fun t59_27 w =>
   opW Try.prog (binS BinOp.neq 36 (Operand.tmp 60) (Operand.const (Value.int IntKind.i64 0)) t59_27 (Value.int IntKind.i64 0)) (fun t61_28 w =>
   guardW (some t61_28, false) (fun k w => k t58_26 w) (fun t63_29 w =>
   guardW (some t61_28, false) (fun k w => opW Try.prog (Builtin.len_ #[26] 3 #[t63_29]) k w) (fun t64_30 w =>
   guardW (some t61_28, false) (fun k w => k t31_8 w) (fun t65_31 w =>
   guardW (some t61_28, false) (fun k w => opW Try.prog (Builtin.len_ #[23] 3 #[t65_31]) k w) (fun t66_32 w =>
   guardW (some t61_28, false) (fun k w => opW Try.prog (binS BinOp.neq 3 (Operand.tmp 64) (Operand.tmp 66) t64_30 t66_32) k w) (fun t67_33 w =>
   pickW t61_28 (Value.bool true) t67_33 (fun t68_34 w =>
   condW t68_34
   (k (Value.bool false) w)
   (opW Try.prog (Instr.loadAt 50 later_13) (fun t69_35 w =>
   opW Try.prog (Instr.loadAt 50 other_23) (fun t70_36 w =>
   opW Try.prog (Instr.buildSlice 51 2 #[(0, t69_35), (1, t70_36)]) (fun t71_37 w =>
   opW Try.prog (Builtin.len_ #[51] 3 #[t71_37]) (fun t72_38 w =>
   Loop1 (fun t73_40 w K_41 =>
   opW Try.prog (binS BinOp.lss 3 (Operand.tmp 73) (Operand.tmp 72) t73_40 t72_38) (fun t74_42 w =>
   condW t74_42
   (opW Try.prog (Instr.indexAt 51 t71_37 t73_40) (fun t76_44 w =>
   opW Try.prog (Instr.loadAt 50 t76_44) (fun t77_45 w =>
   opW Try.prog (Instr.alloc 50 true (Value.tuple #[])) (fun gone_46 w =>
   opU Try.prog (Instr.storeAt 50 gone_46 t77_45) (fun _ w =>
   opW Try.prog (Instr.loadAt 50 gone_46) (fun t79_47 w =>
   callW Try.prog (Value.func (Fn.func 27) #[] #[]) #[t31_8, t79_47] (fun t80_48 w =>
   callW Try.prog (Value.func (Fn.func 20) #[] #[]) #[t28_7, t80_48] (fun t84_49 w =>
   opW Try.prog (Instr.extract t84_49 0) (fun t85_50 w =>
   opW Try.prog (Instr.extract t84_49 1) (fun t86_51 w =>
   opW Try.prog (binS BinOp.neq 36 (Operand.tmp 87) (Operand.const (Value.int IntKind.i64 0)) t86_51 (Value.int IntKind.i64 0)) (fun t88_52 w =>
   guardW (some t88_52, false) (fun k w => k t85_50 w) (fun t90_53 w =>
   guardW (some t88_52, false) (fun k w => opW Try.prog (Builtin.len_ #[26] 3 #[t90_53]) k w) (fun t91_54 w =>
   guardW (some t88_52, false) (fun k w => k t80_48 w) (fun t92_55 w =>
   guardW (some t88_52, false) (fun k w => opW Try.prog (Builtin.len_ #[23] 3 #[t92_55]) k w) (fun t93_56 w =>
   guardW (some t88_52, false) (fun k w => opW Try.prog (binS BinOp.neq 3 (Operand.tmp 91) (Operand.tmp 93) t91_54 t93_56) k w) (fun t94_57 w =>
   pickW t88_52 (Value.bool true) t94_57 (fun t95_58 w =>
   condW t95_58
   (k (Value.bool false) w)
   (Loop2 (fun at_60 j_61 w K_62 =>
   opW Try.prog (Builtin.len_ #[23] 3 #[t31_8]) (fun t98_63 w =>
   opW Try.prog (binS BinOp.lss 3 (Operand.tmp 96) (Operand.tmp 98) j_61 t98_63) (fun t99_64 w =>
   condW t99_64
   (joinW (fun at_94 w =>
   opW Try.prog (binS BinOp.add 3 (Operand.tmp 100) (Operand.const (Value.int IntKind.i64 1)) j_61 (Value.int IntKind.i64 1)) (fun t101_95 w =>
   loopK [] [] [t28_7, t31_8, t58_26, t73_40, gone_46, t85_50, t71_37, t72_38, t73_40] [t28_7, t31_8, t58_26, t73_40, gone_46, t85_50, t71_37, t72_38, t73_40] (K_62 at_94 t101_95 w)) w) (fun J_65 =>
   opW Try.prog (Instr.indexAt 23 t31_8 j_61) (fun t104_66 w =>
   opW Try.prog (Instr.fieldAt 31 t104_66 0) (fun t105_67 w =>
   opW Try.prog (Instr.loadAt 3 t105_67) (fun t106_68 w =>
   opW Try.prog (Instr.indexAt 50 gone_46 t106_68) (fun t107_69 w =>
   opW Try.prog (Instr.loadAt 4 t107_69) (fun t108_70 w =>
   condW t108_70
   (J_65 at_60 w)
   (drewW w (fun w =>
   takeW Try.prog anyW (binS BinOp.eql 3 (Operand.tmp 109) (Operand.const (Value.int IntKind.i64 0)) t73_40 (Value.int IntKind.i64 0)) (fun t110_72 =>
   guardT (some t110_72, true) (fun k => k t58_26) (fun t112_73 =>
   guardT (some t110_72, true) (fun k => k j_61) (fun t113_74 =>
   guardT (some t110_72, true) (fun k => takeW Try.prog anyW (Instr.indexAt 26 t112_73 t113_74) k w) (fun t114_75 =>
   guardT (some t110_72, true) (fun k => takeW Try.prog (sameW w) (Instr.loadAt 3 t114_75) k w) (fun t115_76 =>
   guardT (some t110_72, true) (fun k => k t85_50) (fun t116_77 =>
   guardT (some t110_72, true) (fun k => k at_60) (fun t117_78 =>
   guardT (some t110_72, true) (fun k => takeW Try.prog anyW (Instr.indexAt 26 t116_77 t117_78) k w) (fun t118_79 =>
   guardT (some t110_72, true) (fun k => takeW Try.prog (sameW w) (Instr.loadAt 3 t118_79) k w) (fun t119_80 =>
   guardT (some t110_72, true) (fun k => takeW Try.prog anyW (binS BinOp.neq 3 (Operand.tmp 115) (Operand.tmp 119) t115_76 t119_80) k w) (fun t120_81 =>
   pickT t110_72 t120_81 (Value.bool false) (fun t121_82 =>
   guardT (some t121_82, false) (fun k => k t85_50) (fun t123_83 =>
   guardT (some t121_82, false) (fun k => k at_60) (fun t124_84 =>
   guardT (some t121_82, false) (fun k => takeW Try.prog anyW (Instr.indexAt 26 t123_83 t124_84) k w) (fun t125_85 =>
   guardT (some t121_82, false) (fun k => takeW Try.prog (sameW w) (Instr.loadAt 3 t125_85) k w) (fun t126_86 =>
   guardT (some t121_82, false) (fun k => k t58_26) (fun t127_87 =>
   guardT (some t121_82, false) (fun k => k j_61) (fun t128_88 =>
   guardT (some t121_82, false) (fun k => takeW Try.prog anyW (Instr.indexAt 26 t127_87 t128_88) k w) (fun t129_89 =>
   guardT (some t121_82, false) (fun k => takeW Try.prog (sameW w) (Instr.loadAt 3 t129_89) k w) (fun t130_90 =>
   guardT (some t121_82, false) (fun k => takeW Try.prog anyW (binS BinOp.gtr 3 (Operand.tmp 126) (Operand.tmp 130) t126_86 t130_90) k w) (fun t131_91 =>
   pickT t121_82 (Value.bool true) t131_91 (fun t132_92 =>
   condW t132_92
   (k (Value.bool false) w)
   (opW Try.prog (binS BinOp.add 3 (Operand.tmp 133) (Operand.const (Value.int IntKind.i64 1)) at_60 (Value.int IntKind.i64 1)) (fun t134_93 w =>
   J_65 t134_93 w) w)))))))))))))))))))))) w))) w) w) w) w) w))
   (opW Try.prog (binS BinOp.add 3 (Operand.tmp 73) (Operand.const (Value.int IntKind.i64 1)) t73_40 (Value.int IntKind.i64 1)) (fun t135_96 w =>
   loopK [] [] [t28_7, t31_8, t58_26, t71_37, t72_38] [t28_7, t31_8, t58_26, t71_37, t72_38] (K_41 t135_96 w)) w)) w) w) (Value.int IntKind.i64 0) (Value.int IntKind.i64 0) w)) w) w) w) w) w) w) w) w) w) w) w) w) w) w) w) w)
   (k (Value.bool true) w)) w) (Value.int IntKind.i64 0) w) w) w) w) w)) w) w) w) w) w) w) w) w) w) w) w) w) w)) w) w) (Value.int IntKind.i64 0) w) w) w) w) w) w) w) w)) w) w
theorem S6_vc (x_1 y_2 one_3 two_4 : Value) (k : Value → World → Prop) (w : World) : vc Try.prog Try.f6.ntmps ann6 none ((Try.f6.body).getD Code.skip) 1 (params 0 [x_1, y_2, one_3, two_4]) [] (finQ Try.prog Try.f6.results.toList k) w = S6 x_1 y_2 one_3 two_4 k w := by kernel_rfl
theorem S6_calls (x_1 y_2 one_3 two_4 : Value) (k : Value → World → Prop) (w : World) (h : S6 x_1 y_2 one_3 two_4 k w) : Calls Try.prog 6 #[x_1, y_2, one_3, two_4] w (retP k) :=
  calls_of_vc (fn := Try.f6) (c := (Try.f6.body).getD Code.skip) ann6 Try.func6 (by kernel_rfl) [x_1, y_2, one_3, two_4] w k (by kernel_rfl) ((S6_vc x_1 y_2 one_3 two_4 k w).symm ▸ h)
theorem C6 (x_1 y_2 one_3 two_4 : Value) (k : Value → World → Prop) (w : World) (h : S6 x_1 y_2 one_3 two_4 k w) : callW Try.prog (.func (.func 6) #[] #[]) #[x_1, y_2, one_3, two_4] k w :=
  callW_calls ok6 (by simpa using S6_calls x_1 y_2 one_3 two_4 k w h)

/-! newswire/newswirelaw24.SchedLine -/
def ann7 : Ann := [(2045, Note.keep [6, 7, 9, 11]), (4090, Note.loop [12] [5, 6, 7, 9, 11]), (4093, Note.keep [6, 9, 11]), (8186, Note.loop [13] [6, 7, 9, 11]), (8189, Note.keep []), (16378, Note.loop [17] [6, 9, 11]), (32722, Note.keep [5, 6, 7, 9, 11, 12]), (65490, Note.keep [6, 7, 9, 11, 13]), (131026, Note.keep [6, 9, 11, 17]), (1047845, Note.keep [6, 7, 9, 11, 13, 14]), (1048209, Note.keep [6, 9, 11, 17]), (2095690, Note.loop [14, 15] [6, 7, 9, 11, 13]), (2096418, Note.loop [18] [6, 9, 11, 17]), (16765522, Note.keep [6, 7, 9, 11, 13, 14, 15]), (16771346, Note.keep [6, 9, 11, 17, 18]), (67085384, Note.plan (Plan.takeP 0 (Plan.takeP 1 (Plan.takeP 2 (Plan.takeP 3 (Plan.takeX 4 (Plan.takeP 5 (Plan.takeP 6 (Plan.takeP 7 (Plan.takeP 8 (Plan.takeX 9 (Plan.takeP 10 (Plan.takeP 11 (Plan.takeP 12 (Plan.takeP 13 (Plan.takeP 14 (Plan.takeX 15 (Plan.takeP 16 (Plan.takeP 17 (Plan.takeP 18 (Plan.takeX 19 (Plan.takeP 20 (Plan.takeP 21 Plan.done)))))))))))))))))))))))]
def S7 (x_1 y_2 : Value) (k : Value → World → Prop) (w : World) : Prop :=
   callW Try.prog (Value.func (Fn.func 9) #[] #[]) #[] (fun t19_3 w =>
   opW Try.prog (Op.unary UnOp.not t19_3) (fun t20_4 w =>
   condW t20_4
   (k (Value.bool false) w)
   (callW Try.prog (Value.func (Fn.func 10) #[] #[]) #[x_1] (fun t22_5 w =>
   callW Try.prog (Value.func (Fn.func 11) #[] #[]) #[t22_5, y_2] (fun t25_6 w =>
   callW Try.prog (Value.func (Fn.func 18) #[] #[]) #[t22_5, t25_6] (fun t29_7 w =>
   opW Try.prog (Instr.extract t29_7 0) (fun t30_8 w =>
   opW Try.prog (Instr.extract t29_7 1) (fun t31_9 w =>
   callW Try.prog (Value.func (Fn.func 20) #[] #[]) #[t22_5, t25_6] (fun t35_10 w =>
   opW Try.prog (Instr.extract t35_10 0) (fun t36_11 w =>
   opW Try.prog (Instr.extract t35_10 1) (fun t37_12 w =>
   opW Try.prog (binS BinOp.neq 36 (Operand.tmp 38) (Operand.const (Value.int IntKind.i64 0)) t31_9 (Value.int IntKind.i64 0)) (fun t39_13 w =>
   guardW (some t39_13, false) (fun k w => k t37_12 w) (fun t41_14 w =>
   guardW (some t39_13, false) (fun k w => opW Try.prog (binS BinOp.neq 36 (Operand.tmp 41) (Operand.const (Value.int IntKind.i64 0)) t41_14 (Value.int IntKind.i64 0)) k w) (fun t42_15 w =>
   pickW t39_13 (Value.bool true) t42_15 (fun t43_16 w =>
   guardW (some t43_16, false) (fun k w => k t36_11 w) (fun t45_17 w =>
   guardW (some t43_16, false) (fun k w => opW Try.prog (Builtin.len_ #[26] 3 #[t45_17]) k w) (fun t46_18 w =>
   guardW (some t43_16, false) (fun k w => k t25_6 w) (fun t47_19 w =>
   guardW (some t43_16, false) (fun k w => opW Try.prog (Builtin.len_ #[23] 3 #[t47_19]) k w) (fun t48_20 w =>
   guardW (some t43_16, false) (fun k w => opW Try.prog (binS BinOp.neq 3 (Operand.tmp 46) (Operand.tmp 48) t46_18 t48_20) k w) (fun t49_21 w =>
   pickW t43_16 (Value.bool true) t49_21 (fun t50_22 w =>
   guardW (some t50_22, false) (fun k w => k t30_8 w) (fun t52_23 w =>
   guardW (some t50_22, false) (fun k w => opW Try.prog (Builtin.len_ #[26] 3 #[t52_23]) k w) (fun t53_24 w =>
   guardW (some t50_22, false) (fun k w => opW Try.prog (binS BinOp.gtr 3 (Operand.tmp 53) (Operand.const (Value.int IntKind.i64 0)) t53_24 (Value.int IntKind.i64 0)) k w) (fun t54_25 w =>
   guardW (some t50_22, false) (fun k w => k t54_25 w) (fun t55_26 w =>
   guardW (some t55_26, true) (fun k w => k t30_8 w) (fun t56_27 w =>
   guardW (some t55_26, true) (fun k w => k t30_8 w) (fun t57_28 w =>
   guardW (some t55_26, true) (fun k w => opW Try.prog (Builtin.len_ #[26] 3 #[t57_28]) k w) (fun t58_29 w =>
   guardW (some t55_26, true) (fun k w => opW Try.prog (binS BinOp.sub 3 (Operand.tmp 58) (Operand.const (Value.int IntKind.i64 1)) t58_29 (Value.int IntKind.i64 1)) k w) (fun t59_30 w =>
   guardW (some t55_26, true) (fun k w => opW Try.prog (Instr.indexAt 26 t56_27 t59_30) k w) (fun t60_31 w =>
   guardW (some t55_26, true) (fun k w => opW Try.prog (Instr.loadAt 3 t60_31) k w) (fun t61_32 w =>
   guardW (some t55_26, true) (fun k w => opW Try.prog (binS BinOp.lss 3 (Operand.tmp 61) (Operand.const (Value.int IntKind.i64 0)) t61_32 (Value.int IntKind.i64 0)) k w) (fun t62_33 w =>
   guardW (some t50_22, false) (fun k w => pickW t55_26 t62_33 (Value.bool false) k w) (fun t63_34 w =>
   pickW t50_22 (Value.bool true) t63_34 (fun t64_35 w =>
   condW t64_35
   (k (Value.bool false) w)
   (opW Try.prog (Builtin.len_ #[23] 3 #[t25_6]) (fun t66_36 w =>
   opW Try.prog (Instr.makeSlice 26 t66_36 t66_36) (fun t67_37 w =>
   Loop1 (fun i_39 w K_40 =>
   opW Try.prog (Builtin.len_ #[23] 3 #[t25_6]) (fun t70_41 w =>
   opW Try.prog (binS BinOp.lss 3 (Operand.tmp 68) (Operand.tmp 70) i_39 t70_41) (fun t71_42 w =>
   condW t71_42
   (opW Try.prog (Instr.indexAt 23 t25_6 i_39) (fun t79_44 w =>
   opW Try.prog (Instr.fieldAt 31 t79_44 0) (fun t80_45 w =>
   opW Try.prog (Instr.loadAt 3 t80_45) (fun t81_46 w =>
   opW Try.prog (Instr.indexAt 22 t22_5 t81_46) (fun t82_47 w =>
   opW Try.prog (Instr.fieldAt 34 t82_47 1) (fun t83_48 w =>
   opW Try.prog (Instr.loadAt 3 t83_48) (fun t84_49 w =>
   opW Try.prog (Instr.indexAt 26 t67_37 i_39) (fun t85_50 w =>
   opU Try.prog (Instr.storeAt 3 t85_50 t84_49) (fun _ w =>
   opW Try.prog (binS BinOp.add 3 (Operand.tmp 72) (Operand.const (Value.int IntKind.i64 1)) i_39 (Value.int IntKind.i64 1)) (fun t73_51 w =>
   loopK [] [] [t22_5, t25_6, t30_8, t36_11, t67_37] [t22_5, t25_6, t30_8, t36_11, t67_37] (K_40 t73_51 w)) w) w) w) w) w) w) w) w) w)
   (Loop1 (fun t_53 w K_54 =>
   opW Try.prog (Builtin.len_ #[26] 3 #[t30_8]) (fun t88_55 w =>
   opW Try.prog (binS BinOp.lss 3 (Operand.tmp 86) (Operand.tmp 88) t_53 t88_55) (fun t89_56 w =>
   condW t89_56
   (joinW (fun w =>
   opW Try.prog (binS BinOp.add 3 (Operand.tmp 90) (Operand.const (Value.int IntKind.i64 1)) t_53 (Value.int IntKind.i64 1)) (fun t91_109 w =>
   loopK [] [] [t25_6, t30_8, t36_11, t67_37] [t25_6, t30_8, t36_11, t67_37] (K_54 t91_109 w)) w) (fun J_57 =>
   Loop2 (fun waiting_59 i_60 w K_61 =>
   opW Try.prog (Builtin.len_ #[23] 3 #[t25_6]) (fun t94_62 w =>
   opW Try.prog (binS BinOp.lss 3 (Operand.tmp 92) (Operand.tmp 94) i_60 t94_62) (fun t95_63 w =>
   condW t95_63
   (joinW (fun waiting_76 w =>
   opW Try.prog (binS BinOp.add 3 (Operand.tmp 96) (Operand.const (Value.int IntKind.i64 1)) i_60 (Value.int IntKind.i64 1)) (fun t97_77 w =>
   loopK [] [] [t25_6, t30_8, t36_11, t67_37, t_53] [t25_6, t30_8, t36_11, t67_37, t_53] (K_61 waiting_76 t97_77 w)) w) (fun J_64 =>
   opW Try.prog (Instr.indexAt 23 t25_6 i_60) (fun t100_65 w =>
   opW Try.prog (Instr.fieldAt 31 t100_65 1) (fun t101_66 w =>
   opW Try.prog (Instr.loadAt 3 t101_66) (fun t102_67 w =>
   opW Try.prog (binS BinOp.leq 3 (Operand.tmp 102) (Operand.tmp 103) t102_67 t_53) (fun t104_68 w =>
   guardW (some t104_68, true) (fun k w => k t67_37 w) (fun t106_69 w =>
   guardW (some t104_68, true) (fun k w => k i_60 w) (fun t107_70 w =>
   guardW (some t104_68, true) (fun k w => opW Try.prog (Instr.indexAt 26 t106_69 t107_70) k w) (fun t108_71 w =>
   guardW (some t104_68, true) (fun k w => opW Try.prog (Instr.loadAt 3 t108_71) k w) (fun t109_72 w =>
   guardW (some t104_68, true) (fun k w => opW Try.prog (binS BinOp.gtr 3 (Operand.tmp 109) (Operand.const (Value.int IntKind.i64 0)) t109_72 (Value.int IntKind.i64 0)) k w) (fun t110_73 w =>
   pickW t104_68 t110_73 (Value.bool false) (fun t111_74 w =>
   condW t111_74
   (opW Try.prog (binS BinOp.add 3 (Operand.tmp 112) (Operand.const (Value.int IntKind.i64 1)) waiting_59 (Value.int IntKind.i64 1)) (fun t113_75 w =>
   J_64 t113_75 w) w)
   (J_64 waiting_59 w)) w) w) w) w) w) w) w) w) w) w))
   (opW Try.prog (Instr.indexAt 26 t30_8 t_53) (fun t116_78 w =>
   opW Try.prog (Instr.loadAt 3 t116_78) (fun t117_79 w =>
   opW Try.prog (binS BinOp.lss 3 (Operand.tmp 118) (Operand.const (Value.int IntKind.i64 0)) t117_79 (Value.int IntKind.i64 0)) (fun t119_80 w =>
   condW t119_80
   (opW Try.prog (binS BinOp.gtr 3 (Operand.tmp 120) (Operand.const (Value.int IntKind.i64 0)) waiting_59 (Value.int IntKind.i64 0)) (fun t121_81 w =>
   condW t121_81
   (k (Value.bool false) w)
   (J_57 w)) w)
   (opW Try.prog (Builtin.len_ #[23] 3 #[t25_6]) (fun t124_82 w =>
   opW Try.prog (binS BinOp.geq 3 (Operand.tmp 122) (Operand.tmp 124) t117_79 t124_82) (fun t125_83 w =>
   condW t125_83
   (k (Value.bool false) w)
   (opW Try.prog (Instr.indexAt 23 t25_6 t117_79) (fun t128_84 w =>
   opW Try.prog (Instr.fieldAt 31 t128_84 1) (fun t129_85 w =>
   opW Try.prog (Instr.loadAt 3 t129_85) (fun t130_86 w =>
   opW Try.prog (binS BinOp.gtr 3 (Operand.tmp 130) (Operand.tmp 131) t130_86 t_53) (fun t132_87 w =>
   guardW (some t132_87, false) (fun k w => k t67_37 w) (fun t134_88 w =>
   guardW (some t132_87, false) (fun k w => k t117_79 w) (fun t135_89 w =>
   guardW (some t132_87, false) (fun k w => opW Try.prog (Instr.indexAt 26 t134_88 t135_89) k w) (fun t136_90 w =>
   guardW (some t132_87, false) (fun k w => opW Try.prog (Instr.loadAt 3 t136_90) k w) (fun t137_91 w =>
   guardW (some t132_87, false) (fun k w => opW Try.prog (binS BinOp.eql 3 (Operand.tmp 137) (Operand.const (Value.int IntKind.i64 0)) t137_91 (Value.int IntKind.i64 0)) k w) (fun t138_92 w =>
   pickW t132_87 (Value.bool true) t138_92 (fun t139_93 w =>
   condW t139_93
   (k (Value.bool false) w)
   (opW Try.prog (Instr.indexAt 26 t67_37 t117_79) (fun t142_94 w =>
   opW Try.prog (Instr.loadAt 3 t142_94) (fun t143_95 w =>
   opW Try.prog (binS BinOp.sub 3 (Operand.tmp 143) (Operand.const (Value.int IntKind.i64 1)) t143_95 (Value.int IntKind.i64 1)) (fun t144_96 w =>
   opW Try.prog (Instr.indexAt 26 t67_37 t117_79) (fun t145_97 w =>
   opU Try.prog (Instr.storeAt 3 t145_97 t144_96) (fun _ w =>
   opW Try.prog (Instr.indexAt 26 t67_37 t117_79) (fun t148_98 w =>
   opW Try.prog (Instr.loadAt 3 t148_98) (fun t149_99 w =>
   opW Try.prog (binS BinOp.eql 3 (Operand.tmp 149) (Operand.const (Value.int IntKind.i64 0)) t149_99 (Value.int IntKind.i64 0)) (fun t150_100 w =>
   guardW (some t150_100, true) (fun k w => k t36_11 w) (fun t152_101 w =>
   guardW (some t150_100, true) (fun k w => k t117_79 w) (fun t153_102 w =>
   guardW (some t150_100, true) (fun k w => opW Try.prog (Instr.indexAt 26 t152_101 t153_102) k w) (fun t154_103 w =>
   guardW (some t150_100, true) (fun k w => opW Try.prog (Instr.loadAt 3 t154_103) k w) (fun t155_104 w =>
   guardW (some t150_100, true) (fun k w => k t_53 w) (fun t156_105 w =>
   guardW (some t150_100, true) (fun k w => opW Try.prog (binS BinOp.add 3 (Operand.tmp 156) (Operand.const (Value.int IntKind.i64 1)) t156_105 (Value.int IntKind.i64 1)) k w) (fun t157_106 w =>
   guardW (some t150_100, true) (fun k w => opW Try.prog (binS BinOp.neq 3 (Operand.tmp 155) (Operand.tmp 157) t155_104 t157_106) k w) (fun t158_107 w =>
   pickW t150_100 t158_107 (Value.bool false) (fun t159_108 w =>
   condW t159_108
   (k (Value.bool false) w)
   (J_57 w)) w) w) w) w) w) w) w) w) w) w) w) w) w) w) w) w)) w) w) w) w) w) w) w) w) w) w)) w) w)) w) w) w)) w) w) (Value.int IntKind.i64 0) (Value.int IntKind.i64 0) w))
   (Loop1 (fun i_111 w K_112 =>
   opW Try.prog (Builtin.len_ #[23] 3 #[t25_6]) (fun t162_113 w =>
   opW Try.prog (binS BinOp.lss 3 (Operand.tmp 160) (Operand.tmp 162) i_111 t162_113) (fun t163_114 w =>
   condW t163_114
   (Loop1 (fun k_117 w K_118 =>
   opW Try.prog (binS BinOp.lss 3 (Operand.tmp 166) (Operand.tmp 167) k_117 i_111) (fun t168_119 w =>
   condW t168_119
   (drewW w (fun w =>
   takeW Try.prog anyW (Instr.indexAt 23 t25_6 k_117) (fun t173_122 =>
   takeW Try.prog anyW (Instr.fieldAt 31 t173_122 0) (fun t174_123 =>
   takeW Try.prog (sameW w) (Instr.loadAt 3 t174_123) (fun t175_124 =>
   takeW Try.prog anyW (Instr.indexAt 23 t25_6 i_111) (fun t178_125 =>
   takeW Try.prog anyW (Instr.fieldAt 31 t178_125 0) (fun t179_126 =>
   takeW Try.prog (sameW w) (Instr.loadAt 3 t179_126) (fun t180_127 =>
   takeW Try.prog anyW (binS BinOp.eql 3 (Operand.tmp 175) (Operand.tmp 180) t175_124 t180_127) (fun t181_128 =>
   guardT (some t181_128, true) (fun k => k t36_11) (fun t183_129 =>
   guardT (some t181_128, true) (fun k => k k_117) (fun t184_130 =>
   guardT (some t181_128, true) (fun k => takeW Try.prog anyW (Instr.indexAt 26 t183_129 t184_130) k w) (fun t185_131 =>
   guardT (some t181_128, true) (fun k => takeW Try.prog (sameW w) (Instr.loadAt 3 t185_131) k w) (fun t186_132 =>
   guardT (some t181_128, true) (fun k => k t36_11) (fun t187_133 =>
   guardT (some t181_128, true) (fun k => k i_111) (fun t188_134 =>
   guardT (some t181_128, true) (fun k => takeW Try.prog anyW (Instr.indexAt 26 t187_133 t188_134) k w) (fun t189_135 =>
   guardT (some t181_128, true) (fun k => takeW Try.prog (sameW w) (Instr.loadAt 3 t189_135) k w) (fun t190_136 =>
   guardT (some t181_128, true) (fun k => takeW Try.prog anyW (binS BinOp.geq 3 (Operand.tmp 186) (Operand.tmp 190) t186_132 t190_136) k w) (fun t191_137 =>
   pickT t181_128 t191_137 (Value.bool false) (fun t192_138 =>
   condW t192_138
   (k (Value.bool false) w)
   (opW Try.prog (binS BinOp.add 3 (Operand.tmp 169) (Operand.const (Value.int IntKind.i64 1)) k_117 (Value.int IntKind.i64 1)) (fun t170_139 w =>
   loopK [] [] [t25_6, t36_11, t67_37, i_111] [t25_6, t36_11, t67_37, i_111] (K_118 t170_139 w)) w)))))))))))) w) w) w) w) w) w) w))
   (opW Try.prog (Instr.indexAt 26 t67_37 i_111) (fun t195_140 w =>
   opW Try.prog (Instr.loadAt 3 t195_140) (fun t196_141 w =>
   opW Try.prog (binS BinOp.neq 3 (Operand.tmp 196) (Operand.const (Value.int IntKind.i64 0)) t196_141 (Value.int IntKind.i64 0)) (fun t197_142 w =>
   condW t197_142
   (k (Value.bool false) w)
   (opW Try.prog (binS BinOp.add 3 (Operand.tmp 164) (Operand.const (Value.int IntKind.i64 1)) i_111 (Value.int IntKind.i64 1)) (fun t165_143 w =>
   loopK [] [] [t25_6, t36_11, t67_37] [t25_6, t36_11, t67_37] (K_112 t165_143 w)) w)) w) w) w)) w) (Value.int IntKind.i64 0) w)
   (k (Value.bool true) w)) w) w) (Value.int IntKind.i64 0) w)) w) w) (Value.int IntKind.i64 0) w)) w) w) (Value.int IntKind.i64 0) w) w) w)) w) w) w) w) w) w) w) w) w) w) w) w) w) w) w) w) w) w) w) w) w) w) w) w) w) w) w) w) w) w) w)) w) w
theorem S7_vc (x_1 y_2 : Value) (k : Value → World → Prop) (w : World) : vc Try.prog Try.f7.ntmps ann7 none ((Try.f7.body).getD Code.skip) 1 (params 0 [x_1, y_2]) [] (finQ Try.prog Try.f7.results.toList k) w = S7 x_1 y_2 k w := by kernel_rfl
theorem S7_calls (x_1 y_2 : Value) (k : Value → World → Prop) (w : World) (h : S7 x_1 y_2 k w) : Calls Try.prog 7 #[x_1, y_2] w (retP k) :=
  calls_of_vc (fn := Try.f7) (c := (Try.f7.body).getD Code.skip) ann7 Try.func7 (by kernel_rfl) [x_1, y_2] w k (by kernel_rfl) ((S7_vc x_1 y_2 k w).symm ▸ h)
theorem C7 (x_1 y_2 : Value) (k : Value → World → Prop) (w : World) (h : S7 x_1 y_2 k w) : callW Try.prog (.func (.func 7) #[] #[]) #[x_1, y_2] k w :=
  callW_calls ok7 (by simpa using S7_calls x_1 y_2 k w h)

/-! newswire/newswirelaw24.SchedFair -/
def ann8 : Ann := [(125, Note.keep [0, 1, 7, 8]), (250, Note.loop [7, 9] [0, 1, 2, 8]), (253, Note.keep [0, 1, 7, 8]), (506, Note.loop [8, 10] [0, 1, 7]), (2002, Note.keep [0, 1, 2, 7, 8, 9]), (4050, Note.keep [0, 1, 7, 8, 10]), (65533, Note.keep [11, 18, 19]), (131066, Note.loop [18, 19, 20] [7, 11, 12, 14, 16]), (1048530, Note.keep [7, 11, 12, 14, 16, 18, 19, 20]), (67105948, Note.plan (Plan.takeP 0 (Plan.takeP 1 (Plan.takeP 2 (Plan.takeX 3 (Plan.takeP 4 (Plan.takeP 5 (Plan.takeP 6 (Plan.takeP 7 (Plan.takeP 8 (Plan.takeX 9 (Plan.takeP 10 (Plan.takeP 11 (Plan.takeP 12 (Plan.takeX 13 (Plan.takeP 14 (Plan.takeP 15 (Plan.takeP 16 (Plan.takeP 17 (Plan.takeP 18 (Plan.takeP 19 (Plan.takeX 20 (Plan.takeP 21 (Plan.takeP 22 (Plan.takeP 23 (Plan.takeX 24 (Plan.takeP 25 (Plan.takeP 26 (Plan.takeP 27 (Plan.takeP 28 (Plan.takeP 29 (Plan.takeP 30 (Plan.takeP 31 (Plan.takeX 32 (Plan.takeP 33 (Plan.takeP 34 (Plan.takeP 35 (Plan.takeP 36 (Plan.takeP 37 (Plan.takeP 38 (Plan.takeP 39 (Plan.takeP 40 (Plan.takeX 41 (Plan.takeP 42 (Plan.takeP 43 (Plan.takeP 44 Plan.done)))))))))))))))))))))))))))))))))))))))))))))), (67105951, Note.keep [7, 11, 12, 14, 16, 18, 19, 20]), (134211902, Note.loop [22] [7, 11, 12, 14, 16, 18, 19, 20]), (1073695218, Note.keep [7, 11, 12, 14, 16, 18, 19, 20, 22]), (4294780872, Note.plan (Plan.takeP 0 (Plan.takeP 1 (Plan.takeP 2 (Plan.takeX 3 (Plan.takeP 4 (Plan.takeP 5 (Plan.takeP 6 (Plan.takeX 7 (Plan.takeP 8 (Plan.takeP 9 (Plan.takeP 10 (Plan.takeP 11 (Plan.takeP 12 (Plan.takeX 13 (Plan.takeP 14 (Plan.takeP 15 (Plan.takeP 16 (Plan.takeX 17 (Plan.takeP 18 (Plan.takeP 19 (Plan.takeP 20 Plan.done))))))))))))))))))))))]
def S8 (bytes_1 more_2 wants_3 : Value) (k : Value → World → Prop) (w : World) : Prop :=
   callW Try.prog (Value.func (Fn.func 9) #[] #[]) #[] (fun t23_4 w =>
   opW Try.prog (Op.unary UnOp.not t23_4) (fun t24_5 w =>
   condW t24_5
   (k (Value.bool false) w)
   (Loop2 (fun w_7 i_8 w K_9 =>
   opW Try.prog (Builtin.len_ #[26] 3 #[wants_3]) (fun t27_10 w =>
   opW Try.prog (binS BinOp.lss 3 (Operand.tmp 25) (Operand.tmp 27) i_8 t27_10) (fun t28_11 w =>
   guardW (some t28_11, true) (fun k w => k i_8 w) (fun t30_12 w =>
   guardW (some t28_11, true) (fun k w => opW Try.prog (binS BinOp.lss 3 (Operand.tmp 30) (Operand.const (Value.int IntKind.i64 8)) t30_12 (Value.int IntKind.i64 8)) k w) (fun t31_13 w =>
   pickW t28_11 t31_13 (Value.bool false) (fun t32_14 w =>
   condW t32_14
   (opW Try.prog (Instr.indexAt 26 wants_3 i_8) (fun t38_16 w =>
   opW Try.prog (Instr.loadAt 3 t38_16) (fun t39_17 w =>
   callW Try.prog (Value.func (Fn.func 12) #[] #[]) #[t39_17, (Value.int IntKind.i64 2001)] (fun t40_18 w =>
   opW Try.prog (Instr.buildSlice 26 1 #[(0, t40_18)]) (fun t41_19 w =>
   opW Try.prog (Builtin.append_ #[26, 26] 26 #[w_7, t41_19]) (fun t42_20 w =>
   opW Try.prog (binS BinOp.add 3 (Operand.tmp 33) (Operand.const (Value.int IntKind.i64 1)) i_8 (Value.int IntKind.i64 1)) (fun t34_21 w =>
   loopK [] [] [bytes_1, more_2, wants_3, (Value.slice none 0 0)] [bytes_1, more_2, wants_3, (Value.slice none 0 0)] (K_9 t42_20 t34_21 w)) w) w) w) w) w) w)
   (opW Try.prog (Builtin.len_ #[26] 3 #[w_7]) (fun t44_22 w =>
   opW Try.prog (binS BinOp.sub 3 (Operand.tmp 44) (Operand.const (Value.int IntKind.i64 1)) t44_22 (Value.int IntKind.i64 1)) (fun t45_23 w =>
   Loop2 (fun turned_25 i_26 w K_27 =>
   opW Try.prog (binS BinOp.geq 3 (Operand.tmp 46) (Operand.const (Value.int IntKind.i64 0)) i_26 (Value.int IntKind.i64 0)) (fun t47_28 w =>
   condW t47_28
   (opW Try.prog (Instr.indexAt 26 w_7 i_26) (fun t53_30 w =>
   opW Try.prog (Instr.loadAt 3 t53_30) (fun t54_31 w =>
   opW Try.prog (Instr.buildSlice 26 1 #[(0, t54_31)]) (fun t55_32 w =>
   opW Try.prog (Builtin.append_ #[26, 26] 26 #[turned_25, t55_32]) (fun t56_33 w =>
   opW Try.prog (binS BinOp.sub 3 (Operand.tmp 48) (Operand.const (Value.int IntKind.i64 1)) i_26 (Value.int IntKind.i64 1)) (fun t49_34 w =>
   loopK [] [] [bytes_1, more_2, w_7] [bytes_1, more_2, w_7] (K_27 t56_33 t49_34 w)) w) w) w) w) w)
   (callW Try.prog (Value.func (Fn.func 12) #[] #[]) #[bytes_1, (Value.int IntKind.i64 9001)] (fun t58_35 w =>
   callW Try.prog (Value.func (Fn.func 24) #[] #[]) #[t58_35, w_7] (fun t62_36 w =>
   opW Try.prog (Instr.extract t62_36 0) (fun t63_37 w =>
   opW Try.prog (Instr.extract t62_36 1) (fun t64_38 w =>
   callW Try.prog (Value.func (Fn.func 12) #[] #[]) #[more_2, (Value.int IntKind.i64 500)] (fun t68_39 w =>
   opW Try.prog (binS BinOp.add 3 (Operand.tmp 66) (Operand.tmp 68) t58_35 t68_39) (fun t69_40 w =>
   callW Try.prog (Value.func (Fn.func 24) #[] #[]) #[t69_40, w_7] (fun t71_41 w =>
   opW Try.prog (Instr.extract t71_41 0) (fun t72_42 w =>
   opW Try.prog (Instr.extract t71_41 1) (fun t73_43 w =>
   callW Try.prog (Value.func (Fn.func 24) #[] #[]) #[t58_35, turned_25] (fun t77_44 w =>
   opW Try.prog (Instr.extract t77_44 0) (fun t78_45 w =>
   opW Try.prog (Instr.extract t77_44 1) (fun t79_46 w =>
   opW Try.prog (binS BinOp.neq 36 (Operand.tmp 80) (Operand.const (Value.int IntKind.i64 0)) t64_38 (Value.int IntKind.i64 0)) (fun t81_47 w =>
   guardW (some t81_47, false) (fun k w => k t73_43 w) (fun t83_48 w =>
   guardW (some t81_47, false) (fun k w => opW Try.prog (binS BinOp.neq 36 (Operand.tmp 83) (Operand.const (Value.int IntKind.i64 0)) t83_48 (Value.int IntKind.i64 0)) k w) (fun t84_49 w =>
   pickW t81_47 (Value.bool true) t84_49 (fun t85_50 w =>
   guardW (some t85_50, false) (fun k w => k t79_46 w) (fun t87_51 w =>
   guardW (some t85_50, false) (fun k w => opW Try.prog (binS BinOp.neq 36 (Operand.tmp 87) (Operand.const (Value.int IntKind.i64 0)) t87_51 (Value.int IntKind.i64 0)) k w) (fun t88_52 w =>
   pickW t85_50 (Value.bool true) t88_52 (fun t89_53 w =>
   guardW (some t89_53, false) (fun k w => k t63_37 w) (fun t91_54 w =>
   guardW (some t89_53, false) (fun k w => opW Try.prog (Builtin.len_ #[26] 3 #[t91_54]) k w) (fun t92_55 w =>
   guardW (some t89_53, false) (fun k w => k w_7 w) (fun t93_56 w =>
   guardW (some t89_53, false) (fun k w => opW Try.prog (Builtin.len_ #[26] 3 #[t93_56]) k w) (fun t94_57 w =>
   guardW (some t89_53, false) (fun k w => opW Try.prog (binS BinOp.neq 3 (Operand.tmp 92) (Operand.tmp 94) t92_55 t94_57) k w) (fun t95_58 w =>
   pickW t89_53 (Value.bool true) t95_58 (fun t96_59 w =>
   guardW (some t96_59, false) (fun k w => k t72_42 w) (fun t98_60 w =>
   guardW (some t96_59, false) (fun k w => opW Try.prog (Builtin.len_ #[26] 3 #[t98_60]) k w) (fun t99_61 w =>
   guardW (some t96_59, false) (fun k w => k w_7 w) (fun t100_62 w =>
   guardW (some t96_59, false) (fun k w => opW Try.prog (Builtin.len_ #[26] 3 #[t100_62]) k w) (fun t101_63 w =>
   guardW (some t96_59, false) (fun k w => opW Try.prog (binS BinOp.neq 3 (Operand.tmp 99) (Operand.tmp 101) t99_61 t101_63) k w) (fun t102_64 w =>
   pickW t96_59 (Value.bool true) t102_64 (fun t103_65 w =>
   guardW (some t103_65, false) (fun k w => k t78_45 w) (fun t105_66 w =>
   guardW (some t103_65, false) (fun k w => opW Try.prog (Builtin.len_ #[26] 3 #[t105_66]) k w) (fun t106_67 w =>
   guardW (some t103_65, false) (fun k w => k w_7 w) (fun t107_68 w =>
   guardW (some t103_65, false) (fun k w => opW Try.prog (Builtin.len_ #[26] 3 #[t107_68]) k w) (fun t108_69 w =>
   guardW (some t103_65, false) (fun k w => opW Try.prog (binS BinOp.neq 3 (Operand.tmp 106) (Operand.tmp 108) t106_67 t108_69) k w) (fun t109_70 w =>
   pickW t103_65 (Value.bool true) t109_70 (fun t110_71 w =>
   condW t110_71
   (k (Value.bool false) w)
   (Loop3 (fun sum_73 wanted_74 i_75 w K_76 =>
   opW Try.prog (Builtin.len_ #[26] 3 #[w_7]) (fun t113_77 w =>
   opW Try.prog (binS BinOp.lss 3 (Operand.tmp 111) (Operand.tmp 113) i_75 t113_77) (fun t114_78 w =>
   condW t114_78
   (opW Try.prog (Instr.indexAt 26 t63_37 i_75) (fun t120_80 w =>
   opW Try.prog (Instr.loadAt 3 t120_80) (fun t121_81 w =>
   opW Try.prog (binS BinOp.add 3 (Operand.tmp 117) (Operand.tmp 121) sum_73 t121_81) (fun t122_82 w =>
   opW Try.prog (Instr.indexAt 26 w_7 i_75) (fun t126_83 w =>
   opW Try.prog (Instr.loadAt 3 t126_83) (fun t127_84 w =>
   opW Try.prog (binS BinOp.add 3 (Operand.tmp 123) (Operand.tmp 127) wanted_74 t127_84) (fun t128_85 w =>
   opW Try.prog (Builtin.len_ #[26] 3 #[w_7]) (fun t131_86 w =>
   opW Try.prog (binS BinOp.sub 3 (Operand.tmp 131) (Operand.const (Value.int IntKind.i64 1)) t131_86 (Value.int IntKind.i64 1)) (fun t132_87 w =>
   opW Try.prog (binS BinOp.sub 3 (Operand.tmp 132) (Operand.tmp 133) t132_87 i_75) (fun t134_88 w =>
   opW Try.prog (Instr.indexAt 26 t78_45 t134_88) (fun t135_89 w =>
   opW Try.prog (Instr.loadAt 3 t135_89) (fun t136_90 w =>
   drewW w (fun w =>
   takeW Try.prog anyW (Instr.indexAt 26 t63_37 i_75) (fun t139_92 =>
   takeW Try.prog (sameW w) (Instr.loadAt 3 t139_92) (fun t140_93 =>
   takeW Try.prog anyW (binS BinOp.lss 3 (Operand.tmp 140) (Operand.const (Value.int IntKind.i64 0)) t140_93 (Value.int IntKind.i64 0)) (fun t141_94 =>
   guardT (some t141_94, false) (fun k => k t63_37) (fun t143_95 =>
   guardT (some t141_94, false) (fun k => k i_75) (fun t144_96 =>
   guardT (some t141_94, false) (fun k => takeW Try.prog anyW (Instr.indexAt 26 t143_95 t144_96) k w) (fun t145_97 =>
   guardT (some t141_94, false) (fun k => takeW Try.prog (sameW w) (Instr.loadAt 3 t145_97) k w) (fun t146_98 =>
   guardT (some t141_94, false) (fun k => k w_7) (fun t147_99 =>
   guardT (some t141_94, false) (fun k => k i_75) (fun t148_100 =>
   guardT (some t141_94, false) (fun k => takeW Try.prog anyW (Instr.indexAt 26 t147_99 t148_100) k w) (fun t149_101 =>
   guardT (some t141_94, false) (fun k => takeW Try.prog (sameW w) (Instr.loadAt 3 t149_101) k w) (fun t150_102 =>
   guardT (some t141_94, false) (fun k => takeW Try.prog anyW (binS BinOp.gtr 3 (Operand.tmp 146) (Operand.tmp 150) t146_98 t150_102) k w) (fun t151_103 =>
   pickT t141_94 (Value.bool true) t151_103 (fun t152_104 =>
   guardT (some t152_104, false) (fun k => k t72_42) (fun t154_105 =>
   guardT (some t152_104, false) (fun k => k i_75) (fun t155_106 =>
   guardT (some t152_104, false) (fun k => takeW Try.prog anyW (Instr.indexAt 26 t154_105 t155_106) k w) (fun t156_107 =>
   guardT (some t152_104, false) (fun k => takeW Try.prog (sameW w) (Instr.loadAt 3 t156_107) k w) (fun t157_108 =>
   guardT (some t152_104, false) (fun k => k t63_37) (fun t158_109 =>
   guardT (some t152_104, false) (fun k => k i_75) (fun t159_110 =>
   guardT (some t152_104, false) (fun k => takeW Try.prog anyW (Instr.indexAt 26 t158_109 t159_110) k w) (fun t160_111 =>
   guardT (some t152_104, false) (fun k => takeW Try.prog (sameW w) (Instr.loadAt 3 t160_111) k w) (fun t161_112 =>
   guardT (some t152_104, false) (fun k => takeW Try.prog anyW (binS BinOp.lss 3 (Operand.tmp 157) (Operand.tmp 161) t157_108 t161_112) k w) (fun t162_113 =>
   pickT t152_104 (Value.bool true) t162_113 (fun t163_114 =>
   guardT (some t163_114, false) (fun k => k t136_90) (fun t165_115 =>
   guardT (some t163_114, false) (fun k => k t63_37) (fun t166_116 =>
   guardT (some t163_114, false) (fun k => k i_75) (fun t167_117 =>
   guardT (some t163_114, false) (fun k => takeW Try.prog anyW (Instr.indexAt 26 t166_116 t167_117) k w) (fun t168_118 =>
   guardT (some t163_114, false) (fun k => takeW Try.prog (sameW w) (Instr.loadAt 3 t168_118) k w) (fun t169_119 =>
   guardT (some t163_114, false) (fun k => takeW Try.prog anyW (binS BinOp.add 3 (Operand.tmp 169) (Operand.const (Value.int IntKind.i64 1)) t169_119 (Value.int IntKind.i64 1)) k w) (fun t170_120 =>
   guardT (some t163_114, false) (fun k => takeW Try.prog anyW (binS BinOp.gtr 3 (Operand.tmp 165) (Operand.tmp 170) t165_115 t170_120) k w) (fun t171_121 =>
   pickT t163_114 (Value.bool true) t171_121 (fun t172_122 =>
   guardT (some t172_122, false) (fun k => k t136_90) (fun t174_123 =>
   guardT (some t172_122, false) (fun k => k t63_37) (fun t175_124 =>
   guardT (some t172_122, false) (fun k => k i_75) (fun t176_125 =>
   guardT (some t172_122, false) (fun k => takeW Try.prog anyW (Instr.indexAt 26 t175_124 t176_125) k w) (fun t177_126 =>
   guardT (some t172_122, false) (fun k => takeW Try.prog (sameW w) (Instr.loadAt 3 t177_126) k w) (fun t178_127 =>
   guardT (some t172_122, false) (fun k => takeW Try.prog anyW (binS BinOp.sub 3 (Operand.tmp 178) (Operand.const (Value.int IntKind.i64 1)) t178_127 (Value.int IntKind.i64 1)) k w) (fun t179_128 =>
   guardT (some t172_122, false) (fun k => takeW Try.prog anyW (binS BinOp.lss 3 (Operand.tmp 174) (Operand.tmp 179) t174_123 t179_128) k w) (fun t180_129 =>
   pickT t172_122 (Value.bool true) t180_129 (fun t181_130 =>
   condW t181_130
   (k (Value.bool false) w)
   (Loop1 (fun k_132 w K_133 =>
   opW Try.prog (Builtin.len_ #[26] 3 #[w_7]) (fun t184_134 w =>
   opW Try.prog (binS BinOp.lss 3 (Operand.tmp 182) (Operand.tmp 184) k_132 t184_134) (fun t185_135 w =>
   condW t185_135
   (drewW w (fun w =>
   takeW Try.prog anyW (Instr.indexAt 26 t63_37 k_132) (fun t190_138 =>
   takeW Try.prog (sameW w) (Instr.loadAt 3 t190_138) (fun t191_139 =>
   takeW Try.prog anyW (Instr.indexAt 26 w_7 k_132) (fun t194_140 =>
   takeW Try.prog (sameW w) (Instr.loadAt 3 t194_140) (fun t195_141 =>
   takeW Try.prog anyW (binS BinOp.lss 3 (Operand.tmp 191) (Operand.tmp 195) t191_139 t195_141) (fun t196_142 =>
   guardT (some t196_142, true) (fun k => k t63_37) (fun t198_143 =>
   guardT (some t196_142, true) (fun k => k i_75) (fun t199_144 =>
   guardT (some t196_142, true) (fun k => takeW Try.prog anyW (Instr.indexAt 26 t198_143 t199_144) k w) (fun t200_145 =>
   guardT (some t196_142, true) (fun k => takeW Try.prog (sameW w) (Instr.loadAt 3 t200_145) k w) (fun t201_146 =>
   guardT (some t196_142, true) (fun k => k t63_37) (fun t202_147 =>
   guardT (some t196_142, true) (fun k => k k_132) (fun t203_148 =>
   guardT (some t196_142, true) (fun k => takeW Try.prog anyW (Instr.indexAt 26 t202_147 t203_148) k w) (fun t204_149 =>
   guardT (some t196_142, true) (fun k => takeW Try.prog (sameW w) (Instr.loadAt 3 t204_149) k w) (fun t205_150 =>
   guardT (some t196_142, true) (fun k => takeW Try.prog anyW (binS BinOp.add 3 (Operand.tmp 205) (Operand.const (Value.int IntKind.i64 1)) t205_150 (Value.int IntKind.i64 1)) k w) (fun t206_151 =>
   guardT (some t196_142, true) (fun k => takeW Try.prog anyW (binS BinOp.gtr 3 (Operand.tmp 201) (Operand.tmp 206) t201_146 t206_151) k w) (fun t207_152 =>
   pickT t196_142 t207_152 (Value.bool false) (fun t208_153 =>
   condW t208_153
   (k (Value.bool false) w)
   (opW Try.prog (binS BinOp.add 3 (Operand.tmp 186) (Operand.const (Value.int IntKind.i64 1)) k_132 (Value.int IntKind.i64 1)) (fun t187_154 w =>
   loopK [] [] [w_7, t58_35, t63_37, t72_42, t78_45, t122_82, t128_85, i_75] [w_7, t58_35, t63_37, t72_42, t78_45, t122_82, t128_85, i_75] (K_133 t187_154 w)) w))))))))))))) w) w) w) w) w))
   (opW Try.prog (binS BinOp.add 3 (Operand.tmp 115) (Operand.const (Value.int IntKind.i64 1)) i_75 (Value.int IntKind.i64 1)) (fun t116_155 w =>
   loopK [] [] [w_7, t58_35, t63_37, t72_42, t78_45] [w_7, t58_35, t63_37, t72_42, t78_45] (K_76 t122_82 t128_85 t116_155 w)) w)) w) w) (Value.int IntKind.i64 0) w)))))))))))))))))))))))))))))))))))))) w) w) w)) w) w) w) w) w) w) w) w) w) w) w)
   (opW Try.prog (Builtin.min_ #[3, 3] 3 #[t58_35, wanted_74]) (fun t212_156 w =>
   opW Try.prog (binS BinOp.eql 3 (Operand.tmp 209) (Operand.tmp 212) sum_73 t212_156) (fun t213_157 w =>
   k t213_157 w) w) w)) w) w) (Value.int IntKind.i64 0) (Value.int IntKind.i64 0) (Value.int IntKind.i64 0) w)) w) w) w) w) w) w) w) w) w) w) w) w) w) w) w) w) w) w) w) w) w) w) w) w) w) w) w) w) w) w) w) w) w) w) w) w) w)) w) (Value.slice none 0 0) t45_23 w) w) w)) w) w) w) w) w) (Value.slice none 0 0) (Value.int IntKind.i64 0) w)) w) w
theorem S8_vc (bytes_1 more_2 wants_3 : Value) (k : Value → World → Prop) (w : World) : vc Try.prog Try.f8.ntmps ann8 none ((Try.f8.body).getD Code.skip) 1 (params 0 [bytes_1, more_2, wants_3]) [] (finQ Try.prog Try.f8.results.toList k) w = S8 bytes_1 more_2 wants_3 k w := by kernel_rfl
theorem S8_calls (bytes_1 more_2 wants_3 : Value) (k : Value → World → Prop) (w : World) (h : S8 bytes_1 more_2 wants_3 k w) : Calls Try.prog 8 #[bytes_1, more_2, wants_3] w (retP k) :=
  calls_of_vc (fn := Try.f8) (c := (Try.f8.body).getD Code.skip) ann8 Try.func8 (by kernel_rfl) [bytes_1, more_2, wants_3] w k (by kernel_rfl) ((S8_vc bytes_1 more_2 wants_3 k w).symm ▸ h)
theorem C8 (bytes_1 more_2 wants_3 : Value) (k : Value → World → Prop) (w : World) (h : S8 bytes_1 more_2 wants_3 k w) : callW Try.prog (.func (.func 8) #[] #[]) #[bytes_1, more_2, wants_3] k w :=
  callW_calls ok8 (by simpa using S8_calls bytes_1 more_2 wants_3 k w h)

/-! newswire/newswirelaw24.sane -/
def ann9 : Ann := []
def S9 (k : Value → World → Prop) (w : World) : Prop :=
   callW Try.prog (Value.func (Fn.func 28) #[] #[]) #[] (fun t18_1 w =>
   opW Try.prog (Instr.build 31 #[(0, (Value.int IntKind.i64 0)), (1, (Value.int IntKind.i64 0))]) (fun t19_2 w =>
   opW Try.prog (Instr.build 31 #[(0, (Value.int IntKind.i64 1)), (1, (Value.int IntKind.i64 1))]) (fun t20_3 w =>
   opW Try.prog (Instr.buildSlice 23 2 #[(0, t19_2), (1, t20_3)]) (fun t21_4 w =>
   callW Try.prog (Value.func (Fn.func 18) #[] #[]) #[t18_1, t21_4] (fun t25_5 w =>
   opW Try.prog (Instr.extract t25_5 0) (fun t26_6 w =>
   opW Try.prog (Instr.extract t25_5 1) (fun t27_7 w =>
   callW Try.prog (Value.func (Fn.func 20) #[] #[]) #[t18_1, t21_4] (fun t31_8 w =>
   opW Try.prog (Instr.extract t31_8 0) (fun t32_9 w =>
   opW Try.prog (Instr.extract t31_8 1) (fun t33_10 w =>
   callW Try.prog (Value.func (Fn.func 13) #[] #[]) #[t18_1] (fun t36_11 w =>
   opW Try.prog (Instr.extract t36_11 0) (fun t37_12 w =>
   opW Try.prog (Instr.extract t36_11 1) (fun t38_13 w =>
   opW Try.prog (Instr.build 34 #[(0, (Value.int IntKind.i64 3)), (1, (Value.int IntKind.i64 10)), (2, (Value.int IntKind.i64 20))]) (fun t40_14 w =>
   opW Try.prog (Instr.build 34 #[(0, (Value.int IntKind.i64 1)), (1, (Value.int IntKind.i64 2)), (2, (Value.int IntKind.i64 10))]) (fun t41_15 w =>
   opW Try.prog (Instr.buildSlice 22 2 #[(0, t40_14), (1, t41_15)]) (fun t42_16 w =>
   callW Try.prog (Value.func (Fn.func 13) #[] #[]) #[t42_16] (fun t43_17 w =>
   opW Try.prog (Instr.extract t43_17 0) (fun t44_18 w =>
   opW Try.prog (Instr.extract t43_17 1) (fun t45_19 w =>
   opW Try.prog (Instr.build 34 #[(0, (Value.int IntKind.i64 3)), (1, (Value.int IntKind.i64 10)), (2, (Value.int IntKind.i64 12))]) (fun t47_20 w =>
   opW Try.prog (Instr.build 34 #[(0, (Value.int IntKind.i64 1)), (1, (Value.int IntKind.i64 2)), (2, (Value.int IntKind.i64 10))]) (fun t48_21 w =>
   opW Try.prog (Instr.buildSlice 22 2 #[(0, t47_20), (1, t48_21)]) (fun t49_22 w =>
   callW Try.prog (Value.func (Fn.func 13) #[] #[]) #[t49_22] (fun t50_23 w =>
   opW Try.prog (Instr.extract t50_23 0) (fun t51_24 w =>
   opW Try.prog (Instr.extract t50_23 1) (fun t52_25 w =>
   opW Try.prog (Instr.buildSlice 26 3 #[(0, (Value.int IntKind.i64 2)), (1, (Value.int IntKind.i64 9)), (2, (Value.int IntKind.i64 9))]) (fun t54_26 w =>
   callW Try.prog (Value.func (Fn.func 24) #[] #[]) #[(Value.int IntKind.i64 11), t54_26] (fun t55_27 w =>
   opW Try.prog (Instr.extract t55_27 0) (fun t56_28 w =>
   opW Try.prog (Instr.extract t55_27 1) (fun t57_29 w =>
   callW Try.prog (Value.func (Fn.func 24) #[] #[]) #[(Value.int IntKind.i64 (-1)), (Value.slice none 0 0)] (fun t59_30 w =>
   opW Try.prog (Instr.extract t59_30 0) (fun t60_31 w =>
   opW Try.prog (Instr.extract t59_30 1) (fun t61_32 w =>
   opW Try.prog (binS BinOp.eql 36 (Operand.tmp 62) (Operand.const (Value.int IntKind.i64 0)) t27_7 (Value.int IntKind.i64 0)) (fun t63_33 w =>
   guardW (some t63_33, true) (fun k w => k t33_10 w) (fun t65_34 w =>
   guardW (some t63_33, true) (fun k w => opW Try.prog (binS BinOp.eql 36 (Operand.tmp 65) (Operand.const (Value.int IntKind.i64 0)) t65_34 (Value.int IntKind.i64 0)) k w) (fun t66_35 w =>
   pickW t63_33 t66_35 (Value.bool false) (fun t67_36 w =>
   guardW (some t67_36, true) (fun k w => k t38_13 w) (fun t69_37 w =>
   guardW (some t67_36, true) (fun k w => opW Try.prog (binS BinOp.eql 36 (Operand.tmp 69) (Operand.const (Value.int IntKind.i64 0)) t69_37 (Value.int IntKind.i64 0)) k w) (fun t70_38 w =>
   pickW t67_36 t70_38 (Value.bool false) (fun t71_39 w =>
   guardW (some t71_39, true) (fun k w => k t45_19 w) (fun t73_40 w =>
   guardW (some t71_39, true) (fun k w => opW Try.prog (binS BinOp.eql 36 (Operand.tmp 73) (Operand.const (Value.int IntKind.i64 0)) t73_40 (Value.int IntKind.i64 0)) k w) (fun t74_41 w =>
   pickW t71_39 t74_41 (Value.bool false) (fun t75_42 w =>
   guardW (some t75_42, true) (fun k w => k t52_25 w) (fun t77_43 w =>
   guardW (some t75_42, true) (fun k w => opW Try.prog (binS BinOp.eql 36 (Operand.tmp 77) (Operand.const (Value.int IntKind.i64 0)) t77_43 (Value.int IntKind.i64 0)) k w) (fun t78_44 w =>
   pickW t75_42 t78_44 (Value.bool false) (fun t79_45 w =>
   guardW (some t79_45, true) (fun k w => k t57_29 w) (fun t81_46 w =>
   guardW (some t79_45, true) (fun k w => opW Try.prog (binS BinOp.eql 36 (Operand.tmp 81) (Operand.const (Value.int IntKind.i64 0)) t81_46 (Value.int IntKind.i64 0)) k w) (fun t82_47 w =>
   pickW t79_45 t82_47 (Value.bool false) (fun t83_48 w =>
   guardW (some t83_48, true) (fun k w => k t61_32 w) (fun t85_49 w =>
   guardW (some t83_48, true) (fun k w => opW Try.prog (binS BinOp.eql 36 (Operand.tmp 85) (Operand.const (Value.int IntKind.i64 240)) t85_49 (Value.int IntKind.i64 240)) k w) (fun t86_50 w =>
   pickW t83_48 t86_50 (Value.bool false) (fun t87_51 w =>
   guardW (some t87_51, true) (fun k w => k t26_6 w) (fun t90_52 w =>
   guardW (some t87_51, true) (fun k w => opW Try.prog (Instr.buildSlice 26 6 #[(0, (Value.int IntKind.i64 0)), (1, (Value.int IntKind.i64 1)), (2, (Value.int IntKind.i64 1)), (3, (Value.int IntKind.i64 0)), (4, (Value.int IntKind.i64 0)), (5, (Value.int IntKind.i64 0))]) k w) (fun t91_53 w =>
   guardW (some t87_51, true) (fun k w => callW Try.prog (Value.func (Fn.func 17) #[] #[]) #[t90_52, t91_53] k w) (fun t92_54 w =>
   pickW t87_51 t92_54 (Value.bool false) (fun t93_55 w =>
   guardW (some t93_55, true) (fun k w => k t32_9 w) (fun t95_56 w =>
   guardW (some t93_55, true) (fun k w => opW Try.prog (Instr.buildSlice 26 2 #[(0, (Value.int IntKind.i64 6)), (1, (Value.int IntKind.i64 3))]) k w) (fun t96_57 w =>
   guardW (some t93_55, true) (fun k w => callW Try.prog (Value.func (Fn.func 17) #[] #[]) #[t95_56, t96_57] k w) (fun t97_58 w =>
   pickW t93_55 t97_58 (Value.bool false) (fun t98_59 w =>
   guardW (some t98_59, true) (fun k w => k t37_12 w) (fun t100_60 w =>
   guardW (some t98_59, true) (fun k w => opW Try.prog (Instr.buildSlice 26 2 #[(0, (Value.int IntKind.i64 6)), (1, (Value.int IntKind.i64 2))]) k w) (fun t101_61 w =>
   guardW (some t98_59, true) (fun k w => callW Try.prog (Value.func (Fn.func 17) #[] #[]) #[t100_60, t101_61] k w) (fun t102_62 w =>
   pickW t98_59 t102_62 (Value.bool false) (fun t103_63 w =>
   guardW (some t103_63, true) (fun k w => k t44_18 w) (fun t105_64 w =>
   guardW (some t103_63, true) (fun k w => opW Try.prog (Instr.buildSlice 26 2 #[(0, (Value.int IntKind.i64 14)), (1, (Value.int IntKind.i64 2))]) k w) (fun t106_65 w =>
   guardW (some t103_63, true) (fun k w => callW Try.prog (Value.func (Fn.func 17) #[] #[]) #[t105_64, t106_65] k w) (fun t107_66 w =>
   pickW t103_63 t107_66 (Value.bool false) (fun t108_67 w =>
   guardW (some t108_67, true) (fun k w => k t51_24 w) (fun t110_68 w =>
   guardW (some t108_67, true) (fun k w => opW Try.prog (Instr.buildSlice 26 2 #[(0, (Value.int IntKind.i64 (-1))), (1, (Value.int IntKind.i64 2))]) k w) (fun t111_69 w =>
   guardW (some t108_67, true) (fun k w => callW Try.prog (Value.func (Fn.func 17) #[] #[]) #[t110_68, t111_69] k w) (fun t112_70 w =>
   pickW t108_67 t112_70 (Value.bool false) (fun t113_71 w =>
   guardW (some t113_71, true) (fun k w => k t56_28 w) (fun t115_72 w =>
   guardW (some t113_71, true) (fun k w => opW Try.prog (Instr.buildSlice 26 3 #[(0, (Value.int IntKind.i64 2)), (1, (Value.int IntKind.i64 5)), (2, (Value.int IntKind.i64 4))]) k w) (fun t116_73 w =>
   guardW (some t113_71, true) (fun k w => callW Try.prog (Value.func (Fn.func 17) #[] #[]) #[t115_72, t116_73] k w) (fun t117_74 w =>
   pickW t113_71 t117_74 (Value.bool false) (fun t118_75 w =>
   guardW (some t118_75, true) (fun k w => k t18_1 w) (fun t120_76 w =>
   guardW (some t118_75, true) (fun k w => callW Try.prog (Value.func (Fn.func 15) #[] #[]) #[t120_76] k w) (fun t121_77 w =>
   pickW t118_75 t121_77 (Value.bool false) (fun t122_78 w =>
   guardW (some t122_78, true) (fun k w => k t18_1 w) (fun t124_79 w =>
   guardW (some t122_78, true) (fun k w => k t21_4 w) (fun t125_80 w =>
   guardW (some t122_78, true) (fun k w => callW Try.prog (Value.func (Fn.func 22) #[] #[]) #[t124_79, t125_80] k w) (fun t126_81 w =>
   pickW t122_78 t126_81 (Value.bool false) (fun t127_82 w =>
   guardW (some t127_82, true) (fun k w => k t18_1 w) (fun t129_83 w =>
   guardW (some t127_82, true) (fun k w => opW Try.prog (Instr.build 31 #[(0, (Value.int IntKind.i64 1)), (1, (Value.int IntKind.i64 0))]) k w) (fun t130_84 w =>
   guardW (some t127_82, true) (fun k w => opW Try.prog (Instr.build 31 #[(0, (Value.int IntKind.i64 1)), (1, (Value.int IntKind.i64 9))]) k w) (fun t131_85 w =>
   guardW (some t127_82, true) (fun k w => opW Try.prog (Instr.buildSlice 23 2 #[(0, t130_84), (1, t131_85)]) k w) (fun t132_86 w =>
   guardW (some t127_82, true) (fun k w => callW Try.prog (Value.func (Fn.func 22) #[] #[]) #[t129_83, t132_86] k w) (fun t133_87 w =>
   guardW (some t127_82, true) (fun k w => opW Try.prog (Op.unary UnOp.not t133_87) k w) (fun t134_88 w =>
   pickW t127_82 t134_88 (Value.bool false) (fun t135_89 w =>
   k t135_89 w) w) w) w) w) w) w) w) w) w) w) w) w) w) w) w) w) w) w) w) w) w) w) w) w) w) w) w) w) w) w) w) w) w) w) w) w) w) w) w) w) w) w) w) w) w) w) w) w) w) w) w) w) w) w) w) w) w) w) w) w) w) w) w) w) w) w) w) w) w) w) w) w) w) w) w) w) w) w) w) w) w) w) w) w) w) w) w) w) w
theorem S9_vc (k : Value → World → Prop) (w : World) : vc Try.prog Try.f9.ntmps ann9 none ((Try.f9.body).getD Code.skip) 1 (params 0 []) [] (finQ Try.prog Try.f9.results.toList k) w = S9 k w := by kernel_rfl
theorem S9_calls (k : Value → World → Prop) (w : World) (h : S9 k w) : Calls Try.prog 9 #[] w (retP k) :=
  calls_of_vc (fn := Try.f9) (c := (Try.f9.body).getD Code.skip) ann9 Try.func9 (by kernel_rfl) [] w k (by kernel_rfl) ((S9_vc k w).symm ▸ h)
theorem C9 (k : Value → World → Prop) (w : World) (h : S9 k w) : callW Try.prog (.func (.func 9) #[] #[]) #[] k w :=
  callW_calls ok9 (by simpa using S9_calls k w h)

/-! newswire/newswireref24.Streams -/
def ann10 : Ann := [(29, Note.keep [3]), (58, Note.loop [3, 4] [0]), (466, Note.keep [0, 3, 4]), (932, Note.plan (Plan.takeP 0 (Plan.takeP 1 (Plan.takeP 2 (Plan.takeP 3 (Plan.takeP 4 (Plan.takeS 5 (Plan.takeP 8 (Plan.takeP 9 (Plan.takeP 10 (Plan.takeP 11 (Plan.takeS 12 (Plan.takeP 15 (Plan.takeP 16 (Plan.takeP 17 (Plan.takeP 18 (Plan.takeS 19 (Plan.run 6 (Plan.takeP 7 (Plan.run 13 (Plan.takeP 14 (Plan.run 20 (Plan.takeP 21 (Plan.run 22 (Plan.run 23 (Plan.run 24 (Plan.takeP 25 Plan.done)))))))))))))))))))))))))))]
def S10 (x_1 : Value) (k : Value → World → Prop) (w : World) : Prop :=
   opW Try.prog (Instr.build 34 #[(0, (Value.int IntKind.i64 3)), (1, (Value.int IntKind.i64 3)), (2, (Value.int IntKind.i64 40))]) (fun t5_2 w =>
   opW Try.prog (Instr.buildSlice 22 1 #[(0, t5_2)]) (fun t6_3 w =>
   Loop2 (fun out_5 i_6 w K_7 =>
   opW Try.prog (Builtin.len_ #[24] 3 #[x_1]) (fun t9_8 w =>
   opW Try.prog (binS BinOp.lss 3 (Operand.tmp 7) (Operand.tmp 9) i_6 t9_8) (fun t10_9 w =>
   guardW (some t10_9, true) (fun k w => k i_6 w) (fun t12_10 w =>
   guardW (some t10_9, true) (fun k w => opW Try.prog (binS BinOp.lss 3 (Operand.tmp 12) (Operand.const (Value.int IntKind.i64 6)) t12_10 (Value.int IntKind.i64 6)) k w) (fun t13_11 w =>
   pickW t10_9 t13_11 (Value.bool false) (fun t14_12 w =>
   condW t14_12
   (drewW w (fun w =>
   ∃ S : World → Prop, S w ∧
   takeW Try.prog anyW (Instr.indexAt 24 x_1 i_6) (fun t20_15 =>
   takeW Try.prog anyW (Instr.indexAt 56 t20_15 (Value.int IntKind.i64 0)) (fun t21_16 =>
   takeW Try.prog S (Instr.loadAt 3 t21_16) (fun t22_17 =>
   takeW Try.prog anyW (Instr.indexAt 24 x_1 i_6) (fun t27_18 =>
   takeW Try.prog anyW (Instr.indexAt 56 t27_18 (Value.int IntKind.i64 1)) (fun t28_19 =>
   takeW Try.prog S (Instr.loadAt 3 t28_19) (fun t29_20 =>
   takeW Try.prog anyW (Instr.indexAt 24 x_1 i_6) (fun t34_21 =>
   takeW Try.prog anyW (Instr.indexAt 56 t34_21 (Value.int IntKind.i64 2)) (fun t35_22 =>
   takeW Try.prog S (Instr.loadAt 3 t35_22) (fun t36_23 =>
   callW Try.prog (Value.func (Fn.func 29) #[] #[]) #[t22_17, (Value.int IntKind.i64 3)] (fun t23_24 w => keepS S (fun w =>
   takeW Try.prog anyW (binS BinOp.add 3 (Operand.const (Value.int IntKind.i64 1)) (Operand.tmp 23) (Value.int IntKind.i64 1) t23_24) (fun t24_25 =>
   callW Try.prog (Value.func (Fn.func 29) #[] #[]) #[t29_20, (Value.int IntKind.i64 8)] (fun t30_26 w => keepS S (fun w =>
   takeW Try.prog anyW (binS BinOp.add 3 (Operand.const (Value.int IntKind.i64 1)) (Operand.tmp 30) (Value.int IntKind.i64 1) t30_26) (fun t31_27 =>
   callW Try.prog (Value.func (Fn.func 29) #[] #[]) #[t36_23, (Value.int IntKind.i64 60)] (fun t37_28 w => keepS S (fun w =>
   takeW Try.prog anyW (binS BinOp.add 3 (Operand.const (Value.int IntKind.i64 5)) (Operand.tmp 37) (Value.int IntKind.i64 5) t37_28) (fun t38_29 =>
   opW Try.prog (Instr.build 34 #[(0, t24_25), (1, t31_27), (2, t38_29)]) (fun t39_30 w => keepS S (fun w =>
   opW Try.prog (Instr.buildSlice 22 1 #[(0, t39_30)]) (fun t40_31 w => keepS S (fun w =>
   opW Try.prog (Builtin.append_ #[22, 22] 22 #[out_5, t40_31]) (fun t41_32 w => keepS S (fun w =>
   opW Try.prog (binS BinOp.add 3 (Operand.tmp 15) (Operand.const (Value.int IntKind.i64 1)) i_6 (Value.int IntKind.i64 1)) (fun t16_33 w =>
   loopK [] [] [x_1] [x_1] (K_7 t41_32 t16_33 w)) w) w) w) w) w) w) w) w) w) w) w) w) w) w) w) w) w) w) w) w) w) w) w) w) w))
   (k out_5 w)) w) w) w) w) w) t6_3 (Value.int IntKind.i64 0) w) w) w
theorem S10_vc (x_1 : Value) (k : Value → World → Prop) (w : World) : vc Try.prog Try.f10.ntmps ann10 none ((Try.f10.body).getD Code.skip) 1 (params 0 [x_1]) [] (finQ Try.prog Try.f10.results.toList k) w = S10 x_1 k w := by kernel_rfl
theorem S10_calls (x_1 : Value) (k : Value → World → Prop) (w : World) (h : S10 x_1 k w) : Calls Try.prog 10 #[x_1] w (retP k) :=
  calls_of_vc (fn := Try.f10) (c := (Try.f10.body).getD Code.skip) ann10 Try.func10 (by kernel_rfl) [x_1] w k (by kernel_rfl) ((S10_vc x_1 k w).symm ▸ h)
theorem C10 (x_1 : Value) (k : Value → World → Prop) (w : World) (h : S10 x_1 k w) : callW Try.prog (.func (.func 10) #[] #[]) #[x_1] k w :=
  callW_calls ok10 (by simpa using S10_calls x_1 k w h)

/-! newswire/newswireref24.Arrivals -/
def ann11 : Ann := [(61, Note.keep [5]), (122, Note.loop [5, 7] [0, 1, 6]), (978, Note.keep [0, 1, 5, 6, 7]), (7826, Note.plan (Plan.takeP 0 (Plan.takeP 1 (Plan.takeP 2 (Plan.takeP 3 (Plan.takeS 4 (Plan.takeP 5 (Plan.takeP 6 (Plan.takeP 7 (Plan.takeP 8 (Plan.takeS 9 (Plan.alt (Plan.run 10 (Plan.takeP 11 (Plan.alt (Plan.run 12 (Plan.run 13 (Plan.run 14 Plan.done))) (Plan.run 13 (Plan.run 12 (Plan.run 14 Plan.done)))))) (Plan.run 13 (Plan.run 10 (Plan.takeP 11 (Plan.run 12 (Plan.run 14 Plan.done))))))))))))))))), (62622, Note.plan (Plan.takeP 0 (Plan.takeP 1 (Plan.takeP 2 (Plan.takeX 3 (Plan.takeP 4 (Plan.takeP 5 (Plan.takeP 6 (Plan.takeP 7 (Plan.takeX 8 (Plan.takeP 9 (Plan.takeP 10 (Plan.run 11 Plan.done))))))))))))), (250494, Note.keep [0, 1, 5, 6, 7, 9, 10]), (250495, Note.plan (Plan.takeP 0 (Plan.takeP 1 (Plan.takeP 2 (Plan.takeP 3 (Plan.takeS 4 (Plan.takeP 6 (Plan.takeP 7 (Plan.takeP 8 (Plan.run 5 (Plan.run 9 (Plan.run 10 (Plan.takeP 11 Plan.done))))))))))))), (500988, Note.loop [10] [0, 1, 5, 6, 7, 8, 9]), (2003953, Note.keep [0, 1, 5, 6, 7, 8, 9, 10]), (4007904, Note.plan (Plan.takeP 0 (Plan.takeP 1 (Plan.takeP 2 (Plan.takeP 3 (Plan.takeP 4 (Plan.takeP 5 (Plan.takeP 6 (Plan.takeP 7 (Plan.takeP 8 (Plan.takeX 9 (Plan.takeP 10 (Plan.takeX 11 (Plan.takeP 12 (Plan.takeP 13 (Plan.takeP 14 (Plan.takeP 15 (Plan.takeP 16 (Plan.takeP 17 (Plan.takeX 18 (Plan.takeP 19 (Plan.takeX 20 (Plan.takeP 21 (Plan.takeP 22 (Plan.takeP 23 (Plan.takeP 24 (Plan.takeP 25 (Plan.takeP 26 (Plan.takeX 27 (Plan.takeP 28 (Plan.takeP 29 (Plan.takeP 30 (Plan.takeP 31 (Plan.takeP 32 Plan.done))))))))))))))))))))))))))))))))))]
def S11 (l_1 x_2 : Value) (k : Value → World → Prop) (w : World) : Prop :=
   opW Try.prog (Builtin.len_ #[22] 3 #[l_1]) (fun t12_3 w =>
   opW Try.prog (Instr.makeSlice 26 t12_3 t12_3) (fun t13_4 w =>
   Loop2 (fun out_6 i_7 w K_8 =>
   opW Try.prog (Builtin.len_ #[25] 3 #[x_2]) (fun t16_9 w =>
   opW Try.prog (binS BinOp.lss 3 (Operand.tmp 14) (Operand.tmp 16) i_7 t16_9) (fun t17_10 w =>
   guardW (some t17_10, true) (fun k w => k i_7 w) (fun t19_11 w =>
   guardW (some t17_10, true) (fun k w => opW Try.prog (binS BinOp.lss 3 (Operand.tmp 19) (Operand.const (Value.int IntKind.i64 40)) t19_11 (Value.int IntKind.i64 40)) k w) (fun t20_12 w =>
   pickW t17_10 t20_12 (Value.bool false) (fun t21_13 w =>
   condW t21_13
   (joinW (fun out_154 w =>
   opW Try.prog (binS BinOp.add 3 (Operand.tmp 22) (Operand.const (Value.int IntKind.i64 1)) i_7 (Value.int IntKind.i64 1)) (fun t23_155 w =>
   loopK [] [] [l_1, x_2, t13_4] [l_1, x_2, t13_4] (K_8 out_154 t23_155 w)) w) (fun J_14 =>
   opW Try.prog (Instr.indexAt 25 x_2 i_7) (fun t26_15 w =>
   opW Try.prog (Instr.indexAt 57 t26_15 (Value.int IntKind.i64 0)) (fun t27_16 w =>
   opW Try.prog (Instr.loadAt 3 t27_16) (fun t28_17 w =>
   opW Try.prog (Builtin.len_ #[22] 3 #[l_1]) (fun t30_18 w =>
   callW Try.prog (Value.func (Fn.func 29) #[] #[]) #[t28_17, t30_18] (fun t31_19 w =>
   joinW (fun a_36 w =>
   opW Try.prog (Instr.indexAt 25 x_2 i_7) (fun t47_37 w =>
   opW Try.prog (Instr.indexAt 57 t47_37 (Value.int IntKind.i64 1)) (fun t48_38 w =>
   opW Try.prog (Instr.loadAt 3 t48_38) (fun t49_39 w =>
   opW Try.prog (binS BinOp.quo 3 (Operand.tmp 49) (Operand.const (Value.int IntKind.i64 12)) t49_39 (Value.int IntKind.i64 12)) (fun t50_40 w =>
   callW Try.prog (Value.func (Fn.func 29) #[] #[]) #[t50_40, (Value.int IntKind.i64 2)] (fun t51_41 w =>
   opW Try.prog (binS BinOp.eql 3 (Operand.tmp 51) (Operand.const (Value.int IntKind.i64 0)) t51_41 (Value.int IntKind.i64 0)) (fun t52_42 w =>
   condW t52_42
   (opW Try.prog (Instr.indexAt 26 t13_4 t31_19) (fun t55_43 w =>
   opW Try.prog (Instr.loadAt 3 t55_43) (fun t56_44 w =>
   opW Try.prog (Instr.fieldAt 31 a_36 1) (fun t57_45 w =>
   opU Try.prog (Instr.storeAt 3 t57_45 t56_44) (fun _ w =>
   opW Try.prog (Instr.fieldAt 31 a_36 1) (fun t58_46 w =>
   opW Try.prog (Instr.loadAt 3 t58_46) (fun t59_47 w =>
   opW Try.prog (binS BinOp.gtr 3 (Operand.tmp 59) (Operand.const (Value.int IntKind.i64 2000)) t59_47 (Value.int IntKind.i64 2000)) (fun t60_48 w =>
   condW t60_48
   (J_14 out_6 w)
   (drewW w (fun w =>
   takeW Try.prog anyW (Instr.fieldAt 31 a_36 1) (fun t63_50 =>
   takeW Try.prog (sameW w) (Instr.loadAt 3 t63_50) (fun t64_51 =>
   takeW Try.prog anyW (Instr.indexAt 22 l_1 t31_19) (fun t67_52 =>
   takeW Try.prog anyW (Instr.fieldAt 34 t67_52 2) (fun t68_53 =>
   takeW Try.prog (sameW w) (Instr.loadAt 3 t68_53) (fun t69_54 =>
   takeW Try.prog anyW (binS BinOp.add 3 (Operand.tmp 64) (Operand.tmp 69) t64_51 t69_54) (fun t70_55 =>
   takeW Try.prog anyW (Instr.indexAt 26 t13_4 t31_19) (fun t71_56 =>
   opU Try.prog (Instr.storeAt 3 t71_56 t70_55) (fun _ w =>
   Loop1 (fun at_58 w K_59 =>
   drewW w (fun w =>
   takeW Try.prog anyW (Builtin.len_ #[23] 3 #[out_6]) (fun t74_61 =>
   takeW Try.prog anyW (binS BinOp.lss 3 (Operand.tmp 72) (Operand.tmp 74) at_58 t74_61) (fun t75_62 =>
   guardT (some t75_62, true) (fun k => k out_6) (fun t77_63 =>
   guardT (some t75_62, true) (fun k => k at_58) (fun t78_64 =>
   guardT (some t75_62, true) (fun k => takeW Try.prog anyW (Instr.indexAt 23 t77_63 t78_64) k w) (fun t79_65 =>
   guardT (some t75_62, true) (fun k => takeW Try.prog anyW (Instr.fieldAt 31 t79_65 1) k w) (fun t80_66 =>
   guardT (some t75_62, true) (fun k => takeW Try.prog (sameW w) (Instr.loadAt 3 t80_66) k w) (fun t81_67 =>
   guardT (some t75_62, true) (fun k => takeW Try.prog anyW (Instr.fieldAt 31 a_36 1) k w) (fun t82_68 =>
   guardT (some t75_62, true) (fun k => takeW Try.prog (sameW w) (Instr.loadAt 3 t82_68) k w) (fun t83_69 =>
   guardT (some t75_62, true) (fun k => takeW Try.prog anyW (binS BinOp.lss 3 (Operand.tmp 81) (Operand.tmp 83) t81_67 t83_69) k w) (fun t84_70 =>
   guardT (some t75_62, true) (fun k => k t84_70) (fun t85_71 =>
   guardT (some t85_71, false) (fun k => k out_6) (fun t86_72 =>
   guardT (some t85_71, false) (fun k => k at_58) (fun t87_73 =>
   guardT (some t85_71, false) (fun k => takeW Try.prog anyW (Instr.indexAt 23 t86_72 t87_73) k w) (fun t88_74 =>
   guardT (some t85_71, false) (fun k => takeW Try.prog anyW (Instr.fieldAt 31 t88_74 1) k w) (fun t89_75 =>
   guardT (some t85_71, false) (fun k => takeW Try.prog (sameW w) (Instr.loadAt 3 t89_75) k w) (fun t90_76 =>
   guardT (some t85_71, false) (fun k => takeW Try.prog anyW (Instr.fieldAt 31 a_36 1) k w) (fun t91_77 =>
   guardT (some t85_71, false) (fun k => takeW Try.prog (sameW w) (Instr.loadAt 3 t91_77) k w) (fun t92_78 =>
   guardT (some t85_71, false) (fun k => takeW Try.prog anyW (binS BinOp.eql 3 (Operand.tmp 90) (Operand.tmp 92) t90_76 t92_78) k w) (fun t93_79 =>
   guardT (some t85_71, false) (fun k => k t93_79) (fun t94_80 =>
   guardT (some t94_80, true) (fun k => k out_6) (fun t95_81 =>
   guardT (some t94_80, true) (fun k => k at_58) (fun t96_82 =>
   guardT (some t94_80, true) (fun k => takeW Try.prog anyW (Instr.indexAt 23 t95_81 t96_82) k w) (fun t97_83 =>
   guardT (some t94_80, true) (fun k => takeW Try.prog anyW (Instr.fieldAt 31 t97_83 0) k w) (fun t98_84 =>
   guardT (some t94_80, true) (fun k => takeW Try.prog (sameW w) (Instr.loadAt 3 t98_84) k w) (fun t99_85 =>
   guardT (some t94_80, true) (fun k => k t31_19) (fun t100_86 =>
   guardT (some t94_80, true) (fun k => takeW Try.prog anyW (binS BinOp.lss 3 (Operand.tmp 99) (Operand.tmp 100) t99_85 t100_86) k w) (fun t101_87 =>
   guardT (some t85_71, false) (fun k => pickT t94_80 t101_87 (Value.bool false) k) (fun t102_88 =>
   guardT (some t75_62, true) (fun k => pickT t85_71 (Value.bool true) t102_88 k) (fun t103_89 =>
   pickT t75_62 t103_89 (Value.bool false) (fun t104_90 =>
   condW t104_90
   (opW Try.prog (binS BinOp.add 3 (Operand.tmp 105) (Operand.const (Value.int IntKind.i64 1)) at_58 (Value.int IntKind.i64 1)) (fun t106_92 w =>
   loopK [] [] [l_1, x_2, out_6, t13_4, i_7, t31_19, a_36] [l_1, x_2, out_6, t13_4, i_7, t31_19, a_36] (K_59 t106_92 w)) w)
   (drewW w (fun w =>
   ∃ S : World → Prop, S w ∧
   takeW Try.prog anyW (Instr.sliceAt 23 out_6 none (some at_58) (some at_58)) (fun t110_94 =>
   takeW Try.prog S (Instr.loadAt 31 a_36) (fun t111_95 =>
   takeW Try.prog anyW (Instr.sliceAt 23 out_6 (some at_58) none none) (fun t115_96 =>
   opW Try.prog (Instr.buildSlice 23 1 #[(0, t111_95)]) (fun t112_97 w => keepS S (fun w =>
   opW Try.prog (Builtin.append_ #[23, 23] 23 #[t112_97, t115_96]) (fun t116_98 w => keepS S (fun w =>
   opW Try.prog (Builtin.append_ #[23, 23] 23 #[t110_94, t116_98]) (fun t117_99 w => keepS S (fun w =>
   J_14 t117_99 w) w) w) w) w) w) w) w) w) w))))))))))))))))))))))))))))))) w) w)) (Value.int IntKind.i64 0) w) w) w) w) w) w) w) w) w))) w) w) w) w) w) w) w)
   (opW Try.prog (Instr.fieldAt 31 a_36 1) (fun t58_100 w =>
   opW Try.prog (Instr.loadAt 3 t58_100) (fun t59_101 w =>
   opW Try.prog (binS BinOp.gtr 3 (Operand.tmp 59) (Operand.const (Value.int IntKind.i64 2000)) t59_101 (Value.int IntKind.i64 2000)) (fun t60_102 w =>
   condW t60_102
   (J_14 out_6 w)
   (drewW w (fun w =>
   takeW Try.prog anyW (Instr.fieldAt 31 a_36 1) (fun t63_104 =>
   takeW Try.prog (sameW w) (Instr.loadAt 3 t63_104) (fun t64_105 =>
   takeW Try.prog anyW (Instr.indexAt 22 l_1 t31_19) (fun t67_106 =>
   takeW Try.prog anyW (Instr.fieldAt 34 t67_106 2) (fun t68_107 =>
   takeW Try.prog (sameW w) (Instr.loadAt 3 t68_107) (fun t69_108 =>
   takeW Try.prog anyW (binS BinOp.add 3 (Operand.tmp 64) (Operand.tmp 69) t64_105 t69_108) (fun t70_109 =>
   takeW Try.prog anyW (Instr.indexAt 26 t13_4 t31_19) (fun t71_110 =>
   opU Try.prog (Instr.storeAt 3 t71_110 t70_109) (fun _ w =>
   Loop1 (fun at_112 w K_113 =>
   drewW w (fun w =>
   takeW Try.prog anyW (Builtin.len_ #[23] 3 #[out_6]) (fun t74_115 =>
   takeW Try.prog anyW (binS BinOp.lss 3 (Operand.tmp 72) (Operand.tmp 74) at_112 t74_115) (fun t75_116 =>
   guardT (some t75_116, true) (fun k => k out_6) (fun t77_117 =>
   guardT (some t75_116, true) (fun k => k at_112) (fun t78_118 =>
   guardT (some t75_116, true) (fun k => takeW Try.prog anyW (Instr.indexAt 23 t77_117 t78_118) k w) (fun t79_119 =>
   guardT (some t75_116, true) (fun k => takeW Try.prog anyW (Instr.fieldAt 31 t79_119 1) k w) (fun t80_120 =>
   guardT (some t75_116, true) (fun k => takeW Try.prog (sameW w) (Instr.loadAt 3 t80_120) k w) (fun t81_121 =>
   guardT (some t75_116, true) (fun k => takeW Try.prog anyW (Instr.fieldAt 31 a_36 1) k w) (fun t82_122 =>
   guardT (some t75_116, true) (fun k => takeW Try.prog (sameW w) (Instr.loadAt 3 t82_122) k w) (fun t83_123 =>
   guardT (some t75_116, true) (fun k => takeW Try.prog anyW (binS BinOp.lss 3 (Operand.tmp 81) (Operand.tmp 83) t81_121 t83_123) k w) (fun t84_124 =>
   guardT (some t75_116, true) (fun k => k t84_124) (fun t85_125 =>
   guardT (some t85_125, false) (fun k => k out_6) (fun t86_126 =>
   guardT (some t85_125, false) (fun k => k at_112) (fun t87_127 =>
   guardT (some t85_125, false) (fun k => takeW Try.prog anyW (Instr.indexAt 23 t86_126 t87_127) k w) (fun t88_128 =>
   guardT (some t85_125, false) (fun k => takeW Try.prog anyW (Instr.fieldAt 31 t88_128 1) k w) (fun t89_129 =>
   guardT (some t85_125, false) (fun k => takeW Try.prog (sameW w) (Instr.loadAt 3 t89_129) k w) (fun t90_130 =>
   guardT (some t85_125, false) (fun k => takeW Try.prog anyW (Instr.fieldAt 31 a_36 1) k w) (fun t91_131 =>
   guardT (some t85_125, false) (fun k => takeW Try.prog (sameW w) (Instr.loadAt 3 t91_131) k w) (fun t92_132 =>
   guardT (some t85_125, false) (fun k => takeW Try.prog anyW (binS BinOp.eql 3 (Operand.tmp 90) (Operand.tmp 92) t90_130 t92_132) k w) (fun t93_133 =>
   guardT (some t85_125, false) (fun k => k t93_133) (fun t94_134 =>
   guardT (some t94_134, true) (fun k => k out_6) (fun t95_135 =>
   guardT (some t94_134, true) (fun k => k at_112) (fun t96_136 =>
   guardT (some t94_134, true) (fun k => takeW Try.prog anyW (Instr.indexAt 23 t95_135 t96_136) k w) (fun t97_137 =>
   guardT (some t94_134, true) (fun k => takeW Try.prog anyW (Instr.fieldAt 31 t97_137 0) k w) (fun t98_138 =>
   guardT (some t94_134, true) (fun k => takeW Try.prog (sameW w) (Instr.loadAt 3 t98_138) k w) (fun t99_139 =>
   guardT (some t94_134, true) (fun k => k t31_19) (fun t100_140 =>
   guardT (some t94_134, true) (fun k => takeW Try.prog anyW (binS BinOp.lss 3 (Operand.tmp 99) (Operand.tmp 100) t99_139 t100_140) k w) (fun t101_141 =>
   guardT (some t85_125, false) (fun k => pickT t94_134 t101_141 (Value.bool false) k) (fun t102_142 =>
   guardT (some t75_116, true) (fun k => pickT t85_125 (Value.bool true) t102_142 k) (fun t103_143 =>
   pickT t75_116 t103_143 (Value.bool false) (fun t104_144 =>
   condW t104_144
   (opW Try.prog (binS BinOp.add 3 (Operand.tmp 105) (Operand.const (Value.int IntKind.i64 1)) at_112 (Value.int IntKind.i64 1)) (fun t106_146 w =>
   loopK [] [] [l_1, x_2, out_6, t13_4, i_7, t31_19, a_36] [l_1, x_2, out_6, t13_4, i_7, t31_19, a_36] (K_113 t106_146 w)) w)
   (drewW w (fun w =>
   ∃ S : World → Prop, S w ∧
   takeW Try.prog anyW (Instr.sliceAt 23 out_6 none (some at_112) (some at_112)) (fun t110_148 =>
   takeW Try.prog S (Instr.loadAt 31 a_36) (fun t111_149 =>
   takeW Try.prog anyW (Instr.sliceAt 23 out_6 (some at_112) none none) (fun t115_150 =>
   opW Try.prog (Instr.buildSlice 23 1 #[(0, t111_149)]) (fun t112_151 w => keepS S (fun w =>
   opW Try.prog (Builtin.append_ #[23, 23] 23 #[t112_151, t115_150]) (fun t116_152 w => keepS S (fun w =>
   opW Try.prog (Builtin.append_ #[23, 23] 23 #[t110_148, t116_152]) (fun t117_153 w => keepS S (fun w =>
   J_14 t117_153 w) w) w) w) w) w) w) w) w) w))))))))))))))))))))))))))))))) w) w)) (Value.int IntKind.i64 0) w) w) w) w) w) w) w) w) w))) w) w) w)) w) w) w) w) w) w) (fun J_20 =>
   drewW w (fun w =>
   ∃ S : World → Prop, S w ∧
   takeW Try.prog anyW (Instr.indexAt 26 t13_4 t31_19) (fun t35_21 =>
   takeW Try.prog S (Instr.loadAt 3 t35_21) (fun t36_22 =>
   takeW Try.prog anyW (Instr.indexAt 25 x_2 i_7) (fun t39_23 =>
   takeW Try.prog anyW (Instr.indexAt 57 t39_23 (Value.int IntKind.i64 1)) (fun t40_24 =>
   takeW Try.prog S (Instr.loadAt 3 t40_24) (fun t41_25 =>
   (callW Try.prog (Value.func (Fn.func 29) #[] #[]) #[t41_25, (Value.int IntKind.i64 12)] (fun t42_26 w => keepS S (fun w =>
   takeW Try.prog anyW (binS BinOp.add 3 (Operand.tmp 36) (Operand.tmp 42) t36_22 t42_26) (fun t43_27 =>
   (opW Try.prog (Instr.build 31 #[(0, t31_19), (1, t43_27)]) (fun t44_28 w => keepS S (fun w =>
   opW Try.prog (Instr.alloc 31 true (Value.tuple #[])) (fun a_29 w => keepS S (fun w =>
   opU Try.prog (Instr.storeAt 31 a_29 t44_28) (fun _ w => keepS S (fun w =>
   J_20 a_29 w) w) w) w) w) w) w) ∧ (opW Try.prog (Instr.alloc 31 true (Value.tuple #[])) (fun a_30 w => keepS S (fun w =>
   opW Try.prog (Instr.build 31 #[(0, t31_19), (1, t43_27)]) (fun t44_31 w => keepS S (fun w =>
   opU Try.prog (Instr.storeAt 31 a_30 t44_31) (fun _ w => keepS S (fun w =>
   J_20 a_30 w) w) w) w) w) w) w)) w) w) w) ∧ (opW Try.prog (Instr.alloc 31 true (Value.tuple #[])) (fun a_32 w => keepS S (fun w =>
   callW Try.prog (Value.func (Fn.func 29) #[] #[]) #[t41_25, (Value.int IntKind.i64 12)] (fun t42_33 w => keepS S (fun w =>
   takeW Try.prog anyW (binS BinOp.add 3 (Operand.tmp 36) (Operand.tmp 42) t36_22 t42_33) (fun t43_34 =>
   opW Try.prog (Instr.build 31 #[(0, t31_19), (1, t43_34)]) (fun t44_35 w => keepS S (fun w =>
   opU Try.prog (Instr.storeAt 31 a_32 t44_35) (fun _ w => keepS S (fun w =>
   J_20 a_32 w) w) w) w) w) w) w) w) w) w)) w) w) w) w) w))) w) w) w) w) w))
   (k out_6 w)) w) w) w) w) w) (Value.slice none 0 0) (Value.int IntKind.i64 0) w) w) w
theorem S11_vc (l_1 x_2 : Value) (k : Value → World → Prop) (w : World) : vc Try.prog Try.f11.ntmps ann11 none ((Try.f11.body).getD Code.skip) 1 (params 0 [l_1, x_2]) [] (finQ Try.prog Try.f11.results.toList k) w = S11 l_1 x_2 k w := by kernel_rfl
theorem S11_calls (l_1 x_2 : Value) (k : Value → World → Prop) (w : World) (h : S11 l_1 x_2 k w) : Calls Try.prog 11 #[l_1, x_2] w (retP k) :=
  calls_of_vc (fn := Try.f11) (c := (Try.f11.body).getD Code.skip) ann11 Try.func11 (by kernel_rfl) [l_1, x_2] w k (by kernel_rfl) ((S11_vc l_1 x_2 k w).symm ▸ h)
theorem C11 (l_1 x_2 : Value) (k : Value → World → Prop) (w : World) (h : S11 l_1 x_2 k w) : callW Try.prog (.func (.func 11) #[] #[]) #[l_1, x_2] k w :=
  callW_calls ok11 (by simpa using S11_calls l_1 x_2 k w h)

/-! newswire/newswirelaw24.pick -/
def ann12 : Ann := []
def S12 (c_1 n_2 : Value) (k : Value → World → Prop) (w : World) : Prop :=
   opW Try.prog (binS BinOp.lss 3 (Operand.tmp 5) (Operand.const (Value.int IntKind.i64 0)) c_1 (Value.int IntKind.i64 0)) (fun t6_3 w =>
   condW t6_3
   (opW Try.prog (binS BinOp.add 3 (Operand.tmp 7) (Operand.const (Value.int IntKind.i64 1)) c_1 (Value.int IntKind.i64 1)) (fun t8_4 w =>
   opW Try.prog (Op.unary UnOp.neg t8_4) (fun t9_5 w =>
   opW Try.prog (binS BinOp.rem 3 (Operand.tmp 10) (Operand.tmp 11) t9_5 n_2) (fun t12_6 w =>
   k t12_6 w) w) w) w)
   (opW Try.prog (binS BinOp.rem 3 (Operand.tmp 10) (Operand.tmp 11) c_1 n_2) (fun t12_7 w =>
   k t12_7 w) w)) w
theorem S12_vc (c_1 n_2 : Value) (k : Value → World → Prop) (w : World) : vc Try.prog Try.f12.ntmps ann12 none ((Try.f12.body).getD Code.skip) 1 (params 0 [c_1, n_2]) [] (finQ Try.prog Try.f12.results.toList k) w = S12 c_1 n_2 k w := by kernel_rfl
theorem S12_calls (c_1 n_2 : Value) (k : Value → World → Prop) (w : World) (h : S12 c_1 n_2 k w) : Calls Try.prog 12 #[c_1, n_2] w (retP k) :=
  calls_of_vc (fn := Try.f12) (c := (Try.f12.body).getD Code.skip) ann12 Try.func12 (by kernel_rfl) [c_1, n_2] w k (by kernel_rfl) ((S12_vc c_1 n_2 k w).symm ▸ h)
theorem C12 (c_1 n_2 : Value) (k : Value → World → Prop) (w : World) (h : S12 c_1 n_2 k w) : callW Try.prog (.func (.func 12) #[] #[]) #[c_1, n_2] k w :=
  callW_calls ok12 (by simpa using S12_calls c_1 n_2 k w h)

/-! newswire/sched.Response -/
def ann13 : Ann := [(29, Note.keep [2]), (58, Note.loop [2, 15] [0, 13, 14]), (934, Note.keep [0, 2, 13, 14, 15]), (29901, Note.keep [0, 2, 5, 6, 13, 14, 15]), (59802, Note.loop [24] [0, 2, 4, 5, 6, 13, 14, 15, 23]), (119614, Note.keep [0, 2, 5, 9, 13, 14, 15]), (239228, Note.loop [9] [0, 2, 5, 8, 13, 14, 15]), (956838, Note.keep [0, 2, 4, 5, 6, 13, 14, 15, 23, 24]), (1913826, Note.keep [0, 2, 5, 8, 9, 13, 14, 15])]
def S13 (l_1 : Value) (k : Value → World → Prop) (w : World) : Prop :=
   callW Try.prog (Value.func (Fn.func 15) #[] #[]) #[l_1] (fun t11_2 w =>
   opW Try.prog (Op.unary UnOp.not t11_2) (fun t12_3 w =>
   condW t12_3
   (k (Value.tuple #[(Value.slice none 0 0), (Value.int IntKind.i64 240)]) w)
   (opW Try.prog (Builtin.len_ #[22] 3 #[l_1]) (fun t14_4 w =>
   Loop2 (fun out_6 t15_7 w K_8 =>
   opW Try.prog (binS BinOp.lss 3 (Operand.tmp 15) (Operand.tmp 14) t15_7 t14_4) (fun t16_9 w =>
   condW t16_9
   (joinW (fun out_53 w =>
   opW Try.prog (binS BinOp.add 3 (Operand.tmp 15) (Operand.const (Value.int IntKind.i64 1)) t15_7 (Value.int IntKind.i64 1)) (fun t62_54 w =>
   loopK [] [] [l_1, l_1, t14_4] [l_1, l_1, t14_4] (K_8 out_53 t62_54 w)) w) (fun J_10 =>
   opW Try.prog (Instr.indexAt 22 l_1 t15_7) (fun t18_11 w =>
   opW Try.prog (Instr.loadAt 34 t18_11) (fun t19_12 w =>
   opW Try.prog (Instr.alloc 34 true (Value.tuple #[])) (fun s_13 w =>
   opU Try.prog (Instr.storeAt 34 s_13 t19_12) (fun _ w =>
   callW Try.prog (Value.func (Fn.func 30) #[] #[]) #[l_1] (fun t21_14 w =>
   opW Try.prog (Instr.alloc 22 true (Value.tuple #[])) (fun before_15 w =>
   opU Try.prog (Instr.storeAt 22 before_15 t21_14) (fun _ w =>
   opW Try.prog (Instr.loadAt 22 before_15) (fun t22_16 w =>
   opW Try.prog (Builtin.len_ #[22] 3 #[t22_16]) (fun t23_17 w =>
   Loop1 (fun t24_19 w K_20 =>
   opW Try.prog (binS BinOp.lss 3 (Operand.tmp 24) (Operand.tmp 23) t24_19 t23_17) (fun t25_21 w =>
   condW t25_21
   (joinW (fun w =>
   opW Try.prog (binS BinOp.add 3 (Operand.tmp 24) (Operand.const (Value.int IntKind.i64 1)) t24_19 (Value.int IntKind.i64 1)) (fun t36_28 w =>
   loopK [] [] [l_1, out_6, t15_7, s_13, before_15, l_1, t14_4, t15_7, t23_17] [l_1, out_6, t15_7, s_13, before_15, l_1, t14_4, t15_7, t23_17] (K_20 t36_28 w)) w) (fun J_22 =>
   callW Try.prog (Value.func (Fn.func 31) #[] #[]) #[l_1, t24_19, t15_7] (fun t30_23 w =>
   opW Try.prog (binS BinOp.geq 3 (Operand.tmp 30) (Operand.const (Value.int IntKind.i64 0)) t30_23 (Value.int IntKind.i64 0)) (fun t31_24 w =>
   condW t31_24
   (opW Try.prog (Instr.loadAt 22 before_15) (fun t32_25 w =>
   opW Try.prog (Instr.indexAt 22 t32_25 t24_19) (fun t34_26 w =>
   opW Try.prog (Instr.fieldAt 34 t34_26 1) (fun t35_27 w =>
   opU Try.prog (Instr.storeAt 3 t35_27 (Value.int IntKind.i64 0)) (fun _ w =>
   J_22 w) w) w) w) w)
   (J_22 w)) w) w))
   (opW Try.prog (Instr.makeFunc (Fn.func 32) #[] #[s_13, before_15]) (fun t37_29 w =>
   opW Try.prog (Instr.fieldAt 34 s_13 1) (fun t38_30 w =>
   opW Try.prog (Instr.loadAt 3 t38_30) (fun t39_31 w =>
   Loop1 (fun r_33 w K_34 =>
   opW Try.prog (Instr.fieldAt 34 s_13 2) (fun t41_35 w =>
   opW Try.prog (Instr.loadAt 3 t41_35) (fun t42_36 w =>
   opW Try.prog (binS BinOp.leq 3 (Operand.tmp 40) (Operand.tmp 42) r_33 t42_36) (fun t43_37 w =>
   guardW (some t43_37, true) (fun k w => k t37_29 w) (fun t45_38 w =>
   guardW (some t43_37, true) (fun k w => k r_33 w) (fun t46_39 w =>
   guardW (some t43_37, true) (fun k w => callW Try.prog t45_38 #[t46_39] k w) (fun t47_40 w =>
   guardW (some t43_37, true) (fun k w => k r_33 w) (fun t48_41 w =>
   guardW (some t43_37, true) (fun k w => opW Try.prog (binS BinOp.gtr 3 (Operand.tmp 47) (Operand.tmp 48) t47_40 t48_41) k w) (fun t49_42 w =>
   pickW t43_37 t49_42 (Value.bool false) (fun t50_43 w =>
   condW t50_43
   (callW Try.prog t37_29 #[r_33] (fun t53_45 w =>
   loopK [] [] [l_1, out_6, s_13, t37_29, l_1, t14_4, t15_7] [l_1, out_6, s_13, t37_29, l_1, t14_4, t15_7] (K_34 t53_45 w)) w)
   (opW Try.prog (Instr.fieldAt 34 s_13 2) (fun t55_46 w =>
   opW Try.prog (Instr.loadAt 3 t55_46) (fun t56_47 w =>
   opW Try.prog (binS BinOp.gtr 3 (Operand.tmp 54) (Operand.tmp 56) r_33 t56_47) (fun t57_48 w =>
   condW t57_48
   (opW Try.prog (Instr.buildSlice 26 1 #[(0, (Value.int IntKind.i64 (-1)))]) (fun t60_49 w =>
   opW Try.prog (Builtin.append_ #[26, 26] 26 #[out_6, t60_49]) (fun t61_50 w =>
   J_10 t61_50 w) w) w)
   (opW Try.prog (Instr.buildSlice 26 1 #[(0, r_33)]) (fun t60_51 w =>
   opW Try.prog (Builtin.append_ #[26, 26] 26 #[out_6, t60_51]) (fun t61_52 w =>
   J_10 t61_52 w) w) w)) w) w) w)) w) w) w) w) w) w) w) w) w) t39_31 w) w) w) w)) w) (Value.int IntKind.i64 0) w) w) w) w) w) w) w) w) w) w))
   (k (Value.tuple #[out_6, (Value.int IntKind.i64 0)]) w)) w) (Value.slice none 0 0) (Value.int IntKind.i64 0) w) w)) w) w
theorem S13_vc (l_1 : Value) (k : Value → World → Prop) (w : World) : vc Try.prog Try.f13.ntmps ann13 none ((Try.f13.body).getD Code.skip) 1 (params 0 [l_1]) [] (finQ Try.prog Try.f13.results.toList k) w = S13 l_1 k w := by kernel_rfl
theorem S13_calls (l_1 : Value) (k : Value → World → Prop) (w : World) (h : S13 l_1 k w) : Calls Try.prog 13 #[l_1] w (retP k) :=
  calls_of_vc (fn := Try.f13) (c := (Try.f13.body).getD Code.skip) ann13 Try.func13 (by kernel_rfl) [l_1] w k (by kernel_rfl) ((S13_vc l_1 k w).symm ▸ h)
theorem C13 (l_1 : Value) (k : Value → World → Prop) (w : World) (h : S13 l_1 k w) : callW Try.prog (.func (.func 13) #[] #[]) #[l_1] k w :=
  callW_calls ok13 (by simpa using S13_calls l_1 k w h)

/-! newswire/newswireref24.Response -/
def ann14 : Ann := [(61, Note.keep [4]), (122, Note.loop [4, 5] [0]), (978, Note.keep [0, 4, 5]), (15653, Note.keep [0, 4, 5, 6]), (31306, Note.loop [6, 7] [0, 4, 5]), (250450, Note.keep [0, 4, 5, 6, 7]), (4007205, Note.keep [0, 4, 5, 6, 7, 8]), (8014410, Note.loop [8, 9] [0, 4, 5, 6, 7]), (64115282, Note.keep [0, 4, 5, 6, 7, 8, 9]), (512922258, Note.plan (Plan.takeP 0 (Plan.takeP 1 (Plan.takeP 2 (Plan.takeP 3 (Plan.takeP 4 (Plan.takeX 5 (Plan.takeP 6 (Plan.takeP 7 (Plan.takeP 8 (Plan.takeP 9 (Plan.takeP 10 (Plan.takeX 11 (Plan.takeP 12 (Plan.takeP 13 (Plan.takeP 14 (Plan.takeP 15 (Plan.takeP 16 (Plan.takeP 17 (Plan.takeX 18 (Plan.takeP 19 (Plan.takeP 20 (Plan.takeP 21 (Plan.takeP 22 Plan.done))))))))))))))))))))))))]
def S14 (l_1 : Value) (k : Value → World → Prop) (w : World) : Prop :=
   callW Try.prog (Value.func (Fn.func 16) #[] #[]) #[l_1] (fun t11_2 w =>
   opW Try.prog (Op.unary UnOp.not t11_2) (fun t12_3 w =>
   condW t12_3
   (k (Value.tuple #[(Value.slice none 0 0), (Value.int IntKind.i64 240)]) w)
   (Loop2 (fun out_5 i_6 w K_7 =>
   opW Try.prog (Builtin.len_ #[22] 3 #[l_1]) (fun t15_8 w =>
   opW Try.prog (binS BinOp.lss 3 (Operand.tmp 13) (Operand.tmp 15) i_6 t15_8) (fun t16_9 w =>
   condW t16_9
   (opW Try.prog (Instr.indexAt 22 l_1 i_6) (fun t21_11 w =>
   opW Try.prog (Instr.fieldAt 34 t21_11 1) (fun t22_12 w =>
   opW Try.prog (Instr.loadAt 3 t22_12) (fun t23_13 w =>
   Loop2 (fun found_15 r_16 w K_17 =>
   opW Try.prog (Instr.indexAt 22 l_1 i_6) (fun t27_18 w =>
   opW Try.prog (Instr.fieldAt 34 t27_18 2) (fun t28_19 w =>
   opW Try.prog (Instr.loadAt 3 t28_19) (fun t29_20 w =>
   opW Try.prog (binS BinOp.leq 3 (Operand.tmp 24) (Operand.tmp 29) r_16 t29_20) (fun t30_21 w =>
   guardW (some t30_21, true) (fun k w => k found_15 w) (fun t32_22 w =>
   guardW (some t30_21, true) (fun k w => opW Try.prog (binS BinOp.lss 3 (Operand.tmp 32) (Operand.const (Value.int IntKind.i64 0)) t32_22 (Value.int IntKind.i64 0)) k w) (fun t33_23 w =>
   pickW t30_21 t33_23 (Value.bool false) (fun t34_24 w =>
   condW t34_24
   (joinW (fun found_55 w =>
   opW Try.prog (binS BinOp.add 3 (Operand.tmp 35) (Operand.const (Value.int IntKind.i64 1)) r_16 (Value.int IntKind.i64 1)) (fun t36_56 w =>
   loopK [] [] [l_1, out_5, i_6] [l_1, out_5, i_6] (K_17 found_55 t36_56 w)) w) (fun J_25 =>
   opW Try.prog (Instr.indexAt 22 l_1 i_6) (fun t39_26 w =>
   opW Try.prog (Instr.fieldAt 34 t39_26 1) (fun t40_27 w =>
   opW Try.prog (Instr.loadAt 3 t40_27) (fun t41_28 w =>
   Loop2 (fun sum_30 k_31 w K_32 =>
   opW Try.prog (Builtin.len_ #[22] 3 #[l_1]) (fun t44_33 w =>
   opW Try.prog (binS BinOp.lss 3 (Operand.tmp 42) (Operand.tmp 44) k_31 t44_33) (fun t45_34 w =>
   condW t45_34
   (joinW (fun sum_52 w =>
   opW Try.prog (binS BinOp.add 3 (Operand.tmp 46) (Operand.const (Value.int IntKind.i64 1)) k_31 (Value.int IntKind.i64 1)) (fun t47_53 w =>
   loopK [] [] [l_1, out_5, i_6, found_15, r_16] [l_1, out_5, i_6, found_15, r_16] (K_32 sum_52 t47_53 w)) w) (fun J_35 =>
   callW Try.prog (Value.func (Fn.func 26) #[] #[]) #[l_1, k_31, i_6] (fun t51_36 w =>
   condW t51_36
   (drewW w (fun w =>
   takeW Try.prog anyW (Instr.indexAt 22 l_1 k_31) (fun t55_38 =>
   takeW Try.prog anyW (Instr.fieldAt 34 t55_38 1) (fun t56_39 =>
   takeW Try.prog (sameW w) (Instr.loadAt 3 t56_39) (fun t57_40 =>
   takeW Try.prog anyW (Instr.indexAt 22 l_1 k_31) (fun t61_41 =>
   takeW Try.prog anyW (Instr.fieldAt 34 t61_41 2) (fun t62_42 =>
   takeW Try.prog (sameW w) (Instr.loadAt 3 t62_42) (fun t63_43 =>
   takeW Try.prog anyW (binS BinOp.add 3 (Operand.tmp 58) (Operand.tmp 63) r_16 t63_43) (fun t64_44 =>
   takeW Try.prog anyW (binS BinOp.sub 3 (Operand.tmp 64) (Operand.const (Value.int IntKind.i64 1)) t64_44 (Value.int IntKind.i64 1)) (fun t65_45 =>
   takeW Try.prog anyW (Instr.indexAt 22 l_1 k_31) (fun t68_46 =>
   takeW Try.prog anyW (Instr.fieldAt 34 t68_46 2) (fun t69_47 =>
   takeW Try.prog (sameW w) (Instr.loadAt 3 t69_47) (fun t70_48 =>
   takeW Try.prog anyW (binS BinOp.quo 3 (Operand.tmp 65) (Operand.tmp 70) t65_45 t70_48) (fun t71_49 =>
   takeW Try.prog anyW (binS BinOp.mul 3 (Operand.tmp 57) (Operand.tmp 71) t57_40 t71_49) (fun t72_50 =>
   takeW Try.prog anyW (binS BinOp.add 3 (Operand.tmp 52) (Operand.tmp 72) sum_30 t72_50) (fun t73_51 =>
   J_35 t73_51 w) w) w) w) w) w) w) w) w) w) w) w) w) w) w))
   (J_35 sum_30 w)) w))
   (opW Try.prog (binS BinOp.eql 3 (Operand.tmp 74) (Operand.tmp 75) sum_30 r_16) (fun t76_54 w =>
   condW t76_54
   (J_25 r_16 w)
   (J_25 found_15 w)) w)) w) w) t41_28 (Value.int IntKind.i64 0) w) w) w) w))
   (opW Try.prog (Instr.buildSlice 26 1 #[(0, found_15)]) (fun t80_57 w =>
   opW Try.prog (Builtin.append_ #[26, 26] 26 #[out_5, t80_57]) (fun t81_58 w =>
   opW Try.prog (binS BinOp.add 3 (Operand.tmp 17) (Operand.const (Value.int IntKind.i64 1)) i_6 (Value.int IntKind.i64 1)) (fun t18_59 w =>
   loopK [] [] [l_1] [l_1] (K_7 t81_58 t18_59 w)) w) w) w)) w) w) w) w) w) w) w) (Value.int IntKind.i64 (-1)) t23_13 w) w) w) w)
   (k (Value.tuple #[out_5, (Value.int IntKind.i64 0)]) w)) w) w) (Value.slice none 0 0) (Value.int IntKind.i64 0) w)) w) w
theorem S14_vc (l_1 : Value) (k : Value → World → Prop) (w : World) : vc Try.prog Try.f14.ntmps ann14 none ((Try.f14.body).getD Code.skip) 1 (params 0 [l_1]) [] (finQ Try.prog Try.f14.results.toList k) w = S14 l_1 k w := by kernel_rfl
theorem S14_calls (l_1 : Value) (k : Value → World → Prop) (w : World) (h : S14 l_1 k w) : Calls Try.prog 14 #[l_1] w (retP k) :=
  calls_of_vc (fn := Try.f14) (c := (Try.f14.body).getD Code.skip) ann14 Try.func14 (by kernel_rfl) [l_1] w k (by kernel_rfl) ((S14_vc l_1 k w).symm ▸ h)
theorem C14 (l_1 : Value) (k : Value → World → Prop) (w : World) (h : S14 l_1 k w) : callW Try.prog (.func (.func 14) #[] #[]) #[l_1] k w :=
  callW_calls ok14 (by simpa using S14_calls l_1 k w h)

/-! newswire/sched.Valid -/
def ann15 : Ann := []
def S15 (l_1 : Value) (k : Value → World → Prop) (w : World) : Prop :=
   opW Try.prog (Builtin.len_ #[22] 3 #[l_1]) (fun t5_2 w =>
   callW Try.prog (Value.func (Fn.func 34) #[] #[]) #[t5_2, (Value.int IntKind.i64 1), (Value.int IntKind.i64 8)] (fun t6_3 w =>
   guardW (some t6_3, true) (fun k w => k l_1 w) (fun t8_4 w =>
   guardW (some t6_3, true) (fun k w => k (Value.func (Fn.func 33) #[] #[]) w) (fun t9_5 w =>
   guardW (some t6_3, true) (fun k w => callW Try.prog (Value.func (Fn.func 35) #[] #[]) #[t8_4, t9_5] k w) (fun t10_6 w =>
   guardW (some t6_3, true) (fun k w => opW Try.prog (Op.unary UnOp.not t10_6) k w) (fun t11_7 w =>
   pickW t6_3 t11_7 (Value.bool false) (fun t12_8 w =>
   k t12_8 w) w) w) w) w) w) w) w
theorem S15_vc (l_1 : Value) (k : Value → World → Prop) (w : World) : vc Try.prog Try.f15.ntmps ann15 none ((Try.f15.body).getD Code.skip) 1 (params 0 [l_1]) [] (finQ Try.prog Try.f15.results.toList k) w = S15 l_1 k w := by kernel_rfl
theorem S15_calls (l_1 : Value) (k : Value → World → Prop) (w : World) (h : S15 l_1 k w) : Calls Try.prog 15 #[l_1] w (retP k) :=
  calls_of_vc (fn := Try.f15) (c := (Try.f15.body).getD Code.skip) ann15 Try.func15 (by kernel_rfl) [l_1] w k (by kernel_rfl) ((S15_vc l_1 k w).symm ▸ h)
theorem C15 (l_1 : Value) (k : Value → World → Prop) (w : World) (h : S15 l_1 k w) : callW Try.prog (.func (.func 15) #[] #[]) #[l_1] k w :=
  callW_calls ok15 (by simpa using S15_calls l_1 k w h)

/-! newswire/newswireref24.Valid -/
def ann16 : Ann := [(29, Note.keep []), (58, Note.loop [3] [0]), (466, Note.keep [0, 3])]
def S16 (l_1 : Value) (k : Value → World → Prop) (w : World) : Prop :=
   opW Try.prog (Builtin.len_ #[22] 3 #[l_1]) (fun t5_2 w =>
   callW Try.prog (Value.func (Fn.func 36) #[] #[]) #[t5_2, (Value.int IntKind.i64 1), (Value.int IntKind.i64 8)] (fun t6_3 w =>
   opW Try.prog (Op.unary UnOp.not t6_3) (fun t7_4 w =>
   condW t7_4
   (k (Value.bool false) w)
   (Loop1 (fun i_6 w K_7 =>
   opW Try.prog (Builtin.len_ #[22] 3 #[l_1]) (fun t10_8 w =>
   opW Try.prog (binS BinOp.lss 3 (Operand.tmp 8) (Operand.tmp 10) i_6 t10_8) (fun t11_9 w =>
   condW t11_9
   (opW Try.prog (Instr.indexAt 22 l_1 i_6) (fun t16_11 w =>
   opW Try.prog (Instr.fieldAt 34 t16_11 0) (fun t17_12 w =>
   opW Try.prog (Instr.loadAt 3 t17_12) (fun t18_13 w =>
   callW Try.prog (Value.func (Fn.func 36) #[] #[]) #[t18_13, (Value.int IntKind.i64 1), (Value.int IntKind.i64 3)] (fun t19_14 w =>
   opW Try.prog (Op.unary UnOp.not t19_14) (fun t20_15 w =>
   guardW (some t20_15, false) (fun k w => k l_1 w) (fun t22_16 w =>
   guardW (some t20_15, false) (fun k w => k i_6 w) (fun t23_17 w =>
   guardW (some t20_15, false) (fun k w => opW Try.prog (Instr.indexAt 22 t22_16 t23_17) k w) (fun t24_18 w =>
   guardW (some t20_15, false) (fun k w => opW Try.prog (Instr.fieldAt 34 t24_18 1) k w) (fun t25_19 w =>
   guardW (some t20_15, false) (fun k w => opW Try.prog (Instr.loadAt 3 t25_19) k w) (fun t26_20 w =>
   guardW (some t20_15, false) (fun k w => callW Try.prog (Value.func (Fn.func 36) #[] #[]) #[t26_20, (Value.int IntKind.i64 1), (Value.int IntKind.i64 50)] k w) (fun t27_21 w =>
   guardW (some t20_15, false) (fun k w => opW Try.prog (Op.unary UnOp.not t27_21) k w) (fun t28_22 w =>
   pickW t20_15 (Value.bool true) t28_22 (fun t29_23 w =>
   guardW (some t29_23, false) (fun k w => k l_1 w) (fun t31_24 w =>
   guardW (some t29_23, false) (fun k w => k i_6 w) (fun t32_25 w =>
   guardW (some t29_23, false) (fun k w => opW Try.prog (Instr.indexAt 22 t31_24 t32_25) k w) (fun t33_26 w =>
   guardW (some t29_23, false) (fun k w => opW Try.prog (Instr.fieldAt 34 t33_26 2) k w) (fun t34_27 w =>
   guardW (some t29_23, false) (fun k w => opW Try.prog (Instr.loadAt 3 t34_27) k w) (fun t35_28 w =>
   guardW (some t29_23, false) (fun k w => callW Try.prog (Value.func (Fn.func 36) #[] #[]) #[t35_28, (Value.int IntKind.i64 1), (Value.int IntKind.i64 1000)] k w) (fun t36_29 w =>
   guardW (some t29_23, false) (fun k w => opW Try.prog (Op.unary UnOp.not t36_29) k w) (fun t37_30 w =>
   pickW t29_23 (Value.bool true) t37_30 (fun t38_31 w =>
   condW t38_31
   (k (Value.bool false) w)
   (opW Try.prog (binS BinOp.add 3 (Operand.tmp 12) (Operand.const (Value.int IntKind.i64 1)) i_6 (Value.int IntKind.i64 1)) (fun t13_32 w =>
   loopK [] [] [l_1] [l_1] (K_7 t13_32 w)) w)) w) w) w) w) w) w) w) w) w) w) w) w) w) w) w) w) w) w) w) w) w)
   (k (Value.bool true) w)) w) w) (Value.int IntKind.i64 0) w)) w) w) w
theorem S16_vc (l_1 : Value) (k : Value → World → Prop) (w : World) : vc Try.prog Try.f16.ntmps ann16 none ((Try.f16.body).getD Code.skip) 1 (params 0 [l_1]) [] (finQ Try.prog Try.f16.results.toList k) w = S16 l_1 k w := by kernel_rfl
theorem S16_calls (l_1 : Value) (k : Value → World → Prop) (w : World) (h : S16 l_1 k w) : Calls Try.prog 16 #[l_1] w (retP k) :=
  calls_of_vc (fn := Try.f16) (c := (Try.f16.body).getD Code.skip) ann16 Try.func16 (by kernel_rfl) [l_1] w k (by kernel_rfl) ((S16_vc l_1 k w).symm ▸ h)
theorem C16 (l_1 : Value) (k : Value → World → Prop) (w : World) (h : S16 l_1 k w) : callW Try.prog (.func (.func 16) #[] #[]) #[l_1] k w :=
  callW_calls ok16 (by simpa using S16_calls l_1 k w h)

/-! newswire/newswireref24.SameInts -/
def ann17 : Ann := [(29, Note.keep []), (58, Note.loop [5] [0, 1]), (466, Note.keep [0, 1, 5]), (1864, Note.plan (Plan.takeP 0 (Plan.takeP 1 (Plan.takeP 2 (Plan.takeX 3 (Plan.takeP 4 (Plan.takeP 5 (Plan.takeP 6 (Plan.takeX 7 (Plan.takeP 8 Plan.done))))))))))]
def S17 (a_1 b_2 : Value) (k : Value → World → Prop) (w : World) : Prop :=
   opW Try.prog (Builtin.len_ #[26] 3 #[a_1]) (fun t7_3 w =>
   opW Try.prog (Builtin.len_ #[26] 3 #[b_2]) (fun t9_4 w =>
   opW Try.prog (binS BinOp.neq 3 (Operand.tmp 7) (Operand.tmp 9) t7_3 t9_4) (fun t10_5 w =>
   condW t10_5
   (k (Value.bool false) w)
   (Loop1 (fun i_7 w K_8 =>
   opW Try.prog (Builtin.len_ #[26] 3 #[a_1]) (fun t13_9 w =>
   opW Try.prog (binS BinOp.lss 3 (Operand.tmp 11) (Operand.tmp 13) i_7 t13_9) (fun t14_10 w =>
   condW t14_10
   (drewW w (fun w =>
   takeW Try.prog anyW (Instr.indexAt 26 a_1 i_7) (fun t19_13 =>
   takeW Try.prog (sameW w) (Instr.loadAt 3 t19_13) (fun t20_14 =>
   takeW Try.prog anyW (Instr.indexAt 26 b_2 i_7) (fun t23_15 =>
   takeW Try.prog (sameW w) (Instr.loadAt 3 t23_15) (fun t24_16 =>
   takeW Try.prog anyW (binS BinOp.neq 3 (Operand.tmp 20) (Operand.tmp 24) t20_14 t24_16) (fun t25_17 =>
   condW t25_17
   (k (Value.bool false) w)
   (opW Try.prog (binS BinOp.add 3 (Operand.tmp 15) (Operand.const (Value.int IntKind.i64 1)) i_7 (Value.int IntKind.i64 1)) (fun t16_18 w =>
   loopK [] [] [a_1, b_2] [a_1, b_2] (K_8 t16_18 w)) w)) w) w) w) w) w))
   (k (Value.bool true) w)) w) w) (Value.int IntKind.i64 0) w)) w) w) w
theorem S17_vc (a_1 b_2 : Value) (k : Value → World → Prop) (w : World) : vc Try.prog Try.f17.ntmps ann17 none ((Try.f17.body).getD Code.skip) 1 (params 0 [a_1, b_2]) [] (finQ Try.prog Try.f17.results.toList k) w = S17 a_1 b_2 k w := by kernel_rfl
theorem S17_calls (a_1 b_2 : Value) (k : Value → World → Prop) (w : World) (h : S17 a_1 b_2 k w) : Calls Try.prog 17 #[a_1, b_2] w (retP k) :=
  calls_of_vc (fn := Try.f17) (c := (Try.f17.body).getD Code.skip) ann17 Try.func17 (by kernel_rfl) [a_1, b_2] w k (by kernel_rfl) ((S17_vc a_1 b_2 k w).symm ▸ h)
theorem C17 (a_1 b_2 : Value) (k : Value → World → Prop) (w : World) (h : S17 a_1 b_2 k w) : callW Try.prog (.func (.func 17) #[] #[]) #[a_1, b_2] k w :=
  callW_calls ok17 (by simpa using S17_calls a_1 b_2 k w h)

/-! newswire/sched.Trace -/
def ann18 : Ann := [(29, Note.keep [4]), (117, Note.keep [])]
def S18 (l_1 a_2 : Value) (k : Value → World → Prop) (w : World) : Prop :=
   opW Try.prog (Instr.alloc 26 true (Value.tuple #[])) (fun out_3 w =>
   callW Try.prog (Value.func (Fn.func 22) #[] #[]) #[l_1, a_2] (fun t10_4 w =>
   opW Try.prog (Op.unary UnOp.not t10_4) (fun t11_5 w =>
   condW t11_5
   (opU Try.prog (Instr.storeAt 26 out_3 (Value.slice none 0 0)) (fun _ w =>
   resCell Try.prog 26 out_3 (fun r_6 => k (Value.tuple #[r_6, (Value.int IntKind.i64 240)]) w) w) w)
   (callW Try.prog (Value.func (Fn.func 37) #[] #[]) #[l_1, a_2] (fun t14_7 w =>
   rangeW Try.prog t14_7 2 (fun l_9 ready_9 busy_9 args_9 w k_9 =>
   ready_9 w ∧ (fun w => opW Try.prog (Instr.loadAt 26 out_3) (fun t17_11 w =>
   opW Try.prog (Instr.buildSlice 26 1 #[(0, (args_9.tail.headD undef))]) (fun t19_12 w =>
   opW Try.prog (Builtin.append_ #[26, 26] 26 #[t17_11, t19_12]) (fun t20_13 w =>
   opU Try.prog (Instr.storeAt 26 out_3 t20_13) (fun _ w =>
   k_9 none w) w) w) w) w) (busy_9 w)) (fun d_9 j_9 w => jumpW j_9
   (opW Try.prog (Instr.loadAt 26 out_3) (fun t21_15 w =>
   opU Try.prog (Instr.storeAt 26 out_3 t21_15) (fun _ w =>
   leaveW [{ target := Target.collected d_9, args := #[] }] (fun w => resCell Try.prog 26 out_3 (fun r_16 => k (Value.tuple #[r_16, (Value.int IntKind.i64 0)]) w) w) w) w) w)
   (leaveW [{ target := Target.collected d_9, args := #[] }] (fun w => resCell Try.prog 26 out_3 (fun r_14 => k (Value.tuple #[r_14, (Value.int IntKind.i64 0)]) w) w) w)) w) w)) w) w) w
theorem S18_vc (l_1 a_2 : Value) (k : Value → World → Prop) (w : World) : vc Try.prog Try.f18.ntmps ann18 none ((Try.f18.body).getD Code.skip) 1 (params 0 [l_1, a_2]) [] (finQ Try.prog Try.f18.results.toList k) w = S18 l_1 a_2 k w := by kernel_rfl
theorem S18_calls (l_1 a_2 : Value) (k : Value → World → Prop) (w : World) (h : S18 l_1 a_2 k w) : Calls Try.prog 18 #[l_1, a_2] w (retP k) :=
  calls_of_vc (fn := Try.f18) (c := (Try.f18.body).getD Code.skip) ann18 Try.func18 (by kernel_rfl) [l_1, a_2] w k (by kernel_rfl) ((S18_vc l_1 a_2 k w).symm ▸ h)
theorem C18 (l_1 a_2 : Value) (k : Value → World → Prop) (w : World) (h : S18 l_1 a_2 k w) : callW Try.prog (.func (.func 18) #[] #[]) #[l_1, a_2] k w :=
  callW_calls ok18 (by simpa using S18_calls l_1 a_2 k w h)

/-! newswire/newswireref24.Trace -/
def ann19 : Ann := [(125, Note.keep [0, 1, 6, 7]), (250, Note.loop [6, 7, 8] [0, 1]), (254, Note.keep [9]), (508, Note.loop [7, 9] [0, 1, 6]), (2002, Note.keep [0, 1, 6, 7, 8]), (2033, Note.keep [0, 1, 6, 7, 9]), (32533, Note.keep [0, 1, 6, 7, 9, 10]), (65066, Note.loop [10, 11] [0, 1, 6, 7, 9]), (520530, Note.keep [0, 1, 6, 7, 9, 10, 11]), (4164242, Note.plan (Plan.takeP 0 (Plan.takeP 1 (Plan.takeP 2 (Plan.takeP 3 (Plan.takeP 4 (Plan.takeP 5 (Plan.takeP 6 (Plan.takeP 7 (Plan.takeX 8 (Plan.takeP 9 (Plan.takeP 10 (Plan.takeP 11 (Plan.takeP 12 (Plan.takeX 13 (Plan.run 14 (Plan.takeP 15 Plan.done)))))))))))))))))]
def S19 (l_1 a_2 : Value) (k : Value → World → Prop) (w : World) : Prop :=
   callW Try.prog (Value.func (Fn.func 23) #[] #[]) #[l_1, a_2] (fun t14_3 w =>
   opW Try.prog (Op.unary UnOp.not t14_3) (fun t15_4 w =>
   condW t15_4
   (k (Value.tuple #[(Value.slice none 0 0), (Value.int IntKind.i64 240)]) w)
   (Loop3 (fun left_6 total_7 i_8 w K_9 =>
   opW Try.prog (Builtin.len_ #[23] 3 #[a_2]) (fun t18_10 w =>
   opW Try.prog (binS BinOp.lss 3 (Operand.tmp 16) (Operand.tmp 18) i_8 t18_10) (fun t19_11 w =>
   condW t19_11
   (opW Try.prog (Instr.indexAt 23 a_2 i_8) (fun t26_13 w =>
   opW Try.prog (Instr.fieldAt 31 t26_13 0) (fun t27_14 w =>
   opW Try.prog (Instr.loadAt 3 t27_14) (fun t28_15 w =>
   opW Try.prog (Instr.indexAt 22 l_1 t28_15) (fun t29_16 w =>
   opW Try.prog (Instr.fieldAt 34 t29_16 1) (fun t30_17 w =>
   opW Try.prog (Instr.loadAt 3 t30_17) (fun t31_18 w =>
   opW Try.prog (Instr.buildSlice 26 1 #[(0, t31_18)]) (fun t32_19 w =>
   opW Try.prog (Builtin.append_ #[26, 26] 26 #[left_6, t32_19]) (fun t33_20 w =>
   opW Try.prog (Instr.indexAt 23 a_2 i_8) (fun t38_21 w =>
   opW Try.prog (Instr.fieldAt 31 t38_21 0) (fun t39_22 w =>
   opW Try.prog (Instr.loadAt 3 t39_22) (fun t40_23 w =>
   opW Try.prog (Instr.indexAt 22 l_1 t40_23) (fun t41_24 w =>
   opW Try.prog (Instr.fieldAt 34 t41_24 1) (fun t42_25 w =>
   opW Try.prog (Instr.loadAt 3 t42_25) (fun t43_26 w =>
   opW Try.prog (binS BinOp.add 3 (Operand.tmp 34) (Operand.tmp 43) total_7 t43_26) (fun t44_27 w =>
   opW Try.prog (binS BinOp.add 3 (Operand.tmp 20) (Operand.const (Value.int IntKind.i64 1)) i_8 (Value.int IntKind.i64 1)) (fun t21_28 w =>
   loopK [] [] [l_1, a_2] [l_1, a_2] (K_9 t33_20 t44_27 t21_28 w)) w) w) w) w) w) w) w) w) w) w) w) w) w) w) w) w)
   (Loop2 (fun total_30 out_31 w K_32 =>
   opW Try.prog (binS BinOp.gtr 3 (Operand.tmp 45) (Operand.const (Value.int IntKind.i64 0)) total_30 (Value.int IntKind.i64 0)) (fun t46_33 w =>
   condW t46_33
   (joinW (fun total_78 out_79 w =>
   loopK [] [] [l_1, a_2, left_6] [l_1, a_2, left_6] (K_32 total_78 out_79 w)) (fun J_34 =>
   Loop2 (fun best_36 i_37 w K_38 =>
   opW Try.prog (Builtin.len_ #[23] 3 #[a_2]) (fun t49_39 w =>
   opW Try.prog (binS BinOp.lss 3 (Operand.tmp 47) (Operand.tmp 49) i_37 t49_39) (fun t50_40 w =>
   condW t50_40
   (joinW (fun best_68 w =>
   opW Try.prog (binS BinOp.add 3 (Operand.tmp 51) (Operand.const (Value.int IntKind.i64 1)) i_37 (Value.int IntKind.i64 1)) (fun t52_69 w =>
   loopK [] [] [l_1, a_2, left_6, total_30, out_31] [l_1, a_2, left_6, total_30, out_31] (K_38 best_68 t52_69 w)) w) (fun J_41 =>
   opW Try.prog (Instr.indexAt 23 a_2 i_37) (fun t55_42 w =>
   opW Try.prog (Instr.fieldAt 31 t55_42 1) (fun t56_43 w =>
   opW Try.prog (Instr.loadAt 3 t56_43) (fun t57_44 w =>
   opW Try.prog (Builtin.len_ #[26] 3 #[out_31]) (fun t59_45 w =>
   opW Try.prog (binS BinOp.gtr 3 (Operand.tmp 57) (Operand.tmp 59) t57_44 t59_45) (fun t60_46 w =>
   guardW (some t60_46, false) (fun k w => k left_6 w) (fun t62_47 w =>
   guardW (some t60_46, false) (fun k w => k i_37 w) (fun t63_48 w =>
   guardW (some t60_46, false) (fun k w => opW Try.prog (Instr.indexAt 26 t62_47 t63_48) k w) (fun t64_49 w =>
   guardW (some t60_46, false) (fun k w => opW Try.prog (Instr.loadAt 3 t64_49) k w) (fun t65_50 w =>
   guardW (some t60_46, false) (fun k w => opW Try.prog (binS BinOp.eql 3 (Operand.tmp 65) (Operand.const (Value.int IntKind.i64 0)) t65_50 (Value.int IntKind.i64 0)) k w) (fun t66_51 w =>
   pickW t60_46 (Value.bool true) t66_51 (fun t67_52 w =>
   condW t67_52
   (J_41 best_36 w)
   (drewW w (fun w =>
   takeW Try.prog anyW (binS BinOp.lss 3 (Operand.tmp 68) (Operand.const (Value.int IntKind.i64 0)) best_36 (Value.int IntKind.i64 0)) (fun t69_54 =>
   guardT (some t69_54, false) (fun k => k l_1) (fun t71_55 =>
   guardT (some t69_54, false) (fun k => k a_2) (fun t72_56 =>
   guardT (some t69_54, false) (fun k => k i_37) (fun t73_57 =>
   guardT (some t69_54, false) (fun k => takeW Try.prog anyW (Instr.indexAt 23 t72_56 t73_57) k w) (fun t74_58 =>
   guardT (some t69_54, false) (fun k => takeW Try.prog anyW (Instr.fieldAt 31 t74_58 0) k w) (fun t75_59 =>
   guardT (some t69_54, false) (fun k => takeW Try.prog (sameW w) (Instr.loadAt 3 t75_59) k w) (fun t76_60 =>
   guardT (some t69_54, false) (fun k => k a_2) (fun t77_61 =>
   guardT (some t69_54, false) (fun k => k best_36) (fun t78_62 =>
   guardT (some t69_54, false) (fun k => takeW Try.prog anyW (Instr.indexAt 23 t77_61 t78_62) k w) (fun t79_63 =>
   guardT (some t69_54, false) (fun k => takeW Try.prog anyW (Instr.fieldAt 31 t79_63 0) k w) (fun t80_64 =>
   guardT (some t69_54, false) (fun k => takeW Try.prog (sameW w) (Instr.loadAt 3 t80_64) k w) (fun t81_65 =>
   guardW (some t69_54, false) (fun k w => callW Try.prog (Value.func (Fn.func 26) #[] #[]) #[t71_55, t76_60, t81_65] k w) (fun t82_66 w =>
   pickT t69_54 (Value.bool true) t82_66 (fun t83_67 =>
   condW t83_67
   (J_41 i_37 w)
   (J_41 best_36 w))) w)))))))))))) w))) w) w) w) w) w) w) w) w) w) w) w))
   (opW Try.prog (Instr.buildSlice 26 1 #[(0, best_36)]) (fun t87_70 w =>
   opW Try.prog (Builtin.append_ #[26, 26] 26 #[out_31, t87_70]) (fun t88_71 w =>
   opW Try.prog (binS BinOp.geq 3 (Operand.tmp 89) (Operand.const (Value.int IntKind.i64 0)) best_36 (Value.int IntKind.i64 0)) (fun t90_72 w =>
   condW t90_72
   (opW Try.prog (Instr.indexAt 26 left_6 best_36) (fun t93_73 w =>
   opW Try.prog (Instr.loadAt 3 t93_73) (fun t94_74 w =>
   opW Try.prog (binS BinOp.sub 3 (Operand.tmp 94) (Operand.const (Value.int IntKind.i64 1)) t94_74 (Value.int IntKind.i64 1)) (fun t95_75 w =>
   opW Try.prog (Instr.indexAt 26 left_6 best_36) (fun t96_76 w =>
   opU Try.prog (Instr.storeAt 3 t96_76 t95_75) (fun _ w =>
   opW Try.prog (binS BinOp.sub 3 (Operand.tmp 97) (Operand.const (Value.int IntKind.i64 1)) total_30 (Value.int IntKind.i64 1)) (fun t98_77 w =>
   J_34 t98_77 t88_71 w) w) w) w) w) w) w)
   (J_34 total_30 t88_71 w)) w) w) w)) w) w) (Value.int IntKind.i64 (-1)) (Value.int IntKind.i64 0) w))
   (k (Value.tuple #[out_31, (Value.int IntKind.i64 0)]) w)) w) total_7 (Value.slice none 0 0) w)) w) w) (Value.slice none 0 0) (Value.int IntKind.i64 0) (Value.int IntKind.i64 0) w)) w) w
theorem S19_vc (l_1 a_2 : Value) (k : Value → World → Prop) (w : World) : vc Try.prog Try.f19.ntmps ann19 none ((Try.f19.body).getD Code.skip) 1 (params 0 [l_1, a_2]) [] (finQ Try.prog Try.f19.results.toList k) w = S19 l_1 a_2 k w := by kernel_rfl
theorem S19_calls (l_1 a_2 : Value) (k : Value → World → Prop) (w : World) (h : S19 l_1 a_2 k w) : Calls Try.prog 19 #[l_1, a_2] w (retP k) :=
  calls_of_vc (fn := Try.f19) (c := (Try.f19.body).getD Code.skip) ann19 Try.func19 (by kernel_rfl) [l_1, a_2] w k (by kernel_rfl) ((S19_vc l_1 a_2 k w).symm ▸ h)
theorem C19 (l_1 a_2 : Value) (k : Value → World → Prop) (w : World) (h : S19 l_1 a_2 k w) : callW Try.prog (.func (.func 19) #[] #[]) #[l_1, a_2] k w :=
  callW_calls ok19 (by simpa using S19_calls l_1 a_2 k w h)

/-! newswire/sched.Finish -/
def ann20 : Ann := [(61, Note.keep [6]), (245, Note.keep [])]
def S20 (l_1 a_2 : Value) (k : Value → World → Prop) (w : World) : Prop :=
   callW Try.prog (Value.func (Fn.func 22) #[] #[]) #[l_1, a_2] (fun t11_3 w =>
   opW Try.prog (Op.unary UnOp.not t11_3) (fun t12_4 w =>
   condW t12_4
   (k (Value.tuple #[(Value.slice none 0 0), (Value.int IntKind.i64 240)]) w)
   (opW Try.prog (Builtin.len_ #[23] 3 #[a_2]) (fun t14_5 w =>
   opW Try.prog (Instr.makeSlice 26 t14_5 t14_5) (fun t15_6 w =>
   opW Try.prog (Instr.alloc 26 true (Value.tuple #[])) (fun out_7 w =>
   opU Try.prog (Instr.storeAt 26 out_7 t15_6) (fun _ w =>
   callW Try.prog (Value.func (Fn.func 37) #[] #[]) #[l_1, a_2] (fun t18_8 w =>
   rangeW Try.prog t18_8 2 (fun l_10 ready_10 busy_10 args_10 w k_10 =>
   ready_10 w ∧ (fun w => joinW (fun w =>
   k_10 none w) (fun J_11 =>
   opW Try.prog (binS BinOp.geq 3 (Operand.tmp 21) (Operand.const (Value.int IntKind.i64 0)) (args_10.tail.headD undef) (Value.int IntKind.i64 0)) (fun t22_12 w =>
   condW t22_12
   (opW Try.prog (Instr.loadAt 26 out_7) (fun t23_13 w =>
   opW Try.prog (binS BinOp.add 3 (Operand.tmp 25) (Operand.const (Value.int IntKind.i64 1)) (args_10.headD undef) (Value.int IntKind.i64 1)) (fun t26_14 w =>
   opW Try.prog (Instr.indexAt 26 t23_13 (args_10.tail.headD undef)) (fun t27_15 w =>
   opU Try.prog (Instr.storeAt 3 t27_15 t26_14) (fun _ w =>
   J_11 w) w) w) w) w)
   (J_11 w)) w)) (busy_10 w)) (fun d_10 j_10 w => jumpW j_10
   (opW Try.prog (Instr.loadAt 26 out_7) (fun t28_16 w =>
   leaveW [{ target := Target.collected d_10, args := #[] }] (fun w => k (Value.tuple #[t28_16, (Value.int IntKind.i64 0)]) w) w) w)
   (leaveW [{ target := Target.collected d_10, args := #[] }] (fun w => k (Value.tuple #[(Value.slice none 0 0), (Value.int IntKind.i64 0)]) w) w)) w) w) w) w) w) w)) w) w
theorem S20_vc (l_1 a_2 : Value) (k : Value → World → Prop) (w : World) : vc Try.prog Try.f20.ntmps ann20 none ((Try.f20.body).getD Code.skip) 1 (params 0 [l_1, a_2]) [] (finQ Try.prog Try.f20.results.toList k) w = S20 l_1 a_2 k w := by kernel_rfl
theorem S20_calls (l_1 a_2 : Value) (k : Value → World → Prop) (w : World) (h : S20 l_1 a_2 k w) : Calls Try.prog 20 #[l_1, a_2] w (retP k) :=
  calls_of_vc (fn := Try.f20) (c := (Try.f20.body).getD Code.skip) ann20 Try.func20 (by kernel_rfl) [l_1, a_2] w k (by kernel_rfl) ((S20_vc l_1 a_2 k w).symm ▸ h)
theorem C20 (l_1 a_2 : Value) (k : Value → World → Prop) (w : World) (h : S20 l_1 a_2 k w) : callW Try.prog (.func (.func 20) #[] #[]) #[l_1, a_2] k w :=
  callW_calls ok20 (by simpa using S20_calls l_1 a_2 k w h)

/-! newswire/newswireref24.Finish -/
def ann21 : Ann := [(125, Note.keep [8]), (250, Note.loop [9] [6, 8]), (2002, Note.keep [6, 8, 9])]
def S21 (l_1 a_2 : Value) (k : Value → World → Prop) (w : World) : Prop :=
   callW Try.prog (Value.func (Fn.func 19) #[] #[]) #[l_1, a_2] (fun t13_3 w =>
   opW Try.prog (Instr.extract t13_3 0) (fun t14_4 w =>
   opW Try.prog (Instr.extract t13_3 1) (fun t15_5 w =>
   opW Try.prog (binS BinOp.neq 36 (Operand.tmp 16) (Operand.const (Value.int IntKind.i64 0)) t15_5 (Value.int IntKind.i64 0)) (fun t17_6 w =>
   condW t17_6
   (k (Value.tuple #[(Value.slice none 0 0), t15_5]) w)
   (opW Try.prog (Builtin.len_ #[23] 3 #[a_2]) (fun t20_7 w =>
   opW Try.prog (Instr.makeSlice 26 t20_7 t20_7) (fun t21_8 w =>
   Loop1 (fun t_10 w K_11 =>
   opW Try.prog (Builtin.len_ #[26] 3 #[t14_4]) (fun t24_12 w =>
   opW Try.prog (binS BinOp.lss 3 (Operand.tmp 22) (Operand.tmp 24) t_10 t24_12) (fun t25_13 w =>
   condW t25_13
   (joinW (fun w =>
   opW Try.prog (binS BinOp.add 3 (Operand.tmp 26) (Operand.const (Value.int IntKind.i64 1)) t_10 (Value.int IntKind.i64 1)) (fun t27_22 w =>
   loopK [] [] [t14_4, t21_8] [t14_4, t21_8] (K_11 t27_22 w)) w) (fun J_14 =>
   opW Try.prog (Instr.indexAt 26 t14_4 t_10) (fun t30_15 w =>
   opW Try.prog (Instr.loadAt 3 t30_15) (fun t31_16 w =>
   opW Try.prog (binS BinOp.geq 3 (Operand.tmp 31) (Operand.const (Value.int IntKind.i64 0)) t31_16 (Value.int IntKind.i64 0)) (fun t32_17 w =>
   condW t32_17
   (opW Try.prog (Instr.indexAt 26 t14_4 t_10) (fun t36_18 w =>
   opW Try.prog (Instr.loadAt 3 t36_18) (fun t37_19 w =>
   opW Try.prog (binS BinOp.add 3 (Operand.tmp 38) (Operand.const (Value.int IntKind.i64 1)) t_10 (Value.int IntKind.i64 1)) (fun t39_20 w =>
   opW Try.prog (Instr.indexAt 26 t21_8 t37_19) (fun t40_21 w =>
   opU Try.prog (Instr.storeAt 3 t40_21 t39_20) (fun _ w =>
   J_14 w) w) w) w) w) w)
   (J_14 w)) w) w) w))
   (k (Value.tuple #[t21_8, (Value.int IntKind.i64 0)]) w)) w) w) (Value.int IntKind.i64 0) w) w) w)) w) w) w) w
theorem S21_vc (l_1 a_2 : Value) (k : Value → World → Prop) (w : World) : vc Try.prog Try.f21.ntmps ann21 none ((Try.f21.body).getD Code.skip) 1 (params 0 [l_1, a_2]) [] (finQ Try.prog Try.f21.results.toList k) w = S21 l_1 a_2 k w := by kernel_rfl
theorem S21_calls (l_1 a_2 : Value) (k : Value → World → Prop) (w : World) (h : S21 l_1 a_2 k w) : Calls Try.prog 21 #[l_1, a_2] w (retP k) :=
  calls_of_vc (fn := Try.f21) (c := (Try.f21.body).getD Code.skip) ann21 Try.func21 (by kernel_rfl) [l_1, a_2] w k (by kernel_rfl) ((S21_vc l_1 a_2 k w).symm ▸ h)
theorem C21 (l_1 a_2 : Value) (k : Value → World → Prop) (w : World) (h : S21 l_1 a_2 k w) : callW Try.prog (.func (.func 21) #[] #[]) #[l_1, a_2] k w :=
  callW_calls ok21 (by simpa using S21_calls l_1 a_2 k w h)

/-! newswire/sched.Proper -/
def ann22 : Ann := [(61, Note.keep [0, 1, 5]), (122, Note.loop [22] [0, 1, 5, 21]), (125, Note.keep []), (250, Note.loop [31] [0, 1, 5, 29, 30]), (1958, Note.keep [0, 1, 5, 21, 22]), (4006, Note.keep [0, 1, 5, 29, 30, 31]), (64100, Note.plan (Plan.takeP 0 (Plan.takeS 1 (Plan.takeP 2 (Plan.takeP 3 (Plan.takeP 4 (Plan.run 5 (Plan.takeP 6 (Plan.takeP 7 (Plan.takeP 8 (Plan.takeX 9 (Plan.run 10 (Plan.takeP 11 (Plan.takeP 12 (Plan.takeP 13 (Plan.takeP 14 (Plan.takeX 15 (Plan.takeP 16 (Plan.takeP 17 (Plan.takeX 18 (Plan.takeP 19 (Plan.takeX 20 (Plan.takeP 21 (Plan.takeP 22 (Plan.takeP 23 (Plan.takeX 24 (Plan.takeP 25 (Plan.takeP 26 (Plan.takeX 27 (Plan.takeP 28 (Plan.takeP 29 Plan.done))))))))))))))))))))))))))))))), (128204, Note.plan (Plan.takeP 0 (Plan.takeP 1 (Plan.takeP 2 (Plan.takeP 3 (Plan.takeP 4 (Plan.takeP 5 (Plan.takeP 6 (Plan.takeP 7 (Plan.takeX 8 (Plan.takeP 9 (Plan.takeX 10 (Plan.takeP 11 (Plan.takeP 12 (Plan.takeP 13 (Plan.takeP 14 (Plan.takeP 15 (Plan.takeP 16 (Plan.takeP 17 (Plan.takeX 18 (Plan.takeP 19 (Plan.takeX 20 (Plan.takeP 21 (Plan.takeP 22 (Plan.takeP 23 (Plan.takeP 24 (Plan.takeP 25 (Plan.takeP 26 (Plan.takeP 27 (Plan.takeX 28 (Plan.takeP 29 (Plan.takeX 30 (Plan.takeP 31 (Plan.takeP 32 (Plan.takeP 33 (Plan.takeP 34 Plan.done))))))))))))))))))))))))))))))))))))]
def S22 (l_1 a_2 : Value) (k : Value → World → Prop) (w : World) : Prop :=
   opW Try.prog (Builtin.len_ #[23] 3 #[a_2]) (fun t10_3 w =>
   opW Try.prog (binS BinOp.gtr 3 (Operand.tmp 10) (Operand.const (Value.int IntKind.i64 60)) t10_3 (Value.int IntKind.i64 60)) (fun t11_4 w =>
   guardW (some t11_4, false) (fun k w => k l_1 w) (fun t13_5 w =>
   guardW (some t11_4, false) (fun k w => callW Try.prog (Value.func (Fn.func 15) #[] #[]) #[t13_5] k w) (fun t14_6 w =>
   guardW (some t11_4, false) (fun k w => opW Try.prog (Op.unary UnOp.not t14_6) k w) (fun t15_7 w =>
   pickW t11_4 (Value.bool true) t15_7 (fun t16_8 w =>
   condW t16_8
   (k (Value.bool false) w)
   (opW Try.prog (Builtin.len_ #[22] 3 #[l_1]) (fun t18_9 w =>
   opW Try.prog (Instr.makeSlice 26 t18_9 t18_9) (fun t19_10 w =>
   opW Try.prog (Builtin.len_ #[26] 3 #[t19_10]) (fun t21_11 w =>
   Loop1 (fun t22_13 w K_14 =>
   opW Try.prog (binS BinOp.lss 3 (Operand.tmp 22) (Operand.tmp 21) t22_13 t21_11) (fun t23_15 w =>
   condW t23_15
   (opW Try.prog (Instr.indexAt 26 t19_10 t22_13) (fun t27_17 w =>
   opU Try.prog (Instr.storeAt 3 t27_17 (Value.int IntKind.i64 (-1000))) (fun _ w =>
   opW Try.prog (binS BinOp.add 3 (Operand.tmp 22) (Operand.const (Value.int IntKind.i64 1)) t22_13 (Value.int IntKind.i64 1)) (fun t28_18 w =>
   loopK [] [] [l_1, a_2, t19_10, t21_11] [l_1, a_2, t19_10, t21_11] (K_14 t28_18 w)) w) w) w)
   (opW Try.prog (Builtin.len_ #[23] 3 #[a_2]) (fun t30_19 w =>
   Loop1 (fun t31_21 w K_22 =>
   opW Try.prog (binS BinOp.lss 3 (Operand.tmp 31) (Operand.tmp 30) t31_21 t30_19) (fun t32_23 w =>
   condW t32_23
   (opW Try.prog (Instr.indexAt 23 a_2 t31_21) (fun t34_25 w =>
   opW Try.prog (Instr.loadAt 31 t34_25) (fun t35_26 w =>
   opW Try.prog (Instr.alloc 31 true (Value.tuple #[])) (fun x_27 w =>
   opU Try.prog (Instr.storeAt 31 x_27 t35_26) (fun _ w =>
   drewW w (fun w =>
   ∃ S : World → Prop, S w ∧
   takeW Try.prog anyW (Instr.fieldAt 31 x_27 0) (fun t36_29 =>
   takeW Try.prog S (Instr.loadAt 3 t36_29) (fun t37_30 =>
   takeW Try.prog anyW (Builtin.len_ #[22] 3 #[l_1]) (fun t39_31 =>
   takeW Try.prog anyW (binS BinOp.sub 3 (Operand.tmp 39) (Operand.const (Value.int IntKind.i64 1)) t39_31 (Value.int IntKind.i64 1)) (fun t40_32 =>
   callW Try.prog (Value.func (Fn.func 34) #[] #[]) #[t37_30, (Value.int IntKind.i64 0), t40_32] (fun t41_33 w => keepS S (fun w =>
   takeW Try.prog anyW (Op.unary UnOp.not t41_33) (fun t42_34 =>
   guardT (some t42_34, false) (fun k => takeW Try.prog anyW (Instr.fieldAt 31 x_27 1) k w) (fun t44_35 =>
   guardT (some t42_34, false) (fun k => takeW Try.prog (sameW w) (Instr.loadAt 3 t44_35) k w) (fun t45_36 =>
   guardW (some t42_34, false) (fun k w => callW Try.prog (Value.func (Fn.func 34) #[] #[]) #[t45_36, (Value.int IntKind.i64 0), (Value.int IntKind.i64 2000)] k w) (fun t46_37 w => keepS S (fun w =>
   guardT (some t42_34, false) (fun k => takeW Try.prog anyW (Op.unary UnOp.not t46_37) k w) (fun t47_38 =>
   pickT t42_34 (Value.bool true) t47_38 (fun t48_39 =>
   guardT (some t48_39, false) (fun k => takeW Try.prog anyW (Instr.fieldAt 31 x_27 1) k w) (fun t50_40 =>
   guardT (some t48_39, false) (fun k => takeW Try.prog (sameW w) (Instr.loadAt 3 t50_40) k w) (fun t51_41 =>
   guardT (some t48_39, false) (fun k => k t19_10) (fun t52_42 =>
   guardT (some t48_39, false) (fun k => takeW Try.prog anyW (Instr.fieldAt 31 x_27 0) k w) (fun t53_43 =>
   guardT (some t48_39, false) (fun k => takeW Try.prog (sameW w) (Instr.loadAt 3 t53_43) k w) (fun t54_44 =>
   guardT (some t48_39, false) (fun k => takeW Try.prog anyW (Instr.indexAt 26 t52_42 t54_44) k w) (fun t55_45 =>
   guardT (some t48_39, false) (fun k => takeW Try.prog (sameW w) (Instr.loadAt 3 t55_45) k w) (fun t56_46 =>
   guardT (some t48_39, false) (fun k => takeW Try.prog anyW (binS BinOp.sub 3 (Operand.tmp 51) (Operand.tmp 56) t51_41 t56_46) k w) (fun t57_47 =>
   guardT (some t48_39, false) (fun k => k l_1) (fun t58_48 =>
   guardT (some t48_39, false) (fun k => takeW Try.prog anyW (Instr.fieldAt 31 x_27 0) k w) (fun t59_49 =>
   guardT (some t48_39, false) (fun k => takeW Try.prog (sameW w) (Instr.loadAt 3 t59_49) k w) (fun t60_50 =>
   guardT (some t48_39, false) (fun k => takeW Try.prog anyW (Instr.indexAt 22 t58_48 t60_50) k w) (fun t61_51 =>
   guardT (some t48_39, false) (fun k => takeW Try.prog anyW (Instr.fieldAt 34 t61_51 2) k w) (fun t62_52 =>
   guardT (some t48_39, false) (fun k => takeW Try.prog (sameW w) (Instr.loadAt 3 t62_52) k w) (fun t63_53 =>
   guardT (some t48_39, false) (fun k => takeW Try.prog anyW (binS BinOp.lss 3 (Operand.tmp 57) (Operand.tmp 63) t57_47 t63_53) k w) (fun t64_54 =>
   pickT t48_39 (Value.bool true) t64_54 (fun t65_55 =>
   condW t65_55
   (k (Value.bool false) w)
   (drewW w (fun w =>
   takeW Try.prog anyW (binS BinOp.gtr 3 (Operand.tmp 66) (Operand.const (Value.int IntKind.i64 0)) t31_21 (Value.int IntKind.i64 0)) (fun t67_57 =>
   guardT (some t67_57, true) (fun k => k a_2) (fun t69_58 =>
   guardT (some t67_57, true) (fun k => k t31_21) (fun t70_59 =>
   guardT (some t67_57, true) (fun k => takeW Try.prog anyW (binS BinOp.sub 3 (Operand.tmp 70) (Operand.const (Value.int IntKind.i64 1)) t70_59 (Value.int IntKind.i64 1)) k w) (fun t71_60 =>
   guardT (some t67_57, true) (fun k => takeW Try.prog anyW (Instr.indexAt 23 t69_58 t71_60) k w) (fun t72_61 =>
   guardT (some t67_57, true) (fun k => takeW Try.prog anyW (Instr.fieldAt 31 t72_61 1) k w) (fun t73_62 =>
   guardT (some t67_57, true) (fun k => takeW Try.prog (sameW w) (Instr.loadAt 3 t73_62) k w) (fun t74_63 =>
   guardT (some t67_57, true) (fun k => takeW Try.prog anyW (Instr.fieldAt 31 x_27 1) k w) (fun t75_64 =>
   guardT (some t67_57, true) (fun k => takeW Try.prog (sameW w) (Instr.loadAt 3 t75_64) k w) (fun t76_65 =>
   guardT (some t67_57, true) (fun k => takeW Try.prog anyW (binS BinOp.gtr 3 (Operand.tmp 74) (Operand.tmp 76) t74_63 t76_65) k w) (fun t77_66 =>
   guardT (some t67_57, true) (fun k => k t77_66) (fun t78_67 =>
   guardT (some t78_67, false) (fun k => k a_2) (fun t79_68 =>
   guardT (some t78_67, false) (fun k => k t31_21) (fun t80_69 =>
   guardT (some t78_67, false) (fun k => takeW Try.prog anyW (binS BinOp.sub 3 (Operand.tmp 80) (Operand.const (Value.int IntKind.i64 1)) t80_69 (Value.int IntKind.i64 1)) k w) (fun t81_70 =>
   guardT (some t78_67, false) (fun k => takeW Try.prog anyW (Instr.indexAt 23 t79_68 t81_70) k w) (fun t82_71 =>
   guardT (some t78_67, false) (fun k => takeW Try.prog anyW (Instr.fieldAt 31 t82_71 1) k w) (fun t83_72 =>
   guardT (some t78_67, false) (fun k => takeW Try.prog (sameW w) (Instr.loadAt 3 t83_72) k w) (fun t84_73 =>
   guardT (some t78_67, false) (fun k => takeW Try.prog anyW (Instr.fieldAt 31 x_27 1) k w) (fun t85_74 =>
   guardT (some t78_67, false) (fun k => takeW Try.prog (sameW w) (Instr.loadAt 3 t85_74) k w) (fun t86_75 =>
   guardT (some t78_67, false) (fun k => takeW Try.prog anyW (binS BinOp.eql 3 (Operand.tmp 84) (Operand.tmp 86) t84_73 t86_75) k w) (fun t87_76 =>
   guardT (some t78_67, false) (fun k => k t87_76) (fun t88_77 =>
   guardT (some t88_77, true) (fun k => k a_2) (fun t89_78 =>
   guardT (some t88_77, true) (fun k => k t31_21) (fun t90_79 =>
   guardT (some t88_77, true) (fun k => takeW Try.prog anyW (binS BinOp.sub 3 (Operand.tmp 90) (Operand.const (Value.int IntKind.i64 1)) t90_79 (Value.int IntKind.i64 1)) k w) (fun t91_80 =>
   guardT (some t88_77, true) (fun k => takeW Try.prog anyW (Instr.indexAt 23 t89_78 t91_80) k w) (fun t92_81 =>
   guardT (some t88_77, true) (fun k => takeW Try.prog anyW (Instr.fieldAt 31 t92_81 0) k w) (fun t93_82 =>
   guardT (some t88_77, true) (fun k => takeW Try.prog (sameW w) (Instr.loadAt 3 t93_82) k w) (fun t94_83 =>
   guardT (some t88_77, true) (fun k => takeW Try.prog anyW (Instr.fieldAt 31 x_27 0) k w) (fun t95_84 =>
   guardT (some t88_77, true) (fun k => takeW Try.prog (sameW w) (Instr.loadAt 3 t95_84) k w) (fun t96_85 =>
   guardT (some t88_77, true) (fun k => takeW Try.prog anyW (binS BinOp.geq 3 (Operand.tmp 94) (Operand.tmp 96) t94_83 t96_85) k w) (fun t97_86 =>
   guardT (some t78_67, false) (fun k => pickT t88_77 t97_86 (Value.bool false) k) (fun t98_87 =>
   guardT (some t67_57, true) (fun k => pickT t78_67 (Value.bool true) t98_87 k) (fun t99_88 =>
   pickT t67_57 t99_88 (Value.bool false) (fun t100_89 =>
   condW t100_89
   (k (Value.bool false) w)
   (opW Try.prog (Instr.fieldAt 31 x_27 0) (fun t102_90 w =>
   opW Try.prog (Instr.loadAt 3 t102_90) (fun t103_91 w =>
   opW Try.prog (Instr.fieldAt 31 x_27 1) (fun t104_92 w =>
   opW Try.prog (Instr.loadAt 3 t104_92) (fun t105_93 w =>
   opW Try.prog (Instr.indexAt 26 t19_10 t103_91) (fun t106_94 w =>
   opU Try.prog (Instr.storeAt 3 t106_94 t105_93) (fun _ w =>
   opW Try.prog (binS BinOp.add 3 (Operand.tmp 31) (Operand.const (Value.int IntKind.i64 1)) t31_21 (Value.int IntKind.i64 1)) (fun t107_95 w =>
   loopK [] [] [l_1, a_2, t19_10, a_2, t30_19] [l_1, a_2, t19_10, a_2, t30_19] (K_22 t107_95 w)) w) w) w) w) w) w) w)))))))))))))))))))))))))))))))))) w))))))))))))))))))))) w) w))) w) w) w) w) w) w) w)) w) w) w) w)
   (k (Value.bool true) w)) w) (Value.int IntKind.i64 0) w) w)) w) (Value.int IntKind.i64 0) w) w) w) w)) w) w) w) w) w) w
theorem S22_vc (l_1 a_2 : Value) (k : Value → World → Prop) (w : World) : vc Try.prog Try.f22.ntmps ann22 none ((Try.f22.body).getD Code.skip) 1 (params 0 [l_1, a_2]) [] (finQ Try.prog Try.f22.results.toList k) w = S22 l_1 a_2 k w := by kernel_rfl
theorem S22_calls (l_1 a_2 : Value) (k : Value → World → Prop) (w : World) (h : S22 l_1 a_2 k w) : Calls Try.prog 22 #[l_1, a_2] w (retP k) :=
  calls_of_vc (fn := Try.f22) (c := (Try.f22.body).getD Code.skip) ann22 Try.func22 (by kernel_rfl) [l_1, a_2] w k (by kernel_rfl) ((S22_vc l_1 a_2 k w).symm ▸ h)
theorem C22 (l_1 a_2 : Value) (k : Value → World → Prop) (w : World) (h : S22 l_1 a_2 k w) : callW Try.prog (.func (.func 22) #[] #[]) #[l_1, a_2] k w :=
  callW_calls ok22 (by simpa using S22_calls l_1 a_2 k w h)

/-! newswire/newswireref24.Proper -/
def ann23 : Ann := [(29, Note.keep []), (58, Note.loop [5] [0, 1]), (466, Note.keep [0, 1, 5]), (3731, Note.keep [0, 1, 5]), (7462, Note.loop [6] [0, 1, 5]), (59698, Note.keep [0, 1, 5, 6]), (238792, Note.plan (Plan.takeP 0 (Plan.takeP 1 (Plan.takeP 2 (Plan.takeP 3 (Plan.takeX 4 (Plan.takeP 5 (Plan.takeP 6 (Plan.takeP 7 (Plan.takeP 8 (Plan.takeX 9 (Plan.takeP 10 (Plan.takeP 11 (Plan.takeP 12 (Plan.takeP 13 (Plan.takeP 14 (Plan.takeP 15 (Plan.takeX 16 (Plan.takeP 17 (Plan.takeP 18 (Plan.takeP 19 (Plan.takeP 20 (Plan.takeX 21 (Plan.takeP 22 (Plan.takeP 23 (Plan.takeP 24 (Plan.takeP 25 (Plan.takeP 26 (Plan.takeP 27 (Plan.takeX 28 (Plan.takeP 29 (Plan.takeP 30 (Plan.takeP 31 (Plan.takeP 32 (Plan.takeX 33 (Plan.takeP 34 (Plan.takeP 35 (Plan.takeP 36 (Plan.takeP 37 (Plan.takeP 38 (Plan.takeP 39 (Plan.takeP 40 (Plan.takeP 41 (Plan.takeX 42 (Plan.takeP 43 (Plan.takeP 44 (Plan.takeP 45 (Plan.takeP 46 (Plan.takeX 47 (Plan.takeP 48 (Plan.takeP 49 (Plan.takeP 50 (Plan.takeP 51 (Plan.takeP 52 (Plan.takeP 53 (Plan.takeX 54 (Plan.takeP 55 (Plan.takeP 56 (Plan.takeP 57 (Plan.takeP 58 (Plan.takeX 59 (Plan.takeP 60 (Plan.takeP 61 (Plan.takeP 62 (Plan.takeP 63 (Plan.takeP 64 (Plan.takeP 65 (Plan.takeX 66 (Plan.takeP 67 (Plan.takeP 68 (Plan.takeX 69 (Plan.takeP 70 (Plan.takeP 71 (Plan.takeP 72 Plan.done))))))))))))))))))))))))))))))))))))))))))))))))))))))))))))))))))))))))))]
def S23 (l_1 a_2 : Value) (k : Value → World → Prop) (w : World) : Prop :=
   callW Try.prog (Value.func (Fn.func 16) #[] #[]) #[l_1] (fun t8_3 w =>
   opW Try.prog (Op.unary UnOp.not t8_3) (fun t9_4 w =>
   guardW (some t9_4, false) (fun k w => k a_2 w) (fun t11_5 w =>
   guardW (some t9_4, false) (fun k w => opW Try.prog (Builtin.len_ #[23] 3 #[t11_5]) k w) (fun t12_6 w =>
   guardW (some t9_4, false) (fun k w => opW Try.prog (binS BinOp.gtr 3 (Operand.tmp 12) (Operand.const (Value.int IntKind.i64 60)) t12_6 (Value.int IntKind.i64 60)) k w) (fun t13_7 w =>
   pickW t9_4 (Value.bool true) t13_7 (fun t14_8 w =>
   condW t14_8
   (k (Value.bool false) w)
   (Loop1 (fun i_10 w K_11 =>
   opW Try.prog (Builtin.len_ #[23] 3 #[a_2]) (fun t17_12 w =>
   opW Try.prog (binS BinOp.lss 3 (Operand.tmp 15) (Operand.tmp 17) i_10 t17_12) (fun t18_13 w =>
   condW t18_13
   (opW Try.prog (Instr.indexAt 23 a_2 i_10) (fun t23_15 w =>
   opW Try.prog (Instr.fieldAt 31 t23_15 0) (fun t24_16 w =>
   opW Try.prog (Instr.loadAt 3 t24_16) (fun t25_17 w =>
   opW Try.prog (Builtin.len_ #[22] 3 #[l_1]) (fun t27_18 w =>
   opW Try.prog (binS BinOp.sub 3 (Operand.tmp 27) (Operand.const (Value.int IntKind.i64 1)) t27_18 (Value.int IntKind.i64 1)) (fun t28_19 w =>
   callW Try.prog (Value.func (Fn.func 36) #[] #[]) #[t25_17, (Value.int IntKind.i64 0), t28_19] (fun t29_20 w =>
   opW Try.prog (Op.unary UnOp.not t29_20) (fun t30_21 w =>
   guardW (some t30_21, false) (fun k w => k a_2 w) (fun t32_22 w =>
   guardW (some t30_21, false) (fun k w => k i_10 w) (fun t33_23 w =>
   guardW (some t30_21, false) (fun k w => opW Try.prog (Instr.indexAt 23 t32_22 t33_23) k w) (fun t34_24 w =>
   guardW (some t30_21, false) (fun k w => opW Try.prog (Instr.fieldAt 31 t34_24 1) k w) (fun t35_25 w =>
   guardW (some t30_21, false) (fun k w => opW Try.prog (Instr.loadAt 3 t35_25) k w) (fun t36_26 w =>
   guardW (some t30_21, false) (fun k w => callW Try.prog (Value.func (Fn.func 36) #[] #[]) #[t36_26, (Value.int IntKind.i64 0), (Value.int IntKind.i64 2000)] k w) (fun t37_27 w =>
   guardW (some t30_21, false) (fun k w => opW Try.prog (Op.unary UnOp.not t37_27) k w) (fun t38_28 w =>
   pickW t30_21 (Value.bool true) t38_28 (fun t39_29 w =>
   condW t39_29
   (k (Value.bool false) w)
   (Loop1 (fun k_31 w K_32 =>
   opW Try.prog (binS BinOp.lss 3 (Operand.tmp 40) (Operand.tmp 41) k_31 i_10) (fun t42_33 w =>
   condW t42_33
   (drewW w (fun w =>
   takeW Try.prog anyW (Instr.indexAt 23 a_2 k_31) (fun t47_36 =>
   takeW Try.prog anyW (Instr.fieldAt 31 t47_36 1) (fun t48_37 =>
   takeW Try.prog (sameW w) (Instr.loadAt 3 t48_37) (fun t49_38 =>
   takeW Try.prog anyW (Instr.indexAt 23 a_2 i_10) (fun t52_39 =>
   takeW Try.prog anyW (Instr.fieldAt 31 t52_39 1) (fun t53_40 =>
   takeW Try.prog (sameW w) (Instr.loadAt 3 t53_40) (fun t54_41 =>
   takeW Try.prog anyW (binS BinOp.gtr 3 (Operand.tmp 49) (Operand.tmp 54) t49_38 t54_41) (fun t55_42 =>
   guardT (some t55_42, false) (fun k => k a_2) (fun t57_43 =>
   guardT (some t55_42, false) (fun k => k k_31) (fun t58_44 =>
   guardT (some t55_42, false) (fun k => takeW Try.prog anyW (Instr.indexAt 23 t57_43 t58_44) k w) (fun t59_45 =>
   guardT (some t55_42, false) (fun k => takeW Try.prog anyW (Instr.fieldAt 31 t59_45 1) k w) (fun t60_46 =>
   guardT (some t55_42, false) (fun k => takeW Try.prog (sameW w) (Instr.loadAt 3 t60_46) k w) (fun t61_47 =>
   guardT (some t55_42, false) (fun k => k a_2) (fun t62_48 =>
   guardT (some t55_42, false) (fun k => k i_10) (fun t63_49 =>
   guardT (some t55_42, false) (fun k => takeW Try.prog anyW (Instr.indexAt 23 t62_48 t63_49) k w) (fun t64_50 =>
   guardT (some t55_42, false) (fun k => takeW Try.prog anyW (Instr.fieldAt 31 t64_50 1) k w) (fun t65_51 =>
   guardT (some t55_42, false) (fun k => takeW Try.prog (sameW w) (Instr.loadAt 3 t65_51) k w) (fun t66_52 =>
   guardT (some t55_42, false) (fun k => takeW Try.prog anyW (binS BinOp.eql 3 (Operand.tmp 61) (Operand.tmp 66) t61_47 t66_52) k w) (fun t67_53 =>
   guardT (some t55_42, false) (fun k => k t67_53) (fun t68_54 =>
   guardT (some t68_54, true) (fun k => k a_2) (fun t69_55 =>
   guardT (some t68_54, true) (fun k => k k_31) (fun t70_56 =>
   guardT (some t68_54, true) (fun k => takeW Try.prog anyW (Instr.indexAt 23 t69_55 t70_56) k w) (fun t71_57 =>
   guardT (some t68_54, true) (fun k => takeW Try.prog anyW (Instr.fieldAt 31 t71_57 0) k w) (fun t72_58 =>
   guardT (some t68_54, true) (fun k => takeW Try.prog (sameW w) (Instr.loadAt 3 t72_58) k w) (fun t73_59 =>
   guardT (some t68_54, true) (fun k => k a_2) (fun t74_60 =>
   guardT (some t68_54, true) (fun k => k i_10) (fun t75_61 =>
   guardT (some t68_54, true) (fun k => takeW Try.prog anyW (Instr.indexAt 23 t74_60 t75_61) k w) (fun t76_62 =>
   guardT (some t68_54, true) (fun k => takeW Try.prog anyW (Instr.fieldAt 31 t76_62 0) k w) (fun t77_63 =>
   guardT (some t68_54, true) (fun k => takeW Try.prog (sameW w) (Instr.loadAt 3 t77_63) k w) (fun t78_64 =>
   guardT (some t68_54, true) (fun k => takeW Try.prog anyW (binS BinOp.geq 3 (Operand.tmp 73) (Operand.tmp 78) t73_59 t78_64) k w) (fun t79_65 =>
   guardT (some t55_42, false) (fun k => pickT t68_54 t79_65 (Value.bool false) k) (fun t80_66 =>
   pickT t55_42 (Value.bool true) t80_66 (fun t81_67 =>
   guardT (some t81_67, false) (fun k => k a_2) (fun t83_68 =>
   guardT (some t81_67, false) (fun k => k k_31) (fun t84_69 =>
   guardT (some t81_67, false) (fun k => takeW Try.prog anyW (Instr.indexAt 23 t83_68 t84_69) k w) (fun t85_70 =>
   guardT (some t81_67, false) (fun k => takeW Try.prog anyW (Instr.fieldAt 31 t85_70 0) k w) (fun t86_71 =>
   guardT (some t81_67, false) (fun k => takeW Try.prog (sameW w) (Instr.loadAt 3 t86_71) k w) (fun t87_72 =>
   guardT (some t81_67, false) (fun k => k a_2) (fun t88_73 =>
   guardT (some t81_67, false) (fun k => k i_10) (fun t89_74 =>
   guardT (some t81_67, false) (fun k => takeW Try.prog anyW (Instr.indexAt 23 t88_73 t89_74) k w) (fun t90_75 =>
   guardT (some t81_67, false) (fun k => takeW Try.prog anyW (Instr.fieldAt 31 t90_75 0) k w) (fun t91_76 =>
   guardT (some t81_67, false) (fun k => takeW Try.prog (sameW w) (Instr.loadAt 3 t91_76) k w) (fun t92_77 =>
   guardT (some t81_67, false) (fun k => takeW Try.prog anyW (binS BinOp.eql 3 (Operand.tmp 87) (Operand.tmp 92) t87_72 t92_77) k w) (fun t93_78 =>
   guardT (some t81_67, false) (fun k => k t93_78) (fun t94_79 =>
   guardT (some t94_79, true) (fun k => k a_2) (fun t95_80 =>
   guardT (some t94_79, true) (fun k => k i_10) (fun t96_81 =>
   guardT (some t94_79, true) (fun k => takeW Try.prog anyW (Instr.indexAt 23 t95_80 t96_81) k w) (fun t97_82 =>
   guardT (some t94_79, true) (fun k => takeW Try.prog anyW (Instr.fieldAt 31 t97_82 1) k w) (fun t98_83 =>
   guardT (some t94_79, true) (fun k => takeW Try.prog (sameW w) (Instr.loadAt 3 t98_83) k w) (fun t99_84 =>
   guardT (some t94_79, true) (fun k => k a_2) (fun t100_85 =>
   guardT (some t94_79, true) (fun k => k k_31) (fun t101_86 =>
   guardT (some t94_79, true) (fun k => takeW Try.prog anyW (Instr.indexAt 23 t100_85 t101_86) k w) (fun t102_87 =>
   guardT (some t94_79, true) (fun k => takeW Try.prog anyW (Instr.fieldAt 31 t102_87 1) k w) (fun t103_88 =>
   guardT (some t94_79, true) (fun k => takeW Try.prog (sameW w) (Instr.loadAt 3 t103_88) k w) (fun t104_89 =>
   guardT (some t94_79, true) (fun k => takeW Try.prog anyW (binS BinOp.sub 3 (Operand.tmp 99) (Operand.tmp 104) t99_84 t104_89) k w) (fun t105_90 =>
   guardT (some t94_79, true) (fun k => k l_1) (fun t106_91 =>
   guardT (some t94_79, true) (fun k => k a_2) (fun t107_92 =>
   guardT (some t94_79, true) (fun k => k i_10) (fun t108_93 =>
   guardT (some t94_79, true) (fun k => takeW Try.prog anyW (Instr.indexAt 23 t107_92 t108_93) k w) (fun t109_94 =>
   guardT (some t94_79, true) (fun k => takeW Try.prog anyW (Instr.fieldAt 31 t109_94 0) k w) (fun t110_95 =>
   guardT (some t94_79, true) (fun k => takeW Try.prog (sameW w) (Instr.loadAt 3 t110_95) k w) (fun t111_96 =>
   guardT (some t94_79, true) (fun k => takeW Try.prog anyW (Instr.indexAt 22 t106_91 t111_96) k w) (fun t112_97 =>
   guardT (some t94_79, true) (fun k => takeW Try.prog anyW (Instr.fieldAt 34 t112_97 2) k w) (fun t113_98 =>
   guardT (some t94_79, true) (fun k => takeW Try.prog (sameW w) (Instr.loadAt 3 t113_98) k w) (fun t114_99 =>
   guardT (some t94_79, true) (fun k => takeW Try.prog anyW (binS BinOp.lss 3 (Operand.tmp 105) (Operand.tmp 114) t105_90 t114_99) k w) (fun t115_100 =>
   guardT (some t81_67, false) (fun k => pickT t94_79 t115_100 (Value.bool false) k) (fun t116_101 =>
   pickT t81_67 (Value.bool true) t116_101 (fun t117_102 =>
   condW t117_102
   (k (Value.bool false) w)
   (opW Try.prog (binS BinOp.add 3 (Operand.tmp 43) (Operand.const (Value.int IntKind.i64 1)) k_31 (Value.int IntKind.i64 1)) (fun t44_103 w =>
   loopK [] [] [l_1, a_2, i_10] [l_1, a_2, i_10] (K_32 t44_103 w)) w)))))))))))))))))))))))))))))))))))))))))))))))))))))))))))))) w) w) w) w) w) w) w))
   (opW Try.prog (binS BinOp.add 3 (Operand.tmp 19) (Operand.const (Value.int IntKind.i64 1)) i_10 (Value.int IntKind.i64 1)) (fun t20_104 w =>
   loopK [] [] [l_1, a_2] [l_1, a_2] (K_11 t20_104 w)) w)) w) (Value.int IntKind.i64 0) w)) w) w) w) w) w) w) w) w) w) w) w) w) w) w) w)
   (k (Value.bool true) w)) w) w) (Value.int IntKind.i64 0) w)) w) w) w) w) w) w
theorem S23_vc (l_1 a_2 : Value) (k : Value → World → Prop) (w : World) : vc Try.prog Try.f23.ntmps ann23 none ((Try.f23.body).getD Code.skip) 1 (params 0 [l_1, a_2]) [] (finQ Try.prog Try.f23.results.toList k) w = S23 l_1 a_2 k w := by kernel_rfl
theorem S23_calls (l_1 a_2 : Value) (k : Value → World → Prop) (w : World) (h : S23 l_1 a_2 k w) : Calls Try.prog 23 #[l_1, a_2] w (retP k) :=
  calls_of_vc (fn := Try.f23) (c := (Try.f23.body).getD Code.skip) ann23 Try.func23 (by kernel_rfl) [l_1, a_2] w k (by kernel_rfl) ((S23_vc l_1 a_2 k w).symm ▸ h)
theorem C23 (l_1 a_2 : Value) (k : Value → World → Prop) (w : World) (h : S23 l_1 a_2 k w) : callW Try.prog (.func (.func 23) #[] #[]) #[l_1, a_2] k w :=
  callW_calls ok23 (by simpa using S23_calls l_1 a_2 k w h)

/-! newswire/sched.Divide -/
def ann24 : Ann := [(253, Note.keep [2, 3, 7, 8]), (506, Note.loop [8, 32] [2, 3, 7, 30, 31]), (510, Note.plan (Plan.takeS 0 (Plan.takeX 1 (Plan.takeP 2 (Plan.run 3 (Plan.takeP 4 (Plan.takeP 5 Plan.done))))))), (4093, Note.keep [13]), (8102, Note.keep [2, 3, 7, 8, 30, 31, 32]), (8186, Note.loop [12, 53] [11, 13, 51, 52]), (130982, Note.keep [11, 12, 13, 51, 52, 53])]
def S24 (bytes_1 wants_2 : Value) (k : Value → World → Prop) (w : World) : Prop :=
   opW Try.prog (Instr.box 3 bytes_1) (fun bytes_3 w =>
   opW Try.prog (Instr.box 26 wants_2) (fun wants_4 w =>
   opW Try.prog (Instr.loadAt 3 bytes_3) (fun t17_5 w =>
   callW Try.prog (Value.func (Fn.func 38) #[] #[]) #[t17_5] (fun t18_6 w =>
   guardW (some t18_6, false) (fun k w => opW Try.prog (Instr.loadAt 26 wants_4) k w) (fun t20_7 w =>
   guardW (some t18_6, false) (fun k w => opW Try.prog (Builtin.len_ #[26] 3 #[t20_7]) k w) (fun t21_8 w =>
   guardW (some t18_6, false) (fun k w => opW Try.prog (binS BinOp.gtr 3 (Operand.tmp 21) (Operand.const (Value.int IntKind.i64 8)) t21_8 (Value.int IntKind.i64 8)) k w) (fun t22_9 w =>
   pickW t18_6 (Value.bool true) t22_9 (fun t23_10 w =>
   guardW (some t23_10, false) (fun k w => opW Try.prog (Instr.loadAt 26 wants_4) k w) (fun t25_11 w =>
   guardW (some t23_10, false) (fun k w => k (Value.func (Fn.func 38) #[] #[]) w) (fun t26_12 w =>
   guardW (some t23_10, false) (fun k w => callW Try.prog (Value.func (Fn.func 39) #[] #[]) #[t25_11, t26_12] k w) (fun t27_13 w =>
   pickW t23_10 (Value.bool true) t27_13 (fun t28_14 w =>
   condW t28_14
   (k (Value.tuple #[(Value.slice none 0 0), (Value.int IntKind.i64 240)]) w)
   (opW Try.prog (Instr.makeFunc (Fn.func 40) #[] #[wants_4]) (fun t29_15 w =>
   opW Try.prog (Instr.alloc 60 true (Value.tuple #[])) (fun needs_16 w =>
   opU Try.prog (Instr.storeAt 60 needs_16 t29_15) (fun _ w =>
   opW Try.prog (Instr.loadAt 26 wants_4) (fun t30_17 w =>
   opW Try.prog (Builtin.len_ #[26] 3 #[t30_17]) (fun t31_18 w =>
   Loop2 (fun most_20 t32_21 w K_22 =>
   opW Try.prog (binS BinOp.lss 3 (Operand.tmp 32) (Operand.tmp 31) t32_21 t31_18) (fun t33_23 w =>
   condW t33_23
   (opW Try.prog (Instr.indexAt 26 t30_17 t32_21) (fun t34_25 w =>
   opW Try.prog (Instr.loadAt 3 t34_25) (fun t35_26 w =>
   opW Try.prog (Builtin.max_ #[3, 3] 3 #[most_20, t35_26]) (fun t38_27 w =>
   opW Try.prog (binS BinOp.add 3 (Operand.tmp 32) (Operand.const (Value.int IntKind.i64 1)) t32_21 (Value.int IntKind.i64 1)) (fun t39_28 w =>
   loopK [] [] [bytes_3, wants_4, needs_16, t30_17, t31_18] [bytes_3, wants_4, needs_16, t30_17, t31_18] (K_22 t38_27 t39_28 w)) w) w) w) w)
   (opW Try.prog (Instr.makeFunc (Fn.func 42) #[] #[needs_16, bytes_3]) (fun t41_29 w =>
   callW Try.prog (Value.func (Fn.func 41) #[] #[]) #[most_20, t41_29] (fun t42_30 w =>
   drewW w (fun w =>
   ∃ S : World → Prop, S w ∧
   takeW Try.prog S (Instr.loadAt 3 bytes_3) (fun t43_32 =>
   takeW Try.prog (sameW w) (Instr.loadAt 60 needs_16) (fun t44_33 =>
   callW Try.prog t44_33 #[t42_30] (fun t46_34 w => keepS S (fun w =>
   takeW Try.prog anyW (binS BinOp.sub 3 (Operand.tmp 43) (Operand.tmp 46) t43_32 t46_34) (fun t47_35 =>
   opW Try.prog (Instr.loadAt 26 wants_4) (fun t48_36 w =>
   opW Try.prog (Builtin.len_ #[26] 3 #[t48_36]) (fun t49_37 w =>
   opW Try.prog (Instr.makeSlice 26 t49_37 t49_37) (fun t50_38 w =>
   opW Try.prog (Instr.loadAt 26 wants_4) (fun t51_39 w =>
   opW Try.prog (Builtin.len_ #[26] 3 #[t51_39]) (fun t52_40 w =>
   Loop2 (fun left_42 t53_43 w K_44 =>
   opW Try.prog (binS BinOp.lss 3 (Operand.tmp 53) (Operand.tmp 52) t53_43 t52_40) (fun t54_45 w =>
   condW t54_45
   (joinW (fun left_60 w =>
   opW Try.prog (binS BinOp.add 3 (Operand.tmp 53) (Operand.const (Value.int IntKind.i64 1)) t53_43 (Value.int IntKind.i64 1)) (fun t79_61 w =>
   loopK [] [] [t42_30, t50_38, t51_39, t52_40] [t42_30, t50_38, t51_39, t52_40] (K_44 left_60 t79_61 w)) w) (fun J_46 =>
   opW Try.prog (Instr.indexAt 26 t51_39 t53_43) (fun t56_47 w =>
   opW Try.prog (Instr.loadAt 3 t56_47) (fun t57_48 w =>
   opW Try.prog (Builtin.min_ #[3, 3] 3 #[t57_48, t42_30]) (fun t62_49 w =>
   opW Try.prog (Instr.indexAt 26 t50_38 t53_43) (fun t63_50 w =>
   opU Try.prog (Instr.storeAt 3 t63_50 t62_49) (fun _ w =>
   opW Try.prog (binS BinOp.gtr 3 (Operand.tmp 64) (Operand.tmp 65) t57_48 t42_30) (fun t66_51 w =>
   guardW (some t66_51, true) (fun k w => k left_42 w) (fun t68_52 w =>
   guardW (some t66_51, true) (fun k w => opW Try.prog (binS BinOp.gtr 3 (Operand.tmp 68) (Operand.const (Value.int IntKind.i64 0)) t68_52 (Value.int IntKind.i64 0)) k w) (fun t69_53 w =>
   pickW t66_51 t69_53 (Value.bool false) (fun t70_54 w =>
   condW t70_54
   (opW Try.prog (Instr.indexAt 26 t50_38 t53_43) (fun t73_55 w =>
   opW Try.prog (Instr.loadAt 3 t73_55) (fun t74_56 w =>
   opW Try.prog (binS BinOp.add 3 (Operand.tmp 74) (Operand.const (Value.int IntKind.i64 1)) t74_56 (Value.int IntKind.i64 1)) (fun t75_57 w =>
   opW Try.prog (Instr.indexAt 26 t50_38 t53_43) (fun t76_58 w =>
   opU Try.prog (Instr.storeAt 3 t76_58 t75_57) (fun _ w =>
   opW Try.prog (binS BinOp.sub 3 (Operand.tmp 77) (Operand.const (Value.int IntKind.i64 1)) left_42 (Value.int IntKind.i64 1)) (fun t78_59 w =>
   J_46 t78_59 w) w) w) w) w) w) w)
   (J_46 left_42 w)) w) w) w) w) w) w) w) w) w))
   (k (Value.tuple #[t50_38, (Value.int IntKind.i64 0)]) w)) w) t47_35 (Value.int IntKind.i64 0) w) w) w) w) w) w) w) w) w) w) w)) w) w)) w) (Value.int IntKind.i64 0) (Value.int IntKind.i64 0) w) w) w) w) w) w)) w) w) w) w) w) w) w) w) w) w) w) w
theorem S24_vc (bytes_1 wants_2 : Value) (k : Value → World → Prop) (w : World) : vc Try.prog Try.f24.ntmps ann24 none ((Try.f24.body).getD Code.skip) 1 (params 0 [bytes_1, wants_2]) [] (finQ Try.prog Try.f24.results.toList k) w = S24 bytes_1 wants_2 k w := by kernel_rfl
theorem S24_calls (bytes_1 wants_2 : Value) (k : Value → World → Prop) (w : World) (h : S24 bytes_1 wants_2 k w) : Calls Try.prog 24 #[bytes_1, wants_2] w (retP k) :=
  calls_of_vc (fn := Try.f24) (c := (Try.f24.body).getD Code.skip) ann24 Try.func24 (by kernel_rfl) [bytes_1, wants_2] w k (by kernel_rfl) ((S24_vc bytes_1 wants_2 k w).symm ▸ h)
theorem C24 (bytes_1 wants_2 : Value) (k : Value → World → Prop) (w : World) (h : S24 bytes_1 wants_2 k w) : callW Try.prog (.func (.func 24) #[] #[]) #[bytes_1, wants_2] k w :=
  callW_calls ok24 (by simpa using S24_calls bytes_1 wants_2 k w h)

end
end Go.Proofs.Ytidnjppalebbfaa
