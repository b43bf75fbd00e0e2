/- Part 3 of the proof of flowMatchesReference: lemmas for it; no condition beyond the statement. -/
import Derived.Test.YtfkfkldhcignbaaGreatDoorFm1
/- The conditions of the functions, printed by program out of the loaded code, each with the contract that follows from it. -/
set_option linter.unusedVariables false
set_option maxRecDepth 100000
namespace Go.Proofs.YtfkfkldhcignbaaGreatDoor
open Go Go.V
noncomputable section

/-! newswire/flow.Tells -/
def ann25 : Ann := [(125, Note.keep []), (250, Note.loop [41] [12, 14, 40]), (4006, Note.keep [12, 14, 40, 41]), (32050, Note.plan (Plan.takeP 0 (Plan.takeP 1 (Plan.takeP 2 (Plan.takeX 3 (Plan.takeP 4 (Plan.takeP 5 (Plan.takeP 6 (Plan.takeX 7 (Plan.takeP 8 Plan.done))))))))))]
def S25 (mode_1 a_2 b_3 reader_4 moments_5 : Value) (k : Value → World → Prop) (w : World) : Prop :=
   opW Tryz.prog (Instr.box 30 reader_4) (fun reader_6 w =>
   opW Tryz.prog (Instr.loadAt 30 reader_6) (fun t20_7 w =>
   callW Tryz.prog (Value.func (Fn.func 23) #[] #[]) #[mode_1, a_2, t20_7, moments_5] (fun t22_8 w =>
   opW Tryz.prog (Instr.extract t22_8 0) (fun t23_9 w =>
   opW Tryz.prog (Instr.extract t22_8 1) (fun t24_10 w =>
   opW Tryz.prog (Instr.loadAt 30 reader_6) (fun t28_11 w =>
   callW Tryz.prog (Value.func (Fn.func 23) #[] #[]) #[mode_1, b_3, t28_11, moments_5] (fun t30_12 w =>
   opW Tryz.prog (Instr.extract t30_12 0) (fun t31_13 w =>
   opW Tryz.prog (Instr.extract t30_12 1) (fun t32_14 w =>
   opW Tryz.prog (binS BinOp.neq 42 (Operand.tmp 33) (Operand.const (Value.int IntKind.i64 0)) t24_10 (Value.int IntKind.i64 0)) (fun t34_16 w =>
   guardW (some t34_16, false) (fun k w => k t32_14 w) (fun t36_17 w =>
   guardW (some t34_16, false) (fun k w => opW Tryz.prog (binS BinOp.neq 42 (Operand.tmp 36) (Operand.const (Value.int IntKind.i64 0)) t36_17 (Value.int IntKind.i64 0)) k w) (fun t37_18 w =>
   pickW t34_16 (Value.bool true) t37_18 (fun t38_19 w =>
   condW t38_19
   (k (Value.tuple #[(Value.int IntKind.i64 0), (Value.int IntKind.i64 260)]) w)
   (opW Tryz.prog (Builtin.len_ #[31] 3 #[t23_9]) (fun t40_20 w =>
   Loop1 (fun t41_22 w K_23 =>
   opW Tryz.prog (binS BinOp.lss 3 (Operand.tmp 41) (Operand.tmp 40) t41_22 t40_20) (fun t42_24 w =>
   condW t42_24
   (drewW w (fun w =>
   takeW Tryz.prog anyW (Instr.indexAt 31 t23_9 t41_22) (fun t46_28 =>
   takeW Tryz.prog (sameW w) (Instr.loadAt 9 t46_28) (fun t47_29 =>
   takeW Tryz.prog anyW (Instr.indexAt 31 t31_13 t41_22) (fun t50_30 =>
   takeW Tryz.prog (sameW w) (Instr.loadAt 9 t50_30) (fun t51_31 =>
   takeW Tryz.prog anyW (binS BinOp.neq 9 (Operand.tmp 47) (Operand.tmp 51) t47_29 t51_31) (fun t52_32 =>
   condW t52_32
   (k (Value.tuple #[t41_22, (Value.int IntKind.i64 0)]) w)
   (opW Tryz.prog (binS BinOp.add 3 (Operand.tmp 41) (Operand.const (Value.int IntKind.i64 1)) t41_22 (Value.int IntKind.i64 1)) (fun t54_33 w =>
   loopK [] [] [t23_9, t31_13, t40_20] [t23_9, t31_13, t40_20] (K_23 t54_33 w)) w)) w) w) w) w) w))
   (k (Value.tuple #[(Value.int IntKind.i64 (-1)), (Value.int IntKind.i64 0)]) w)) w) (Value.int IntKind.i64 0) w) w)) w) w) w) w) w) w) w) w) w) w) w) w) w
theorem S25_vc (mode_1 a_2 b_3 reader_4 moments_5 : Value) (k : Value → World → Prop) (w : World) : vc Tryz.prog Tryz.f25.ntmps ann25 none ((Tryz.f25.body).getD Code.skip) 1 (params 0 [mode_1, a_2, b_3, reader_4, moments_5]) [] (finQ Tryz.prog Tryz.f25.results.toList k) w = S25 mode_1 a_2 b_3 reader_4 moments_5 k w := by kernel_rfl
theorem S25_calls (mode_1 a_2 b_3 reader_4 moments_5 : Value) (k : Value → World → Prop) (w : World) (h : S25 mode_1 a_2 b_3 reader_4 moments_5 k w) : Calls Tryz.prog 25 #[mode_1, a_2, b_3, reader_4, moments_5] w (retP k) :=
  calls_of_vc (fn := Tryz.f25) (c := (Tryz.f25.body).getD Code.skip) ann25 Tryz.func25 (by kernel_rfl) [mode_1, a_2, b_3, reader_4, moments_5] w k (by kernel_rfl) ((S25_vc mode_1 a_2 b_3 reader_4 moments_5 k w).symm ▸ h)
theorem C25 (mode_1 a_2 b_3 reader_4 moments_5 : Value) (k : Value → World → Prop) (w : World) (h : S25 mode_1 a_2 b_3 reader_4 moments_5 k w) : callW Tryz.prog (.func (.func 25) #[] #[]) #[mode_1, a_2, b_3, reader_4, moments_5] k w :=
  callW_calls ok25 (by simpa using S25_calls mode_1 a_2 b_3 reader_4 moments_5 k w h)

/-! newswire/newswireref26.Tells -/
def ann26 : Ann := [(125, Note.keep []), (250, Note.loop [16] [12, 14]), (2002, Note.keep [12, 14, 16]), (8008, Note.plan (Plan.takeP 0 (Plan.takeP 1 (Plan.takeP 2 (Plan.takeX 3 (Plan.takeP 4 (Plan.takeP 5 (Plan.takeP 6 (Plan.takeX 7 (Plan.takeP 8 Plan.done))))))))))]
def S26 (mode_1 a_2 b_3 r_4 moments_5 : Value) (k : Value → World → Prop) (w : World) : Prop :=
   opW Tryz.prog (Instr.box 30 r_4) (fun r_6 w =>
   opW Tryz.prog (Instr.loadAt 30 r_6) (fun t20_7 w =>
   callW Tryz.prog (Value.func (Fn.func 24) #[] #[]) #[mode_1, a_2, t20_7, moments_5] (fun t22_8 w =>
   opW Tryz.prog (Instr.extract t22_8 0) (fun t23_9 w =>
   opW Tryz.prog (Instr.extract t22_8 1) (fun t24_10 w =>
   opW Tryz.prog (Instr.loadAt 30 r_6) (fun t28_11 w =>
   callW Tryz.prog (Value.func (Fn.func 24) #[] #[]) #[mode_1, b_3, t28_11, moments_5] (fun t30_12 w =>
   opW Tryz.prog (Instr.extract t30_12 0) (fun t31_13 w =>
   opW Tryz.prog (Instr.extract t30_12 1) (fun t32_14 w =>
   opW Tryz.prog (binS BinOp.neq 42 (Operand.tmp 33) (Operand.const (Value.int IntKind.i64 0)) t24_10 (Value.int IntKind.i64 0)) (fun t34_16 w =>
   guardW (some t34_16, false) (fun k w => k t32_14 w) (fun t36_17 w =>
   guardW (some t34_16, false) (fun k w => opW Tryz.prog (binS BinOp.neq 42 (Operand.tmp 36) (Operand.const (Value.int IntKind.i64 0)) t36_17 (Value.int IntKind.i64 0)) k w) (fun t37_18 w =>
   pickW t34_16 (Value.bool true) t37_18 (fun t38_19 w =>
   condW t38_19
   (k (Value.tuple #[(Value.int IntKind.i64 0), (Value.int IntKind.i64 260)]) w)
   (Loop1 (fun i_21 w K_22 =>
   opW Tryz.prog (Builtin.len_ #[31] 3 #[t23_9]) (fun t41_24 w =>
   opW Tryz.prog (binS BinOp.lss 3 (Operand.tmp 39) (Operand.tmp 41) i_21 t41_24) (fun t42_25 w =>
   condW t42_25
   (drewW w (fun w =>
   takeW Tryz.prog anyW (Instr.indexAt 31 t23_9 i_21) (fun t47_28 =>
   takeW Tryz.prog (sameW w) (Instr.loadAt 9 t47_28) (fun t48_29 =>
   takeW Tryz.prog anyW (Instr.indexAt 31 t31_13 i_21) (fun t51_30 =>
   takeW Tryz.prog (sameW w) (Instr.loadAt 9 t51_30) (fun t52_31 =>
   takeW Tryz.prog anyW (binS BinOp.neq 9 (Operand.tmp 48) (Operand.tmp 52) t48_29 t52_31) (fun t53_32 =>
   condW t53_32
   (k (Value.tuple #[i_21, (Value.int IntKind.i64 0)]) w)
   (opW Tryz.prog (binS BinOp.add 3 (Operand.tmp 43) (Operand.const (Value.int IntKind.i64 1)) i_21 (Value.int IntKind.i64 1)) (fun t44_33 w =>
   loopK [] [] [t23_9, t31_13] [t23_9, t31_13] (K_22 t44_33 w)) w)) w) w) w) w) w))
   (k (Value.tuple #[(Value.int IntKind.i64 (-1)), (Value.int IntKind.i64 0)]) w)) w) w) (Value.int IntKind.i64 0) w)) w) w) w) w) w) w) w) w) w) w) w) w) w
theorem S26_vc (mode_1 a_2 b_3 r_4 moments_5 : Value) (k : Value → World → Prop) (w : World) : vc Tryz.prog Tryz.f26.ntmps ann26 none ((Tryz.f26.body).getD Code.skip) 1 (params 0 [mode_1, a_2, b_3, r_4, moments_5]) [] (finQ Tryz.prog Tryz.f26.results.toList k) w = S26 mode_1 a_2 b_3 r_4 moments_5 k w := by kernel_rfl
theorem S26_calls (mode_1 a_2 b_3 r_4 moments_5 : Value) (k : Value → World → Prop) (w : World) (h : S26 mode_1 a_2 b_3 r_4 moments_5 k w) : Calls Tryz.prog 26 #[mode_1, a_2, b_3, r_4, moments_5] w (retP k) :=
  calls_of_vc (fn := Tryz.f26) (c := (Tryz.f26.body).getD Code.skip) ann26 Tryz.func26 (by kernel_rfl) [mode_1, a_2, b_3, r_4, moments_5] w k (by kernel_rfl) ((S26_vc mode_1 a_2 b_3 r_4 moments_5 k w).symm ▸ h)
theorem C26 (mode_1 a_2 b_3 r_4 moments_5 : Value) (k : Value → World → Prop) (w : World) (h : S26 mode_1 a_2 b_3 r_4 moments_5 k w) : callW Tryz.prog (.func (.func 26) #[] #[]) #[mode_1, a_2, b_3, r_4, moments_5] k w :=
  callW_calls ok26 (by simpa using S26_calls mode_1 a_2 b_3 r_4 moments_5 k w h)

/-! newswire/newswireref26.SameTexts -/
def ann27 : Ann := [(29, Note.keep []), (58, Note.loop [5] [0, 1]), (466, Note.keep [0, 1, 5]), (1864, Note.plan (Plan.takeP 0 (Plan.takeP 1 (Plan.takeP 2 (Plan.takeX 3 (Plan.takeP 4 (Plan.takeP 5 (Plan.takeP 6 (Plan.takeX 7 (Plan.takeP 8 Plan.done))))))))))]
def S27 (a_1 b_2 : Value) (k : Value → World → Prop) (w : World) : Prop :=
   opW Tryz.prog (Builtin.len_ #[31] 3 #[a_1]) (fun t7_4 w =>
   opW Tryz.prog (Builtin.len_ #[31] 3 #[b_2]) (fun t9_5 w =>
   opW Tryz.prog (binS BinOp.neq 3 (Operand.tmp 7) (Operand.tmp 9) t7_4 t9_5) (fun t10_6 w =>
   condW t10_6
   (k (Value.bool false) w)
   (Loop1 (fun i_8 w K_9 =>
   opW Tryz.prog (Builtin.len_ #[31] 3 #[a_1]) (fun t13_11 w =>
   opW Tryz.prog (binS BinOp.lss 3 (Operand.tmp 11) (Operand.tmp 13) i_8 t13_11) (fun t14_12 w =>
   condW t14_12
   (drewW w (fun w =>
   takeW Tryz.prog anyW (Instr.indexAt 31 a_1 i_8) (fun t19_15 =>
   takeW Tryz.prog (sameW w) (Instr.loadAt 9 t19_15) (fun t20_16 =>
   takeW Tryz.prog anyW (Instr.indexAt 31 b_2 i_8) (fun t23_17 =>
   takeW Tryz.prog (sameW w) (Instr.loadAt 9 t23_17) (fun t24_18 =>
   takeW Tryz.prog anyW (binS BinOp.neq 9 (Operand.tmp 20) (Operand.tmp 24) t20_16 t24_18) (fun t25_19 =>
   condW t25_19
   (k (Value.bool false) w)
   (opW Tryz.prog (binS BinOp.add 3 (Operand.tmp 15) (Operand.const (Value.int IntKind.i64 1)) i_8 (Value.int IntKind.i64 1)) (fun t16_20 w =>
   loopK [] [] [a_1, b_2] [a_1, b_2] (K_9 t16_20 w)) w)) w) w) w) w) w))
   (k (Value.bool true) w)) w) w) (Value.int IntKind.i64 0) w)) w) w) w
theorem S27_vc (a_1 b_2 : Value) (k : Value → World → Prop) (w : World) : vc Tryz.prog Tryz.f27.ntmps ann27 none ((Tryz.f27.body).getD Code.skip) 1 (params 0 [a_1, b_2]) [] (finQ Tryz.prog Tryz.f27.results.toList k) w = S27 a_1 b_2 k w := by kernel_rfl
theorem S27_calls (a_1 b_2 : Value) (k : Value → World → Prop) (w : World) (h : S27 a_1 b_2 k w) : Calls Tryz.prog 27 #[a_1, b_2] w (retP k) :=
  calls_of_vc (fn := Tryz.f27) (c := (Tryz.f27.body).getD Code.skip) ann27 Tryz.func27 (by kernel_rfl) [a_1, b_2] w k (by kernel_rfl) ((S27_vc a_1 b_2 k w).symm ▸ h)
theorem C27 (a_1 b_2 : Value) (k : Value → World → Prop) (w : World) (h : S27 a_1 b_2 k w) : callW Tryz.prog (.func (.func 27) #[] #[]) #[a_1, b_2] k w :=
  callW_calls ok27 (by simpa using S27_calls a_1 b_2 k w h)

/-! newswire/flow.Read -/
def ann28 : Ann := [(29, Note.keep [4]), (58, Note.loop [4, 10] [8, 9]), (934, Note.keep [4, 8, 9, 10])]
def S28 (packets_1 : Value) (k : Value → World → Prop) (w : World) : Prop :=
   opW Tryz.prog (Builtin.len_ #[31] 3 #[packets_1]) (fun t9_2 w =>
   Loop2 (fun out_4 t10_5 w K_6 =>
   opW Tryz.prog (binS BinOp.lss 3 (Operand.tmp 10) (Operand.tmp 9) t10_5 t9_2) (fun t11_7 w =>
   condW t11_7
   (joinW (fun out_30 w =>
   opW Tryz.prog (binS BinOp.add 3 (Operand.tmp 10) (Operand.const (Value.int IntKind.i64 1)) t10_5 (Value.int IntKind.i64 1)) (fun t39_31 w =>
   loopK [] [] [packets_1, t9_2] [packets_1, t9_2] (K_6 out_30 t39_31 w)) w) (fun J_9 =>
   opW Tryz.prog (Instr.indexAt 31 packets_1 t10_5) (fun t12_10 w =>
   opW Tryz.prog (Instr.loadAt 9 t12_10) (fun t13_11 w =>
   opW Tryz.prog (Builtin.len_ #[9] 3 #[t13_11]) (fun t15_13 w =>
   opW Tryz.prog (binS BinOp.neq 3 (Operand.tmp 15) (Operand.const (Value.int IntKind.i64 64)) t15_13 (Value.int IntKind.i64 64)) (fun t16_14 w =>
   guardW (some t16_14, false) (fun k w => k t13_11 w) (fun t18_15 w =>
   guardW (some t16_14, false) (fun k w => opW Tryz.prog (Instr.index 9 t18_15 (Value.int IntKind.i64 0)) k w) (fun t19_16 w =>
   guardW (some t16_14, false) (fun k w => opW Tryz.prog (binS BinOp.gtr 5 (Operand.tmp 19) (Operand.const (Value.int IntKind.u8 60)) t19_16 (Value.int IntKind.u8 60)) k w) (fun t20_17 w =>
   pickW t16_14 (Value.bool true) t20_17 (fun t21_18 w =>
   condW t21_18
   (k (Value.tuple #[(Value.slice none 0 0), (Value.int IntKind.i64 260)]) w)
   (opW Tryz.prog (Instr.index 9 t13_11 (Value.int IntKind.i64 0)) (fun t23_19 w =>
   opW Tryz.prog (convert 5 3 t23_19) (fun t24_20 w =>
   opW Tryz.prog (binS BinOp.add 3 (Operand.tmp 24) (Operand.const (Value.int IntKind.i64 1)) t24_20 (Value.int IntKind.i64 1)) (fun t25_21 w =>
   opW Tryz.prog (Instr.sliceAt 9 t13_11 (some t25_21) none none) (fun t28_23 w =>
   callW Tryz.prog (Value.func (Fn.func 59) #[] #[]) #[t28_23, (Value.string { data := #[0] })] (fun t29_24 w =>
   opW Tryz.prog (binS BinOp.neq 9 (Operand.tmp 29) (Operand.const (Value.string { data := #[] })) t29_24 (Value.string { data := #[] })) (fun t30_25 w =>
   condW t30_25
   (k (Value.tuple #[(Value.slice none 0 0), (Value.int IntKind.i64 260)]) w)
   (opW Tryz.prog (binS BinOp.gtr 3 (Operand.tmp 31) (Operand.const (Value.int IntKind.i64 1)) t25_21 (Value.int IntKind.i64 1)) (fun t32_26 w =>
   condW t32_26
   (opW Tryz.prog (Instr.sliceAt 9 t13_11 (some (Value.int IntKind.i64 1)) (some t25_21) none) (fun t36_27 w =>
   opW Tryz.prog (Instr.buildSlice 31 1 #[(0, t36_27)]) (fun t37_28 w =>
   opW Tryz.prog (Builtin.append_ #[31, 31] 31 #[out_4, t37_28]) (fun t38_29 w =>
   J_9 t38_29 w) w) w) w)
   (J_9 out_4 w)) w)) w) w) w) w) w) w)) w) w) w) w) w) w) w) w))
   (k (Value.tuple #[out_4, (Value.int IntKind.i64 0)]) w)) w) (Value.slice none 0 0) (Value.int IntKind.i64 0) w) w
theorem S28_vc (packets_1 : Value) (k : Value → World → Prop) (w : World) : vc Tryz.prog Tryz.f28.ntmps ann28 none ((Tryz.f28.body).getD Code.skip) 1 (params 0 [packets_1]) [] (finQ Tryz.prog Tryz.f28.results.toList k) w = S28 packets_1 k w := by kernel_rfl
theorem S28_calls (packets_1 : Value) (k : Value → World → Prop) (w : World) (h : S28 packets_1 k w) : Calls Tryz.prog 28 #[packets_1] w (retP k) :=
  calls_of_vc (fn := Tryz.f28) (c := (Tryz.f28.body).getD Code.skip) ann28 Tryz.func28 (by kernel_rfl) [packets_1] w k (by kernel_rfl) ((S28_vc packets_1 k w).symm ▸ h)
theorem C28 (packets_1 : Value) (k : Value → World → Prop) (w : World) (h : S28 packets_1 k w) : callW Tryz.prog (.func (.func 28) #[] #[]) #[packets_1] k w :=
  callW_calls ok28 (by simpa using S28_calls packets_1 k w h)

/-! newswire/newswireref26.Read -/
def ann29 : Ann := [(29, Note.keep [4]), (58, Note.loop [4, 5] [0]), (466, Note.keep [0, 4, 5]), (29853, Note.keep [0, 4, 5, 6, 7]), (59706, Note.loop [8] [0, 4, 5, 6, 7]), (477650, Note.keep [0, 4, 5, 6, 7, 8])]
def S29 (packets_1 : Value) (k : Value → World → Prop) (w : World) : Prop :=
   Loop2 (fun out_3 i_4 w K_5 =>
   opW Tryz.prog (Builtin.len_ #[31] 3 #[packets_1]) (fun t11_7 w =>
   opW Tryz.prog (binS BinOp.lss 3 (Operand.tmp 9) (Operand.tmp 11) i_4 t11_7) (fun t12_8 w =>
   condW t12_8
   (joinW (fun out_36 w =>
   opW Tryz.prog (binS BinOp.add 3 (Operand.tmp 13) (Operand.const (Value.int IntKind.i64 1)) i_4 (Value.int IntKind.i64 1)) (fun t14_37 w =>
   loopK [] [] [packets_1] [packets_1] (K_5 out_36 t14_37 w)) w) (fun J_9 =>
   opW Tryz.prog (Instr.indexAt 31 packets_1 i_4) (fun t17_10 w =>
   opW Tryz.prog (Instr.loadAt 9 t17_10) (fun t18_11 w =>
   opW Tryz.prog (Builtin.len_ #[9] 3 #[t18_11]) (fun t20_13 w =>
   opW Tryz.prog (binS BinOp.neq 3 (Operand.tmp 20) (Operand.const (Value.int IntKind.i64 64)) t20_13 (Value.int IntKind.i64 64)) (fun t21_14 w =>
   guardW (some t21_14, false) (fun k w => k t18_11 w) (fun t23_15 w =>
   guardW (some t21_14, false) (fun k w => opW Tryz.prog (Instr.index 9 t23_15 (Value.int IntKind.i64 0)) k w) (fun t24_16 w =>
   guardW (some t21_14, false) (fun k w => opW Tryz.prog (binS BinOp.gtr 5 (Operand.tmp 24) (Operand.const (Value.int IntKind.u8 60)) t24_16 (Value.int IntKind.u8 60)) k w) (fun t25_17 w =>
   pickW t21_14 (Value.bool true) t25_17 (fun t26_18 w =>
   condW t26_18
   (k (Value.tuple #[(Value.slice none 0 0), (Value.int IntKind.i64 260)]) w)
   (opW Tryz.prog (Instr.index 9 t18_11 (Value.int IntKind.i64 0)) (fun t28_19 w =>
   opW Tryz.prog (convert 5 3 t28_19) (fun t29_20 w =>
   opW Tryz.prog (binS BinOp.add 3 (Operand.const (Value.int IntKind.i64 1)) (Operand.tmp 30) (Value.int IntKind.i64 1) t29_20) (fun t31_21 w =>
   Loop1 (fun k_23 w K_24 =>
   opW Tryz.prog (binS BinOp.lss 3 (Operand.tmp 32) (Operand.const (Value.int IntKind.i64 64)) k_23 (Value.int IntKind.i64 64)) (fun t33_26 w =>
   condW t33_26
   (opW Tryz.prog (Instr.index 9 t18_11 k_23) (fun t38_28 w =>
   opW Tryz.prog (binS BinOp.neq 5 (Operand.tmp 38) (Operand.const (Value.int IntKind.u8 0)) t38_28 (Value.int IntKind.u8 0)) (fun t39_29 w =>
   condW t39_29
   (k (Value.tuple #[(Value.slice none 0 0), (Value.int IntKind.i64 260)]) w)
   (opW Tryz.prog (binS BinOp.add 3 (Operand.tmp 34) (Operand.const (Value.int IntKind.i64 1)) k_23 (Value.int IntKind.i64 1)) (fun t35_30 w =>
   loopK [] [] [packets_1, out_3, i_4, t18_11, t29_20] [packets_1, out_3, i_4, t18_11, t29_20] (K_24 t35_30 w)) w)) w) w)
   (opW Tryz.prog (binS BinOp.gtr 3 (Operand.tmp 40) (Operand.const (Value.int IntKind.i64 0)) t29_20 (Value.int IntKind.i64 0)) (fun t41_31 w =>
   condW t41_31
   (opW Tryz.prog (binS BinOp.add 3 (Operand.const (Value.int IntKind.i64 1)) (Operand.tmp 44) (Value.int IntKind.i64 1) t29_20) (fun t45_32 w =>
   opW Tryz.prog (Instr.sliceAt 9 t18_11 (some (Value.int IntKind.i64 1)) (some t45_32) none) (fun t46_33 w =>
   opW Tryz.prog (Instr.buildSlice 31 1 #[(0, t46_33)]) (fun t47_34 w =>
   opW Tryz.prog (Builtin.append_ #[31, 31] 31 #[out_3, t47_34]) (fun t48_35 w =>
   J_9 t48_35 w) w) w) w) w)
   (J_9 out_3 w)) w)) w) t31_21 w) w) w) w)) w) w) w) w) w) w) w) w))
   (k (Value.tuple #[out_3, (Value.int IntKind.i64 0)]) w)) w) w) (Value.slice none 0 0) (Value.int IntKind.i64 0) w
theorem S29_vc (packets_1 : Value) (k : Value → World → Prop) (w : World) : vc Tryz.prog Tryz.f29.ntmps ann29 none ((Tryz.f29.body).getD Code.skip) 1 (params 0 [packets_1]) [] (finQ Tryz.prog Tryz.f29.results.toList k) w = S29 packets_1 k w := by kernel_rfl
theorem S29_calls (packets_1 : Value) (k : Value → World → Prop) (w : World) (h : S29 packets_1 k w) : Calls Tryz.prog 29 #[packets_1] w (retP k) :=
  calls_of_vc (fn := Tryz.f29) (c := (Tryz.f29.body).getD Code.skip) ann29 Tryz.func29 (by kernel_rfl) [packets_1] w k (by kernel_rfl) ((S29_vc packets_1 k w).symm ▸ h)
theorem C29 (packets_1 : Value) (k : Value → World → Prop) (w : World) (h : S29 packets_1 k w) : callW Tryz.prog (.func (.func 29) #[] #[]) #[packets_1] k w :=
  callW_calls ok29 (by simpa using S29_calls packets_1 k w h)

/-! newswire/newswireref26.Released -/
def ann30 : Ann := [(13, Note.keep []), (26, Note.loop [7] [2, 3, 4]), (210, Note.keep [2, 3, 4, 7]), (840, Note.plan (Plan.takeX 0 (Plan.takeX 1 (Plan.takeP 2 (Plan.takeP 3 (Plan.takeP 4 (Plan.takeX 5 (Plan.run 6 Plan.done))))))))]
def S30 (x_1 r_2 moments_3 : Value) (k : Value → World → Prop) (w : World) : Prop :=
   opW Tryz.prog (Instr.box 63 x_1) (fun x_4 w =>
   opW Tryz.prog (Instr.box 30 r_2) (fun r_5 w =>
   Loop1 (fun k_7 w K_8 =>
   opW Tryz.prog (Builtin.len_ #[33] 3 #[moments_3]) (fun t10_10 w =>
   opW Tryz.prog (binS BinOp.lss 3 (Operand.tmp 8) (Operand.tmp 10) k_7 t10_10) (fun t11_11 w =>
   condW t11_11
   (drewW w (fun w =>
   takeW Tryz.prog (sameW w) (Instr.loadAt 63 x_4) (fun t14_14 =>
   takeW Tryz.prog (sameW w) (Instr.loadAt 30 r_5) (fun t15_15 =>
   takeW Tryz.prog anyW (Instr.indexAt 33 moments_3 k_7) (fun t18_16 =>
   takeW Tryz.prog (sameW w) (Instr.loadAt 28 t18_16) (fun t19_17 =>
   callW Tryz.prog (Value.func (Fn.func 56) #[] #[]) #[t14_14, t15_15, t19_17] (fun t20_18 w =>
   condW t20_18
   (k k_7 w)
   (opW Tryz.prog (binS BinOp.add 3 (Operand.tmp 12) (Operand.const (Value.int IntKind.i64 1)) k_7 (Value.int IntKind.i64 1)) (fun t13_19 w =>
   loopK [] [] [moments_3, x_4, r_5] [moments_3, x_4, r_5] (K_8 t13_19 w)) w)) w) w) w) w) w))
   (k (Value.int IntKind.i64 (-1)) w)) w) w) (Value.int IntKind.i64 0) w) w) w
theorem S30_vc (x_1 r_2 moments_3 : Value) (k : Value → World → Prop) (w : World) : vc Tryz.prog Tryz.f30.ntmps ann30 none ((Tryz.f30.body).getD Code.skip) 1 (params 0 [x_1, r_2, moments_3]) [] (finQ Tryz.prog Tryz.f30.results.toList k) w = S30 x_1 r_2 moments_3 k w := by kernel_rfl
theorem S30_calls (x_1 r_2 moments_3 : Value) (k : Value → World → Prop) (w : World) (h : S30 x_1 r_2 moments_3 k w) : Calls Tryz.prog 30 #[x_1, r_2, moments_3] w (retP k) :=
  calls_of_vc (fn := Tryz.f30) (c := (Tryz.f30.body).getD Code.skip) ann30 Tryz.func30 (by kernel_rfl) [x_1, r_2, moments_3] w k (by kernel_rfl) ((S30_vc x_1 r_2 moments_3 k w).symm ▸ h)
theorem C30 (x_1 r_2 moments_3 : Value) (k : Value → World → Prop) (w : World) (h : S30 x_1 r_2 moments_3 k w) : callW Tryz.prog (.func (.func 30) #[] #[]) #[x_1, r_2, moments_3] k w :=
  callW_calls ok30 (by simpa using S30_calls x_1 r_2 moments_3 k w h)

/-! newswire/label.None -/
def ann31 : Ann := []
def S31 (k : Value → World → Prop) (w : World) : Prop :=
   opW Tryz.prog (Instr.alloc 61 true (Value.tuple #[])) (fun t0_1 w =>
   opW Tryz.prog (Instr.build 61 #[(3, (Value.int IntKind.i64 255)), (4, (Value.int IntKind.i64 255))]) (fun t1_2 w =>
   opU Tryz.prog (Instr.storeAt 61 t0_1 t1_2) (fun _ w =>
   resCell Tryz.prog 61 t0_1 (fun r_3 => k r_3 w) w) w) w) w
theorem S31_vc (k : Value → World → Prop) (w : World) : vc Tryz.prog Tryz.f31.ntmps ann31 none ((Tryz.f31.body).getD Code.skip) 1 (params 0 []) [] (finQ Tryz.prog Tryz.f31.results.toList k) w = S31 k w := by kernel_rfl
theorem S31_calls (k : Value → World → Prop) (w : World) (h : S31 k w) : Calls Tryz.prog 31 #[] w (retP k) :=
  calls_of_vc (fn := Tryz.f31) (c := (Tryz.f31.body).getD Code.skip) ann31 Tryz.func31 (by kernel_rfl) [] w k (by kernel_rfl) ((S31_vc k w).symm ▸ h)
theorem C31 (k : Value → World → Prop) (w : World) (h : S31 k w) : callW Tryz.prog (.func (.func 31) #[] #[]) #[] k w :=
  callW_calls ok31 (by simpa using S31_calls k w h)

/-! newswire/newswireref10.Made -/
def ann32 : Ann := [(6, Note.plan (Plan.takeP 0 (Plan.takeU 1 (Plan.takeP 4 (Plan.takeU 5 (Plan.takeP 7 (Plan.takeU 8 (Plan.takeP 11 (Plan.takeU 12 (Plan.alt (Plan.run 2 (Plan.takeP 3 (Plan.alt (Plan.run 6 (Plan.alt (Plan.run 9 (Plan.takeP 10 (Plan.alt (Plan.run 13 (Plan.takeP 14 (Plan.alt (Plan.run 15 (Plan.run 16 (Plan.run 17 Plan.done))) (Plan.run 16 (Plan.run 15 (Plan.run 17 Plan.done)))))) (Plan.run 16 (Plan.run 13 (Plan.takeP 14 (Plan.run 15 (Plan.run 17 Plan.done)))))))) (Plan.run 16 (Plan.run 9 (Plan.takeP 10 (Plan.run 13 (Plan.takeP 14 (Plan.run 15 (Plan.run 17 Plan.done))))))))) (Plan.run 16 (Plan.run 6 (Plan.run 9 (Plan.takeP 10 (Plan.run 13 (Plan.takeP 14 (Plan.run 15 (Plan.run 17 Plan.done))))))))))) (Plan.run 16 (Plan.run 2 (Plan.takeP 3 (Plan.run 6 (Plan.run 9 (Plan.takeP 10 (Plan.run 13 (Plan.takeP 14 (Plan.run 15 (Plan.run 17 Plan.done)))))))))))))))))))), (61, Note.keep [1, 2, 3]), (122, Note.loop [5] [1, 2, 3, 4]), (125, Note.keep [2, 3]), (250, Note.loop [6] [1, 2, 3]), (978, Note.keep [1, 2, 3, 4, 5]), (1956, Note.plan (Plan.takeP 0 (Plan.takeU 1 (Plan.takeP 2 (Plan.takeP 3 (Plan.takeP 4 (Plan.takeU 5 (Plan.takeP 6 (Plan.takeU 7 (Plan.takeP 8 (Plan.run 9 (Plan.takeP 10 (Plan.run 11 (Plan.run 12 (Plan.run 13 (Plan.takeP 14 (Plan.run 15 Plan.done))))))))))))))))), (2002, Note.keep [1, 2, 3, 6]), (64078, Note.plan (Plan.takeP 0 (Plan.takeU 1 (Plan.takeP 2 (Plan.takeP 3 (Plan.takeP 4 (Plan.takeP 5 (Plan.takeU 6 (Plan.takeP 7 (Plan.takeX 8 (Plan.takeX 9 (Plan.run 10 (Plan.takeP 11 Plan.done))))))))))))), (256318, Note.plan (Plan.takeX 0 (Plan.takeP 1 (Plan.takeU 2 (Plan.takeP 3 (Plan.takeX 4 (Plan.run 5 Plan.done))))))), (512638, Note.plan (Plan.takeX 0 (Plan.takeP 1 (Plan.takeU 2 (Plan.takeP 3 (Plan.takeX 4 (Plan.run 5 (Plan.takeP 6 (Plan.run 7 Plan.done)))))))))]
def S32 (x_1 : Value) (k : Value → World → Prop) (w : World) : Prop :=
   opW Tryz.prog (Instr.box 71 x_1) (fun x_2 w =>
   opW Tryz.prog (Instr.alloc 61 true (Value.tuple #[])) (fun t2_3 w =>
   joinW (fun l_50 w =>
   opW Tryz.prog (Instr.indexAt 71 x_2 (Value.int IntKind.i64 2)) (fun t25_51 w =>
   opW Tryz.prog (Instr.loadAt 3 t25_51) (fun t26_52 w =>
   callW Tryz.prog (Value.func (Fn.func 61) #[] #[]) #[t26_52, (Value.int IntKind.i64 4)] (fun t27_53 w =>
   Loop1 (fun i_55 w K_56 =>
   opW Tryz.prog (Builtin.len_ #[25] 3 #[t27_53]) (fun t30_58 w =>
   opW Tryz.prog (binS BinOp.lss 3 (Operand.tmp 28) (Operand.tmp 30) i_55 t30_58) (fun t31_59 w =>
   condW t31_59
   (drewW w (fun w =>
   ∃ S : World → Prop, S w ∧
   takeW Tryz.prog anyW (Instr.fieldAt 61 l_50 2) (fun t34_62 =>
   takeW Tryz.prog S (Instr.loadAt 26 t34_62) (fun t35_63 =>
   takeW Tryz.prog anyW (Instr.indexAt 25 t27_53 i_55) (fun t38_64 =>
   takeW Tryz.prog S (Instr.loadAt 3 t38_64) (fun t39_65 =>
   takeW Tryz.prog anyW (Instr.indexAt 71 x_2 (Value.int IntKind.i64 2)) (fun t40_66 =>
   takeW Tryz.prog S (Instr.loadAt 3 t40_66) (fun t41_67 =>
   takeW Tryz.prog anyW (binS BinOp.quo 3 (Operand.tmp 41) (Operand.const (Value.int IntKind.i64 16)) t41_67 (Value.int IntKind.i64 16)) (fun t42_68 =>
   callW Tryz.prog (Value.func (Fn.func 60) #[] #[]) #[t42_68, (Value.int IntKind.i64 3)] (fun t43_69 w => keepS S (fun w =>
   takeW Tryz.prog anyW (binS BinOp.add 3 (Operand.const (Value.int IntKind.i64 1)) (Operand.tmp 43) (Value.int IntKind.i64 1) t43_69) (fun t44_70 =>
   opW Tryz.prog (Instr.build 121 #[(0, t39_65), (1, t44_70)]) (fun t45_71 w => keepS S (fun w =>
   opW Tryz.prog (Instr.buildSlice 26 1 #[(0, t45_71)]) (fun t46_72 w => keepS S (fun w =>
   opW Tryz.prog (Builtin.append_ #[26, 26] 26 #[t35_63, t46_72]) (fun t47_73 w => keepS S (fun w =>
   takeW Tryz.prog anyW (Instr.fieldAt 61 l_50 2) (fun t48_74 =>
   opU Tryz.prog (Instr.storeAt 26 t48_74 t47_73) (fun _ w =>
   opW Tryz.prog (binS BinOp.add 3 (Operand.tmp 32) (Operand.const (Value.int IntKind.i64 1)) i_55 (Value.int IntKind.i64 1)) (fun t33_75 w =>
   loopK [] [] [x_2, t2_3, l_50, t27_53] [x_2, t2_3, l_50, t27_53] (K_56 t33_75 w)) w) w) w) w) w) w) w) w) w) w) w) w) w) w) w) w) w) w) w))
   (Loop1 (fun i_77 w K_78 =>
   opW Tryz.prog (binS BinOp.lss 3 (Operand.tmp 49) (Operand.const (Value.int IntKind.i64 2)) i_77 (Value.int IntKind.i64 2)) (fun t50_80 w =>
   condW t50_80
   (joinW (fun w =>
   opW Tryz.prog (binS BinOp.add 3 (Operand.tmp 51) (Operand.const (Value.int IntKind.i64 1)) i_77 (Value.int IntKind.i64 1)) (fun t52_131 w =>
   loopK [] [] [x_2, t2_3, l_50] [x_2, t2_3, l_50] (K_78 t52_131 w)) w) (fun J_81 =>
   opW Tryz.prog (binS BinOp.add 3 (Operand.const (Value.int IntKind.i64 5)) (Operand.tmp 53) (Value.int IntKind.i64 5) i_77) (fun t54_82 w =>
   opW Tryz.prog (Instr.indexAt 71 x_2 t54_82) (fun t55_83 w =>
   opW Tryz.prog (Instr.loadAt 3 t55_83) (fun t56_84 w =>
   callW Tryz.prog (Value.func (Fn.func 61) #[] #[]) #[t56_84, (Value.int IntKind.i64 6)] (fun t57_85 w =>
   opW Tryz.prog (Builtin.len_ #[25] 3 #[t57_85]) (fun t59_87 w =>
   opW Tryz.prog (binS BinOp.eql 3 (Operand.tmp 59) (Operand.const (Value.int IntKind.i64 0)) t59_87 (Value.int IntKind.i64 0)) (fun t60_88 w =>
   condW t60_88
   (J_81 w)
   (opW Tryz.prog (binS BinOp.add 3 (Operand.const (Value.int IntKind.i64 5)) (Operand.tmp 61) (Value.int IntKind.i64 5) i_77) (fun t62_89 w =>
   opW Tryz.prog (Instr.indexAt 71 x_2 t62_89) (fun t63_90 w =>
   opW Tryz.prog (Instr.loadAt 3 t63_90) (fun t64_91 w =>
   opW Tryz.prog (binS BinOp.quo 3 (Operand.tmp 64) (Operand.const (Value.int IntKind.i64 64)) t64_91 (Value.int IntKind.i64 64)) (fun t65_92 w =>
   opW Tryz.prog (Builtin.len_ #[25] 3 #[t57_85]) (fun t67_93 w =>
   callW Tryz.prog (Value.func (Fn.func 60) #[] #[]) #[t65_92, t67_93] (fun t68_94 w =>
   opW Tryz.prog (binS BinOp.add 3 (Operand.const (Value.int IntKind.i64 1)) (Operand.tmp 68) (Value.int IntKind.i64 1) t68_94) (fun t69_95 w =>
   opW Tryz.prog (Instr.build 87 #[(0, t69_95), (1, t57_85)]) (fun t71_96 w =>
   opW Tryz.prog (Instr.alloc 87 true (Value.tuple #[])) (fun q_97 w =>
   opU Tryz.prog (Instr.storeAt 87 q_97 t71_96) (fun _ w =>
   drewW w (fun w =>
   ∃ S : World → Prop, S w ∧
   takeW Tryz.prog anyW (Instr.fieldAt 61 l_50 5) (fun t72_99 =>
   takeW Tryz.prog S (Instr.loadAt 59 t72_99) (fun t73_100 =>
   takeW Tryz.prog anyW (Builtin.len_ #[59] 3 #[t73_100]) (fun t74_101 =>
   takeW Tryz.prog anyW (binS BinOp.eql 3 (Operand.tmp 74) (Operand.const (Value.int IntKind.i64 0)) t74_101 (Value.int IntKind.i64 0)) (fun t75_102 =>
   guardT (some t75_102, false) (fun k => takeW Tryz.prog anyW (Instr.fieldAt 61 l_50 5) k w) (fun t77_103 =>
   guardT (some t75_102, false) (fun k => takeW Tryz.prog S (Instr.loadAt 59 t77_103) k w) (fun t78_104 =>
   guardT (some t75_102, false) (fun k => takeW Tryz.prog anyW (Instr.indexAt 59 t78_104 (Value.int IntKind.i64 0)) k w) (fun t79_105 =>
   guardT (some t75_102, false) (fun k => takeW Tryz.prog (sameW w) (Instr.loadAt 87 t79_105) k w) (fun t80_106 =>
   guardT (some t75_102, false) (fun k => takeW Tryz.prog (sameW w) (Instr.loadAt 87 q_97) k w) (fun t81_107 =>
   guardW (some t75_102, false) (fun k w => callW Tryz.prog (Value.func (Fn.func 62) #[] #[]) #[t80_106, t81_107] k w) (fun t82_108 w => keepS S (fun w =>
   pickT t75_102 (Value.bool true) t82_108 (fun t83_109 =>
   condW t83_109
   (opW Tryz.prog (Instr.fieldAt 61 l_50 5) (fun t84_110 w =>
   opW Tryz.prog (Instr.loadAt 59 t84_110) (fun t85_111 w =>
   opW Tryz.prog (Instr.loadAt 87 q_97) (fun t86_112 w =>
   opW Tryz.prog (Instr.buildSlice 59 1 #[(0, t86_112)]) (fun t87_113 w =>
   opW Tryz.prog (Builtin.append_ #[59, 59] 59 #[t85_111, t87_113]) (fun t88_114 w =>
   opW Tryz.prog (Instr.fieldAt 61 l_50 5) (fun t89_115 w =>
   opU Tryz.prog (Instr.storeAt 59 t89_115 t88_114) (fun _ w =>
   J_81 w) w) w) w) w) w) w) w)
   (drewW w (fun w =>
   ∃ S : World → Prop, S w ∧
   takeW Tryz.prog (sameW w) (Instr.loadAt 87 q_97) (fun t90_117 =>
   takeW Tryz.prog anyW (Instr.fieldAt 61 l_50 5) (fun t91_118 =>
   takeW Tryz.prog S (Instr.loadAt 59 t91_118) (fun t92_119 =>
   takeW Tryz.prog anyW (Instr.indexAt 59 t92_119 (Value.int IntKind.i64 0)) (fun t93_120 =>
   takeW Tryz.prog (sameW w) (Instr.loadAt 87 t93_120) (fun t94_121 =>
   callW Tryz.prog (Value.func (Fn.func 62) #[] #[]) #[t90_117, t94_121] (fun t95_122 w => keepS S (fun w =>
   condW t95_122
   (drewW w (fun w =>
   ∃ S : World → Prop, S w ∧
   takeW Tryz.prog (sameW w) (Instr.loadAt 87 q_97) (fun t96_124 =>
   takeW Tryz.prog anyW (Instr.fieldAt 61 l_50 5) (fun t97_125 =>
   takeW Tryz.prog S (Instr.loadAt 59 t97_125) (fun t98_126 =>
   takeW Tryz.prog anyW (Instr.indexAt 59 t98_126 (Value.int IntKind.i64 0)) (fun t99_127 =>
   takeW Tryz.prog (sameW w) (Instr.loadAt 87 t99_127) (fun t100_128 =>
   opW Tryz.prog (Instr.buildSlice 59 2 #[(0, t96_124), (1, t100_128)]) (fun t101_129 w => keepS S (fun w =>
   takeW Tryz.prog anyW (Instr.fieldAt 61 l_50 5) (fun t102_130 =>
   opU Tryz.prog (Instr.storeAt 59 t102_130 t101_129) (fun _ w =>
   J_81 w) w) w) w) w) w) w) w) w) w))
   (J_81 w)) w) w) w) w) w) w) w)))) w) w)))))) w) w) w) w)) w) w) w) w) w) w) w) w) w) w)) w) w) w) w) w) w))
   (opW Tryz.prog (Instr.loadAt 61 l_50) (fun t103_132 w =>
   opU Tryz.prog (Instr.storeAt 61 t2_3 t103_132) (fun _ w =>
   resCell Tryz.prog 61 t2_3 (fun r_133 => k r_133 w) w) w) w)) w) (Value.int IntKind.i64 0) w)) w) w) (Value.int IntKind.i64 0) w) w) w) w) (fun J_4 =>
   drewW w (fun w =>
   ∃ S : World → Prop, S w ∧
   takeW Tryz.prog anyW (Instr.indexAt 71 x_2 (Value.int IntKind.i64 0)) (fun t9_5 =>
   takeW Tryz.prog S (Instr.loadAt 3 t9_5) (fun t10_6 =>
   takeW Tryz.prog anyW (Instr.indexAt 71 x_2 (Value.int IntKind.i64 1)) (fun t13_7 =>
   takeW Tryz.prog S (Instr.loadAt 3 t13_7) (fun t14_8 =>
   takeW Tryz.prog anyW (Instr.indexAt 71 x_2 (Value.int IntKind.i64 3)) (fun t16_9 =>
   takeW Tryz.prog S (Instr.loadAt 3 t16_9) (fun t17_10 =>
   takeW Tryz.prog anyW (Instr.indexAt 71 x_2 (Value.int IntKind.i64 4)) (fun t20_11 =>
   takeW Tryz.prog S (Instr.loadAt 3 t20_11) (fun t21_12 =>
   (callW Tryz.prog (Value.func (Fn.func 60) #[] #[]) #[t10_6, (Value.int IntKind.i64 30)] (fun t11_13 w => keepS S (fun w =>
   takeW Tryz.prog anyW (binS BinOp.mul 3 (Operand.tmp 11) (Operand.const (Value.int IntKind.i64 10)) t11_13 (Value.int IntKind.i64 10)) (fun t12_14 =>
   (callW Tryz.prog (Value.func (Fn.func 61) #[] #[]) #[t14_8, (Value.int IntKind.i64 5)] (fun t15_15 w => keepS S (fun w =>
   (callW Tryz.prog (Value.func (Fn.func 60) #[] #[]) #[t17_10, (Value.int IntKind.i64 4)] (fun t18_16 w => keepS S (fun w =>
   takeW Tryz.prog anyW (binS BinOp.sub 3 (Operand.const (Value.int IntKind.i64 255)) (Operand.tmp 18) (Value.int IntKind.i64 255) t18_16) (fun t19_17 =>
   (callW Tryz.prog (Value.func (Fn.func 60) #[] #[]) #[t21_12, (Value.int IntKind.i64 8)] (fun t22_18 w => keepS S (fun w =>
   takeW Tryz.prog anyW (binS BinOp.sub 3 (Operand.const (Value.int IntKind.i64 255)) (Operand.tmp 22) (Value.int IntKind.i64 255) t22_18) (fun t23_19 =>
   (opW Tryz.prog (Instr.build 61 #[(0, t12_14), (1, t15_15), (3, t19_17), (4, t23_19)]) (fun t24_20 w => keepS S (fun w =>
   opW Tryz.prog (Instr.alloc 61 true (Value.tuple #[])) (fun l_21 w => keepS S (fun w =>
   opU Tryz.prog (Instr.storeAt 61 l_21 t24_20) (fun _ w =>
   J_4 l_21 w) w) w) w) w) w) ∧ (opW Tryz.prog (Instr.alloc 61 true (Value.tuple #[])) (fun l_22 w => keepS S (fun w =>
   opW Tryz.prog (Instr.build 61 #[(0, t12_14), (1, t15_15), (3, t19_17), (4, t23_19)]) (fun t24_23 w => keepS S (fun w =>
   opU Tryz.prog (Instr.storeAt 61 l_22 t24_23) (fun _ w =>
   J_4 l_22 w) w) w) w) w) w)) w) w) w) ∧ (opW Tryz.prog (Instr.alloc 61 true (Value.tuple #[])) (fun l_24 w => keepS S (fun w =>
   callW Tryz.prog (Value.func (Fn.func 60) #[] #[]) #[t21_12, (Value.int IntKind.i64 8)] (fun t22_25 w => keepS S (fun w =>
   takeW Tryz.prog anyW (binS BinOp.sub 3 (Operand.const (Value.int IntKind.i64 255)) (Operand.tmp 22) (Value.int IntKind.i64 255) t22_25) (fun t23_26 =>
   opW Tryz.prog (Instr.build 61 #[(0, t12_14), (1, t15_15), (3, t19_17), (4, t23_26)]) (fun t24_27 w => keepS S (fun w =>
   opU Tryz.prog (Instr.storeAt 61 l_24 t24_27) (fun _ w =>
   J_4 l_24 w) w) w) w) w) w) w) w) w)) w) w) w) ∧ (opW Tryz.prog (Instr.alloc 61 true (Value.tuple #[])) (fun l_28 w => keepS S (fun w =>
   callW Tryz.prog (Value.func (Fn.func 60) #[] #[]) #[t17_10, (Value.int IntKind.i64 4)] (fun t18_29 w => keepS S (fun w =>
   takeW Tryz.prog anyW (binS BinOp.sub 3 (Operand.const (Value.int IntKind.i64 255)) (Operand.tmp 18) (Value.int IntKind.i64 255) t18_29) (fun t19_30 =>
   callW Tryz.prog (Value.func (Fn.func 60) #[] #[]) #[t21_12, (Value.int IntKind.i64 8)] (fun t22_31 w => keepS S (fun w =>
   takeW Tryz.prog anyW (binS BinOp.sub 3 (Operand.const (Value.int IntKind.i64 255)) (Operand.tmp 22) (Value.int IntKind.i64 255) t22_31) (fun t23_32 =>
   opW Tryz.prog (Instr.build 61 #[(0, t12_14), (1, t15_15), (3, t19_30), (4, t23_32)]) (fun t24_33 w => keepS S (fun w =>
   opU Tryz.prog (Instr.storeAt 61 l_28 t24_33) (fun _ w =>
   J_4 l_28 w) w) w) w) w) w) w) w) w) w) w) w)) w) w) ∧ (opW Tryz.prog (Instr.alloc 61 true (Value.tuple #[])) (fun l_34 w => keepS S (fun w =>
   callW Tryz.prog (Value.func (Fn.func 61) #[] #[]) #[t14_8, (Value.int IntKind.i64 5)] (fun t15_35 w => keepS S (fun w =>
   callW Tryz.prog (Value.func (Fn.func 60) #[] #[]) #[t17_10, (Value.int IntKind.i64 4)] (fun t18_36 w => keepS S (fun w =>
   takeW Tryz.prog anyW (binS BinOp.sub 3 (Operand.const (Value.int IntKind.i64 255)) (Operand.tmp 18) (Value.int IntKind.i64 255) t18_36) (fun t19_37 =>
   callW Tryz.prog (Value.func (Fn.func 60) #[] #[]) #[t21_12, (Value.int IntKind.i64 8)] (fun t22_38 w => keepS S (fun w =>
   takeW Tryz.prog anyW (binS BinOp.sub 3 (Operand.const (Value.int IntKind.i64 255)) (Operand.tmp 22) (Value.int IntKind.i64 255) t22_38) (fun t23_39 =>
   opW Tryz.prog (Instr.build 61 #[(0, t12_14), (1, t15_35), (3, t19_37), (4, t23_39)]) (fun t24_40 w => keepS S (fun w =>
   opU Tryz.prog (Instr.storeAt 61 l_34 t24_40) (fun _ w =>
   J_4 l_34 w) w) w) w) w) w) w) w) w) w) w) w) w) w)) w) w) w) ∧ (opW Tryz.prog (Instr.alloc 61 true (Value.tuple #[])) (fun l_41 w => keepS S (fun w =>
   callW Tryz.prog (Value.func (Fn.func 60) #[] #[]) #[t10_6, (Value.int IntKind.i64 30)] (fun t11_42 w => keepS S (fun w =>
   takeW Tryz.prog anyW (binS BinOp.mul 3 (Operand.tmp 11) (Operand.const (Value.int IntKind.i64 10)) t11_42 (Value.int IntKind.i64 10)) (fun t12_43 =>
   callW Tryz.prog (Value.func (Fn.func 61) #[] #[]) #[t14_8, (Value.int IntKind.i64 5)] (fun t15_44 w => keepS S (fun w =>
   callW Tryz.prog (Value.func (Fn.func 60) #[] #[]) #[t17_10, (Value.int IntKind.i64 4)] (fun t18_45 w => keepS S (fun w =>
   takeW Tryz.prog anyW (binS BinOp.sub 3 (Operand.const (Value.int IntKind.i64 255)) (Operand.tmp 18) (Value.int IntKind.i64 255) t18_45) (fun t19_46 =>
   callW Tryz.prog (Value.func (Fn.func 60) #[] #[]) #[t21_12, (Value.int IntKind.i64 8)] (fun t22_47 w => keepS S (fun w =>
   takeW Tryz.prog anyW (binS BinOp.sub 3 (Operand.const (Value.int IntKind.i64 255)) (Operand.tmp 22) (Value.int IntKind.i64 255) t22_47) (fun t23_48 =>
   opW Tryz.prog (Instr.build 61 #[(0, t12_43), (1, t15_44), (3, t19_46), (4, t23_48)]) (fun t24_49 w => keepS S (fun w =>
   opU Tryz.prog (Instr.storeAt 61 l_41 t24_49) (fun _ w =>
   J_4 l_41 w) w) w) w) w) w) w) w) w) w) w) w) w) w) w) w) w)) w) w) w) w) w) w) w) w))) w) w
theorem S32_vc (x_1 : Value) (k : Value → World → Prop) (w : World) : vc Tryz.prog Tryz.f32.ntmps ann32 none ((Tryz.f32.body).getD Code.skip) 1 (params 0 [x_1]) [] (finQ Tryz.prog Tryz.f32.results.toList k) w = S32 x_1 k w := by kernel_rfl
theorem S32_calls (x_1 : Value) (k : Value → World → Prop) (w : World) (h : S32 x_1 k w) : Calls Tryz.prog 32 #[x_1] w (retP k) :=
  calls_of_vc (fn := Tryz.f32) (c := (Tryz.f32.body).getD Code.skip) ann32 Tryz.func32 (by kernel_rfl) [x_1] w k (by kernel_rfl) ((S32_vc x_1 k w).symm ▸ h)
theorem C32 (x_1 : Value) (k : Value → World → Prop) (w : World) (h : S32 x_1 k w) : callW Tryz.prog (.func (.func 32) #[] #[]) #[x_1] k w :=
  callW_calls ok32 (by simpa using S32_calls x_1 k w h)

/-! newswire/label.Open -/
def ann34 : Ann := []
def S34 (l_1 r_2 m_3 : Value) (k : Value → World → Prop) (w : World) : Prop :=
   opW Tryz.prog (Instr.box 61 l_1) (fun l_4 w =>
   opW Tryz.prog (Instr.box 30 r_2) (fun r_5 w =>
   opW Tryz.prog (Instr.box 28 m_3) (fun m_6 w =>
   opW Tryz.prog (Instr.loadAt 61 l_4) (fun t7_7 w =>
   opW Tryz.prog (Instr.loadAt 30 r_5) (fun t8_8 w =>
   opW Tryz.prog (Instr.loadAt 28 m_6) (fun t9_9 w =>
   callW Tryz.prog (Value.func (Fn.func 73) #[] #[]) #[t7_7, t8_8, t9_9] (fun t10_10 w =>
   opW Tryz.prog (binS BinOp.eql 3 (Operand.tmp 10) (Operand.const (Value.int IntKind.i64 0)) t10_10 (Value.int IntKind.i64 0)) (fun t11_11 w =>
   k t11_11 w) w) w) w) w) w) w) w) w
theorem S34_vc (l_1 r_2 m_3 : Value) (k : Value → World → Prop) (w : World) : vc Tryz.prog Tryz.f34.ntmps ann34 none ((Tryz.f34.body).getD Code.skip) 1 (params 0 [l_1, r_2, m_3]) [] (finQ Tryz.prog Tryz.f34.results.toList k) w = S34 l_1 r_2 m_3 k w := by kernel_rfl
theorem S34_calls (l_1 r_2 m_3 : Value) (k : Value → World → Prop) (w : World) (h : S34 l_1 r_2 m_3 k w) : Calls Tryz.prog 34 #[l_1, r_2, m_3] w (retP k) :=
  calls_of_vc (fn := Tryz.f34) (c := (Tryz.f34.body).getD Code.skip) ann34 Tryz.func34 (by kernel_rfl) [l_1, r_2, m_3] w k (by kernel_rfl) ((S34_vc l_1 r_2 m_3 k w).symm ▸ h)
theorem C34 (l_1 r_2 m_3 : Value) (k : Value → World → Prop) (w : World) (h : S34 l_1 r_2 m_3 k w) : callW Tryz.prog (.func (.func 34) #[] #[]) #[l_1, r_2, m_3] k w :=
  callW_calls ok34 (by simpa using S34_calls l_1 r_2 m_3 k w h)

/-! newswire/newswirelaw26.zeros -/
def ann35 : Ann := []
def S35 (n_1 : Value) (k : Value → World → Prop) (w : World) : Prop :=
   opW Tryz.prog (Instr.makeSlice 85 n_1 n_1) (fun t4_2 w =>
   opW Tryz.prog (convert 85 9 t4_2) (fun t5_3 w =>
   k t5_3 w) w) w
theorem S35_vc (n_1 : Value) (k : Value → World → Prop) (w : World) : vc Tryz.prog Tryz.f35.ntmps ann35 none ((Tryz.f35.body).getD Code.skip) 1 (params 0 [n_1]) [] (finQ Tryz.prog Tryz.f35.results.toList k) w = S35 n_1 k w := by kernel_rfl
theorem S35_calls (n_1 : Value) (k : Value → World → Prop) (w : World) (h : S35 n_1 k w) : Calls Tryz.prog 35 #[n_1] w (retP k) :=
  calls_of_vc (fn := Tryz.f35) (c := (Tryz.f35.body).getD Code.skip) ann35 Tryz.func35 (by kernel_rfl) [n_1] w k (by kernel_rfl) ((S35_vc n_1 k w).symm ▸ h)
theorem C35 (n_1 : Value) (k : Value → World → Prop) (w : World) (h : S35 n_1 k w) : callW Tryz.prog (.func (.func 35) #[] #[]) #[n_1] k w :=
  callW_calls ok35 (by simpa using S35_calls n_1 k w h)

/-! newswire/newswirelaw26.example -/
def ann36 : Ann := [(126, Note.bag)]
def S36 (k : Value → World → Prop) (w : World) : Prop :=
   callW Tryz.prog (Value.func (Fn.func 31) #[] #[]) #[] (fun t6_1 w =>
   opW Tryz.prog (Instr.alloc 61 true (Value.tuple #[])) (fun held_2 w =>
   opU Tryz.prog (Instr.storeAt 61 held_2 t6_1) (fun _ w =>
   opW Tryz.prog (Instr.fieldAt 61 held_2 0) (fun t7_3 w =>
   opU Tryz.prog (Instr.storeAt 3 t7_3 (Value.int IntKind.i64 100)) (fun _ w =>
   opW Tryz.prog (Instr.loadAt 61 held_2) (fun t8_4 w =>
   opW Tryz.prog (Instr.build 63 #[(0, (Value.int IntKind.i64 10)), (1, t8_4), (2, (Value.int IntKind.i64 1)), (3, (Value.string { data := #[119, 97, 114] }))]) (fun t9_5 w =>
   opW Tryz.prog (Instr.alloc 63 true (Value.tuple #[])) (fun war_6 w =>
   opU Tryz.prog (Instr.storeAt 63 war_6 t9_5) (fun _ w =>
   callW Tryz.prog (Value.func (Fn.func 31) #[] #[]) #[] (fun t10_7 w =>
   opW Tryz.prog (Instr.build 63 #[(0, (Value.int IntKind.i64 10)), (1, t10_7), (2, (Value.int IntKind.i64 3)), (3, (Value.string { data := #[114, 97, 105, 110] }))]) (fun t11_8 w =>
   opW Tryz.prog (Instr.alloc 63 true (Value.tuple #[])) (fun rain_9 w =>
   opU Tryz.prog (Instr.storeAt 63 rain_9 t11_8) (fun _ w =>
   drewW w (fun w =>
   ∃ Ψ : World → Prop, ∃ Φ : Nat → Value → World → Prop, Ψ w ∧
   (∀ w, Ψ w → ∀ t12_11, Φ 0 t12_11 w → ∀ t13_12, Φ 1 t13_12 w → ∀ t14_13, Φ 2 t14_13 w → ∀ t15_14, Φ 3 t15_14 w → ∀ t16_15, Φ 4 t16_15 w → ∀ t17_16, Φ 5 t17_16 w → ∀ t18_17, Φ 6 t18_17 w → ∀ t19_18, Φ 7 t19_18 w → ∀ t20_19, Φ 8 t20_19 w → ∀ t0_20, Φ 9 t0_20 w → ∀ t1_21, Φ 10 t1_21 w → ∀ t2_22, Φ 11 t2_22 w → k (Value.tuple #[t0_20, t1_21, t2_22]) w) ∧
   (∀ w, Ψ w → opW Tryz.prog (Instr.loadAt 63 war_6) (fun t12_23 w_1 => bagK Φ Ψ 0 w t12_23 w_1) w) ∧
   (∀ w, Ψ w → opW Tryz.prog (Instr.loadAt 63 rain_9) (fun t13_24 w_1 => bagK Φ Ψ 1 w t13_24 w_1) w) ∧
   (∀ w, Ψ w → ∀ t12_11, Φ 0 t12_11 w → ∀ t13_12, Φ 1 t13_12 w → opW Tryz.prog (Instr.buildSlice 24 2 #[(0, t12_11), (1, t13_12)]) (fun t14_25 w_1 => bagK Φ Ψ 2 w t14_25 w_1) w) ∧
   (∀ w, Ψ w → opW Tryz.prog (Instr.loadAt 63 rain_9) (fun t15_26 w_1 => bagK Φ Ψ 3 w t15_26 w_1) w) ∧
   (∀ w, Ψ w → ∀ t15_14, Φ 3 t15_14 w → opW Tryz.prog (Instr.buildSlice 24 1 #[(0, t15_14)]) (fun t16_27 w_1 => bagK Φ Ψ 4 w t16_27 w_1) w) ∧
   (∀ w, Ψ w → opW Tryz.prog (Instr.build 28 #[(0, (Value.int IntKind.i64 10))]) (fun t17_28 w_1 => bagK Φ Ψ 5 w t17_28 w_1) w) ∧
   (∀ w, Ψ w → opW Tryz.prog (Instr.build 28 #[(0, (Value.int IntKind.i64 11))]) (fun t18_29 w_1 => bagK Φ Ψ 6 w t18_29 w_1) w) ∧
   (∀ w, Ψ w → opW Tryz.prog (Instr.build 28 #[(0, (Value.int IntKind.i64 12))]) (fun t19_30 w_1 => bagK Φ Ψ 7 w t19_30 w_1) w) ∧
   (∀ w, Ψ w → ∀ t17_16, Φ 5 t17_16 w → ∀ t18_17, Φ 6 t18_17 w → ∀ t19_18, Φ 7 t19_18 w → opW Tryz.prog (Instr.buildSlice 33 3 #[(0, t17_16), (1, t18_17), (2, t19_18)]) (fun t20_31 w_1 => bagK Φ Ψ 8 w t20_31 w_1) w) ∧
   (∀ w, Ψ w → ∀ t14_13, Φ 2 t14_13 w → (fun t0_32 w_1 => bagK Φ Ψ 9 w t0_32 w_1) t14_13 w) ∧
   (∀ w, Ψ w → ∀ t16_15, Φ 4 t16_15 w → (fun t1_33 w_1 => bagK Φ Ψ 10 w t1_33 w_1) t16_15 w) ∧
   (∀ w, Ψ w → ∀ t20_19, Φ 8 t20_19 w → (fun t2_34 w_1 => bagK Φ Ψ 11 w t2_34 w_1) t20_19 w) ∧ True)) w) w) w) w) w) w) w) w) w) w) w) w) w
theorem S36_vc (k : Value → World → Prop) (w : World) : vc Tryz.prog Tryz.f36.ntmps ann36 none ((Tryz.f36.body).getD Code.skip) 1 (params 0 []) [] (finQ Tryz.prog Tryz.f36.results.toList k) w = S36 k w := by kernel_rfl
theorem S36_calls (k : Value → World → Prop) (w : World) (h : S36 k w) : Calls Tryz.prog 36 #[] w (retP k) :=
  calls_of_vc (fn := Tryz.f36) (c := (Tryz.f36.body).getD Code.skip) ann36 Tryz.func36 (by kernel_rfl) [] w k (by kernel_rfl) ((S36_vc k w).symm ▸ h)
theorem C36 (k : Value → World → Prop) (w : World) (h : S36 k w) : callW Tryz.prog (.func (.func 36) #[] #[]) #[] k w :=
  callW_calls ok36 (by simpa using S36_calls k w h)

/-! newswire/newswireref10.Moment -/
def ann37 : Ann := [(6, Note.plan (Plan.takeP 0 (Plan.takeU 1 (Plan.takeP 4 (Plan.takeU 5 (Plan.takeP 8 (Plan.takeU 9 (Plan.takeP 11 (Plan.takeU 12 (Plan.alt (Plan.run 2 (Plan.takeP 3 (Plan.alt (Plan.run 6 (Plan.takeP 7 (Plan.alt (Plan.run 10 (Plan.alt (Plan.run 13 (Plan.alt (Plan.run 14 (Plan.run 15 (Plan.run 16 Plan.done))) (Plan.run 15 (Plan.run 14 (Plan.run 16 Plan.done))))) (Plan.run 15 (Plan.run 13 (Plan.run 14 (Plan.run 16 Plan.done)))))) (Plan.run 15 (Plan.run 10 (Plan.run 13 (Plan.run 14 (Plan.run 16 Plan.done)))))))) (Plan.run 15 (Plan.run 6 (Plan.takeP 7 (Plan.run 10 (Plan.run 13 (Plan.run 14 (Plan.run 16 Plan.done)))))))))) (Plan.run 15 (Plan.run 2 (Plan.takeP 3 (Plan.run 6 (Plan.takeP 7 (Plan.run 10 (Plan.run 13 (Plan.run 14 (Plan.run 16 Plan.done))))))))))))))))))), (29, Note.keep [2, 3]), (58, Note.loop [4] [1, 2, 3]), (466, Note.keep [1, 2, 3, 4]), (3730, Note.plan (Plan.takeP 0 (Plan.takeU 1 (Plan.takeP 2 (Plan.takeP 3 (Plan.takeU 4 (Plan.takeP 5 (Plan.run 6 (Plan.run 7 (Plan.run 8 (Plan.run 9 (Plan.takeP 10 (Plan.run 11 Plan.done)))))))))))))]
def S37 (x_1 : Value) (k : Value → World → Prop) (w : World) : Prop :=
   opW Tryz.prog (Instr.box 82 x_1) (fun x_2 w =>
   opW Tryz.prog (Instr.alloc 28 true (Value.tuple #[])) (fun t2_3 w =>
   joinW (fun m_44 w =>
   Loop1 (fun f_46 w K_47 =>
   opW Tryz.prog (binS BinOp.lss 3 (Operand.tmp 20) (Operand.const (Value.int IntKind.i64 4)) f_46 (Value.int IntKind.i64 4)) (fun t21_49 w =>
   condW t21_49
   (joinW (fun w =>
   opW Tryz.prog (binS BinOp.add 3 (Operand.tmp 22) (Operand.const (Value.int IntKind.i64 1)) f_46 (Value.int IntKind.i64 1)) (fun t23_68 w =>
   loopK [] [] [x_2, t2_3, m_44] [x_2, t2_3, m_44] (K_47 t23_68 w)) w) (fun J_50 =>
   opW Tryz.prog (Instr.indexAt 82 x_2 (Value.int IntKind.i64 3)) (fun t24_51 w =>
   opW Tryz.prog (Instr.loadAt 3 t24_51) (fun t25_52 w =>
   callW Tryz.prog (Value.func (Fn.func 60) #[] #[]) #[t25_52, (Value.int IntKind.i64 16)] (fun t26_53 w =>
   opW Tryz.prog (binS BinOp.shr 3 (Operand.tmp 26) (Operand.tmp 27) t26_53 f_46) (fun t28_54 w =>
   opW Tryz.prog (binS BinOp.rem 3 (Operand.tmp 28) (Operand.const (Value.int IntKind.i64 2)) t28_54 (Value.int IntKind.i64 2)) (fun t29_55 w =>
   opW Tryz.prog (binS BinOp.eql 3 (Operand.tmp 29) (Operand.const (Value.int IntKind.i64 1)) t29_55 (Value.int IntKind.i64 1)) (fun t30_56 w =>
   condW t30_56
   (drewW w (fun w =>
   ∃ S : World → Prop, S w ∧
   takeW Tryz.prog anyW (Instr.fieldAt 28 m_44 3) (fun t31_58 =>
   takeW Tryz.prog S (Instr.loadAt 26 t31_58) (fun t32_59 =>
   takeW Tryz.prog anyW (Instr.indexAt 82 x_2 (Value.int IntKind.i64 3)) (fun t34_60 =>
   takeW Tryz.prog S (Instr.loadAt 3 t34_60) (fun t35_61 =>
   takeW Tryz.prog anyW (binS BinOp.quo 3 (Operand.tmp 35) (Operand.const (Value.int IntKind.i64 16)) t35_61 (Value.int IntKind.i64 16)) (fun t36_62 =>
   callW Tryz.prog (Value.func (Fn.func 60) #[] #[]) #[t36_62, (Value.int IntKind.i64 5)] (fun t37_63 w => keepS S (fun w =>
   opW Tryz.prog (Instr.build 121 #[(0, f_46), (1, t37_63)]) (fun t38_64 w => keepS S (fun w =>
   opW Tryz.prog (Instr.buildSlice 26 1 #[(0, t38_64)]) (fun t39_65 w => keepS S (fun w =>
   opW Tryz.prog (Builtin.append_ #[26, 26] 26 #[t32_59, t39_65]) (fun t40_66 w => keepS S (fun w =>
   takeW Tryz.prog anyW (Instr.fieldAt 28 m_44 3) (fun t41_67 =>
   opU Tryz.prog (Instr.storeAt 26 t41_67 t40_66) (fun _ w =>
   J_50 w) w) w) w) w) w) w) w) w) w) w) w) w) w) w) w))
   (J_50 w)) w) w) w) w) w) w))
   (opW Tryz.prog (Instr.loadAt 28 m_44) (fun t42_69 w =>
   opU Tryz.prog (Instr.storeAt 28 t2_3 t42_69) (fun _ w =>
   resCell Tryz.prog 28 t2_3 (fun r_70 => k r_70 w) w) w) w)) w) (Value.int IntKind.i64 0) w) (fun J_4 =>
   drewW w (fun w =>
   ∃ S : World → Prop, S w ∧
   takeW Tryz.prog anyW (Instr.indexAt 82 x_2 (Value.int IntKind.i64 0)) (fun t5_5 =>
   takeW Tryz.prog S (Instr.loadAt 3 t5_5) (fun t6_6 =>
   takeW Tryz.prog anyW (Instr.indexAt 82 x_2 (Value.int IntKind.i64 1)) (fun t9_7 =>
   takeW Tryz.prog S (Instr.loadAt 3 t9_7) (fun t10_8 =>
   takeW Tryz.prog anyW (Instr.indexAt 82 x_2 (Value.int IntKind.i64 2)) (fun t13_9 =>
   takeW Tryz.prog S (Instr.loadAt 3 t13_9) (fun t14_10 =>
   takeW Tryz.prog anyW (Instr.indexAt 82 x_2 (Value.int IntKind.i64 4)) (fun t16_11 =>
   takeW Tryz.prog S (Instr.loadAt 3 t16_11) (fun t17_12 =>
   (callW Tryz.prog (Value.func (Fn.func 60) #[] #[]) #[t6_6, (Value.int IntKind.i64 40)] (fun t7_13 w => keepS S (fun w =>
   takeW Tryz.prog anyW (binS BinOp.mul 3 (Operand.tmp 7) (Operand.const (Value.int IntKind.i64 10)) t7_13 (Value.int IntKind.i64 10)) (fun t8_14 =>
   (callW Tryz.prog (Value.func (Fn.func 60) #[] #[]) #[t10_8, (Value.int IntKind.i64 3)] (fun t11_15 w => keepS S (fun w =>
   takeW Tryz.prog anyW (binS BinOp.mul 3 (Operand.tmp 11) (Operand.const (Value.int IntKind.i64 7)) t11_15 (Value.int IntKind.i64 7)) (fun t12_16 =>
   (callW Tryz.prog (Value.func (Fn.func 61) #[] #[]) #[t14_10, (Value.int IntKind.i64 5)] (fun t15_17 w => keepS S (fun w =>
   (callW Tryz.prog (Value.func (Fn.func 61) #[] #[]) #[t17_12, (Value.int IntKind.i64 6)] (fun t18_18 w => keepS S (fun w =>
   (opW Tryz.prog (Instr.build 28 #[(0, t8_14), (1, t12_16), (2, t15_17), (4, t18_18)]) (fun t19_19 w => keepS S (fun w =>
   opW Tryz.prog (Instr.alloc 28 true (Value.tuple #[])) (fun m_20 w => keepS S (fun w =>
   opU Tryz.prog (Instr.storeAt 28 m_20 t19_19) (fun _ w =>
   J_4 m_20 w) w) w) w) w) w) ∧ (opW Tryz.prog (Instr.alloc 28 true (Value.tuple #[])) (fun m_21 w => keepS S (fun w =>
   opW Tryz.prog (Instr.build 28 #[(0, t8_14), (1, t12_16), (2, t15_17), (4, t18_18)]) (fun t19_22 w => keepS S (fun w =>
   opU Tryz.prog (Instr.storeAt 28 m_21 t19_22) (fun _ w =>
   J_4 m_21 w) w) w) w) w) w)) w) w) ∧ (opW Tryz.prog (Instr.alloc 28 true (Value.tuple #[])) (fun m_23 w => keepS S (fun w =>
   callW Tryz.prog (Value.func (Fn.func 61) #[] #[]) #[t17_12, (Value.int IntKind.i64 6)] (fun t18_24 w => keepS S (fun w =>
   opW Tryz.prog (Instr.build 28 #[(0, t8_14), (1, t12_16), (2, t15_17), (4, t18_24)]) (fun t19_25 w => keepS S (fun w =>
   opU Tryz.prog (Instr.storeAt 28 m_23 t19_25) (fun _ w =>
   J_4 m_23 w) w) w) w) w) w) w) w)) w) w) ∧ (opW Tryz.prog (Instr.alloc 28 true (Value.tuple #[])) (fun m_26 w => keepS S (fun w =>
   callW Tryz.prog (Value.func (Fn.func 61) #[] #[]) #[t14_10, (Value.int IntKind.i64 5)] (fun t15_27 w => keepS S (fun w =>
   callW Tryz.prog (Value.func (Fn.func 61) #[] #[]) #[t17_12, (Value.int IntKind.i64 6)] (fun t18_28 w => keepS S (fun w =>
   opW Tryz.prog (Instr.build 28 #[(0, t8_14), (1, t12_16), (2, t15_27), (4, t18_28)]) (fun t19_29 w => keepS S (fun w =>
   opU Tryz.prog (Instr.storeAt 28 m_26 t19_29) (fun _ w =>
   J_4 m_26 w) w) w) w) w) w) w) w) w) w)) w) w) w) ∧ (opW Tryz.prog (Instr.alloc 28 true (Value.tuple #[])) (fun m_30 w => keepS S (fun w =>
   callW Tryz.prog (Value.func (Fn.func 60) #[] #[]) #[t10_8, (Value.int IntKind.i64 3)] (fun t11_31 w => keepS S (fun w =>
   takeW Tryz.prog anyW (binS BinOp.mul 3 (Operand.tmp 11) (Operand.const (Value.int IntKind.i64 7)) t11_31 (Value.int IntKind.i64 7)) (fun t12_32 =>
   callW Tryz.prog (Value.func (Fn.func 61) #[] #[]) #[t14_10, (Value.int IntKind.i64 5)] (fun t15_33 w => keepS S (fun w =>
   callW Tryz.prog (Value.func (Fn.func 61) #[] #[]) #[t17_12, (Value.int IntKind.i64 6)] (fun t18_34 w => keepS S (fun w =>
   opW Tryz.prog (Instr.build 28 #[(0, t8_14), (1, t12_32), (2, t15_33), (4, t18_34)]) (fun t19_35 w => keepS S (fun w =>
   opU Tryz.prog (Instr.storeAt 28 m_30 t19_35) (fun _ w =>
   J_4 m_30 w) w) w) w) w) w) w) w) w) w) w) w) w)) w) w) w) ∧ (opW Tryz.prog (Instr.alloc 28 true (Value.tuple #[])) (fun m_36 w => keepS S (fun w =>
   callW Tryz.prog (Value.func (Fn.func 60) #[] #[]) #[t6_6, (Value.int IntKind.i64 40)] (fun t7_37 w => keepS S (fun w =>
   takeW Tryz.prog anyW (binS BinOp.mul 3 (Operand.tmp 7) (Operand.const (Value.int IntKind.i64 10)) t7_37 (Value.int IntKind.i64 10)) (fun t8_38 =>
   callW Tryz.prog (Value.func (Fn.func 60) #[] #[]) #[t10_8, (Value.int IntKind.i64 3)] (fun t11_39 w => keepS S (fun w =>
   takeW Tryz.prog anyW (binS BinOp.mul 3 (Operand.tmp 11) (Operand.const (Value.int IntKind.i64 7)) t11_39 (Value.int IntKind.i64 7)) (fun t12_40 =>
   callW Tryz.prog (Value.func (Fn.func 61) #[] #[]) #[t14_10, (Value.int IntKind.i64 5)] (fun t15_41 w => keepS S (fun w =>
   callW Tryz.prog (Value.func (Fn.func 61) #[] #[]) #[t17_12, (Value.int IntKind.i64 6)] (fun t18_42 w => keepS S (fun w =>
   opW Tryz.prog (Instr.build 28 #[(0, t8_38), (1, t12_40), (2, t15_41), (4, t18_42)]) (fun t19_43 w => keepS S (fun w =>
   opU Tryz.prog (Instr.storeAt 28 m_36 t19_43) (fun _ w =>
   J_4 m_36 w) w) w) w) w) w) w) w) w) w) w) w) w) w) w) w)) w) w) w) w) w) w) w) w))) w) w
theorem S37_vc (x_1 : Value) (k : Value → World → Prop) (w : World) : vc Tryz.prog Tryz.f37.ntmps ann37 none ((Tryz.f37.body).getD Code.skip) 1 (params 0 [x_1]) [] (finQ Tryz.prog Tryz.f37.results.toList k) w = S37 x_1 k w := by kernel_rfl
theorem S37_calls (x_1 : Value) (k : Value → World → Prop) (w : World) (h : S37 x_1 k w) : Calls Tryz.prog 37 #[x_1] w (retP k) :=
  calls_of_vc (fn := Tryz.f37) (c := (Tryz.f37.body).getD Code.skip) ann37 Tryz.func37 (by kernel_rfl) [x_1] w k (by kernel_rfl) ((S37_vc x_1 k w).symm ▸ h)
theorem C37 (x_1 : Value) (k : Value → World → Prop) (w : World) (h : S37 x_1 k w) : callW Tryz.prog (.func (.func 37) #[] #[]) #[x_1] k w :=
  callW_calls ok37 (by simpa using S37_calls x_1 k w h)

/-! newswire/newswireref26.pick -/
def ann38 : Ann := []
def S38 (c_1 n_2 : Value) (k : Value → World → Prop) (w : World) : Prop :=
   joinW (fun c_7 w =>
   opW Tryz.prog (binS BinOp.rem 3 (Operand.tmp 10) (Operand.tmp 11) c_7 n_2) (fun t12_8 w =>
   k t12_8 w) w) (fun J_3 =>
   opW Tryz.prog (binS BinOp.lss 3 (Operand.tmp 5) (Operand.const (Value.int IntKind.i64 0)) c_1 (Value.int IntKind.i64 0)) (fun t6_4 w =>
   condW t6_4
   (opW Tryz.prog (binS BinOp.add 3 (Operand.tmp 7) (Operand.const (Value.int IntKind.i64 1)) c_1 (Value.int IntKind.i64 1)) (fun t8_5 w =>
   opW Tryz.prog (Op.unary UnOp.neg t8_5) (fun t9_6 w =>
   J_3 t9_6 w) w) w)
   (J_3 c_1 w)) w)
theorem S38_vc (c_1 n_2 : Value) (k : Value → World → Prop) (w : World) : vc Tryz.prog Tryz.f38.ntmps ann38 none ((Tryz.f38.body).getD Code.skip) 1 (params 0 [c_1, n_2]) [] (finQ Tryz.prog Tryz.f38.results.toList k) w = S38 c_1 n_2 k w := by kernel_rfl
theorem S38_calls (c_1 n_2 : Value) (k : Value → World → Prop) (w : World) (h : S38 c_1 n_2 k w) : Calls Tryz.prog 38 #[c_1, n_2] w (retP k) :=
  calls_of_vc (fn := Tryz.f38) (c := (Tryz.f38.body).getD Code.skip) ann38 Tryz.func38 (by kernel_rfl) [c_1, n_2] w k (by kernel_rfl) ((S38_vc c_1 n_2 k w).symm ▸ h)
theorem C38 (c_1 n_2 : Value) (k : Value → World → Prop) (w : World) (h : S38 c_1 n_2 k w) : callW Tryz.prog (.func (.func 38) #[] #[]) #[c_1, n_2] k w :=
  callW_calls ok38 (by simpa using S38_calls c_1 n_2 k w h)

/-! newswire/newswireref26.union -/
def ann39 : Ann := [(29, Note.keep [5]), (58, Note.loop [5, 6] [0, 1]), (466, Note.keep [0, 1, 5, 6]), (7461, Note.keep [0, 1, 5, 6, 7]), (14922, Note.loop [7, 8] [0, 1, 5, 6]), (14925, Note.keep [0, 1, 5, 6, 7]), (29850, Note.loop [7, 9] [0, 1, 5, 6]), (119378, Note.keep [0, 1, 5, 6, 7, 8]), (238802, Note.keep [0, 1, 5, 6, 7, 9])]
def S39 (a_1 b_2 : Value) (k : Value → World → Prop) (w : World) : Prop :=
   Loop2 (fun out_4 n_5 w K_6 =>
   opW Tryz.prog (binS BinOp.lss 3 (Operand.tmp 10) (Operand.const (Value.int IntKind.i64 20)) n_5 (Value.int IntKind.i64 20)) (fun t11_8 w =>
   condW t11_8
   (joinW (fun out_44 w =>
   opW Tryz.prog (binS BinOp.add 3 (Operand.tmp 12) (Operand.const (Value.int IntKind.i64 1)) n_5 (Value.int IntKind.i64 1)) (fun t13_45 w =>
   loopK [] [] [a_1, b_2] [a_1, b_2] (K_6 out_44 t13_45 w)) w) (fun J_9 =>
   Loop2 (fun in_11 i_12 w K_13 =>
   opW Tryz.prog (Builtin.len_ #[25] 3 #[a_1]) (fun t16_15 w =>
   opW Tryz.prog (binS BinOp.lss 3 (Operand.tmp 14) (Operand.tmp 16) i_12 t16_15) (fun t17_16 w =>
   condW t17_16
   (guardW (some in_11, false) (fun k w => k a_1 w) (fun t22_18 w =>
   guardW (some in_11, false) (fun k w => k i_12 w) (fun t23_19 w =>
   guardW (some in_11, false) (fun k w => opW Tryz.prog (Instr.indexAt 25 t22_18 t23_19) k w) (fun t24_20 w =>
   guardW (some in_11, false) (fun k w => opW Tryz.prog (Instr.loadAt 3 t24_20) k w) (fun t25_21 w =>
   guardW (some in_11, false) (fun k w => k n_5 w) (fun t26_22 w =>
   guardW (some in_11, false) (fun k w => opW Tryz.prog (binS BinOp.eql 3 (Operand.tmp 25) (Operand.tmp 26) t25_21 t26_22) k w) (fun t27_23 w =>
   pickW in_11 (Value.bool true) t27_23 (fun t28_24 w =>
   opW Tryz.prog (binS BinOp.add 3 (Operand.tmp 18) (Operand.const (Value.int IntKind.i64 1)) i_12 (Value.int IntKind.i64 1)) (fun t19_25 w =>
   loopK [] [] [a_1, b_2, out_4, n_5] [a_1, b_2, out_4, n_5] (K_13 t28_24 t19_25 w)) w) w) w) w) w) w) w) w)
   (Loop2 (fun in_27 i_28 w K_29 =>
   opW Tryz.prog (Builtin.len_ #[25] 3 #[b_2]) (fun t31_31 w =>
   opW Tryz.prog (binS BinOp.lss 3 (Operand.tmp 29) (Operand.tmp 31) i_28 t31_31) (fun t32_32 w =>
   condW t32_32
   (guardW (some in_27, false) (fun k w => k b_2 w) (fun t37_34 w =>
   guardW (some in_27, false) (fun k w => k i_28 w) (fun t38_35 w =>
   guardW (some in_27, false) (fun k w => opW Tryz.prog (Instr.indexAt 25 t37_34 t38_35) k w) (fun t39_36 w =>
   guardW (some in_27, false) (fun k w => opW Tryz.prog (Instr.loadAt 3 t39_36) k w) (fun t40_37 w =>
   guardW (some in_27, false) (fun k w => k n_5 w) (fun t41_38 w =>
   guardW (some in_27, false) (fun k w => opW Tryz.prog (binS BinOp.eql 3 (Operand.tmp 40) (Operand.tmp 41) t40_37 t41_38) k w) (fun t42_39 w =>
   pickW in_27 (Value.bool true) t42_39 (fun t43_40 w =>
   opW Tryz.prog (binS BinOp.add 3 (Operand.tmp 33) (Operand.const (Value.int IntKind.i64 1)) i_28 (Value.int IntKind.i64 1)) (fun t34_41 w =>
   loopK [] [] [a_1, b_2, out_4, n_5] [a_1, b_2, out_4, n_5] (K_29 t43_40 t34_41 w)) w) w) w) w) w) w) w) w)
   (condW in_27
   (opW Tryz.prog (Instr.buildSlice 25 1 #[(0, n_5)]) (fun t47_42 w =>
   opW Tryz.prog (Builtin.append_ #[25, 25] 25 #[out_4, t47_42]) (fun t48_43 w =>
   J_9 t48_43 w) w) w)
   (J_9 out_4 w))) w) w) in_11 (Value.int IntKind.i64 0) w)) w) w) (Value.bool false) (Value.int IntKind.i64 0) w))
   (k out_4 w)) w) (Value.slice none 0 0) (Value.int IntKind.i64 0) w
theorem S39_vc (a_1 b_2 : Value) (k : Value → World → Prop) (w : World) : vc Tryz.prog Tryz.f39.ntmps ann39 none ((Tryz.f39.body).getD Code.skip) 1 (params 0 [a_1, b_2]) [] (finQ Tryz.prog Tryz.f39.results.toList k) w = S39 a_1 b_2 k w := by kernel_rfl
theorem S39_calls (a_1 b_2 : Value) (k : Value → World → Prop) (w : World) (h : S39 a_1 b_2 k w) : Calls Tryz.prog 39 #[a_1, b_2] w (retP k) :=
  calls_of_vc (fn := Tryz.f39) (c := (Tryz.f39.body).getD Code.skip) ann39 Tryz.func39 (by kernel_rfl) [a_1, b_2] w k (by kernel_rfl) ((S39_vc a_1 b_2 k w).symm ▸ h)
theorem C39 (a_1 b_2 : Value) (k : Value → World → Prop) (w : World) (h : S39 a_1 b_2 k w) : callW Tryz.prog (.func (.func 39) #[] #[]) #[a_1, b_2] k w :=
  callW_calls ok39 (by simpa using S39_calls a_1 b_2 k w h)

/-! newswire/newswireref10.None -/
def ann40 : Ann := []
def S40 (k : Value → World → Prop) (w : World) : Prop :=
   opW Tryz.prog (Instr.alloc 61 true (Value.tuple #[])) (fun t0_1 w =>
   opW Tryz.prog (Instr.build 61 #[(3, (Value.int IntKind.i64 255)), (4, (Value.int IntKind.i64 255))]) (fun t1_2 w =>
   opU Tryz.prog (Instr.storeAt 61 t0_1 t1_2) (fun _ w =>
   resCell Tryz.prog 61 t0_1 (fun r_3 => k r_3 w) w) w) w) w
theorem S40_vc (k : Value → World → Prop) (w : World) : vc Tryz.prog Tryz.f40.ntmps ann40 none ((Tryz.f40.body).getD Code.skip) 1 (params 0 []) [] (finQ Tryz.prog Tryz.f40.results.toList k) w = S40 k w := by kernel_rfl
theorem S40_calls (k : Value → World → Prop) (w : World) (h : S40 k w) : Calls Tryz.prog 40 #[] w (retP k) :=
  calls_of_vc (fn := Tryz.f40) (c := (Tryz.f40.body).getD Code.skip) ann40 Tryz.func40 (by kernel_rfl) [] w k (by kernel_rfl) ((S40_vc k w).symm ▸ h)
theorem C40 (k : Value → World → Prop) (w : World) (h : S40 k w) : callW Tryz.prog (.func (.func 40) #[] #[]) #[] k w :=
  callW_calls ok40 (by simpa using S40_calls k w h)

/-! newswire/flow.given -/
def ann41 : Ann := []
def S41 (l_1 reader_2 moments_3 : Value) (k : Value → World → Prop) (w : World) : Prop :=
   opW Tryz.prog (Instr.box 30 reader_2) (fun reader_4 w =>
   callW Tryz.prog (Value.func (Fn.func 19) #[] #[]) #[l_1] (fun t9_5 w =>
   guardW (some t9_5, true) (fun k w => k (Value.func (Fn.func 74) #[] #[]) w) (fun t11_6 w =>
   guardW (some t9_5, true) (fun k w => opW Tryz.prog (Instr.fieldAt 30 reader_4 0) k w) (fun t12_7 w =>
   guardW (some t9_5, true) (fun k w => opW Tryz.prog (Instr.loadAt 3 t12_7) k w) (fun t13_8 w =>
   guardW (some t9_5, true) (fun k w => callW Tryz.prog t11_6 #[t13_8] k w) (fun t14_9 w =>
   pickW t9_5 t14_9 (Value.bool false) (fun t15_10 w =>
   guardW (some t15_10, true) (fun k w => k (Value.func (Fn.func 74) #[] #[]) w) (fun t17_11 w =>
   guardW (some t15_10, true) (fun k w => opW Tryz.prog (Instr.fieldAt 30 reader_4 1) k w) (fun t18_12 w =>
   guardW (some t15_10, true) (fun k w => opW Tryz.prog (Instr.loadAt 3 t18_12) k w) (fun t19_13 w =>
   guardW (some t15_10, true) (fun k w => callW Tryz.prog t17_11 #[t19_13] k w) (fun t20_14 w =>
   pickW t15_10 t20_14 (Value.bool false) (fun t21_15 w =>
   guardW (some t21_15, true) (fun k w => k moments_3 w) (fun t23_16 w =>
   guardW (some t21_15, true) (fun k w => opW Tryz.prog (Builtin.len_ #[33] 3 #[t23_16]) k w) (fun t24_17 w =>
   guardW (some t21_15, true) (fun k w => opW Tryz.prog (binS BinOp.leq 3 (Operand.tmp 24) (Operand.const (Value.int IntKind.i64 40)) t24_17 (Value.int IntKind.i64 40)) k w) (fun t25_18 w =>
   pickW t21_15 t25_18 (Value.bool false) (fun t26_19 w =>
   guardW (some t26_19, true) (fun k w => k moments_3 w) (fun t28_20 w =>
   guardW (some t26_19, true) (fun k w => callW Tryz.prog (Value.func (Fn.func 75) #[] #[]) #[t28_20, (Value.func (Fn.func 76) #[] #[])] k w) (fun t29_21 w =>
   guardW (some t26_19, true) (fun k w => opW Tryz.prog (Op.unary UnOp.not t29_21) k w) (fun t30_22 w =>
   pickW t26_19 t30_22 (Value.bool false) (fun t31_23 w =>
   k t31_23 w) w) w) w) w) w) w) w) w) w) w) w) w) w) w) w) w) w) w) w) w
theorem S41_vc (l_1 reader_2 moments_3 : Value) (k : Value → World → Prop) (w : World) : vc Tryz.prog Tryz.f41.ntmps ann41 none ((Tryz.f41.body).getD Code.skip) 1 (params 0 [l_1, reader_2, moments_3]) [] (finQ Tryz.prog Tryz.f41.results.toList k) w = S41 l_1 reader_2 moments_3 k w := by kernel_rfl
theorem S41_calls (l_1 reader_2 moments_3 : Value) (k : Value → World → Prop) (w : World) (h : S41 l_1 reader_2 moments_3 k w) : Calls Tryz.prog 41 #[l_1, reader_2, moments_3] w (retP k) :=
  calls_of_vc (fn := Tryz.f41) (c := (Tryz.f41.body).getD Code.skip) ann41 Tryz.func41 (by kernel_rfl) [l_1, reader_2, moments_3] w k (by kernel_rfl) ((S41_vc l_1 reader_2 moments_3 k w).symm ▸ h)
theorem C41 (l_1 reader_2 moments_3 : Value) (k : Value → World → Prop) (w : World) (h : S41 l_1 reader_2 moments_3 k w) : callW Tryz.prog (.func (.func 41) #[] #[]) #[l_1, reader_2, moments_3] k w :=
  callW_calls ok41 (by simpa using S41_calls l_1 reader_2 moments_3 k w h)

/-! newswire/flow.slots -/
def ann42 : Ann := []
def S42 (l_1 reader_2 moments_3 : Value) (k : Value → World → Prop) (w : World) : Prop :=
   opW Tryz.prog (Instr.box 24 l_1) (fun l_4 w =>
   opW Tryz.prog (Instr.box 30 reader_2) (fun reader_5 w =>
   opW Tryz.prog (Instr.box 33 moments_3) (fun moments_6 w =>
   opW Tryz.prog (Instr.makeFunc (Fn.func 78) #[] #[l_4, moments_6, reader_5]) (fun t7_7 w =>
   k t7_7 w) w) w) w) w
theorem S42_vc (l_1 reader_2 moments_3 : Value) (k : Value → World → Prop) (w : World) : vc Tryz.prog Tryz.f42.ntmps ann42 none ((Tryz.f42.body).getD Code.skip) 1 (params 0 [l_1, reader_2, moments_3]) [] (finQ Tryz.prog Tryz.f42.results.toList k) w = S42 l_1 reader_2 moments_3 k w := by kernel_rfl
theorem S42_calls (l_1 reader_2 moments_3 : Value) (k : Value → World → Prop) (w : World) (h : S42 l_1 reader_2 moments_3 k w) : Calls Tryz.prog 42 #[l_1, reader_2, moments_3] w (retP k) :=
  calls_of_vc (fn := Tryz.f42) (c := (Tryz.f42.body).getD Code.skip) ann42 Tryz.func42 (by kernel_rfl) [l_1, reader_2, moments_3] w k (by kernel_rfl) ((S42_vc l_1 reader_2 moments_3 k w).symm ▸ h)
theorem C42 (l_1 reader_2 moments_3 : Value) (k : Value → World → Prop) (w : World) (h : S42 l_1 reader_2 moments_3 k w) : callW Tryz.prog (.func (.func 42) #[] #[]) #[l_1, reader_2, moments_3] k w :=
  callW_calls ok42 (by simpa using S42_calls l_1 reader_2 moments_3 k w h)

/-! newswire/flow.copyOf -/
def ann43 : Ann := [(125, Note.keep [1, 2]), (250, Note.loop [26] [1, 2, 25]), (4006, Note.keep [1, 2, 25, 26]), (16025, Note.plan (Plan.takeP 0 (Plan.takeP 1 (Plan.takeU 2 (Plan.takeP 3 (Plan.takeP 4 (Plan.takeP 5 (Plan.takeU 6 (Plan.takeP 7 (Plan.takeP 8 (Plan.takeP 9 (Plan.takeX 10 (Plan.run 11 (Plan.takeP 12 (Plan.takeP 13 (Plan.run 14 Plan.done))))))))))))))))]
def S43 (x_1 : Value) (k : Value → World → Prop) (w : World) : Prop :=
   opW Tryz.prog (Instr.box 63 x_1) (fun x_2 w =>
   opW Tryz.prog (Instr.alloc 63 true (Value.tuple #[])) (fun t2_3 w =>
   opW Tryz.prog (Instr.fieldAt 63 x_2 1) (fun t4_4 w =>
   opW Tryz.prog (Instr.fieldAt 61 t4_4 1) (fun t5_5 w =>
   opW Tryz.prog (Instr.loadAt 25 t5_5) (fun t6_6 w =>
   callW Tryz.prog (Value.func (Fn.func 72) #[] #[]) #[t6_6] (fun t7_7 w =>
   opW Tryz.prog (Instr.fieldAt 63 x_2 1) (fun t8_8 w =>
   opW Tryz.prog (Instr.fieldAt 61 t8_8 1) (fun t9_9 w =>
   opU Tryz.prog (Instr.storeAt 25 t9_9 t7_7) (fun _ w =>
   opW Tryz.prog (Instr.fieldAt 63 x_2 1) (fun t10_10 w =>
   opW Tryz.prog (Instr.fieldAt 61 t10_10 2) (fun t11_11 w =>
   opW Tryz.prog (Instr.loadAt 26 t11_11) (fun t12_12 w =>
   callW Tryz.prog (Value.func (Fn.func 81) #[] #[]) #[t12_12] (fun t13_13 w =>
   opW Tryz.prog (Instr.fieldAt 63 x_2 1) (fun t14_14 w =>
   opW Tryz.prog (Instr.fieldAt 61 t14_14 2) (fun t15_15 w =>
   opU Tryz.prog (Instr.storeAt 26 t15_15 t13_13) (fun _ w =>
   opW Tryz.prog (Instr.fieldAt 63 x_2 1) (fun t16_16 w =>
   opW Tryz.prog (Instr.fieldAt 61 t16_16 5) (fun t17_17 w =>
   opW Tryz.prog (Instr.loadAt 59 t17_17) (fun t18_18 w =>
   callW Tryz.prog (Value.func (Fn.func 82) #[] #[]) #[t18_18] (fun t19_19 w =>
   opW Tryz.prog (Instr.fieldAt 63 x_2 1) (fun t20_20 w =>
   opW Tryz.prog (Instr.fieldAt 61 t20_20 5) (fun t21_21 w =>
   opU Tryz.prog (Instr.storeAt 59 t21_21 t19_19) (fun _ w =>
   opW Tryz.prog (Instr.fieldAt 63 x_2 1) (fun t22_22 w =>
   opW Tryz.prog (Instr.fieldAt 61 t22_22 5) (fun t23_23 w =>
   opW Tryz.prog (Instr.loadAt 59 t23_23) (fun t24_24 w =>
   opW Tryz.prog (Builtin.len_ #[59] 3 #[t24_24]) (fun t25_25 w =>
   Loop1 (fun t26_27 w K_28 =>
   opW Tryz.prog (binS BinOp.lss 3 (Operand.tmp 26) (Operand.tmp 25) t26_27 t25_25) (fun t27_29 w =>
   condW t27_29
   (drewW w (fun w =>
   ∃ S : World → Prop, S w ∧
   takeW Tryz.prog anyW (Instr.fieldAt 63 x_2 1) (fun t29_33 =>
   takeW Tryz.prog anyW (Instr.fieldAt 61 t29_33 5) (fun t30_34 =>
   takeW Tryz.prog S (Instr.loadAt 59 t30_34) (fun t31_35 =>
   takeW Tryz.prog anyW (Instr.fieldAt 63 x_2 1) (fun t33_36 =>
   takeW Tryz.prog anyW (Instr.fieldAt 61 t33_36 5) (fun t34_37 =>
   takeW Tryz.prog S (Instr.loadAt 59 t34_37) (fun t35_38 =>
   takeW Tryz.prog anyW (Instr.indexAt 59 t35_38 t26_27) (fun t37_39 =>
   takeW Tryz.prog anyW (Instr.fieldAt 87 t37_39 1) (fun t38_40 =>
   takeW Tryz.prog (sameW w) (Instr.loadAt 25 t38_40) (fun t39_41 =>
   callW Tryz.prog (Value.func (Fn.func 72) #[] #[]) #[t39_41] (fun t40_42 w => keepS S (fun w =>
   takeW Tryz.prog anyW (Instr.indexAt 59 t31_35 t26_27) (fun t41_43 =>
   takeW Tryz.prog anyW (Instr.fieldAt 87 t41_43 1) (fun t42_44 =>
   opU Tryz.prog (Instr.storeAt 25 t42_44 t40_42) (fun _ w =>
   opW Tryz.prog (binS BinOp.add 3 (Operand.tmp 26) (Operand.const (Value.int IntKind.i64 1)) t26_27 (Value.int IntKind.i64 1)) (fun t43_45 w =>
   loopK [] [] [x_2, t2_3, t25_25] [x_2, t2_3, t25_25] (K_28 t43_45 w)) w) w) w) w) w) w) w) w) w) w) w) w) w) w) w))
   (opW Tryz.prog (Instr.loadAt 63 x_2) (fun t44_46 w =>
   opU Tryz.prog (Instr.storeAt 63 t2_3 t44_46) (fun _ w =>
   resCell Tryz.prog 63 t2_3 (fun r_47 => k r_47 w) w) w) w)) w) (Value.int IntKind.i64 0) w) w) w) w) w) w) w) w) w) w) w) w) w) w) w) w) w) w) w) w) w) w) w) w) w) w) w) w
theorem S43_vc (x_1 : Value) (k : Value → World → Prop) (w : World) : vc Tryz.prog Tryz.f43.ntmps ann43 none ((Tryz.f43.body).getD Code.skip) 1 (params 0 [x_1]) [] (finQ Tryz.prog Tryz.f43.results.toList k) w = S43 x_1 k w := by kernel_rfl
theorem S43_calls (x_1 : Value) (k : Value → World → Prop) (w : World) (h : S43 x_1 k w) : Calls Tryz.prog 43 #[x_1] w (retP k) :=
  calls_of_vc (fn := Tryz.f43) (c := (Tryz.f43.body).getD Code.skip) ann43 Tryz.func43 (by kernel_rfl) [x_1] w k (by kernel_rfl) ((S43_vc x_1 k w).symm ▸ h)
theorem C43 (x_1 : Value) (k : Value → World → Prop) (w : World) (h : S43 x_1 k w) : callW Tryz.prog (.func (.func 43) #[] #[]) #[x_1] k w :=
  callW_calls ok43 (by simpa using S43_calls x_1 k w h)

/-! newswire/newswireref26.given -/
def ann44 : Ann := [(29, Note.keep []), (58, Note.loop [7] [2]), (466, Note.keep [2, 7])]
def S44 (l_1 r_2 moments_3 : Value) (k : Value → World → Prop) (w : World) : Prop :=
   opW Tryz.prog (Instr.box 30 r_2) (fun r_4 w =>
   callW Tryz.prog (Value.func (Fn.func 20) #[] #[]) #[l_1] (fun t9_6 w =>
   opW Tryz.prog (Op.unary UnOp.not t9_6) (fun t10_7 w =>
   guardW (some t10_7, false) (fun k w => opW Tryz.prog (Instr.fieldAt 30 r_4 0) k w) (fun t12_8 w =>
   guardW (some t10_7, false) (fun k w => opW Tryz.prog (Instr.loadAt 3 t12_8) k w) (fun t13_9 w =>
   guardW (some t10_7, false) (fun k w => opW Tryz.prog (binS BinOp.lss 3 (Operand.tmp 13) (Operand.const (Value.int IntKind.i64 0)) t13_9 (Value.int IntKind.i64 0)) k w) (fun t14_10 w =>
   pickW t10_7 (Value.bool true) t14_10 (fun t15_11 w =>
   guardW (some t15_11, false) (fun k w => opW Tryz.prog (Instr.fieldAt 30 r_4 0) k w) (fun t17_12 w =>
   guardW (some t15_11, false) (fun k w => opW Tryz.prog (Instr.loadAt 3 t17_12) k w) (fun t18_13 w =>
   guardW (some t15_11, false) (fun k w => opW Tryz.prog (binS BinOp.gtr 3 (Operand.tmp 18) (Operand.const (Value.int IntKind.i64 7)) t18_13 (Value.int IntKind.i64 7)) k w) (fun t19_14 w =>
   pickW t15_11 (Value.bool true) t19_14 (fun t20_15 w =>
   guardW (some t20_15, false) (fun k w => opW Tryz.prog (Instr.fieldAt 30 r_4 1) k w) (fun t22_16 w =>
   guardW (some t20_15, false) (fun k w => opW Tryz.prog (Instr.loadAt 3 t22_16) k w) (fun t23_17 w =>
   guardW (some t20_15, false) (fun k w => opW Tryz.prog (binS BinOp.lss 3 (Operand.tmp 23) (Operand.const (Value.int IntKind.i64 0)) t23_17 (Value.int IntKind.i64 0)) k w) (fun t24_18 w =>
   pickW t20_15 (Value.bool true) t24_18 (fun t25_19 w =>
   guardW (some t25_19, false) (fun k w => opW Tryz.prog (Instr.fieldAt 30 r_4 1) k w) (fun t27_20 w =>
   guardW (some t25_19, false) (fun k w => opW Tryz.prog (Instr.loadAt 3 t27_20) k w) (fun t28_21 w =>
   guardW (some t25_19, false) (fun k w => opW Tryz.prog (binS BinOp.gtr 3 (Operand.tmp 28) (Operand.const (Value.int IntKind.i64 7)) t28_21 (Value.int IntKind.i64 7)) k w) (fun t29_22 w =>
   pickW t25_19 (Value.bool true) t29_22 (fun t30_23 w =>
   guardW (some t30_23, false) (fun k w => k moments_3 w) (fun t32_24 w =>
   guardW (some t30_23, false) (fun k w => opW Tryz.prog (Builtin.len_ #[33] 3 #[t32_24]) k w) (fun t33_25 w =>
   guardW (some t30_23, false) (fun k w => opW Tryz.prog (binS BinOp.gtr 3 (Operand.tmp 33) (Operand.const (Value.int IntKind.i64 40)) t33_25 (Value.int IntKind.i64 40)) k w) (fun t34_26 w =>
   pickW t30_23 (Value.bool true) t34_26 (fun t35_27 w =>
   condW t35_27
   (k (Value.bool false) w)
   (Loop1 (fun i_29 w K_30 =>
   opW Tryz.prog (Builtin.len_ #[33] 3 #[moments_3]) (fun t38_32 w =>
   opW Tryz.prog (binS BinOp.lss 3 (Operand.tmp 36) (Operand.tmp 38) i_29 t38_32) (fun t39_33 w =>
   condW t39_33
   (opW Tryz.prog (Instr.indexAt 33 moments_3 i_29) (fun t44_35 w =>
   opW Tryz.prog (Instr.loadAt 28 t44_35) (fun t45_36 w =>
   callW Tryz.prog (Value.func (Fn.func 83) #[] #[]) #[t45_36] (fun t46_37 w =>
   opW Tryz.prog (Op.unary UnOp.not t46_37) (fun t47_38 w =>
   condW t47_38
   (k (Value.bool false) w)
   (opW Tryz.prog (binS BinOp.add 3 (Operand.tmp 40) (Operand.const (Value.int IntKind.i64 1)) i_29 (Value.int IntKind.i64 1)) (fun t41_39 w =>
   loopK [] [] [moments_3] [moments_3] (K_30 t41_39 w)) w)) w) w) w) w)
   (k (Value.bool true) w)) w) w) (Value.int IntKind.i64 0) w)) w) w) w) w) w) w) w) w) w) w) w) w) w) w) w) w) w) w) w) w) w) w) w
theorem S44_vc (l_1 r_2 moments_3 : Value) (k : Value → World → Prop) (w : World) : vc Tryz.prog Tryz.f44.ntmps ann44 none ((Tryz.f44.body).getD Code.skip) 1 (params 0 [l_1, r_2, moments_3]) [] (finQ Tryz.prog Tryz.f44.results.toList k) w = S44 l_1 r_2 moments_3 k w := by kernel_rfl
theorem S44_calls (l_1 r_2 moments_3 : Value) (k : Value → World → Prop) (w : World) (h : S44 l_1 r_2 moments_3 k w) : Calls Tryz.prog 44 #[l_1, r_2, moments_3] w (retP k) :=
  calls_of_vc (fn := Tryz.f44) (c := (Tryz.f44.body).getD Code.skip) ann44 Tryz.func44 (by kernel_rfl) [l_1, r_2, moments_3] w k (by kernel_rfl) ((S44_vc l_1 r_2 moments_3 k w).symm ▸ h)
theorem C44 (l_1 r_2 moments_3 : Value) (k : Value → World → Prop) (w : World) (h : S44 l_1 r_2 moments_3 k w) : callW Tryz.prog (.func (.func 44) #[] #[]) #[l_1, r_2, moments_3] k w :=
  callW_calls ok44 (by simpa using S44_calls l_1 r_2 moments_3 k w h)

/-! newswire/newswireref10.Same -/
def ann45 : Ann := [(29, Note.keep [2, 3]), (58, Note.loop [5] [2, 3]), (61, Note.keep []), (122, Note.loop [6] [2, 3]), (466, Note.keep [2, 3, 5]), (978, Note.keep [2, 3, 6]), (1864, Note.plan (Plan.takeP 0 (Plan.takeX 1 (Plan.takeP 2 (Plan.takeP 3 (Plan.takeX 4 (Plan.takeP 5 (Plan.takeX 6 (Plan.takeP 7 (Plan.takeP 8 (Plan.takeX 9 (Plan.takeP 10 Plan.done)))))))))))), (3912, Note.plan (Plan.takeP 0 (Plan.takeU 1 (Plan.takeP 2 (Plan.takeP 3 (Plan.takeX 4 (Plan.takeP 5 (Plan.takeU 6 (Plan.takeP 7 (Plan.takeP 8 (Plan.takeX 9 (Plan.run 10 (Plan.takeP 11 Plan.done)))))))))))))]
def S45 (a_1 b_2 : Value) (k : Value → World → Prop) (w : World) : Prop :=
   opW Tryz.prog (Instr.box 61 a_1) (fun a_3 w =>
   opW Tryz.prog (Instr.box 61 b_2) (fun b_4 w =>
   opW Tryz.prog (Instr.fieldAt 61 a_3 0) (fun t7_6 w =>
   opW Tryz.prog (Instr.loadAt 3 t7_6) (fun t8_7 w =>
   opW Tryz.prog (Instr.fieldAt 61 b_4 0) (fun t9_8 w =>
   opW Tryz.prog (Instr.loadAt 3 t9_8) (fun t10_9 w =>
   opW Tryz.prog (binS BinOp.neq 3 (Operand.tmp 8) (Operand.tmp 10) t8_7 t10_9) (fun t11_10 w =>
   guardW (some t11_10, false) (fun k w => opW Tryz.prog (Instr.fieldAt 61 a_3 3) k w) (fun t13_11 w =>
   guardW (some t11_10, false) (fun k w => opW Tryz.prog (Instr.loadAt 3 t13_11) k w) (fun t14_12 w =>
   guardW (some t11_10, false) (fun k w => opW Tryz.prog (Instr.fieldAt 61 b_4 3) k w) (fun t15_13 w =>
   guardW (some t11_10, false) (fun k w => opW Tryz.prog (Instr.loadAt 3 t15_13) k w) (fun t16_14 w =>
   guardW (some t11_10, false) (fun k w => opW Tryz.prog (binS BinOp.neq 3 (Operand.tmp 14) (Operand.tmp 16) t14_12 t16_14) k w) (fun t17_15 w =>
   pickW t11_10 (Value.bool true) t17_15 (fun t18_16 w =>
   guardW (some t18_16, false) (fun k w => opW Tryz.prog (Instr.fieldAt 61 a_3 4) k w) (fun t20_17 w =>
   guardW (some t18_16, false) (fun k w => opW Tryz.prog (Instr.loadAt 3 t20_17) k w) (fun t21_18 w =>
   guardW (some t18_16, false) (fun k w => opW Tryz.prog (Instr.fieldAt 61 b_4 4) k w) (fun t22_19 w =>
   guardW (some t18_16, false) (fun k w => opW Tryz.prog (Instr.loadAt 3 t22_19) k w) (fun t23_20 w =>
   guardW (some t18_16, false) (fun k w => opW Tryz.prog (binS BinOp.neq 3 (Operand.tmp 21) (Operand.tmp 23) t21_18 t23_20) k w) (fun t24_21 w =>
   pickW t18_16 (Value.bool true) t24_21 (fun t25_22 w =>
   guardW (some t25_22, false) (fun k w => opW Tryz.prog (Instr.fieldAt 61 a_3 1) k w) (fun t27_23 w =>
   guardW (some t25_22, false) (fun k w => opW Tryz.prog (Instr.loadAt 25 t27_23) k w) (fun t28_24 w =>
   guardW (some t25_22, false) (fun k w => opW Tryz.prog (Instr.fieldAt 61 b_4 1) k w) (fun t29_25 w =>
   guardW (some t25_22, false) (fun k w => opW Tryz.prog (Instr.loadAt 25 t29_25) k w) (fun t30_26 w =>
   guardW (some t25_22, false) (fun k w => callW Tryz.prog (Value.func (Fn.func 84) #[] #[]) #[t28_24, t30_26] k w) (fun t31_27 w =>
   guardW (some t25_22, false) (fun k w => opW Tryz.prog (binS BinOp.neq 3 (Operand.tmp 31) (Operand.const (Value.int IntKind.i64 0)) t31_27 (Value.int IntKind.i64 0)) k w) (fun t32_28 w =>
   pickW t25_22 (Value.bool true) t32_28 (fun t33_29 w =>
   guardW (some t33_29, false) (fun k w => opW Tryz.prog (Instr.fieldAt 61 a_3 2) k w) (fun t35_30 w =>
   guardW (some t33_29, false) (fun k w => opW Tryz.prog (Instr.loadAt 26 t35_30) k w) (fun t36_31 w =>
   guardW (some t33_29, false) (fun k w => opW Tryz.prog (Builtin.len_ #[26] 3 #[t36_31]) k w) (fun t37_32 w =>
   guardW (some t33_29, false) (fun k w => opW Tryz.prog (Instr.fieldAt 61 b_4 2) k w) (fun t38_33 w =>
   guardW (some t33_29, false) (fun k w => opW Tryz.prog (Instr.loadAt 26 t38_33) k w) (fun t39_34 w =>
   guardW (some t33_29, false) (fun k w => opW Tryz.prog (Builtin.len_ #[26] 3 #[t39_34]) k w) (fun t40_35 w =>
   guardW (some t33_29, false) (fun k w => opW Tryz.prog (binS BinOp.neq 3 (Operand.tmp 37) (Operand.tmp 40) t37_32 t40_35) k w) (fun t41_36 w =>
   pickW t33_29 (Value.bool true) t41_36 (fun t42_37 w =>
   guardW (some t42_37, false) (fun k w => opW Tryz.prog (Instr.fieldAt 61 a_3 5) k w) (fun t44_38 w =>
   guardW (some t42_37, false) (fun k w => opW Tryz.prog (Instr.loadAt 59 t44_38) k w) (fun t45_39 w =>
   guardW (some t42_37, false) (fun k w => opW Tryz.prog (Builtin.len_ #[59] 3 #[t45_39]) k w) (fun t46_40 w =>
   guardW (some t42_37, false) (fun k w => opW Tryz.prog (Instr.fieldAt 61 b_4 5) k w) (fun t47_41 w =>
   guardW (some t42_37, false) (fun k w => opW Tryz.prog (Instr.loadAt 59 t47_41) k w) (fun t48_42 w =>
   guardW (some t42_37, false) (fun k w => opW Tryz.prog (Builtin.len_ #[59] 3 #[t48_42]) k w) (fun t49_43 w =>
   guardW (some t42_37, false) (fun k w => opW Tryz.prog (binS BinOp.neq 3 (Operand.tmp 46) (Operand.tmp 49) t46_40 t49_43) k w) (fun t50_44 w =>
   pickW t42_37 (Value.bool true) t50_44 (fun t51_45 w =>
   condW t51_45
   (k (Value.bool false) w)
   (Loop1 (fun i_47 w K_48 =>
   opW Tryz.prog (Instr.fieldAt 61 a_3 2) (fun t53_50 w =>
   opW Tryz.prog (Instr.loadAt 26 t53_50) (fun t54_51 w =>
   opW Tryz.prog (Builtin.len_ #[26] 3 #[t54_51]) (fun t55_52 w =>
   opW Tryz.prog (binS BinOp.lss 3 (Operand.tmp 52) (Operand.tmp 55) i_47 t55_52) (fun t56_53 w =>
   condW t56_53
   (drewW w (fun w =>
   takeW Tryz.prog anyW (Instr.fieldAt 61 a_3 2) (fun t59_56 =>
   takeW Tryz.prog (sameW w) (Instr.loadAt 26 t59_56) (fun t60_57 =>
   takeW Tryz.prog anyW (Instr.indexAt 26 t60_57 i_47) (fun t62_58 =>
   takeW Tryz.prog (sameW w) (Instr.loadAt 121 t62_58) (fun t63_59 =>
   takeW Tryz.prog anyW (Instr.fieldAt 61 b_4 2) (fun t64_60 =>
   takeW Tryz.prog (sameW w) (Instr.loadAt 26 t64_60) (fun t65_61 =>
   takeW Tryz.prog anyW (Instr.indexAt 26 t65_61 i_47) (fun t67_62 =>
   takeW Tryz.prog (sameW w) (Instr.loadAt 121 t67_62) (fun t68_63 =>
   takeW Tryz.prog anyW (binS BinOp.neq 121 (Operand.tmp 63) (Operand.tmp 68) t63_59 t68_63) (fun t69_64 =>
   condW t69_64
   (k (Value.bool false) w)
   (opW Tryz.prog (binS BinOp.add 3 (Operand.tmp 57) (Operand.const (Value.int IntKind.i64 1)) i_47 (Value.int IntKind.i64 1)) (fun t58_65 w =>
   loopK [] [] [a_3, b_4] [a_3, b_4] (K_48 t58_65 w)) w)) w) w) w) w) w) w) w) w) w))
   (Loop1 (fun i_67 w K_68 =>
   opW Tryz.prog (Instr.fieldAt 61 a_3 5) (fun t71_70 w =>
   opW Tryz.prog (Instr.loadAt 59 t71_70) (fun t72_71 w =>
   opW Tryz.prog (Builtin.len_ #[59] 3 #[t72_71]) (fun t73_72 w =>
   opW Tryz.prog (binS BinOp.lss 3 (Operand.tmp 70) (Operand.tmp 73) i_67 t73_72) (fun t74_73 w =>
   condW t74_73
   (drewW w (fun w =>
   ∃ S : World → Prop, S w ∧
   takeW Tryz.prog anyW (Instr.fieldAt 61 a_3 5) (fun t77_76 =>
   takeW Tryz.prog S (Instr.loadAt 59 t77_76) (fun t78_77 =>
   takeW Tryz.prog anyW (Instr.indexAt 59 t78_77 i_67) (fun t80_78 =>
   takeW Tryz.prog (sameW w) (Instr.loadAt 87 t80_78) (fun t81_79 =>
   takeW Tryz.prog anyW (Instr.fieldAt 61 b_4 5) (fun t82_80 =>
   takeW Tryz.prog S (Instr.loadAt 59 t82_80) (fun t83_81 =>
   takeW Tryz.prog anyW (Instr.indexAt 59 t83_81 i_67) (fun t85_82 =>
   takeW Tryz.prog (sameW w) (Instr.loadAt 87 t85_82) (fun t86_83 =>
   callW Tryz.prog (Value.func (Fn.func 85) #[] #[]) #[t81_79, t86_83] (fun t87_84 w => keepS S (fun w =>
   takeW Tryz.prog anyW (Op.unary UnOp.not t87_84) (fun t88_85 =>
   condW t88_85
   (k (Value.bool false) w)
   (opW Tryz.prog (binS BinOp.add 3 (Operand.tmp 75) (Operand.const (Value.int IntKind.i64 1)) i_67 (Value.int IntKind.i64 1)) (fun t76_86 w =>
   loopK [] [] [a_3, b_4] [a_3, b_4] (K_68 t76_86 w)) w)) w) w) w) w) w) w) w) w) w) w) w))
   (k (Value.bool true) w)) w) w) w) w) (Value.int IntKind.i64 0) w)) w) w) w) w) (Value.int IntKind.i64 0) w)) w) w) w) w) w) w) w) w) w) w) w) w) w) w) w) w) w) w) w) w) w) w) w) w) w) w) w) w) w) w) w) w) w) w) w) w) w) w) w) w) w) w
theorem S45_vc (a_1 b_2 : Value) (k : Value → World → Prop) (w : World) : vc Tryz.prog Tryz.f45.ntmps ann45 none ((Tryz.f45.body).getD Code.skip) 1 (params 0 [a_1, b_2]) [] (finQ Tryz.prog Tryz.f45.results.toList k) w = S45 a_1 b_2 k w := by kernel_rfl
theorem S45_calls (a_1 b_2 : Value) (k : Value → World → Prop) (w : World) (h : S45 a_1 b_2 k w) : Calls Tryz.prog 45 #[a_1, b_2] w (retP k) :=
  calls_of_vc (fn := Tryz.f45) (c := (Tryz.f45.body).getD Code.skip) ann45 Tryz.func45 (by kernel_rfl) [a_1, b_2] w k (by kernel_rfl) ((S45_vc a_1 b_2 k w).symm ▸ h)
theorem C45 (a_1 b_2 : Value) (k : Value → World → Prop) (w : World) (h : S45 a_1 b_2 k w) : callW Tryz.prog (.func (.func 45) #[] #[]) #[a_1, b_2] k w :=
  callW_calls ok45 (by simpa using S45_calls a_1 b_2 k w h)

/-! newswire/flow.Valid$1 -/
def ann46 : Ann := []
def S46 (n_1 lo_2 hi_3 : Value) (k : Value → World → Prop) (w : World) : Prop :=
   opW Tryz.prog (binS BinOp.leq 3 (Operand.tmp 7) (Operand.tmp 8) lo_2 n_1) (fun t9_4 w =>
   guardW (some t9_4, true) (fun k w => k n_1 w) (fun t11_5 w =>
   guardW (some t9_4, true) (fun k w => k hi_3 w) (fun t12_6 w =>
   guardW (some t9_4, true) (fun k w => opW Tryz.prog (binS BinOp.leq 3 (Operand.tmp 11) (Operand.tmp 12) t11_5 t12_6) k w) (fun t13_7 w =>
   pickW t9_4 t13_7 (Value.bool false) (fun t14_8 w =>
   k t14_8 w) w) w) w) w) w
theorem S46_vc (n_1 lo_2 hi_3 : Value) (k : Value → World → Prop) (w : World) : vc Tryz.prog Tryz.f46.ntmps ann46 none ((Tryz.f46.body).getD Code.skip) 1 (params 0 [n_1, lo_2, hi_3]) [] (finQ Tryz.prog Tryz.f46.results.toList k) w = S46 n_1 lo_2 hi_3 k w := by kernel_rfl
theorem S46_calls (n_1 lo_2 hi_3 : Value) (k : Value → World → Prop) (w : World) (h : S46 n_1 lo_2 hi_3 k w) : Calls Tryz.prog 46 #[n_1, lo_2, hi_3] w (retP k) :=
  calls_of_vc (fn := Tryz.f46) (c := (Tryz.f46.body).getD Code.skip) ann46 Tryz.func46 (by kernel_rfl) [n_1, lo_2, hi_3] w k (by kernel_rfl) ((S46_vc n_1 lo_2 hi_3 k w).symm ▸ h)
theorem C46 (n_1 lo_2 hi_3 : Value) (k : Value → World → Prop) (w : World) (h : S46 n_1 lo_2 hi_3 k w) : callW Tryz.prog (.func (.func 46) #[] #[]) #[n_1, lo_2, hi_3] k w :=
  callW_calls ok46 (by simpa using S46_calls n_1 lo_2 hi_3 k w h)

/-! newswire/flow.Valid$2 -/
def ann47 : Ann := []
def S47 (i_1 x1_2 : Value) (k : Value → World → Prop) (w : World) : Prop :=
   opW Tryz.prog (Instr.box 63 i_1) (fun i_3 w =>
   opW Tryz.prog (Instr.loadAt 101 x1_2) (fun t4_4 w =>
   opW Tryz.prog (Instr.fieldAt 63 i_3 0) (fun t5_5 w =>
   opW Tryz.prog (Instr.loadAt 3 t5_5) (fun t6_6 w =>
   callW Tryz.prog t4_4 #[t6_6, (Value.int IntKind.i64 0), (Value.int IntKind.i64 50000000)] (fun t7_7 w =>
   opW Tryz.prog (Op.unary UnOp.not t7_7) (fun t8_8 w =>
   guardW (some t8_8, false) (fun k w => opW Tryz.prog (Instr.fieldAt 63 i_3 1) k w) (fun t10_9 w =>
   guardW (some t8_8, false) (fun k w => opW Tryz.prog (Instr.loadAt 61 t10_9) k w) (fun t11_10 w =>
   guardW (some t8_8, false) (fun k w => callW Tryz.prog (Value.func (Fn.func 48) #[] #[]) #[t11_10] k w) (fun t12_11 w =>
   guardW (some t8_8, false) (fun k w => opW Tryz.prog (Op.unary UnOp.not t12_11) k w) (fun t13_12 w =>
   pickW t8_8 (Value.bool true) t13_12 (fun t14_13 w =>
   guardW (some t14_13, false) (fun k w => opW Tryz.prog (Instr.loadAt 101 x1_2) k w) (fun t16_14 w =>
   guardW (some t14_13, false) (fun k w => opW Tryz.prog (Instr.fieldAt 63 i_3 2) k w) (fun t17_15 w =>
   guardW (some t14_13, false) (fun k w => opW Tryz.prog (Instr.loadAt 3 t17_15) k w) (fun t18_16 w =>
   guardW (some t14_13, false) (fun k w => callW Tryz.prog t16_14 #[t18_16, (Value.int IntKind.i64 1), (Value.int IntKind.i64 3)] k w) (fun t19_17 w =>
   guardW (some t14_13, false) (fun k w => opW Tryz.prog (Op.unary UnOp.not t19_17) k w) (fun t20_18 w =>
   pickW t14_13 (Value.bool true) t20_18 (fun t21_19 w =>
   guardW (some t21_19, false) (fun k w => opW Tryz.prog (Instr.loadAt 101 x1_2) k w) (fun t23_20 w =>
   guardW (some t21_19, false) (fun k w => opW Tryz.prog (Instr.fieldAt 63 i_3 3) k w) (fun t24_21 w =>
   guardW (some t21_19, false) (fun k w => opW Tryz.prog (Instr.loadAt 9 t24_21) k w) (fun t25_22 w =>
   guardW (some t21_19, false) (fun k w => opW Tryz.prog (Builtin.len_ #[9] 3 #[t25_22]) k w) (fun t26_23 w =>
   guardW (some t21_19, false) (fun k w => callW Tryz.prog t23_20 #[t26_23, (Value.int IntKind.i64 1), (Value.int IntKind.i64 60)] k w) (fun t27_24 w =>
   guardW (some t21_19, false) (fun k w => opW Tryz.prog (Op.unary UnOp.not t27_24) k w) (fun t28_25 w =>
   pickW t21_19 (Value.bool true) t28_25 (fun t29_26 w =>
   k t29_26 w) w) w) w) w) w) w) w) w) w) w) w) w) w) w) w) w) w) w) w) w) w) w) w) w
theorem S47_vc (i_1 x1_2 : Value) (k : Value → World → Prop) (w : World) : vc Tryz.prog Tryz.f47.ntmps ann47 none ((Tryz.f47.body).getD Code.skip) 1 (params 0 [i_1, x1_2]) [] (finQ Tryz.prog Tryz.f47.results.toList k) w = S47 i_1 x1_2 k w := by kernel_rfl
theorem S47_calls (i_1 x1_2 : Value) (k : Value → World → Prop) (w : World) (h : S47 i_1 x1_2 k w) : Calls Tryz.prog 47 #[i_1, x1_2] w (retP k) :=
  calls_of_vc (fn := Tryz.f47) (c := (Tryz.f47.body).getD Code.skip) ann47 Tryz.func47 (by kernel_rfl) [i_1, x1_2] w k (by kernel_rfl) ((S47_vc i_1 x1_2 k w).symm ▸ h)
theorem C47 (i_1 x1_2 : Value) (k : Value → World → Prop) (w : World) (h : S47 i_1 x1_2 k w) : callW Tryz.prog (.func (.func 47) #[] #[x1_2]) #[i_1] k w :=
  callW_calls ok47 (by simpa using S47_calls i_1 x1_2 k w h)

/-! newswire/label.Valid -/
def ann48 : Ann := [(29, Note.keep [1]), (58, Note.loop [30] [1, 28, 29]), (934, Note.keep [1, 28, 29, 30]), (7474, Note.plan (Plan.takeP 0 (Plan.takeU 1 (Plan.run 2 (Plan.takeP 3 (Plan.takeP 4 (Plan.takeP 5 (Plan.takeU 6 (Plan.takeP 7 (Plan.takeU 8 (Plan.takeP 9 (Plan.run 10 (Plan.takeP 11 (Plan.takeP 12 (Plan.takeP 13 (Plan.takeP 14 (Plan.takeP 15 (Plan.takeP 16 (Plan.takeP 17 (Plan.takeU 18 (Plan.takeP 19 (Plan.takeP 20 (Plan.takeP 21 (Plan.takeX 22 (Plan.takeX 23 (Plan.run 24 (Plan.takeP 25 (Plan.takeP 26 (Plan.takeP 27 Plan.done)))))))))))))))))))))))))))))]
def S48 (l_1 : Value) (k : Value → World → Prop) (w : World) : Prop :=
   opW Tryz.prog (Instr.box 61 l_1) (fun l_2 w =>
   opW Tryz.prog (Instr.fieldAt 61 l_2 0) (fun t5_4 w =>
   opW Tryz.prog (Instr.loadAt 3 t5_4) (fun t6_5 w =>
   callW Tryz.prog (Value.func (Fn.func 86) #[] #[]) #[t6_5, (Value.int IntKind.i64 0), (Value.int IntKind.i64 50000000)] (fun t7_6 w =>
   opW Tryz.prog (Op.unary UnOp.not t7_6) (fun t8_7 w =>
   guardW (some t8_7, false) (fun k w => opW Tryz.prog (Instr.fieldAt 61 l_2 3) k w) (fun t10_8 w =>
   guardW (some t8_7, false) (fun k w => opW Tryz.prog (Instr.loadAt 3 t10_8) k w) (fun t11_9 w =>
   guardW (some t8_7, false) (fun k w => callW Tryz.prog (Value.func (Fn.func 86) #[] #[]) #[t11_9, (Value.int IntKind.i64 0), (Value.int IntKind.i64 255)] k w) (fun t12_10 w =>
   guardW (some t8_7, false) (fun k w => opW Tryz.prog (Op.unary UnOp.not t12_10) k w) (fun t13_11 w =>
   pickW t8_7 (Value.bool true) t13_11 (fun t14_12 w =>
   guardW (some t14_12, false) (fun k w => opW Tryz.prog (Instr.fieldAt 61 l_2 4) k w) (fun t16_13 w =>
   guardW (some t14_12, false) (fun k w => opW Tryz.prog (Instr.loadAt 3 t16_13) k w) (fun t17_14 w =>
   guardW (some t14_12, false) (fun k w => callW Tryz.prog (Value.func (Fn.func 86) #[] #[]) #[t17_14, (Value.int IntKind.i64 0), (Value.int IntKind.i64 255)] k w) (fun t18_15 w =>
   guardW (some t14_12, false) (fun k w => opW Tryz.prog (Op.unary UnOp.not t18_15) k w) (fun t19_16 w =>
   pickW t14_12 (Value.bool true) t19_16 (fun t20_17 w =>
   guardW (some t20_17, false) (fun k w => opW Tryz.prog (Instr.fieldAt 61 l_2 5) k w) (fun t22_18 w =>
   guardW (some t20_17, false) (fun k w => opW Tryz.prog (Instr.loadAt 59 t22_18) k w) (fun t23_19 w =>
   guardW (some t20_17, false) (fun k w => opW Tryz.prog (Builtin.len_ #[59] 3 #[t23_19]) k w) (fun t24_20 w =>
   guardW (some t20_17, false) (fun k w => opW Tryz.prog (binS BinOp.gtr 3 (Operand.tmp 24) (Operand.const (Value.int IntKind.i64 4)) t24_20 (Value.int IntKind.i64 4)) k w) (fun t25_21 w =>
   pickW t20_17 (Value.bool true) t25_21 (fun t26_22 w =>
   condW t26_22
   (k (Value.bool false) w)
   (opW Tryz.prog (Instr.fieldAt 61 l_2 5) (fun t27_23 w =>
   opW Tryz.prog (Instr.loadAt 59 t27_23) (fun t28_24 w =>
   opW Tryz.prog (Builtin.len_ #[59] 3 #[t28_24]) (fun t29_25 w =>
   Loop1 (fun t30_27 w K_28 =>
   opW Tryz.prog (binS BinOp.lss 3 (Operand.tmp 30) (Operand.tmp 29) t30_27 t29_25) (fun t31_29 w =>
   condW t31_29
   (opW Tryz.prog (Instr.indexAt 59 t28_24 t30_27) (fun t33_32 w =>
   opW Tryz.prog (Instr.loadAt 87 t33_32) (fun t34_33 w =>
   opW Tryz.prog (Instr.alloc 87 true (Value.tuple #[])) (fun q_34 w =>
   opU Tryz.prog (Instr.storeAt 87 q_34 t34_33) (fun _ w =>
   drewW w (fun w =>
   ∃ S : World → Prop, S w ∧
   takeW Tryz.prog anyW (Instr.fieldAt 87 q_34 1) (fun t35_36 =>
   takeW Tryz.prog S (Instr.loadAt 25 t35_36) (fun t36_37 =>
   callW Tryz.prog (Value.func (Fn.func 87) #[] #[]) #[t36_37, (Value.int IntKind.i64 19)] (fun t37_38 w => keepS S (fun w =>
   takeW Tryz.prog anyW (Op.unary UnOp.not t37_38) (fun t38_39 =>
   guardT (some t38_39, false) (fun k => takeW Tryz.prog anyW (Instr.fieldAt 87 q_34 0) k w) (fun t40_40 =>
   guardT (some t38_39, false) (fun k => takeW Tryz.prog S (Instr.loadAt 3 t40_40) k w) (fun t41_41 =>
   guardT (some t38_39, false) (fun k => takeW Tryz.prog anyW (Instr.fieldAt 87 q_34 1) k w) (fun t42_42 =>
   guardT (some t38_39, false) (fun k => takeW Tryz.prog S (Instr.loadAt 25 t42_42) k w) (fun t43_43 =>
   guardT (some t38_39, false) (fun k => takeW Tryz.prog anyW (Builtin.len_ #[25] 3 #[t43_43]) k w) (fun t44_44 =>
   guardW (some t38_39, false) (fun k w => callW Tryz.prog (Value.func (Fn.func 86) #[] #[]) #[t41_41, (Value.int IntKind.i64 1), t44_44] k w) (fun t45_45 w => keepS S (fun w =>
   guardT (some t38_39, false) (fun k => takeW Tryz.prog anyW (Op.unary UnOp.not t45_45) k w) (fun t46_46 =>
   pickT t38_39 (Value.bool true) t46_46 (fun t47_47 =>
   guardT (some t47_47, false) (fun k => k t30_27) (fun t49_48 =>
   guardT (some t47_47, false) (fun k => takeW Tryz.prog anyW (binS BinOp.gtr 3 (Operand.tmp 49) (Operand.const (Value.int IntKind.i64 0)) t49_48 (Value.int IntKind.i64 0)) k w) (fun t50_49 =>
   guardT (some t47_47, false) (fun k => k t50_49) (fun t51_50 =>
   guardT (some t51_50, true) (fun k => takeW Tryz.prog anyW (Instr.fieldAt 61 l_2 5) k w) (fun t52_51 =>
   guardT (some t51_50, true) (fun k => takeW Tryz.prog S (Instr.loadAt 59 t52_51) k w) (fun t53_52 =>
   guardT (some t51_50, true) (fun k => k t30_27) (fun t54_53 =>
   guardT (some t51_50, true) (fun k => takeW Tryz.prog anyW (binS BinOp.sub 3 (Operand.tmp 54) (Operand.const (Value.int IntKind.i64 1)) t54_53 (Value.int IntKind.i64 1)) k w) (fun t55_54 =>
   guardT (some t51_50, true) (fun k => takeW Tryz.prog anyW (Instr.indexAt 59 t53_52 t55_54) k w) (fun t56_55 =>
   guardT (some t51_50, true) (fun k => takeW Tryz.prog (sameW w) (Instr.loadAt 87 t56_55) k w) (fun t57_56 =>
   guardT (some t51_50, true) (fun k => takeW Tryz.prog (sameW w) (Instr.loadAt 87 q_34) k w) (fun t58_57 =>
   guardW (some t51_50, true) (fun k w => callW Tryz.prog (Value.func (Fn.func 70) #[] #[]) #[t57_56, t58_57] k w) (fun t59_58 w => keepS S (fun w =>
   guardT (some t51_50, true) (fun k => takeW Tryz.prog anyW (binS BinOp.geq 3 (Operand.tmp 59) (Operand.const (Value.int IntKind.i64 0)) t59_58 (Value.int IntKind.i64 0)) k w) (fun t60_59 =>
   guardT (some t47_47, false) (fun k => pickT t51_50 t60_59 (Value.bool false) k) (fun t61_60 =>
   pickT t47_47 (Value.bool true) t61_60 (fun t62_61 =>
   condW t62_61
   (k (Value.bool false) w)
   (opW Tryz.prog (binS BinOp.add 3 (Operand.tmp 30) (Operand.const (Value.int IntKind.i64 1)) t30_27 (Value.int IntKind.i64 1)) (fun t63_62 w =>
   loopK [] [] [l_2, t28_24, t29_25] [l_2, t28_24, t29_25] (K_28 t63_62 w)) w))))) w) w))))))))))))) w) w)))))) w) w) w) w) w)) w) w) w) w)
   (opW Tryz.prog (Instr.fieldAt 61 l_2 1) (fun t64_63 w =>
   opW Tryz.prog (Instr.loadAt 25 t64_63) (fun t65_64 w =>
   callW Tryz.prog (Value.func (Fn.func 87) #[] #[]) #[t65_64, (Value.int IntKind.i64 19)] (fun t66_65 w =>
   guardW (some t66_65, true) (fun k w => opW Tryz.prog (Instr.fieldAt 61 l_2 2) k w) (fun t68_66 w =>
   guardW (some t66_65, true) (fun k w => opW Tryz.prog (Instr.loadAt 26 t68_66) k w) (fun t69_67 w =>
   guardW (some t66_65, true) (fun k w => callW Tryz.prog (Value.func (Fn.func 88) #[] #[]) #[t69_67, (Value.int IntKind.i64 1)] k w) (fun t70_68 w =>
   pickW t66_65 t70_68 (Value.bool false) (fun t71_69 w =>
   k t71_69 w) w) w) w) w) w) w) w)) w) (Value.int IntKind.i64 0) w) w) w) w)) w) w) w) w) w) w) w) w) w) w) w) w) w) w) w) w) w) w) w) w
theorem S48_vc (l_1 : Value) (k : Value → World → Prop) (w : World) : vc Tryz.prog Tryz.f48.ntmps ann48 none ((Tryz.f48.body).getD Code.skip) 1 (params 0 [l_1]) [] (finQ Tryz.prog Tryz.f48.results.toList k) w = S48 l_1 k w := by kernel_rfl
theorem S48_calls (l_1 : Value) (k : Value → World → Prop) (w : World) (h : S48 l_1 k w) : Calls Tryz.prog 48 #[l_1] w (retP k) :=
  calls_of_vc (fn := Tryz.f48) (c := (Tryz.f48.body).getD Code.skip) ann48 Tryz.func48 (by kernel_rfl) [l_1] w k (by kernel_rfl) ((S48_vc l_1 k w).symm ▸ h)
theorem C48 (l_1 : Value) (k : Value → World → Prop) (w : World) (h : S48 l_1 k w) : callW Tryz.prog (.func (.func 48) #[] #[]) #[l_1] k w :=
  callW_calls ok48 (by simpa using S48_calls l_1 k w h)

/-! slices.ContainsFunc[[]newswire/api.Item,newswire/api.Item] -/
def ann49 : Ann := []
def S49 (s_1 f_2 : Value) (k : Value → World → Prop) (w : World) : Prop :=
   callW Tryz.prog (Value.func (Fn.func 89) #[] #[]) #[s_1, f_2] (fun t7_3 w =>
   opW Tryz.prog (binS BinOp.geq 3 (Operand.tmp 7) (Operand.const (Value.int IntKind.i64 0)) t7_3 (Value.int IntKind.i64 0)) (fun t8_4 w =>
   k t8_4 w) w) w
theorem S49_vc (s_1 f_2 : Value) (k : Value → World → Prop) (w : World) : vc Tryz.prog Tryz.f49.ntmps ann49 none ((Tryz.f49.body).getD Code.skip) 1 (params 0 [s_1, f_2]) [] (finQ Tryz.prog Tryz.f49.results.toList k) w = S49 s_1 f_2 k w := by kernel_rfl
theorem S49_calls (s_1 f_2 : Value) (k : Value → World → Prop) (w : World) (h : S49 s_1 f_2 k w) : Calls Tryz.prog 49 #[s_1, f_2] w (retP k) :=
  calls_of_vc (fn := Tryz.f49) (c := (Tryz.f49.body).getD Code.skip) ann49 Tryz.func49 (by kernel_rfl) [s_1, f_2] w k (by kernel_rfl) ((S49_vc s_1 f_2 k w).symm ▸ h)
theorem C49 (s_1 f_2 : Value) (k : Value → World → Prop) (w : World) (h : S49 s_1 f_2 k w) : callW Tryz.prog (.func (.func 49) #[] #[]) #[s_1, f_2] k w :=
  callW_calls ok49 (by simpa using S49_calls s_1 f_2 k w h)

/-! newswire/newswireref10.Valid -/
def ann50 : Ann := [(29, Note.keep []), (58, Note.loop [3] [1]), (466, Note.keep [1, 3]), (3730, Note.plan (Plan.takeP 0 (Plan.takeU 1 (Plan.run 2 (Plan.takeP 3 (Plan.takeP 4 (Plan.takeP 5 (Plan.takeU 6 (Plan.takeP 7 (Plan.takeU 8 (Plan.takeP 9 (Plan.run 10 (Plan.takeP 11 (Plan.takeP 12 (Plan.takeP 13 (Plan.takeP 14 (Plan.takeP 15 (Plan.takeP 16 (Plan.takeP 17 (Plan.takeU 18 (Plan.takeP 19 (Plan.takeP 20 (Plan.takeP 21 (Plan.takeX 22 (Plan.takeX 23 (Plan.run 24 (Plan.takeP 25 (Plan.takeP 26 (Plan.takeP 27 Plan.done)))))))))))))))))))))))))))))]
def S50 (l_1 : Value) (k : Value → World → Prop) (w : World) : Prop :=
   opW Tryz.prog (Instr.box 61 l_1) (fun l_2 w =>
   opW Tryz.prog (Instr.fieldAt 61 l_2 0) (fun t5_4 w =>
   opW Tryz.prog (Instr.loadAt 3 t5_4) (fun t6_5 w =>
   callW Tryz.prog (Value.func (Fn.func 90) #[] #[]) #[t6_5, (Value.int IntKind.i64 0), (Value.int IntKind.i64 50000000)] (fun t7_6 w =>
   opW Tryz.prog (Op.unary UnOp.not t7_6) (fun t8_7 w =>
   guardW (some t8_7, false) (fun k w => opW Tryz.prog (Instr.fieldAt 61 l_2 1) k w) (fun t10_8 w =>
   guardW (some t8_7, false) (fun k w => opW Tryz.prog (Instr.loadAt 25 t10_8) k w) (fun t11_9 w =>
   guardW (some t8_7, false) (fun k w => callW Tryz.prog (Value.func (Fn.func 91) #[] #[]) #[t11_9, (Value.int IntKind.i64 19)] k w) (fun t12_10 w =>
   guardW (some t8_7, false) (fun k w => opW Tryz.prog (Op.unary UnOp.not t12_10) k w) (fun t13_11 w =>
   pickW t8_7 (Value.bool true) t13_11 (fun t14_12 w =>
   guardW (some t14_12, false) (fun k w => opW Tryz.prog (Instr.fieldAt 61 l_2 2) k w) (fun t16_13 w =>
   guardW (some t14_12, false) (fun k w => opW Tryz.prog (Instr.loadAt 26 t16_13) k w) (fun t17_14 w =>
   guardW (some t14_12, false) (fun k w => callW Tryz.prog (Value.func (Fn.func 92) #[] #[]) #[t17_14, (Value.int IntKind.i64 1)] k w) (fun t18_15 w =>
   guardW (some t14_12, false) (fun k w => opW Tryz.prog (Op.unary UnOp.not t18_15) k w) (fun t19_16 w =>
   pickW t14_12 (Value.bool true) t19_16 (fun t20_17 w =>
   guardW (some t20_17, false) (fun k w => opW Tryz.prog (Instr.fieldAt 61 l_2 3) k w) (fun t22_18 w =>
   guardW (some t20_17, false) (fun k w => opW Tryz.prog (Instr.loadAt 3 t22_18) k w) (fun t23_19 w =>
   guardW (some t20_17, false) (fun k w => callW Tryz.prog (Value.func (Fn.func 90) #[] #[]) #[t23_19, (Value.int IntKind.i64 0), (Value.int IntKind.i64 255)] k w) (fun t24_20 w =>
   guardW (some t20_17, false) (fun k w => opW Tryz.prog (Op.unary UnOp.not t24_20) k w) (fun t25_21 w =>
   pickW t20_17 (Value.bool true) t25_21 (fun t26_22 w =>
   guardW (some t26_22, false) (fun k w => opW Tryz.prog (Instr.fieldAt 61 l_2 4) k w) (fun t28_23 w =>
   guardW (some t26_22, false) (fun k w => opW Tryz.prog (Instr.loadAt 3 t28_23) k w) (fun t29_24 w =>
   guardW (some t26_22, false) (fun k w => callW Tryz.prog (Value.func (Fn.func 90) #[] #[]) #[t29_24, (Value.int IntKind.i64 0), (Value.int IntKind.i64 255)] k w) (fun t30_25 w =>
   guardW (some t26_22, false) (fun k w => opW Tryz.prog (Op.unary UnOp.not t30_25) k w) (fun t31_26 w =>
   pickW t26_22 (Value.bool true) t31_26 (fun t32_27 w =>
   guardW (some t32_27, false) (fun k w => opW Tryz.prog (Instr.fieldAt 61 l_2 5) k w) (fun t34_28 w =>
   guardW (some t32_27, false) (fun k w => opW Tryz.prog (Instr.loadAt 59 t34_28) k w) (fun t35_29 w =>
   guardW (some t32_27, false) (fun k w => opW Tryz.prog (Builtin.len_ #[59] 3 #[t35_29]) k w) (fun t36_30 w =>
   guardW (some t32_27, false) (fun k w => opW Tryz.prog (binS BinOp.gtr 3 (Operand.tmp 36) (Operand.const (Value.int IntKind.i64 4)) t36_30 (Value.int IntKind.i64 4)) k w) (fun t37_31 w =>
   pickW t32_27 (Value.bool true) t37_31 (fun t38_32 w =>
   condW t38_32
   (k (Value.bool false) w)
   (Loop1 (fun i_34 w K_35 =>
   opW Tryz.prog (Instr.fieldAt 61 l_2 5) (fun t40_37 w =>
   opW Tryz.prog (Instr.loadAt 59 t40_37) (fun t41_38 w =>
   opW Tryz.prog (Builtin.len_ #[59] 3 #[t41_38]) (fun t42_39 w =>
   opW Tryz.prog (binS BinOp.lss 3 (Operand.tmp 39) (Operand.tmp 42) i_34 t42_39) (fun t43_40 w =>
   condW t43_40
   (opW Tryz.prog (Instr.fieldAt 61 l_2 5) (fun t46_42 w =>
   opW Tryz.prog (Instr.loadAt 59 t46_42) (fun t47_43 w =>
   opW Tryz.prog (Instr.indexAt 59 t47_43 i_34) (fun t49_44 w =>
   opW Tryz.prog (Instr.loadAt 87 t49_44) (fun t50_45 w =>
   opW Tryz.prog (Instr.alloc 87 true (Value.tuple #[])) (fun q_46 w =>
   opU Tryz.prog (Instr.storeAt 87 q_46 t50_45) (fun _ w =>
   drewW w (fun w =>
   ∃ S : World → Prop, S w ∧
   takeW Tryz.prog anyW (Instr.fieldAt 87 q_46 1) (fun t51_48 =>
   takeW Tryz.prog S (Instr.loadAt 25 t51_48) (fun t52_49 =>
   callW Tryz.prog (Value.func (Fn.func 91) #[] #[]) #[t52_49, (Value.int IntKind.i64 19)] (fun t53_50 w => keepS S (fun w =>
   takeW Tryz.prog anyW (Op.unary UnOp.not t53_50) (fun t54_51 =>
   guardT (some t54_51, false) (fun k => takeW Tryz.prog anyW (Instr.fieldAt 87 q_46 0) k w) (fun t56_52 =>
   guardT (some t54_51, false) (fun k => takeW Tryz.prog S (Instr.loadAt 3 t56_52) k w) (fun t57_53 =>
   guardT (some t54_51, false) (fun k => takeW Tryz.prog anyW (Instr.fieldAt 87 q_46 1) k w) (fun t58_54 =>
   guardT (some t54_51, false) (fun k => takeW Tryz.prog S (Instr.loadAt 25 t58_54) k w) (fun t59_55 =>
   guardT (some t54_51, false) (fun k => takeW Tryz.prog anyW (Builtin.len_ #[25] 3 #[t59_55]) k w) (fun t60_56 =>
   guardW (some t54_51, false) (fun k w => callW Tryz.prog (Value.func (Fn.func 90) #[] #[]) #[t57_53, (Value.int IntKind.i64 1), t60_56] k w) (fun t61_57 w => keepS S (fun w =>
   guardT (some t54_51, false) (fun k => takeW Tryz.prog anyW (Op.unary UnOp.not t61_57) k w) (fun t62_58 =>
   pickT t54_51 (Value.bool true) t62_58 (fun t63_59 =>
   guardT (some t63_59, false) (fun k => k i_34) (fun t65_60 =>
   guardT (some t63_59, false) (fun k => takeW Tryz.prog anyW (binS BinOp.gtr 3 (Operand.tmp 65) (Operand.const (Value.int IntKind.i64 0)) t65_60 (Value.int IntKind.i64 0)) k w) (fun t66_61 =>
   guardT (some t63_59, false) (fun k => k t66_61) (fun t67_62 =>
   guardT (some t67_62, true) (fun k => takeW Tryz.prog anyW (Instr.fieldAt 61 l_2 5) k w) (fun t68_63 =>
   guardT (some t67_62, true) (fun k => takeW Tryz.prog S (Instr.loadAt 59 t68_63) k w) (fun t69_64 =>
   guardT (some t67_62, true) (fun k => k i_34) (fun t70_65 =>
   guardT (some t67_62, true) (fun k => takeW Tryz.prog anyW (binS BinOp.sub 3 (Operand.tmp 70) (Operand.const (Value.int IntKind.i64 1)) t70_65 (Value.int IntKind.i64 1)) k w) (fun t71_66 =>
   guardT (some t67_62, true) (fun k => takeW Tryz.prog anyW (Instr.indexAt 59 t69_64 t71_66) k w) (fun t72_67 =>
   guardT (some t67_62, true) (fun k => takeW Tryz.prog (sameW w) (Instr.loadAt 87 t72_67) k w) (fun t73_68 =>
   guardT (some t67_62, true) (fun k => takeW Tryz.prog (sameW w) (Instr.loadAt 87 q_46) k w) (fun t74_69 =>
   guardW (some t67_62, true) (fun k w => callW Tryz.prog (Value.func (Fn.func 62) #[] #[]) #[t73_68, t74_69] k w) (fun t75_70 w => keepS S (fun w =>
   guardT (some t67_62, true) (fun k => takeW Tryz.prog anyW (Op.unary UnOp.not t75_70) k w) (fun t76_71 =>
   guardT (some t63_59, false) (fun k => pickT t67_62 t76_71 (Value.bool false) k) (fun t77_72 =>
   pickT t63_59 (Value.bool true) t77_72 (fun t78_73 =>
   condW t78_73
   (k (Value.bool false) w)
   (opW Tryz.prog (binS BinOp.add 3 (Operand.tmp 44) (Operand.const (Value.int IntKind.i64 1)) i_34 (Value.int IntKind.i64 1)) (fun t45_74 w =>
   loopK [] [] [l_2] [l_2] (K_35 t45_74 w)) w))))) w) w))))))))))))) w) w)))))) w) w) w) w) w)) w) w) w) w) w) w)
   (k (Value.bool true) w)) w) w) w) w) (Value.int IntKind.i64 0) w)) w) w) w) w) w) w) w) w) w) w) w) w) w) w) w) w) w) w) w) w) w) w) w) w) w) w) w) w) w) w
theorem S50_vc (l_1 : Value) (k : Value → World → Prop) (w : World) : vc Tryz.prog Tryz.f50.ntmps ann50 none ((Tryz.f50.body).getD Code.skip) 1 (params 0 [l_1]) [] (finQ Tryz.prog Tryz.f50.results.toList k) w = S50 l_1 k w := by kernel_rfl
theorem S50_calls (l_1 : Value) (k : Value → World → Prop) (w : World) (h : S50 l_1 k w) : Calls Tryz.prog 50 #[l_1] w (retP k) :=
  calls_of_vc (fn := Tryz.f50) (c := (Tryz.f50.body).getD Code.skip) ann50 Tryz.func50 (by kernel_rfl) [l_1] w k (by kernel_rfl) ((S50_vc l_1 k w).symm ▸ h)
theorem C50 (l_1 : Value) (k : Value → World → Prop) (w : World) (h : S50 l_1 k w) : callW Tryz.prog (.func (.func 50) #[] #[]) #[l_1] k w :=
  callW_calls ok50 (by simpa using S50_calls l_1 k w h)

/-! slices.EqualFunc[[]newswire/api.Item,[]newswire/api.Item,newswire/api.Item,newswire/api.Item] -/
def ann51 : Ann := [(29, Note.keep []), (58, Note.loop [17] [1, 2, 15, 16]), (934, Note.keep [1, 2, 15, 16, 17])]
def S51 (s1_1 s2_2 eq_3 : Value) (k : Value → World → Prop) (w : World) : Prop :=
   opW Tryz.prog (Builtin.len_ #[24] 3 #[s1_1]) (fun t11_5 w =>
   opW Tryz.prog (Builtin.len_ #[24] 3 #[s2_2]) (fun t13_6 w =>
   opW Tryz.prog (binS BinOp.neq 3 (Operand.tmp 11) (Operand.tmp 13) t11_5 t13_6) (fun t14_7 w =>
   condW t14_7
   (k (Value.bool false) w)
   (opW Tryz.prog (Builtin.len_ #[24] 3 #[s1_1]) (fun t16_8 w =>
   Loop1 (fun t17_10 w K_11 =>
   opW Tryz.prog (binS BinOp.lss 3 (Operand.tmp 17) (Operand.tmp 16) t17_10 t16_8) (fun t18_12 w =>
   condW t18_12
   (opW Tryz.prog (Instr.indexAt 24 s1_1 t17_10) (fun t20_15 w =>
   opW Tryz.prog (Instr.loadAt 63 t20_15) (fun t21_16 w =>
   opW Tryz.prog (Instr.alloc 63 true (Value.tuple #[])) (fun v1_17 w =>
   opU Tryz.prog (Instr.storeAt 63 v1_17 t21_16) (fun _ w =>
   opW Tryz.prog (Instr.indexAt 24 s2_2 t17_10) (fun t24_18 w =>
   opW Tryz.prog (Instr.loadAt 63 t24_18) (fun t25_19 w =>
   opW Tryz.prog (Instr.alloc 63 true (Value.tuple #[])) (fun v2_20 w =>
   opU Tryz.prog (Instr.storeAt 63 v2_20 t25_19) (fun _ w =>
   opW Tryz.prog (Instr.loadAt 63 v1_17) (fun t27_21 w =>
   opW Tryz.prog (Instr.loadAt 63 v2_20) (fun t28_22 w =>
   callW Tryz.prog eq_3 #[t27_21, t28_22] (fun t29_23 w =>
   opW Tryz.prog (Op.unary UnOp.not t29_23) (fun t30_24 w =>
   condW t30_24
   (k (Value.bool false) w)
   (opW Tryz.prog (binS BinOp.add 3 (Operand.tmp 17) (Operand.const (Value.int IntKind.i64 1)) t17_10 (Value.int IntKind.i64 1)) (fun t31_25 w =>
   loopK [] [] [s2_2, eq_3, s1_1, t16_8] [s2_2, eq_3, s1_1, t16_8] (K_11 t31_25 w)) w)) w) w) w) w) w) w) w) w) w) w) w) w)
   (k (Value.bool true) w)) w) (Value.int IntKind.i64 0) w) w)) w) w) w
theorem S51_vc (s1_1 s2_2 eq_3 : Value) (k : Value → World → Prop) (w : World) : vc Tryz.prog Tryz.f51.ntmps ann51 none ((Tryz.f51.body).getD Code.skip) 1 (params 0 [s1_1, s2_2, eq_3]) [] (finQ Tryz.prog Tryz.f51.results.toList k) w = S51 s1_1 s2_2 eq_3 k w := by kernel_rfl
theorem S51_calls (s1_1 s2_2 eq_3 : Value) (k : Value → World → Prop) (w : World) (h : S51 s1_1 s2_2 eq_3 k w) : Calls Tryz.prog 51 #[s1_1, s2_2, eq_3] w (retP k) :=
  calls_of_vc (fn := Tryz.f51) (c := (Tryz.f51.body).getD Code.skip) ann51 Tryz.func51 (by kernel_rfl) [s1_1, s2_2, eq_3] w k (by kernel_rfl) ((S51_vc s1_1 s2_2 eq_3 k w).symm ▸ h)
theorem C51 (s1_1 s2_2 eq_3 : Value) (k : Value → World → Prop) (w : World) (h : S51 s1_1 s2_2 eq_3 k w) : callW Tryz.prog (.func (.func 51) #[] #[]) #[s1_1, s2_2, eq_3] k w :=
  callW_calls ok51 (by simpa using S51_calls s1_1 s2_2 eq_3 k w h)

/-! newswire/flow.same -/
def ann52 : Ann := []
def S52 (a_1 b_2 : Value) (k : Value → World → Prop) (w : World) : Prop :=
   opW Tryz.prog (Instr.box 63 a_1) (fun a_3 w =>
   opW Tryz.prog (Instr.box 63 b_2) (fun b_4 w =>
   opW Tryz.prog (Instr.fieldAt 63 a_3 0) (fun t5_5 w =>
   opW Tryz.prog (Instr.loadAt 3 t5_5) (fun t6_6 w =>
   opW Tryz.prog (Instr.fieldAt 63 b_4 0) (fun t7_7 w =>
   opW Tryz.prog (Instr.loadAt 3 t7_7) (fun t8_8 w =>
   opW Tryz.prog (binS BinOp.eql 3 (Operand.tmp 6) (Operand.tmp 8) t6_6 t8_8) (fun t9_9 w =>
   guardW (some t9_9, true) (fun k w => opW Tryz.prog (Instr.fieldAt 63 a_3 2) k w) (fun t11_10 w =>
   guardW (some t9_9, true) (fun k w => opW Tryz.prog (Instr.loadAt 3 t11_10) k w) (fun t12_11 w =>
   guardW (some t9_9, true) (fun k w => opW Tryz.prog (Instr.fieldAt 63 b_4 2) k w) (fun t13_12 w =>
   guardW (some t9_9, true) (fun k w => opW Tryz.prog (Instr.loadAt 3 t13_12) k w) (fun t14_13 w =>
   guardW (some t9_9, true) (fun k w => opW Tryz.prog (binS BinOp.eql 3 (Operand.tmp 12) (Operand.tmp 14) t12_11 t14_13) k w) (fun t15_14 w =>
   pickW t9_9 t15_14 (Value.bool false) (fun t16_15 w =>
   guardW (some t16_15, true) (fun k w => opW Tryz.prog (Instr.fieldAt 63 a_3 3) k w) (fun t18_16 w =>
   guardW (some t16_15, true) (fun k w => opW Tryz.prog (Instr.loadAt 9 t18_16) k w) (fun t19_17 w =>
   guardW (some t16_15, true) (fun k w => opW Tryz.prog (Instr.fieldAt 63 b_4 3) k w) (fun t20_18 w =>
   guardW (some t16_15, true) (fun k w => opW Tryz.prog (Instr.loadAt 9 t20_18) k w) (fun t21_19 w =>
   guardW (some t16_15, true) (fun k w => opW Tryz.prog (binS BinOp.eql 9 (Operand.tmp 19) (Operand.tmp 21) t19_17 t21_19) k w) (fun t22_20 w =>
   pickW t16_15 t22_20 (Value.bool false) (fun t23_21 w =>
   guardW (some t23_21, true) (fun k w => opW Tryz.prog (Instr.fieldAt 63 a_3 1) k w) (fun t25_22 w =>
   guardW (some t23_21, true) (fun k w => opW Tryz.prog (Instr.loadAt 61 t25_22) k w) (fun t26_23 w =>
   guardW (some t23_21, true) (fun k w => opW Tryz.prog (Instr.fieldAt 63 b_4 1) k w) (fun t27_24 w =>
   guardW (some t23_21, true) (fun k w => opW Tryz.prog (Instr.loadAt 61 t27_24) k w) (fun t28_25 w =>
   guardW (some t23_21, true) (fun k w => callW Tryz.prog (Value.func (Fn.func 93) #[] #[]) #[t26_23, t28_25] k w) (fun t29_26 w =>
   pickW t23_21 t29_26 (Value.bool false) (fun t30_27 w =>
   k t30_27 w) w) w) w) w) w) w) w) w) w) w) w) w) w) w) w) w) w) w) w) w) w) w) w) w) w
theorem S52_vc (a_1 b_2 : Value) (k : Value → World → Prop) (w : World) : vc Tryz.prog Tryz.f52.ntmps ann52 none ((Tryz.f52.body).getD Code.skip) 1 (params 0 [a_1, b_2]) [] (finQ Tryz.prog Tryz.f52.results.toList k) w = S52 a_1 b_2 k w := by kernel_rfl
theorem S52_calls (a_1 b_2 : Value) (k : Value → World → Prop) (w : World) (h : S52 a_1 b_2 k w) : Calls Tryz.prog 52 #[a_1, b_2] w (retP k) :=
  calls_of_vc (fn := Tryz.f52) (c := (Tryz.f52.body).getD Code.skip) ann52 Tryz.func52 (by kernel_rfl) [a_1, b_2] w k (by kernel_rfl) ((S52_vc a_1 b_2 k w).symm ▸ h)
theorem C52 (a_1 b_2 : Value) (k : Value → World → Prop) (w : World) (h : S52 a_1 b_2 k w) : callW Tryz.prog (.func (.func 52) #[] #[]) #[a_1, b_2] k w :=
  callW_calls ok52 (by simpa using S52_calls a_1 b_2 k w h)

/-! slices.DeleteFunc[[]*newswire/flow.pending,*newswire/flow.pending] -/
def ann53 : Ann := [(61, Note.keep [0, 5]), (122, Note.loop [5, 6] [0, 1]), (978, Note.keep [0, 1, 5, 6])]
def S53 (s_1 del_2 : Value) (k : Value → World → Prop) (w : World) : Prop :=
   callW Tryz.prog (Value.func (Fn.func 94) #[] #[]) #[s_1, del_2] (fun t10_3 w =>
   opW Tryz.prog (binS BinOp.eql 3 (Operand.tmp 11) (Operand.const (Value.int IntKind.i64 (-1))) t10_3 (Value.int IntKind.i64 (-1))) (fun t12_5 w =>
   condW t12_5
   (k s_1 w)
   (opW Tryz.prog (binS BinOp.add 3 (Operand.tmp 14) (Operand.const (Value.int IntKind.i64 1)) t10_3 (Value.int IntKind.i64 1)) (fun t15_6 w =>
   Loop2 (fun i_8 j_9 w K_10 =>
   opW Tryz.prog (Builtin.len_ #[95] 3 #[s_1]) (fun t18_12 w =>
   opW Tryz.prog (binS BinOp.lss 3 (Operand.tmp 16) (Operand.tmp 18) j_9 t18_12) (fun t19_13 w =>
   condW t19_13
   (joinW (fun i_21 w =>
   opW Tryz.prog (binS BinOp.add 3 (Operand.tmp 20) (Operand.const (Value.int IntKind.i64 1)) j_9 (Value.int IntKind.i64 1)) (fun t21_22 w =>
   loopK [] [] [s_1, del_2] [s_1, del_2] (K_10 i_21 t21_22 w)) w) (fun J_14 =>
   opW Tryz.prog (Instr.indexAt 95 s_1 j_9) (fun t24_15 w =>
   opW Tryz.prog (Instr.loadAt 96 t24_15) (fun t25_16 w =>
   callW Tryz.prog del_2 #[t25_16] (fun t28_17 w =>
   opW Tryz.prog (Op.unary UnOp.not t28_17) (fun t29_18 w =>
   condW t29_18
   (opW Tryz.prog (Instr.indexAt 95 s_1 i_8) (fun t33_19 w =>
   opU Tryz.prog (Instr.storeAt 96 t33_19 t25_16) (fun _ w =>
   opW Tryz.prog (binS BinOp.add 3 (Operand.tmp 34) (Operand.const (Value.int IntKind.i64 1)) i_8 (Value.int IntKind.i64 1)) (fun t35_20 w =>
   J_14 t35_20 w) w) w) w)
   (J_14 i_8 w)) w) w) w) w))
   (opW Tryz.prog (Instr.sliceAt 95 s_1 (some i_8) none none) (fun t38_23 w =>
   opW Tryz.prog (Builtin.clear_ #[95] 0 #[t38_23]) (fun _ w =>
   opW Tryz.prog (Instr.sliceAt 95 s_1 none (some i_8) none) (fun t41_24 w =>
   k t41_24 w) w) w) w)) w) w) t10_3 t15_6 w) w)) w) w
theorem S53_vc (s_1 del_2 : Value) (k : Value → World → Prop) (w : World) : vc Tryz.prog Tryz.f53.ntmps ann53 none ((Tryz.f53.body).getD Code.skip) 1 (params 0 [s_1, del_2]) [] (finQ Tryz.prog Tryz.f53.results.toList k) w = S53 s_1 del_2 k w := by kernel_rfl
theorem S53_calls (s_1 del_2 : Value) (k : Value → World → Prop) (w : World) (h : S53 s_1 del_2 k w) : Calls Tryz.prog 53 #[s_1, del_2] w (retP k) :=
  calls_of_vc (fn := Tryz.f53) (c := (Tryz.f53.body).getD Code.skip) ann53 Tryz.func53 (by kernel_rfl) [s_1, del_2] w k (by kernel_rfl) ((S53_vc s_1 del_2 k w).symm ▸ h)
theorem C53 (s_1 del_2 : Value) (k : Value → World → Prop) (w : World) (h : S53 s_1 del_2 k w) : callW Tryz.prog (.func (.func 53) #[] #[]) #[s_1, del_2] k w :=
  callW_calls ok53 (by simpa using S53_calls s_1 del_2 k w h)

/-! newswire/flow.Feed$1 -/
def ann54 : Ann := []
def S54 (p_1 x1_2 x2_3 : Value) (k : Value → World → Prop) (w : World) : Prop :=
   nilW p_1 (fun t6_4 w =>
   opW Tryz.prog (Instr.fieldAt 98 t6_4 3) (fun t7_5 w =>
   opW Tryz.prog (Instr.loadAt 4 t7_5) (fun t8_6 w =>
   guardW (some t8_6, false) (fun k w => opW Tryz.prog (Instr.fieldAt 111 x1_2 0) k w) (fun t10_7 w =>
   guardW (some t8_6, false) (fun k w => opW Tryz.prog (Instr.loadAt 107 t10_7) k w) (fun t11_8 w =>
   guardW (some t8_6, false) (fun k w => opW Tryz.prog (Instr.loadAt 94 x2_3) k w) (fun t12_9 w =>
   guardW (some t8_6, false) (fun k w => k p_1 w) (fun t13_10 w =>
   guardW (some t8_6, false) (fun k w => callW Tryz.prog t11_8 #[t12_9, t13_10] k w) (fun t14_11 w =>
   guardW (some t8_6, false) (fun k w => opW Tryz.prog (Op.unary UnOp.not t14_11) k w) (fun t15_12 w =>
   pickW t8_6 (Value.bool true) t15_12 (fun t16_13 w =>
   k t16_13 w) w) w) w) w) w) w) w) w) w) w
theorem S54_vc (p_1 x1_2 x2_3 : Value) (k : Value → World → Prop) (w : World) : vc Tryz.prog Tryz.f54.ntmps ann54 none ((Tryz.f54.body).getD Code.skip) 1 (params 0 [p_1, x1_2, x2_3]) [] (finQ Tryz.prog Tryz.f54.results.toList k) w = S54 p_1 x1_2 x2_3 k w := by kernel_rfl
theorem S54_calls (p_1 x1_2 x2_3 : Value) (k : Value → World → Prop) (w : World) (h : S54 p_1 x1_2 x2_3 k w) : Calls Tryz.prog 54 #[p_1, x1_2, x2_3] w (retP k) :=
  calls_of_vc (fn := Tryz.f54) (c := (Tryz.f54.body).getD Code.skip) ann54 Tryz.func54 (by kernel_rfl) [p_1, x1_2, x2_3] w k (by kernel_rfl) ((S54_vc p_1 x1_2 x2_3 k w).symm ▸ h)
theorem C54 (p_1 x1_2 x2_3 : Value) (k : Value → World → Prop) (w : World) (h : S54 p_1 x1_2 x2_3 k w) : callW Tryz.prog (.func (.func 54) #[] #[x1_2, x2_3]) #[p_1] k w :=
  callW_calls ok54 (by simpa using S54_calls p_1 x1_2 x2_3 k w h)

/-! slices.SortFunc[[]*newswire/flow.pending,*newswire/flow.pending] -/
def ann55 : Ann := []
def S55 (x_1 cmp_2 : Value) (k : Value → World → Prop) (w : World) : Prop :=
   opW Tryz.prog (Builtin.len_ #[95] 3 #[x_1]) (fun t6_3 w =>
   opW Tryz.prog (convert 3 146 t6_3) (fun t10_4 w =>
   callW Tryz.prog (Value.func (Fn.func 96) #[] #[]) #[t10_4] (fun t11_5 w =>
   callW Tryz.prog (Value.func (Fn.func 95) #[] #[]) #[x_1, (Value.int IntKind.i64 0), t6_3, t11_5, cmp_2] (fun t13_6 w =>
   k (Value.tuple #[]) w) w) w) w) w
theorem S55_vc (x_1 cmp_2 : Value) (k : Value → World → Prop) (w : World) : vc Tryz.prog Tryz.f55.ntmps ann55 none ((Tryz.f55.body).getD Code.skip) 1 (params 0 [x_1, cmp_2]) [] (finQ Tryz.prog Tryz.f55.results.toList k) w = S55 x_1 cmp_2 k w := by kernel_rfl
theorem S55_calls (x_1 cmp_2 : Value) (k : Value → World → Prop) (w : World) (h : S55 x_1 cmp_2 k w) : Calls Tryz.prog 55 #[x_1, cmp_2] w (retP k) :=
  calls_of_vc (fn := Tryz.f55) (c := (Tryz.f55.body).getD Code.skip) ann55 Tryz.func55 (by kernel_rfl) [x_1, cmp_2] w k (by kernel_rfl) ((S55_vc x_1 cmp_2 k w).symm ▸ h)
theorem C55 (x_1 cmp_2 : Value) (k : Value → World → Prop) (w : World) (h : S55 x_1 cmp_2 k w) : callW Tryz.prog (.func (.func 55) #[] #[]) #[x_1, cmp_2] k w :=
  callW_calls ok55 (by simpa using S55_calls x_1 cmp_2 k w h)

/-! newswire/newswireref26.Open -/
def ann56 : Ann := []
def S56 (x_1 r_2 m_3 : Value) (k : Value → World → Prop) (w : World) : Prop :=
   opW Tryz.prog (Instr.box 63 x_1) (fun x_4 w =>
   opW Tryz.prog (Instr.box 30 r_2) (fun r_5 w =>
   opW Tryz.prog (Instr.box 28 m_3) (fun m_6 w =>
   opW Tryz.prog (Instr.fieldAt 63 x_4 0) (fun t7_7 w =>
   opW Tryz.prog (Instr.loadAt 3 t7_7) (fun t8_8 w =>
   opW Tryz.prog (Instr.fieldAt 28 m_6 0) (fun t9_9 w =>
   opW Tryz.prog (Instr.loadAt 3 t9_9) (fun t10_10 w =>
   opW Tryz.prog (binS BinOp.leq 3 (Operand.tmp 8) (Operand.tmp 10) t8_8 t10_10) (fun t11_11 w =>
   guardW (some t11_11, true) (fun k w => opW Tryz.prog (Instr.fieldAt 63 x_4 1) k w) (fun t13_12 w =>
   guardW (some t11_11, true) (fun k w => opW Tryz.prog (Instr.loadAt 61 t13_12) k w) (fun t14_13 w =>
   guardW (some t11_11, true) (fun k w => opW Tryz.prog (Instr.loadAt 30 r_5) k w) (fun t15_14 w =>
   guardW (some t11_11, true) (fun k w => opW Tryz.prog (Instr.loadAt 28 m_6) k w) (fun t16_15 w =>
   guardW (some t11_11, true) (fun k w => callW Tryz.prog (Value.func (Fn.func 97) #[] #[]) #[t14_13, t15_14, t16_15] k w) (fun t17_16 w =>
   pickW t11_11 t17_16 (Value.bool false) (fun t18_17 w =>
   k t18_17 w) w) w) w) w) w) w) w) w) w) w) w) w) w) w
theorem S56_vc (x_1 r_2 m_3 : Value) (k : Value → World → Prop) (w : World) : vc Tryz.prog Tryz.f56.ntmps ann56 none ((Tryz.f56.body).getD Code.skip) 1 (params 0 [x_1, r_2, m_3]) [] (finQ Tryz.prog Tryz.f56.results.toList k) w = S56 x_1 r_2 m_3 k w := by kernel_rfl
theorem S56_calls (x_1 r_2 m_3 : Value) (k : Value → World → Prop) (w : World) (h : S56 x_1 r_2 m_3 k w) : Calls Tryz.prog 56 #[x_1, r_2, m_3] w (retP k) :=
  calls_of_vc (fn := Tryz.f56) (c := (Tryz.f56.body).getD Code.skip) ann56 Tryz.func56 (by kernel_rfl) [x_1, r_2, m_3] w k (by kernel_rfl) ((S56_vc x_1 r_2 m_3 k w).symm ▸ h)
theorem C56 (x_1 r_2 m_3 : Value) (k : Value → World → Prop) (w : World) (h : S56 x_1 r_2 m_3 k w) : callW Tryz.prog (.func (.func 56) #[] #[]) #[x_1, r_2, m_3] k w :=
  callW_calls ok56 (by simpa using S56_calls x_1 r_2 m_3 k w h)

/-! newswire/newswireref26.coded -/
def ann57 : Ann := []
def S57 (s_1 : Value) (k : Value → World → Prop) (w : World) : Prop :=
   opW Tryz.prog (Builtin.len_ #[9] 3 #[s_1]) (fun t4_2 w =>
   opW Tryz.prog (convert 3 5 t4_2) (fun t5_3 w =>
   opW Tryz.prog (Instr.buildSlice 85 1 #[(0, t5_3)]) (fun t6_4 w =>
   opW Tryz.prog (convert 85 9 t6_4) (fun t7_5 w =>
   opW Tryz.prog (binS BinOp.add 9 (Operand.tmp 7) (Operand.tmp 8) t7_5 s_1) (fun t9_6 w =>
   k t9_6 w) w) w) w) w) w
theorem S57_vc (s_1 : Value) (k : Value → World → Prop) (w : World) : vc Tryz.prog Tryz.f57.ntmps ann57 none ((Tryz.f57.body).getD Code.skip) 1 (params 0 [s_1]) [] (finQ Tryz.prog Tryz.f57.results.toList k) w = S57 s_1 k w := by kernel_rfl
theorem S57_calls (s_1 : Value) (k : Value → World → Prop) (w : World) (h : S57 s_1 k w) : Calls Tryz.prog 57 #[s_1] w (retP k) :=
  calls_of_vc (fn := Tryz.f57) (c := (Tryz.f57.body).getD Code.skip) ann57 Tryz.func57 (by kernel_rfl) [s_1] w k (by kernel_rfl) ((S57_vc s_1 k w).symm ▸ h)
theorem C57 (s_1 : Value) (k : Value → World → Prop) (w : World) (h : S57 s_1 k w) : callW Tryz.prog (.func (.func 57) #[] #[]) #[s_1] k w :=
  callW_calls ok57 (by simpa using S57_calls s_1 k w h)

/-! newswire/newswireref26.zeros -/
def ann58 : Ann := []
def S58 (n_1 : Value) (k : Value → World → Prop) (w : World) : Prop :=
   opW Tryz.prog (Instr.makeSlice 85 n_1 n_1) (fun t4_2 w =>
   opW Tryz.prog (convert 85 9 t4_2) (fun t5_3 w =>
   k t5_3 w) w) w
theorem S58_vc (n_1 : Value) (k : Value → World → Prop) (w : World) : vc Tryz.prog Tryz.f58.ntmps ann58 none ((Tryz.f58.body).getD Code.skip) 1 (params 0 [n_1]) [] (finQ Tryz.prog Tryz.f58.results.toList k) w = S58 n_1 k w := by kernel_rfl
theorem S58_calls (n_1 : Value) (k : Value → World → Prop) (w : World) (h : S58 n_1 k w) : Calls Tryz.prog 58 #[n_1] w (retP k) :=
  calls_of_vc (fn := Tryz.f58) (c := (Tryz.f58.body).getD Code.skip) ann58 Tryz.func58 (by kernel_rfl) [n_1] w k (by kernel_rfl) ((S58_vc n_1 k w).symm ▸ h)
theorem C58 (n_1 : Value) (k : Value → World → Prop) (w : World) (h : S58 n_1 k w) : callW Tryz.prog (.func (.func 58) #[] #[]) #[n_1] k w :=
  callW_calls ok58 (by simpa using S58_calls n_1 k w h)

/-! newswire/newswireref10.pick -/
def ann60 : Ann := []
def S60 (c_1 n_2 : Value) (k : Value → World → Prop) (w : World) : Prop :=
   joinW (fun c_7 w =>
   opW Tryz.prog (binS BinOp.rem 3 (Operand.tmp 10) (Operand.tmp 11) c_7 n_2) (fun t12_8 w =>
   k t12_8 w) w) (fun J_3 =>
   opW Tryz.prog (binS BinOp.lss 3 (Operand.tmp 5) (Operand.const (Value.int IntKind.i64 0)) c_1 (Value.int IntKind.i64 0)) (fun t6_4 w =>
   condW t6_4
   (opW Tryz.prog (binS BinOp.add 3 (Operand.tmp 7) (Operand.const (Value.int IntKind.i64 1)) c_1 (Value.int IntKind.i64 1)) (fun t8_5 w =>
   opW Tryz.prog (Op.unary UnOp.neg t8_5) (fun t9_6 w =>
   J_3 t9_6 w) w) w)
   (J_3 c_1 w)) w)
theorem S60_vc (c_1 n_2 : Value) (k : Value → World → Prop) (w : World) : vc Tryz.prog Tryz.f60.ntmps ann60 none ((Tryz.f60.body).getD Code.skip) 1 (params 0 [c_1, n_2]) [] (finQ Tryz.prog Tryz.f60.results.toList k) w = S60 c_1 n_2 k w := by kernel_rfl
theorem S60_calls (c_1 n_2 : Value) (k : Value → World → Prop) (w : World) (h : S60 c_1 n_2 k w) : Calls Tryz.prog 60 #[c_1, n_2] w (retP k) :=
  calls_of_vc (fn := Tryz.f60) (c := (Tryz.f60.body).getD Code.skip) ann60 Tryz.func60 (by kernel_rfl) [c_1, n_2] w k (by kernel_rfl) ((S60_vc c_1 n_2 k w).symm ▸ h)
theorem C60 (c_1 n_2 : Value) (k : Value → World → Prop) (w : World) (h : S60 c_1 n_2 k w) : callW Tryz.prog (.func (.func 60) #[] #[]) #[c_1, n_2] k w :=
  callW_calls ok60 (by simpa using S60_calls c_1 n_2 k w h)

/-! newswire/newswireref10.chosen -/
def ann61 : Ann := [(29, Note.keep [5]), (58, Note.loop [5, 6] [0, 1]), (466, Note.keep [0, 1, 5, 6])]
def S61 (set_1 n_2 : Value) (k : Value → World → Prop) (w : World) : Prop :=
   Loop2 (fun out_4 i_5 w K_6 =>
   opW Tryz.prog (binS BinOp.lss 3 (Operand.tmp 7) (Operand.tmp 8) i_5 n_2) (fun t9_8 w =>
   condW t9_8
   (joinW (fun out_16 w =>
   opW Tryz.prog (binS BinOp.add 3 (Operand.tmp 10) (Operand.const (Value.int IntKind.i64 1)) i_5 (Value.int IntKind.i64 1)) (fun t11_17 w =>
   loopK [] [] [set_1, n_2] [set_1, n_2] (K_6 out_16 t11_17 w)) w) (fun J_9 =>
   callW Tryz.prog (Value.func (Fn.func 60) #[] #[]) #[set_1, (Value.int IntKind.i64 1073741824)] (fun t13_10 w =>
   opW Tryz.prog (binS BinOp.shr 3 (Operand.tmp 13) (Operand.tmp 14) t13_10 i_5) (fun t15_11 w =>
   opW Tryz.prog (binS BinOp.rem 3 (Operand.tmp 15) (Operand.const (Value.int IntKind.i64 2)) t15_11 (Value.int IntKind.i64 2)) (fun t16_12 w =>
   opW Tryz.prog (binS BinOp.eql 3 (Operand.tmp 16) (Operand.const (Value.int IntKind.i64 1)) t16_12 (Value.int IntKind.i64 1)) (fun t17_13 w =>
   condW t17_13
   (opW Tryz.prog (Instr.buildSlice 25 1 #[(0, i_5)]) (fun t20_14 w =>
   opW Tryz.prog (Builtin.append_ #[25, 25] 25 #[out_4, t20_14]) (fun t21_15 w =>
   J_9 t21_15 w) w) w)
   (J_9 out_4 w)) w) w) w) w))
   (k out_4 w)) w) (Value.slice none 0 0) (Value.int IntKind.i64 0) w
theorem S61_vc (set_1 n_2 : Value) (k : Value → World → Prop) (w : World) : vc Tryz.prog Tryz.f61.ntmps ann61 none ((Tryz.f61.body).getD Code.skip) 1 (params 0 [set_1, n_2]) [] (finQ Tryz.prog Tryz.f61.results.toList k) w = S61 set_1 n_2 k w := by kernel_rfl
theorem S61_calls (set_1 n_2 : Value) (k : Value → World → Prop) (w : World) (h : S61 set_1 n_2 k w) : Calls Tryz.prog 61 #[set_1, n_2] w (retP k) :=
  calls_of_vc (fn := Tryz.f61) (c := (Tryz.f61.body).getD Code.skip) ann61 Tryz.func61 (by kernel_rfl) [set_1, n_2] w k (by kernel_rfl) ((S61_vc set_1 n_2 k w).symm ▸ h)
theorem C61 (set_1 n_2 : Value) (k : Value → World → Prop) (w : World) (h : S61 set_1 n_2 k w) : callW Tryz.prog (.func (.func 61) #[] #[]) #[set_1, n_2] k w :=
  callW_calls ok61 (by simpa using S61_calls set_1 n_2 k w h)

/-! newswire/newswireref10.before -/
def ann62 : Ann := []
def S62 (a_1 b_2 : Value) (k : Value → World → Prop) (w : World) : Prop :=
   opW Tryz.prog (Instr.box 87 a_1) (fun a_3 w =>
   opW Tryz.prog (Instr.box 87 b_2) (fun b_4 w =>
   opW Tryz.prog (Instr.fieldAt 87 a_3 0) (fun t5_5 w =>
   opW Tryz.prog (Instr.loadAt 3 t5_5) (fun t6_6 w =>
   opW Tryz.prog (Instr.fieldAt 87 b_4 0) (fun t7_7 w =>
   opW Tryz.prog (Instr.loadAt 3 t7_7) (fun t8_8 w =>
   opW Tryz.prog (binS BinOp.lss 3 (Operand.tmp 6) (Operand.tmp 8) t6_6 t8_8) (fun t9_9 w =>
   guardW (some t9_9, false) (fun k w => opW Tryz.prog (Instr.fieldAt 87 a_3 0) k w) (fun t11_10 w =>
   guardW (some t9_9, false) (fun k w => opW Tryz.prog (Instr.loadAt 3 t11_10) k w) (fun t12_11 w =>
   guardW (some t9_9, false) (fun k w => opW Tryz.prog (Instr.fieldAt 87 b_4 0) k w) (fun t13_12 w =>
   guardW (some t9_9, false) (fun k w => opW Tryz.prog (Instr.loadAt 3 t13_12) k w) (fun t14_13 w =>
   guardW (some t9_9, false) (fun k w => opW Tryz.prog (binS BinOp.eql 3 (Operand.tmp 12) (Operand.tmp 14) t12_11 t14_13) k w) (fun t15_14 w =>
   guardW (some t9_9, false) (fun k w => k t15_14 w) (fun t16_15 w =>
   guardW (some t16_15, true) (fun k w => opW Tryz.prog (Instr.fieldAt 87 a_3 1) k w) (fun t17_16 w =>
   guardW (some t16_15, true) (fun k w => opW Tryz.prog (Instr.loadAt 25 t17_16) k w) (fun t18_17 w =>
   guardW (some t16_15, true) (fun k w => opW Tryz.prog (Instr.fieldAt 87 b_4 1) k w) (fun t19_18 w =>
   guardW (some t16_15, true) (fun k w => opW Tryz.prog (Instr.loadAt 25 t19_18) k w) (fun t20_19 w =>
   guardW (some t16_15, true) (fun k w => callW Tryz.prog (Value.func (Fn.func 84) #[] #[]) #[t18_17, t20_19] k w) (fun t21_20 w =>
   guardW (some t16_15, true) (fun k w => opW Tryz.prog (binS BinOp.lss 3 (Operand.tmp 21) (Operand.const (Value.int IntKind.i64 0)) t21_20 (Value.int IntKind.i64 0)) k w) (fun t22_21 w =>
   guardW (some t9_9, false) (fun k w => pickW t16_15 t22_21 (Value.bool false) k w) (fun t23_22 w =>
   pickW t9_9 (Value.bool true) t23_22 (fun t24_23 w =>
   k t24_23 w) w) w) w) w) w) w) w) w) w) w) w) w) w) w) w) w) w) w) w) w) w
theorem S62_vc (a_1 b_2 : Value) (k : Value → World → Prop) (w : World) : vc Tryz.prog Tryz.f62.ntmps ann62 none ((Tryz.f62.body).getD Code.skip) 1 (params 0 [a_1, b_2]) [] (finQ Tryz.prog Tryz.f62.results.toList k) w = S62 a_1 b_2 k w := by kernel_rfl
theorem S62_calls (a_1 b_2 : Value) (k : Value → World → Prop) (w : World) (h : S62 a_1 b_2 k w) : Calls Tryz.prog 62 #[a_1, b_2] w (retP k) :=
  calls_of_vc (fn := Tryz.f62) (c := (Tryz.f62.body).getD Code.skip) ann62 Tryz.func62 (by kernel_rfl) [a_1, b_2] w k (by kernel_rfl) ((S62_vc a_1 b_2 k w).symm ▸ h)
theorem C62 (a_1 b_2 : Value) (k : Value → World → Prop) (w : World) (h : S62 a_1 b_2 k w) : callW Tryz.prog (.func (.func 62) #[] #[]) #[a_1, b_2] k w :=
  callW_calls ok62 (by simpa using S62_calls a_1 b_2 k w h)

/-! cmp.Compare[int] -/
def ann64 : Ann := []
def S64 (x_1 y_2 : Value) (k : Value → World → Prop) (w : World) : Prop :=
   callW Tryz.prog (Value.func (Fn.func 105) #[] #[]) #[x_1] (fun t8_3 w =>
   callW Tryz.prog (Value.func (Fn.func 105) #[] #[]) #[y_2] (fun t10_4 w =>
   condW t8_3
   (condW t10_4
   (k (Value.int IntKind.i64 0) w)
   (k (Value.int IntKind.i64 (-1)) w))
   (condW t10_4
   (k (Value.int IntKind.i64 1) w)
   (opW Tryz.prog (binS BinOp.lss 3 (Operand.tmp 14) (Operand.tmp 15) x_1 y_2) (fun t16_9 w =>
   condW t16_9
   (k (Value.int IntKind.i64 (-1)) w)
   (opW Tryz.prog (binS BinOp.gtr 3 (Operand.tmp 17) (Operand.tmp 18) x_1 y_2) (fun t19_11 w =>
   condW t19_11
   (k (Value.int IntKind.i64 1) w)
   (k (Value.int IntKind.i64 0) w)) w)) w))) w) w
theorem S64_vc (x_1 y_2 : Value) (k : Value → World → Prop) (w : World) : vc Tryz.prog Tryz.f64.ntmps ann64 none ((Tryz.f64.body).getD Code.skip) 1 (params 0 [x_1, y_2]) [] (finQ Tryz.prog Tryz.f64.results.toList k) w = S64 x_1 y_2 k w := by kernel_rfl
theorem S64_calls (x_1 y_2 : Value) (k : Value → World → Prop) (w : World) (h : S64 x_1 y_2 k w) : Calls Tryz.prog 64 #[x_1, y_2] w (retP k) :=
  calls_of_vc (fn := Tryz.f64) (c := (Tryz.f64.body).getD Code.skip) ann64 Tryz.func64 (by kernel_rfl) [x_1, y_2] w k (by kernel_rfl) ((S64_vc x_1 y_2 k w).symm ▸ h)
theorem C64 (x_1 y_2 : Value) (k : Value → World → Prop) (w : World) (h : S64 x_1 y_2 k w) : callW Tryz.prog (.func (.func 64) #[] #[]) #[x_1, y_2] k w :=
  callW_calls ok64 (by simpa using S64_calls x_1 y_2 k w h)

/-! newswire/label.compareLocks -/
def ann70 : Ann := [(6, Note.plan (Plan.takeP 0 (Plan.takeU 1 (Plan.takeP 2 (Plan.takeU 3 (Plan.takeP 5 (Plan.takeU 6 (Plan.takeP 7 (Plan.takeU 8 (Plan.run 4 (Plan.run 9 (Plan.run 10 (Plan.run 11 (Plan.takeP 12 Plan.done))))))))))))))]
def S70 (a_1 b_2 : Value) (k : Value → World → Prop) (w : World) : Prop :=
   opW Tryz.prog (Instr.box 87 a_1) (fun a_3 w =>
   opW Tryz.prog (Instr.box 87 b_2) (fun b_4 w =>
   drewW w (fun w =>
   ∃ S : World → Prop, S w ∧
   takeW Tryz.prog anyW (Instr.fieldAt 87 a_3 0) (fun t5_6 =>
   takeW Tryz.prog S (Instr.loadAt 3 t5_6) (fun t6_7 =>
   takeW Tryz.prog anyW (Instr.fieldAt 87 b_4 0) (fun t7_8 =>
   takeW Tryz.prog S (Instr.loadAt 3 t7_8) (fun t8_9 =>
   takeW Tryz.prog anyW (Instr.fieldAt 87 a_3 1) (fun t10_10 =>
   takeW Tryz.prog S (Instr.loadAt 25 t10_10) (fun t11_11 =>
   takeW Tryz.prog anyW (Instr.fieldAt 87 b_4 1) (fun t12_12 =>
   takeW Tryz.prog S (Instr.loadAt 25 t12_12) (fun t13_13 =>
   callW Tryz.prog (Value.func (Fn.func 64) #[] #[]) #[t6_7, t8_9] (fun t9_14 w => keepS S (fun w =>
   callW Tryz.prog (Value.func (Fn.func 107) #[] #[]) #[t11_11, t13_13] (fun t14_15 w => keepS S (fun w =>
   opW Tryz.prog (Instr.buildSlice 25 2 #[(0, t9_14), (1, t14_15)]) (fun t15_16 w => keepS S (fun w =>
   callW Tryz.prog (Value.func (Fn.func 106) #[] #[]) #[t15_16] (fun t16_17 w => keepS S (fun w =>
   k t16_17 w) w) w) w) w) w) w) w) w) w) w) w) w) w) w) w) w)) w) w
theorem S70_vc (a_1 b_2 : Value) (k : Value → World → Prop) (w : World) : vc Tryz.prog Tryz.f70.ntmps ann70 none ((Tryz.f70.body).getD Code.skip) 1 (params 0 [a_1, b_2]) [] (finQ Tryz.prog Tryz.f70.results.toList k) w = S70 a_1 b_2 k w := by kernel_rfl
theorem S70_calls (a_1 b_2 : Value) (k : Value → World → Prop) (w : World) (h : S70 a_1 b_2 k w) : Calls Tryz.prog 70 #[a_1, b_2] w (retP k) :=
  calls_of_vc (fn := Tryz.f70) (c := (Tryz.f70.body).getD Code.skip) ann70 Tryz.func70 (by kernel_rfl) [a_1, b_2] w k (by kernel_rfl) ((S70_vc a_1 b_2 k w).symm ▸ h)
theorem C70 (a_1 b_2 : Value) (k : Value → World → Prop) (w : World) (h : S70 a_1 b_2 k w) : callW Tryz.prog (.func (.func 70) #[] #[]) #[a_1, b_2] k w :=
  callW_calls ok70 (by simpa using S70_calls a_1 b_2 k w h)

/-! slices.Clone[[]int,int] -/
def ann72 : Ann := []
def S72 (s_1 : Value) (k : Value → World → Prop) (w : World) : Prop :=
   opW Tryz.prog (binS BinOp.eql 25 (Operand.tmp 3) (Operand.const (Value.slice none 0 0)) s_1 (Value.slice none 0 0)) (fun t4_3 w =>
   condW t4_3
   (k (Value.slice none 0 0) w)
   (opW Tryz.prog (Instr.buildSlice 25 0 #[]) (fun t5_4 w =>
   opW Tryz.prog (Builtin.append_ #[25, 25] 25 #[t5_4, s_1]) (fun t7_5 w =>
   k t7_5 w) w) w)) w
theorem S72_vc (s_1 : Value) (k : Value → World → Prop) (w : World) : vc Tryz.prog Tryz.f72.ntmps ann72 none ((Tryz.f72.body).getD Code.skip) 1 (params 0 [s_1]) [] (finQ Tryz.prog Tryz.f72.results.toList k) w = S72 s_1 k w := by kernel_rfl
theorem S72_calls (s_1 : Value) (k : Value → World → Prop) (w : World) (h : S72 s_1 k w) : Calls Tryz.prog 72 #[s_1] w (retP k) :=
  calls_of_vc (fn := Tryz.f72) (c := (Tryz.f72.body).getD Code.skip) ann72 Tryz.func72 (by kernel_rfl) [s_1] w k (by kernel_rfl) ((S72_vc s_1 k w).symm ▸ h)
theorem C72 (s_1 : Value) (k : Value → World → Prop) (w : World) (h : S72 s_1 k w) : callW Tryz.prog (.func (.func 72) #[] #[]) #[s_1] k w :=
  callW_calls ok72 (by simpa using S72_calls s_1 k w h)

/-! newswire/label.Reason -/
def ann73 : Ann := [(61, Note.keep []), (122, Note.loop [37] [7, 35, 36]), (1958, Note.keep [7, 35, 36, 37])]
def S73 (l_1 r_2 m_3 : Value) (k : Value → World → Prop) (w : World) : Prop :=
   opW Tryz.prog (Instr.box 61 l_1) (fun l_4 w =>
   opW Tryz.prog (Instr.box 30 r_2) (fun r_5 w =>
   opW Tryz.prog (Instr.box 28 m_3) (fun m_6 w =>
   opW Tryz.prog (Instr.loadAt 61 l_4) (fun t10_8 w =>
   callW Tryz.prog (Value.func (Fn.func 48) #[] #[]) #[t10_8] (fun t11_9 w =>
   opW Tryz.prog (Op.unary UnOp.not t11_9) (fun t12_10 w =>
   guardW (some t12_10, false) (fun k w => opW Tryz.prog (Instr.loadAt 28 m_6) k w) (fun t14_11 w =>
   guardW (some t12_10, false) (fun k w => callW Tryz.prog (Value.func (Fn.func 77) #[] #[]) #[t14_11] k w) (fun t15_12 w =>
   guardW (some t12_10, false) (fun k w => opW Tryz.prog (Op.unary UnOp.not t15_12) k w) (fun t16_13 w =>
   pickW t12_10 (Value.bool true) t16_13 (fun t17_14 w =>
   guardW (some t17_14, false) (fun k w => opW Tryz.prog (Instr.fieldAt 30 r_5 0) k w) (fun t19_15 w =>
   guardW (some t17_14, false) (fun k w => opW Tryz.prog (Instr.loadAt 3 t19_15) k w) (fun t20_16 w =>
   guardW (some t17_14, false) (fun k w => callW Tryz.prog (Value.func (Fn.func 86) #[] #[]) #[t20_16, (Value.int IntKind.i64 0), (Value.int IntKind.i64 7)] k w) (fun t21_17 w =>
   guardW (some t17_14, false) (fun k w => opW Tryz.prog (Op.unary UnOp.not t21_17) k w) (fun t22_18 w =>
   pickW t17_14 (Value.bool true) t22_18 (fun t23_19 w =>
   guardW (some t23_19, false) (fun k w => opW Tryz.prog (Instr.fieldAt 30 r_5 1) k w) (fun t25_20 w =>
   guardW (some t23_19, false) (fun k w => opW Tryz.prog (Instr.loadAt 3 t25_20) k w) (fun t26_21 w =>
   guardW (some t23_19, false) (fun k w => callW Tryz.prog (Value.func (Fn.func 86) #[] #[]) #[t26_21, (Value.int IntKind.i64 0), (Value.int IntKind.i64 7)] k w) (fun t27_22 w =>
   guardW (some t23_19, false) (fun k w => opW Tryz.prog (Op.unary UnOp.not t27_22) k w) (fun t28_23 w =>
   pickW t23_19 (Value.bool true) t28_23 (fun t29_24 w =>
   condW t29_24
   (k (Value.int IntKind.i64 1) w)
   (opW Tryz.prog (Instr.loadAt 61 l_4) (fun t30_25 w =>
   opW Tryz.prog (Instr.loadAt 30 r_5) (fun t31_26 w =>
   opW Tryz.prog (Instr.loadAt 28 m_6) (fun t32_27 w =>
   opW Tryz.prog (Instr.build 157 #[(0, t30_25), (1, t31_26), (2, t32_27)]) (fun t33_28 w =>
   opW Tryz.prog (Instr.box 157 t33_28) (fun t34_29 w =>
   opW Tryz.prog (Instr.loadAt 158 (Value.pointer (some ⟨1, 0, none⟩))) (fun t35_30 w =>
   opW Tryz.prog (Builtin.len_ #[158] 3 #[t35_30]) (fun t36_31 w =>
   Loop1 (fun t37_33 w K_34 =>
   opW Tryz.prog (binS BinOp.lss 3 (Operand.tmp 37) (Operand.tmp 36) t37_33 t36_31) (fun t38_35 w =>
   condW t38_35
   (opW Tryz.prog (Instr.indexAt 158 t35_30 t37_33) (fun t39_38 w =>
   opW Tryz.prog (Instr.loadAt 161 t39_38) (fun t40_39 w =>
   opW Tryz.prog (Instr.alloc 161 true (Value.tuple #[])) (fun x_40 w =>
   opU Tryz.prog (Instr.storeAt 161 x_40 t40_39) (fun _ w =>
   opW Tryz.prog (Instr.fieldAt 161 x_40 1) (fun t41_41 w =>
   opW Tryz.prog (Instr.loadAt 159 t41_41) (fun t42_42 w =>
   callW Tryz.prog t42_42 #[t34_29] (fun t44_43 w =>
   condW t44_43
   (opW Tryz.prog (Instr.fieldAt 161 x_40 0) (fun t45_44 w =>
   opW Tryz.prog (Instr.loadAt 3 t45_44) (fun t46_45 w =>
   k t46_45 w) w) w)
   (opW Tryz.prog (binS BinOp.add 3 (Operand.tmp 37) (Operand.const (Value.int IntKind.i64 1)) t37_33 (Value.int IntKind.i64 1)) (fun t47_46 w =>
   loopK [] [] [t34_29, t35_30, t36_31] [t34_29, t35_30, t36_31] (K_34 t47_46 w)) w)) w) w) w) w) w) w) w)
   (k (Value.int IntKind.i64 0) w)) w) (Value.int IntKind.i64 0) w) w) w) w) w) w) w) w)) w) w) w) w) w) w) w) w) w) w) w) w) w) w) w) w) w) w) w) w
theorem S73_vc (l_1 r_2 m_3 : Value) (k : Value → World → Prop) (w : World) : vc Tryz.prog Tryz.f73.ntmps ann73 none ((Tryz.f73.body).getD Code.skip) 1 (params 0 [l_1, r_2, m_3]) [] (finQ Tryz.prog Tryz.f73.results.toList k) w = S73 l_1 r_2 m_3 k w := by kernel_rfl
theorem S73_calls (l_1 r_2 m_3 : Value) (k : Value → World → Prop) (w : World) (h : S73 l_1 r_2 m_3 k w) : Calls Tryz.prog 73 #[l_1, r_2, m_3] w (retP k) :=
  calls_of_vc (fn := Tryz.f73) (c := (Tryz.f73.body).getD Code.skip) ann73 Tryz.func73 (by kernel_rfl) [l_1, r_2, m_3] w k (by kernel_rfl) ((S73_vc l_1 r_2 m_3 k w).symm ▸ h)
theorem C73 (l_1 r_2 m_3 : Value) (k : Value → World → Prop) (w : World) (h : S73 l_1 r_2 m_3 k w) : callW Tryz.prog (.func (.func 73) #[] #[]) #[l_1, r_2, m_3] k w :=
  callW_calls ok73 (by simpa using S73_calls l_1 r_2 m_3 k w h)

/-! newswire/flow.given$1 -/
def ann74 : Ann := []
def S74 (n_1 : Value) (k : Value → World → Prop) (w : World) : Prop :=
   opW Tryz.prog (binS BinOp.geq 3 (Operand.tmp 3) (Operand.const (Value.int IntKind.i64 0)) n_1 (Value.int IntKind.i64 0)) (fun t4_2 w =>
   guardW (some t4_2, true) (fun k w => k n_1 w) (fun t6_3 w =>
   guardW (some t4_2, true) (fun k w => opW Tryz.prog (binS BinOp.lss 3 (Operand.tmp 6) (Operand.const (Value.int IntKind.i64 8)) t6_3 (Value.int IntKind.i64 8)) k w) (fun t7_4 w =>
   pickW t4_2 t7_4 (Value.bool false) (fun t8_5 w =>
   k t8_5 w) w) w) w) w
theorem S74_vc (n_1 : Value) (k : Value → World → Prop) (w : World) : vc Tryz.prog Tryz.f74.ntmps ann74 none ((Tryz.f74.body).getD Code.skip) 1 (params 0 [n_1]) [] (finQ Tryz.prog Tryz.f74.results.toList k) w = S74 n_1 k w := by kernel_rfl
theorem S74_calls (n_1 : Value) (k : Value → World → Prop) (w : World) (h : S74 n_1 k w) : Calls Tryz.prog 74 #[n_1] w (retP k) :=
  calls_of_vc (fn := Tryz.f74) (c := (Tryz.f74.body).getD Code.skip) ann74 Tryz.func74 (by kernel_rfl) [n_1] w k (by kernel_rfl) ((S74_vc n_1 k w).symm ▸ h)
theorem C74 (n_1 : Value) (k : Value → World → Prop) (w : World) (h : S74 n_1 k w) : callW Tryz.prog (.func (.func 74) #[] #[]) #[n_1] k w :=
  callW_calls ok74 (by simpa using S74_calls n_1 k w h)

/-! slices.ContainsFunc[[]newswire/api.Moment,newswire/api.Moment] -/
def ann75 : Ann := []
def S75 (s_1 f_2 : Value) (k : Value → World → Prop) (w : World) : Prop :=
   callW Tryz.prog (Value.func (Fn.func 108) #[] #[]) #[s_1, f_2] (fun t7_3 w =>
   opW Tryz.prog (binS BinOp.geq 3 (Operand.tmp 7) (Operand.const (Value.int IntKind.i64 0)) t7_3 (Value.int IntKind.i64 0)) (fun t8_4 w =>
   k t8_4 w) w) w
theorem S75_vc (s_1 f_2 : Value) (k : Value → World → Prop) (w : World) : vc Tryz.prog Tryz.f75.ntmps ann75 none ((Tryz.f75.body).getD Code.skip) 1 (params 0 [s_1, f_2]) [] (finQ Tryz.prog Tryz.f75.results.toList k) w = S75 s_1 f_2 k w := by kernel_rfl
theorem S75_calls (s_1 f_2 : Value) (k : Value → World → Prop) (w : World) (h : S75 s_1 f_2 k w) : Calls Tryz.prog 75 #[s_1, f_2] w (retP k) :=
  calls_of_vc (fn := Tryz.f75) (c := (Tryz.f75.body).getD Code.skip) ann75 Tryz.func75 (by kernel_rfl) [s_1, f_2] w k (by kernel_rfl) ((S75_vc s_1 f_2 k w).symm ▸ h)
theorem C75 (s_1 f_2 : Value) (k : Value → World → Prop) (w : World) (h : S75 s_1 f_2 k w) : callW Tryz.prog (.func (.func 75) #[] #[]) #[s_1, f_2] k w :=
  callW_calls ok75 (by simpa using S75_calls s_1 f_2 k w h)

/-! newswire/flow.given$2 -/
def ann76 : Ann := []
def S76 (m_1 : Value) (k : Value → World → Prop) (w : World) : Prop :=
   opW Tryz.prog (Instr.box 28 m_1) (fun m_2 w =>
   opW Tryz.prog (Instr.loadAt 28 m_2) (fun t3_3 w =>
   callW Tryz.prog (Value.func (Fn.func 77) #[] #[]) #[t3_3] (fun t4_4 w =>
   opW Tryz.prog (Op.unary UnOp.not t4_4) (fun t5_5 w =>
   k t5_5 w) w) w) w) w
theorem S76_vc (m_1 : Value) (k : Value → World → Prop) (w : World) : vc Tryz.prog Tryz.f76.ntmps ann76 none ((Tryz.f76.body).getD Code.skip) 1 (params 0 [m_1]) [] (finQ Tryz.prog Tryz.f76.results.toList k) w = S76 m_1 k w := by kernel_rfl
theorem S76_calls (m_1 : Value) (k : Value → World → Prop) (w : World) (h : S76 m_1 k w) : Calls Tryz.prog 76 #[m_1] w (retP k) :=
  calls_of_vc (fn := Tryz.f76) (c := (Tryz.f76.body).getD Code.skip) ann76 Tryz.func76 (by kernel_rfl) [m_1] w k (by kernel_rfl) ((S76_vc m_1 k w).symm ▸ h)
theorem C76 (m_1 : Value) (k : Value → World → Prop) (w : World) (h : S76 m_1 k w) : callW Tryz.prog (.func (.func 76) #[] #[]) #[m_1] k w :=
  callW_calls ok76 (by simpa using S76_calls m_1 k w h)

/-! newswire/label.ValidMoment -/
def ann77 : Ann := []
def S77 (m_1 : Value) (k : Value → World → Prop) (w : World) : Prop :=
   opW Tryz.prog (Instr.box 28 m_1) (fun m_2 w =>
   opW Tryz.prog (Instr.fieldAt 28 m_2 0) (fun t3_3 w =>
   opW Tryz.prog (Instr.loadAt 3 t3_3) (fun t4_4 w =>
   callW Tryz.prog (Value.func (Fn.func 86) #[] #[]) #[t4_4, (Value.int IntKind.i64 0), (Value.int IntKind.i64 50000000)] (fun t5_5 w =>
   guardW (some t5_5, true) (fun k w => opW Tryz.prog (Instr.fieldAt 28 m_2 1) k w) (fun t7_6 w =>
   guardW (some t5_5, true) (fun k w => opW Tryz.prog (Instr.loadAt 3 t7_6) k w) (fun t8_7 w =>
   guardW (some t5_5, true) (fun k w => callW Tryz.prog (Value.func (Fn.func 86) #[] #[]) #[t8_7, (Value.int IntKind.i64 0), (Value.int IntKind.i64 1440)] k w) (fun t9_8 w =>
   pickW t5_5 t9_8 (Value.bool false) (fun t10_9 w =>
   guardW (some t10_9, true) (fun k w => opW Tryz.prog (Instr.fieldAt 28 m_2 2) k w) (fun t12_10 w =>
   guardW (some t10_9, true) (fun k w => opW Tryz.prog (Instr.loadAt 25 t12_10) k w) (fun t13_11 w =>
   guardW (some t10_9, true) (fun k w => callW Tryz.prog (Value.func (Fn.func 87) #[] #[]) #[t13_11, (Value.int IntKind.i64 19)] k w) (fun t14_12 w =>
   pickW t10_9 t14_12 (Value.bool false) (fun t15_13 w =>
   guardW (some t15_13, true) (fun k w => opW Tryz.prog (Instr.fieldAt 28 m_2 3) k w) (fun t17_14 w =>
   guardW (some t15_13, true) (fun k w => opW Tryz.prog (Instr.loadAt 26 t17_14) k w) (fun t18_15 w =>
   guardW (some t15_13, true) (fun k w => callW Tryz.prog (Value.func (Fn.func 88) #[] #[]) #[t18_15, (Value.int IntKind.i64 0)] k w) (fun t19_16 w =>
   pickW t15_13 t19_16 (Value.bool false) (fun t20_17 w =>
   guardW (some t20_17, true) (fun k w => opW Tryz.prog (Instr.fieldAt 28 m_2 4) k w) (fun t22_18 w =>
   guardW (some t20_17, true) (fun k w => opW Tryz.prog (Instr.loadAt 25 t22_18) k w) (fun t23_19 w =>
   guardW (some t20_17, true) (fun k w => callW Tryz.prog (Value.func (Fn.func 87) #[] #[]) #[t23_19, (Value.int IntKind.i64 19)] k w) (fun t24_20 w =>
   pickW t20_17 t24_20 (Value.bool false) (fun t25_21 w =>
   k t25_21 w) w) w) w) w) w) w) w) w) w) w) w) w) w) w) w) w) w) w) w) w
theorem S77_vc (m_1 : Value) (k : Value → World → Prop) (w : World) : vc Tryz.prog Tryz.f77.ntmps ann77 none ((Tryz.f77.body).getD Code.skip) 1 (params 0 [m_1]) [] (finQ Tryz.prog Tryz.f77.results.toList k) w = S77 m_1 k w := by kernel_rfl
theorem S77_calls (m_1 : Value) (k : Value → World → Prop) (w : World) (h : S77 m_1 k w) : Calls Tryz.prog 77 #[m_1] w (retP k) :=
  calls_of_vc (fn := Tryz.f77) (c := (Tryz.f77.body).getD Code.skip) ann77 Tryz.func77 (by kernel_rfl) [m_1] w k (by kernel_rfl) ((S77_vc m_1 k w).symm ▸ h)
theorem C77 (m_1 : Value) (k : Value → World → Prop) (w : World) (h : S77 m_1 k w) : callW Tryz.prog (.func (.func 77) #[] #[]) #[m_1] k w :=
  callW_calls ok77 (by simpa using S77_calls m_1 k w h)

/-! newswire/flow.slots$1 -/
def ann78 : Ann := [(13, Note.keep [0, 2, 3, 5]), (15, Note.keep []), (26, Note.loop [5, 15] [0, 2, 3, 13, 14]), (30, Note.loop [30] [0, 3, 5, 28, 29]), (422, Note.keep [0, 2, 3, 5, 13, 14, 15]), (486, Note.keep [0, 3, 5, 28, 29, 30]), (15565, Note.keep [0, 3, 5, 10, 28, 29, 30]), (15566, Note.plan (Plan.takeP 0 (Plan.takeU 1 (Plan.takeP 2 (Plan.run 3 (Plan.run 4 (Plan.takeP 5 Plan.done))))))), (31130, Note.loop [41] [0, 3, 5, 8, 10, 28, 29, 30, 39, 40]), (498086, Note.keep [0, 3, 5, 8, 10, 28, 29, 30, 39, 40, 41])]
def S78 (yield_1 x1_2 x2_3 x3_4 : Value) (k : Value → World → Prop) (w : World) : Prop :=
   opW Tryz.prog (Instr.loadAt 24 x1_2) (fun t13_5 w =>
   opW Tryz.prog (Builtin.len_ #[24] 3 #[t13_5]) (fun t14_6 w =>
   Loop2 (fun all_8 t15_9 w K_10 =>
   opW Tryz.prog (binS BinOp.lss 3 (Operand.tmp 15) (Operand.tmp 14) t15_9 t14_6) (fun t16_11 w =>
   condW t16_11
   (opW Tryz.prog (Instr.indexAt 24 t13_5 t15_9) (fun t18_14 w =>
   opW Tryz.prog (Instr.loadAt 63 t18_14) (fun t19_15 w =>
   opW Tryz.prog (Instr.alloc 63 true (Value.tuple #[])) (fun x_16 w =>
   opU Tryz.prog (Instr.storeAt 63 x_16 t19_15) (fun _ w =>
   opW Tryz.prog (Instr.loadAt 63 x_16) (fun t21_17 w =>
   opW Tryz.prog (Instr.build 98 #[(0, t21_17), (1, t15_9), (2, (Value.int IntKind.i64 (-1))), (3, (Value.bool false))]) (fun t23_18 w =>
   opW Tryz.prog (Instr.box 98 t23_18) (fun t24_19 w =>
   opW Tryz.prog (Instr.buildSlice 95 1 #[(0, t24_19)]) (fun t25_20 w =>
   opW Tryz.prog (Builtin.append_ #[95, 95] 95 #[all_8, t25_20]) (fun t26_21 w =>
   opW Tryz.prog (binS BinOp.add 3 (Operand.tmp 15) (Operand.const (Value.int IntKind.i64 1)) t15_9 (Value.int IntKind.i64 1)) (fun t27_22 w =>
   loopK [] [] [yield_1, x2_3, x3_4, t13_5, t14_6] [yield_1, x2_3, x3_4, t13_5, t14_6] (K_10 t26_21 t27_22 w)) w) w) w) w) w) w) w) w) w) w)
   (opW Tryz.prog (Instr.loadAt 33 x2_3) (fun t28_23 w =>
   opW Tryz.prog (Builtin.len_ #[33] 3 #[t28_23]) (fun t29_24 w =>
   Loop1 (fun t30_26 w K_27 =>
   opW Tryz.prog (binS BinOp.lss 3 (Operand.tmp 30) (Operand.tmp 29) t30_26 t29_24) (fun t31_28 w =>
   condW t31_28
   (opW Tryz.prog (Instr.indexAt 33 t28_23 t30_26) (fun t33_31 w =>
   opW Tryz.prog (Instr.loadAt 28 t33_31) (fun t34_32 w =>
   opW Tryz.prog (Instr.alloc 28 true (Value.tuple #[])) (fun m_33 w =>
   opU Tryz.prog (Instr.storeAt 28 m_33 t34_32) (fun _ w =>
   opW Tryz.prog (Instr.loadAt 28 m_33) (fun t36_34 w =>
   opW Tryz.prog (Instr.loadAt 30 x3_4) (fun t37_35 w =>
   opW Tryz.prog (Instr.build 94 #[(0, t30_26), (1, t36_34), (2, t37_35)]) (fun t38_36 w =>
   opW Tryz.prog (Instr.alloc 94 true (Value.tuple #[])) (fun s_37 w =>
   opU Tryz.prog (Instr.storeAt 94 s_37 t38_36) (fun _ w =>
   opW Tryz.prog (Builtin.len_ #[95] 3 #[all_8]) (fun t40_38 w =>
   Loop1 (fun t41_40 w K_41 =>
   opW Tryz.prog (binS BinOp.lss 3 (Operand.tmp 41) (Operand.tmp 40) t41_40 t40_38) (fun t42_42 w =>
   condW t42_42
   (joinW (fun w =>
   opW Tryz.prog (binS BinOp.add 3 (Operand.tmp 41) (Operand.const (Value.int IntKind.i64 1)) t41_40 (Value.int IntKind.i64 1)) (fun t59_57 w =>
   loopK [] [] [yield_1, x3_4, all_8, t30_26, s_37, t28_23, t29_24, t30_26, all_8, t40_38] [yield_1, x3_4, all_8, t30_26, s_37, t28_23, t29_24, t30_26, all_8, t40_38] (K_41 t59_57 w)) w) (fun J_44 =>
   opW Tryz.prog (Instr.indexAt 95 all_8 t41_40) (fun t43_45 w =>
   opW Tryz.prog (Instr.loadAt 96 t43_45) (fun t44_46 w =>
   nilW t44_46 (fun t46_47 w =>
   opW Tryz.prog (Instr.fieldAt 98 t46_47 2) (fun t47_48 w =>
   opW Tryz.prog (Instr.loadAt 3 t47_48) (fun t48_49 w =>
   opW Tryz.prog (binS BinOp.lss 3 (Operand.tmp 48) (Operand.const (Value.int IntKind.i64 0)) t48_49 (Value.int IntKind.i64 0)) (fun t49_50 w =>
   guardW (some t49_50, true) (fun k w => opW Tryz.prog (Instr.loadAt 94 s_37) k w) (fun t51_51 w =>
   guardW (some t49_50, true) (fun k w => k t44_46 w) (fun t52_52 w =>
   guardW (some t49_50, true) (fun k w => callW Tryz.prog (Value.func (Fn.func 79) #[] #[]) #[t51_51, t52_52] k w) (fun t53_53 w =>
   pickW t49_50 t53_53 (Value.bool false) (fun t54_54 w =>
   condW t54_54
   (nilW t44_46 (fun t57_55 w =>
   opW Tryz.prog (Instr.fieldAt 98 t57_55 2) (fun t58_56 w =>
   opU Tryz.prog (Instr.storeAt 3 t58_56 t30_26) (fun _ w =>
   J_44 w) w) w) w)
   (J_44 w)) w) w) w) w) w) w) w) w) w) w))
   (drewW w (fun w =>
   ∃ S : World → Prop, S w ∧
   takeW Tryz.prog S (Instr.loadAt 94 s_37) (fun t61_59 =>
   callW Tryz.prog (Value.func (Fn.func 80) #[] #[]) #[all_8] (fun t63_60 w => keepS S (fun w =>
   callW Tryz.prog yield_1 #[t61_59, t63_60] (fun t64_61 w =>
   takeW Tryz.prog anyW (Op.unary UnOp.not t64_61) (fun t65_62 =>
   condW t65_62
   (k (Value.tuple #[]) w)
   (opW Tryz.prog (binS BinOp.add 3 (Operand.tmp 30) (Operand.const (Value.int IntKind.i64 1)) t30_26 (Value.int IntKind.i64 1)) (fun t66_63 w =>
   loopK [] [] [yield_1, x3_4, all_8, t28_23, t29_24] [yield_1, x3_4, all_8, t28_23, t29_24] (K_27 t66_63 w)) w)) w) w) w) w) w))) w) (Value.int IntKind.i64 0) w) w) w) w) w) w) w) w) w) w) w)
   (k (Value.tuple #[]) w)) w) (Value.int IntKind.i64 0) w) w) w)) w) (Value.slice none 0 0) (Value.int IntKind.i64 0) w) w) w
theorem S78_vc (yield_1 x1_2 x2_3 x3_4 : Value) (k : Value → World → Prop) (w : World) : vc Tryz.prog Tryz.f78.ntmps ann78 none ((Tryz.f78.body).getD Code.skip) 1 (params 0 [yield_1, x1_2, x2_3, x3_4]) [] (finQ Tryz.prog Tryz.f78.results.toList k) w = S78 yield_1 x1_2 x2_3 x3_4 k w := by kernel_rfl
theorem S78_calls (yield_1 x1_2 x2_3 x3_4 : Value) (k : Value → World → Prop) (w : World) (h : S78 yield_1 x1_2 x2_3 x3_4 k w) : Calls Tryz.prog 78 #[yield_1, x1_2, x2_3, x3_4] w (retP k) :=
  calls_of_vc (fn := Tryz.f78) (c := (Tryz.f78.body).getD Code.skip) ann78 Tryz.func78 (by kernel_rfl) [yield_1, x1_2, x2_3, x3_4] w k (by kernel_rfl) ((S78_vc yield_1 x1_2 x2_3 x3_4 k w).symm ▸ h)
/-! (newswire/flow.slot).open -/
def ann79 : Ann := [(6, Note.plan (Plan.takeU 0 (Plan.takeP 1 (Plan.run 2 (Plan.takeP 3 (Plan.takeP 4 (Plan.takeP 5 (Plan.takeP 6 (Plan.takeP 7 (Plan.takeX 8 (Plan.takeP 9 (Plan.takeX 10 (Plan.takeP 11 (Plan.takeX 12 (Plan.run 13 (Plan.takeP 14 (Plan.takeP 15 Plan.done)))))))))))))))))]
def S79 (s_1 p_2 : Value) (k : Value → World → Prop) (w : World) : Prop :=
   opW Tryz.prog (Instr.box 94 s_1) (fun s_3 w =>
   drewW w (fun w =>
   ∃ S : World → Prop, S w ∧
   takeW Tryz.prog S (Instr.loadAt 94 s_3) (fun t5_5 =>
   callW Tryz.prog (Value.func (Fn.func 109) #[] #[]) #[t5_5, p_2] (fun t7_6 w =>
   guardT (some t7_6, true) (fun k => k p_2) (fun t9_7 =>
   guardT (some t7_6, true) (fun k => nilT t9_7 k) (fun t10_8 =>
   guardT (some t7_6, true) (fun k => takeW Tryz.prog anyW (Instr.fieldAt 98 t10_8 0) k w) (fun t11_9 =>
   guardT (some t7_6, true) (fun k => takeW Tryz.prog anyW (Instr.fieldAt 63 t11_9 1) k w) (fun t12_10 =>
   guardT (some t7_6, true) (fun k => takeW Tryz.prog (sameW w) (Instr.loadAt 61 t12_10) k w) (fun t13_11 =>
   guardT (some t7_6, true) (fun k => takeW Tryz.prog anyW (Instr.fieldAt 94 s_3 2) k w) (fun t14_12 =>
   guardT (some t7_6, true) (fun k => takeW Tryz.prog (sameW w) (Instr.loadAt 30 t14_12) k w) (fun t15_13 =>
   guardT (some t7_6, true) (fun k => takeW Tryz.prog anyW (Instr.fieldAt 94 s_3 1) k w) (fun t16_14 =>
   guardT (some t7_6, true) (fun k => takeW Tryz.prog (sameW w) (Instr.loadAt 28 t16_14) k w) (fun t17_15 =>
   guardW (some t7_6, true) (fun k w => callW Tryz.prog (Value.func (Fn.func 34) #[] #[]) #[t13_11, t15_13, t17_15] k w) (fun t18_16 w => keepS S (fun w =>
   pickT t7_6 t18_16 (Value.bool false) (fun t19_17 =>
   k t19_17 w)) w) w)))))))))) w) w)) w
theorem S79_vc (s_1 p_2 : Value) (k : Value → World → Prop) (w : World) : vc Tryz.prog Tryz.f79.ntmps ann79 none ((Tryz.f79.body).getD Code.skip) 1 (params 0 [s_1, p_2]) [] (finQ Tryz.prog Tryz.f79.results.toList k) w = S79 s_1 p_2 k w := by kernel_rfl
theorem S79_calls (s_1 p_2 : Value) (k : Value → World → Prop) (w : World) (h : S79 s_1 p_2 k w) : Calls Tryz.prog 79 #[s_1, p_2] w (retP k) :=
  calls_of_vc (fn := Tryz.f79) (c := (Tryz.f79.body).getD Code.skip) ann79 Tryz.func79 (by kernel_rfl) [s_1, p_2] w k (by kernel_rfl) ((S79_vc s_1 p_2 k w).symm ▸ h)
theorem C79 (s_1 p_2 : Value) (k : Value → World → Prop) (w : World) (h : S79 s_1 p_2 k w) : callW Tryz.prog (.func (.func 79) #[] #[]) #[s_1, p_2] k w :=
  callW_calls ok79 (by simpa using S79_calls s_1 p_2 k w h)

/-! slices.Clone[[]*newswire/flow.pending,*newswire/flow.pending] -/
def ann80 : Ann := []
def S80 (s_1 : Value) (k : Value → World → Prop) (w : World) : Prop :=
   opW Tryz.prog (binS BinOp.eql 95 (Operand.tmp 3) (Operand.const (Value.slice none 0 0)) s_1 (Value.slice none 0 0)) (fun t4_3 w =>
   condW t4_3
   (k (Value.slice none 0 0) w)
   (opW Tryz.prog (Instr.buildSlice 95 0 #[]) (fun t5_4 w =>
   opW Tryz.prog (Builtin.append_ #[95, 95] 95 #[t5_4, s_1]) (fun t7_5 w =>
   k t7_5 w) w) w)) w
theorem S80_vc (s_1 : Value) (k : Value → World → Prop) (w : World) : vc Tryz.prog Tryz.f80.ntmps ann80 none ((Tryz.f80.body).getD Code.skip) 1 (params 0 [s_1]) [] (finQ Tryz.prog Tryz.f80.results.toList k) w = S80 s_1 k w := by kernel_rfl
theorem S80_calls (s_1 : Value) (k : Value → World → Prop) (w : World) (h : S80 s_1 k w) : Calls Tryz.prog 80 #[s_1] w (retP k) :=
  calls_of_vc (fn := Tryz.f80) (c := (Tryz.f80.body).getD Code.skip) ann80 Tryz.func80 (by kernel_rfl) [s_1] w k (by kernel_rfl) ((S80_vc s_1 k w).symm ▸ h)
theorem C80 (s_1 : Value) (k : Value → World → Prop) (w : World) (h : S80 s_1 k w) : callW Tryz.prog (.func (.func 80) #[] #[]) #[s_1] k w :=
  callW_calls ok80 (by simpa using S80_calls s_1 k w h)

/-! slices.Clone[[]newswire/api.Confirmed,newswire/api.Confirmed] -/
def ann81 : Ann := []
def S81 (s_1 : Value) (k : Value → World → Prop) (w : World) : Prop :=
   opW Tryz.prog (binS BinOp.eql 26 (Operand.tmp 3) (Operand.const (Value.slice none 0 0)) s_1 (Value.slice none 0 0)) (fun t4_3 w =>
   condW t4_3
   (k (Value.slice none 0 0) w)
   (opW Tryz.prog (Instr.buildSlice 26 0 #[]) (fun t5_4 w =>
   opW Tryz.prog (Builtin.append_ #[26, 26] 26 #[t5_4, s_1]) (fun t7_5 w =>
   k t7_5 w) w) w)) w
theorem S81_vc (s_1 : Value) (k : Value → World → Prop) (w : World) : vc Tryz.prog Tryz.f81.ntmps ann81 none ((Tryz.f81.body).getD Code.skip) 1 (params 0 [s_1]) [] (finQ Tryz.prog Tryz.f81.results.toList k) w = S81 s_1 k w := by kernel_rfl
theorem S81_calls (s_1 : Value) (k : Value → World → Prop) (w : World) (h : S81 s_1 k w) : Calls Tryz.prog 81 #[s_1] w (retP k) :=
  calls_of_vc (fn := Tryz.f81) (c := (Tryz.f81.body).getD Code.skip) ann81 Tryz.func81 (by kernel_rfl) [s_1] w k (by kernel_rfl) ((S81_vc s_1 k w).symm ▸ h)
theorem C81 (s_1 : Value) (k : Value → World → Prop) (w : World) (h : S81 s_1 k w) : callW Tryz.prog (.func (.func 81) #[] #[]) #[s_1] k w :=
  callW_calls ok81 (by simpa using S81_calls s_1 k w h)

/-! slices.Clone[[]newswire/api.Quorum,newswire/api.Quorum] -/
def ann82 : Ann := []
def S82 (s_1 : Value) (k : Value → World → Prop) (w : World) : Prop :=
   opW Tryz.prog (binS BinOp.eql 59 (Operand.tmp 3) (Operand.const (Value.slice none 0 0)) s_1 (Value.slice none 0 0)) (fun t4_3 w =>
   condW t4_3
   (k (Value.slice none 0 0) w)
   (opW Tryz.prog (Instr.buildSlice 59 0 #[]) (fun t5_4 w =>
   opW Tryz.prog (Builtin.append_ #[59, 59] 59 #[t5_4, s_1]) (fun t7_5 w =>
   k t7_5 w) w) w)) w
theorem S82_vc (s_1 : Value) (k : Value → World → Prop) (w : World) : vc Tryz.prog Tryz.f82.ntmps ann82 none ((Tryz.f82.body).getD Code.skip) 1 (params 0 [s_1]) [] (finQ Tryz.prog Tryz.f82.results.toList k) w = S82 s_1 k w := by kernel_rfl
theorem S82_calls (s_1 : Value) (k : Value → World → Prop) (w : World) (h : S82 s_1 k w) : Calls Tryz.prog 82 #[s_1] w (retP k) :=
  calls_of_vc (fn := Tryz.f82) (c := (Tryz.f82.body).getD Code.skip) ann82 Tryz.func82 (by kernel_rfl) [s_1] w k (by kernel_rfl) ((S82_vc s_1 k w).symm ▸ h)
theorem C82 (s_1 : Value) (k : Value → World → Prop) (w : World) (h : S82 s_1 k w) : callW Tryz.prog (.func (.func 82) #[] #[]) #[s_1] k w :=
  callW_calls ok82 (by simpa using S82_calls s_1 k w h)

/-! newswire/newswireref10.ValidMoment -/
def ann83 : Ann := []
def S83 (m_1 : Value) (k : Value → World → Prop) (w : World) : Prop :=
   opW Tryz.prog (Instr.box 28 m_1) (fun m_2 w =>
   opW Tryz.prog (Instr.fieldAt 28 m_2 0) (fun t3_3 w =>
   opW Tryz.prog (Instr.loadAt 3 t3_3) (fun t4_4 w =>
   callW Tryz.prog (Value.func (Fn.func 90) #[] #[]) #[t4_4, (Value.int IntKind.i64 0), (Value.int IntKind.i64 50000000)] (fun t5_5 w =>
   guardW (some t5_5, true) (fun k w => opW Tryz.prog (Instr.fieldAt 28 m_2 1) k w) (fun t7_6 w =>
   guardW (some t5_5, true) (fun k w => opW Tryz.prog (Instr.loadAt 3 t7_6) k w) (fun t8_7 w =>
   guardW (some t5_5, true) (fun k w => callW Tryz.prog (Value.func (Fn.func 90) #[] #[]) #[t8_7, (Value.int IntKind.i64 0), (Value.int IntKind.i64 1440)] k w) (fun t9_8 w =>
   pickW t5_5 t9_8 (Value.bool false) (fun t10_9 w =>
   guardW (some t10_9, true) (fun k w => opW Tryz.prog (Instr.fieldAt 28 m_2 2) k w) (fun t12_10 w =>
   guardW (some t10_9, true) (fun k w => opW Tryz.prog (Instr.loadAt 25 t12_10) k w) (fun t13_11 w =>
   guardW (some t10_9, true) (fun k w => callW Tryz.prog (Value.func (Fn.func 91) #[] #[]) #[t13_11, (Value.int IntKind.i64 19)] k w) (fun t14_12 w =>
   pickW t10_9 t14_12 (Value.bool false) (fun t15_13 w =>
   guardW (some t15_13, true) (fun k w => opW Tryz.prog (Instr.fieldAt 28 m_2 3) k w) (fun t17_14 w =>
   guardW (some t15_13, true) (fun k w => opW Tryz.prog (Instr.loadAt 26 t17_14) k w) (fun t18_15 w =>
   guardW (some t15_13, true) (fun k w => callW Tryz.prog (Value.func (Fn.func 92) #[] #[]) #[t18_15, (Value.int IntKind.i64 0)] k w) (fun t19_16 w =>
   pickW t15_13 t19_16 (Value.bool false) (fun t20_17 w =>
   guardW (some t20_17, true) (fun k w => opW Tryz.prog (Instr.fieldAt 28 m_2 4) k w) (fun t22_18 w =>
   guardW (some t20_17, true) (fun k w => opW Tryz.prog (Instr.loadAt 25 t22_18) k w) (fun t23_19 w =>
   guardW (some t20_17, true) (fun k w => callW Tryz.prog (Value.func (Fn.func 91) #[] #[]) #[t23_19, (Value.int IntKind.i64 19)] k w) (fun t24_20 w =>
   pickW t20_17 t24_20 (Value.bool false) (fun t25_21 w =>
   k t25_21 w) w) w) w) w) w) w) w) w) w) w) w) w) w) w) w) w) w) w) w) w
theorem S83_vc (m_1 : Value) (k : Value → World → Prop) (w : World) : vc Tryz.prog Tryz.f83.ntmps ann83 none ((Tryz.f83.body).getD Code.skip) 1 (params 0 [m_1]) [] (finQ Tryz.prog Tryz.f83.results.toList k) w = S83 m_1 k w := by kernel_rfl
theorem S83_calls (m_1 : Value) (k : Value → World → Prop) (w : World) (h : S83 m_1 k w) : Calls Tryz.prog 83 #[m_1] w (retP k) :=
  calls_of_vc (fn := Tryz.f83) (c := (Tryz.f83.body).getD Code.skip) ann83 Tryz.func83 (by kernel_rfl) [m_1] w k (by kernel_rfl) ((S83_vc m_1 k w).symm ▸ h)
theorem C83 (m_1 : Value) (k : Value → World → Prop) (w : World) (h : S83 m_1 k w) : callW Tryz.prog (.func (.func 83) #[] #[]) #[m_1] k w :=
  callW_calls ok83 (by simpa using S83_calls m_1 k w h)

/-! newswire/newswireref10.compare -/
def ann84 : Ann := [(13, Note.keep [0, 1]), (26, Note.loop [5] [0, 1]), (210, Note.keep [0, 1, 5]), (840, Note.plan (Plan.takeP 0 (Plan.takeP 1 (Plan.takeP 2 (Plan.takeX 3 (Plan.takeP 4 (Plan.takeP 5 (Plan.takeP 6 (Plan.takeX 7 (Plan.takeP 8 Plan.done)))))))))), (3364, Note.plan (Plan.takeP 0 (Plan.takeP 1 (Plan.takeP 2 (Plan.takeX 3 (Plan.takeP 4 (Plan.takeP 5 (Plan.takeP 6 (Plan.takeX 7 (Plan.takeP 8 (Plan.takeP 9 Plan.done)))))))))))]
def S84 (a_1 b_2 : Value) (k : Value → World → Prop) (w : World) : Prop :=
   Loop1 (fun i_4 w K_5 =>
   opW Tryz.prog (Builtin.len_ #[25] 3 #[a_1]) (fun t8_7 w =>
   opW Tryz.prog (binS BinOp.lss 3 (Operand.tmp 6) (Operand.tmp 8) i_4 t8_7) (fun t9_8 w =>
   guardW (some t9_8, true) (fun k w => k i_4 w) (fun t11_9 w =>
   guardW (some t9_8, true) (fun k w => k b_2 w) (fun t12_10 w =>
   guardW (some t9_8, true) (fun k w => opW Tryz.prog (Builtin.len_ #[25] 3 #[t12_10]) k w) (fun t13_11 w =>
   guardW (some t9_8, true) (fun k w => opW Tryz.prog (binS BinOp.lss 3 (Operand.tmp 11) (Operand.tmp 13) t11_9 t13_11) k w) (fun t14_12 w =>
   pickW t9_8 t14_12 (Value.bool false) (fun t15_13 w =>
   condW t15_13
   (drewW w (fun w =>
   takeW Tryz.prog anyW (Instr.indexAt 25 a_1 i_4) (fun t20_16 =>
   takeW Tryz.prog (sameW w) (Instr.loadAt 3 t20_16) (fun t21_17 =>
   takeW Tryz.prog anyW (Instr.indexAt 25 b_2 i_4) (fun t24_18 =>
   takeW Tryz.prog (sameW w) (Instr.loadAt 3 t24_18) (fun t25_19 =>
   takeW Tryz.prog anyW (binS BinOp.neq 3 (Operand.tmp 21) (Operand.tmp 25) t21_17 t25_19) (fun t26_20 =>
   condW t26_20
   (drewW w (fun w =>
   takeW Tryz.prog anyW (Instr.indexAt 25 a_1 i_4) (fun t29_22 =>
   takeW Tryz.prog (sameW w) (Instr.loadAt 3 t29_22) (fun t30_23 =>
   takeW Tryz.prog anyW (Instr.indexAt 25 b_2 i_4) (fun t33_24 =>
   takeW Tryz.prog (sameW w) (Instr.loadAt 3 t33_24) (fun t34_25 =>
   takeW Tryz.prog anyW (binS BinOp.sub 3 (Operand.tmp 30) (Operand.tmp 34) t30_23 t34_25) (fun t35_26 =>
   k t35_26 w) w) w) w) w) w))
   (opW Tryz.prog (binS BinOp.add 3 (Operand.tmp 16) (Operand.const (Value.int IntKind.i64 1)) i_4 (Value.int IntKind.i64 1)) (fun t17_27 w =>
   loopK [] [] [a_1, b_2] [a_1, b_2] (K_5 t17_27 w)) w)) w) w) w) w) w))
   (opW Tryz.prog (Builtin.len_ #[25] 3 #[a_1]) (fun t37_28 w =>
   opW Tryz.prog (Builtin.len_ #[25] 3 #[b_2]) (fun t39_29 w =>
   opW Tryz.prog (binS BinOp.sub 3 (Operand.tmp 37) (Operand.tmp 39) t37_28 t39_29) (fun t40_30 w =>
   k t40_30 w) w) w) w)) w) w) w) w) w) w) w) (Value.int IntKind.i64 0) w
theorem S84_vc (a_1 b_2 : Value) (k : Value → World → Prop) (w : World) : vc Tryz.prog Tryz.f84.ntmps ann84 none ((Tryz.f84.body).getD Code.skip) 1 (params 0 [a_1, b_2]) [] (finQ Tryz.prog Tryz.f84.results.toList k) w = S84 a_1 b_2 k w := by kernel_rfl
theorem S84_calls (a_1 b_2 : Value) (k : Value → World → Prop) (w : World) (h : S84 a_1 b_2 k w) : Calls Tryz.prog 84 #[a_1, b_2] w (retP k) :=
  calls_of_vc (fn := Tryz.f84) (c := (Tryz.f84.body).getD Code.skip) ann84 Tryz.func84 (by kernel_rfl) [a_1, b_2] w k (by kernel_rfl) ((S84_vc a_1 b_2 k w).symm ▸ h)
theorem C84 (a_1 b_2 : Value) (k : Value → World → Prop) (w : World) (h : S84 a_1 b_2 k w) : callW Tryz.prog (.func (.func 84) #[] #[]) #[a_1, b_2] k w :=
  callW_calls ok84 (by simpa using S84_calls a_1 b_2 k w h)

/-! newswire/newswireref10.sameLock -/
def ann85 : Ann := []
def S85 (a_1 b_2 : Value) (k : Value → World → Prop) (w : World) : Prop :=
   opW Tryz.prog (Instr.box 87 a_1) (fun a_3 w =>
   opW Tryz.prog (Instr.box 87 b_2) (fun b_4 w =>
   opW Tryz.prog (Instr.fieldAt 87 a_3 0) (fun t5_5 w =>
   opW Tryz.prog (Instr.loadAt 3 t5_5) (fun t6_6 w =>
   opW Tryz.prog (Instr.fieldAt 87 b_4 0) (fun t7_7 w =>
   opW Tryz.prog (Instr.loadAt 3 t7_7) (fun t8_8 w =>
   opW Tryz.prog (binS BinOp.eql 3 (Operand.tmp 6) (Operand.tmp 8) t6_6 t8_8) (fun t9_9 w =>
   guardW (some t9_9, true) (fun k w => opW Tryz.prog (Instr.fieldAt 87 a_3 1) k w) (fun t11_10 w =>
   guardW (some t9_9, true) (fun k w => opW Tryz.prog (Instr.loadAt 25 t11_10) k w) (fun t12_11 w =>
   guardW (some t9_9, true) (fun k w => opW Tryz.prog (Instr.fieldAt 87 b_4 1) k w) (fun t13_12 w =>
   guardW (some t9_9, true) (fun k w => opW Tryz.prog (Instr.loadAt 25 t13_12) k w) (fun t14_13 w =>
   guardW (some t9_9, true) (fun k w => callW Tryz.prog (Value.func (Fn.func 84) #[] #[]) #[t12_11, t14_13] k w) (fun t15_14 w =>
   guardW (some t9_9, true) (fun k w => opW Tryz.prog (binS BinOp.eql 3 (Operand.tmp 15) (Operand.const (Value.int IntKind.i64 0)) t15_14 (Value.int IntKind.i64 0)) k w) (fun t16_15 w =>
   pickW t9_9 t16_15 (Value.bool false) (fun t17_16 w =>
   k t17_16 w) w) w) w) w) w) w) w) w) w) w) w) w) w) w
theorem S85_vc (a_1 b_2 : Value) (k : Value → World → Prop) (w : World) : vc Tryz.prog Tryz.f85.ntmps ann85 none ((Tryz.f85.body).getD Code.skip) 1 (params 0 [a_1, b_2]) [] (finQ Tryz.prog Tryz.f85.results.toList k) w = S85 a_1 b_2 k w := by kernel_rfl
theorem S85_calls (a_1 b_2 : Value) (k : Value → World → Prop) (w : World) (h : S85 a_1 b_2 k w) : Calls Tryz.prog 85 #[a_1, b_2] w (retP k) :=
  calls_of_vc (fn := Tryz.f85) (c := (Tryz.f85.body).getD Code.skip) ann85 Tryz.func85 (by kernel_rfl) [a_1, b_2] w k (by kernel_rfl) ((S85_vc a_1 b_2 k w).symm ▸ h)
theorem C85 (a_1 b_2 : Value) (k : Value → World → Prop) (w : World) (h : S85 a_1 b_2 k w) : callW Tryz.prog (.func (.func 85) #[] #[]) #[a_1, b_2] k w :=
  callW_calls ok85 (by simpa using S85_calls a_1 b_2 k w h)

/-! newswire/label.in -/
def ann86 : Ann := []
def S86 (n_1 low_2 high_3 : Value) (k : Value → World → Prop) (w : World) : Prop :=
   opW Tryz.prog (binS BinOp.geq 3 (Operand.tmp 7) (Operand.tmp 8) n_1 low_2) (fun t9_4 w =>
   guardW (some t9_4, true) (fun k w => k n_1 w) (fun t11_5 w =>
   guardW (some t9_4, true) (fun k w => k high_3 w) (fun t12_6 w =>
   guardW (some t9_4, true) (fun k w => opW Tryz.prog (binS BinOp.leq 3 (Operand.tmp 11) (Operand.tmp 12) t11_5 t12_6) k w) (fun t13_7 w =>
   pickW t9_4 t13_7 (Value.bool false) (fun t14_8 w =>
   k t14_8 w) w) w) w) w) w
theorem S86_vc (n_1 low_2 high_3 : Value) (k : Value → World → Prop) (w : World) : vc Tryz.prog Tryz.f86.ntmps ann86 none ((Tryz.f86.body).getD Code.skip) 1 (params 0 [n_1, low_2, high_3]) [] (finQ Tryz.prog Tryz.f86.results.toList k) w = S86 n_1 low_2 high_3 k w := by kernel_rfl
theorem S86_calls (n_1 low_2 high_3 : Value) (k : Value → World → Prop) (w : World) (h : S86 n_1 low_2 high_3 k w) : Calls Tryz.prog 86 #[n_1, low_2, high_3] w (retP k) :=
  calls_of_vc (fn := Tryz.f86) (c := (Tryz.f86.body).getD Code.skip) ann86 Tryz.func86 (by kernel_rfl) [n_1, low_2, high_3] w k (by kernel_rfl) ((S86_vc n_1 low_2 high_3 k w).symm ▸ h)
theorem C86 (n_1 low_2 high_3 : Value) (k : Value → World → Prop) (w : World) (h : S86 n_1 low_2 high_3 k w) : callW Tryz.prog (.func (.func 86) #[] #[]) #[n_1, low_2, high_3] k w :=
  callW_calls ok86 (by simpa using S86_calls n_1 low_2 high_3 k w h)

/-! newswire/label.rising -/
def ann87 : Ann := [(13, Note.keep []), (26, Note.loop [9] [0, 1, 7, 8]), (422, Note.keep [0, 1, 7, 8, 9])]
def S87 (l_1 most_2 : Value) (k : Value → World → Prop) (w : World) : Prop :=
   opW Tryz.prog (Builtin.len_ #[25] 3 #[l_1]) (fun t8_3 w =>
   Loop1 (fun t9_5 w K_6 =>
   opW Tryz.prog (binS BinOp.lss 3 (Operand.tmp 9) (Operand.tmp 8) t9_5 t8_3) (fun t10_7 w =>
   condW t10_7
   (opW Tryz.prog (Instr.indexAt 25 l_1 t9_5) (fun t12_10 w =>
   opW Tryz.prog (Instr.loadAt 3 t12_10) (fun t13_11 w =>
   callW Tryz.prog (Value.func (Fn.func 86) #[] #[]) #[t13_11, (Value.int IntKind.i64 0), most_2] (fun t16_12 w =>
   opW Tryz.prog (Op.unary UnOp.not t16_12) (fun t17_13 w =>
   guardW (some t17_13, false) (fun k w => k t9_5 w) (fun t19_14 w =>
   guardW (some t17_13, false) (fun k w => opW Tryz.prog (binS BinOp.gtr 3 (Operand.tmp 19) (Operand.const (Value.int IntKind.i64 0)) t19_14 (Value.int IntKind.i64 0)) k w) (fun t20_15 w =>
   guardW (some t17_13, false) (fun k w => k t20_15 w) (fun t21_16 w =>
   guardW (some t21_16, true) (fun k w => k l_1 w) (fun t22_17 w =>
   guardW (some t21_16, true) (fun k w => k t9_5 w) (fun t23_18 w =>
   guardW (some t21_16, true) (fun k w => opW Tryz.prog (binS BinOp.sub 3 (Operand.tmp 23) (Operand.const (Value.int IntKind.i64 1)) t23_18 (Value.int IntKind.i64 1)) k w) (fun t24_19 w =>
   guardW (some t21_16, true) (fun k w => opW Tryz.prog (Instr.indexAt 25 t22_17 t24_19) k w) (fun t25_20 w =>
   guardW (some t21_16, true) (fun k w => opW Tryz.prog (Instr.loadAt 3 t25_20) k w) (fun t26_21 w =>
   guardW (some t21_16, true) (fun k w => k t13_11 w) (fun t27_22 w =>
   guardW (some t21_16, true) (fun k w => opW Tryz.prog (binS BinOp.geq 3 (Operand.tmp 26) (Operand.tmp 27) t26_21 t27_22) k w) (fun t28_23 w =>
   guardW (some t17_13, false) (fun k w => pickW t21_16 t28_23 (Value.bool false) k w) (fun t29_24 w =>
   pickW t17_13 (Value.bool true) t29_24 (fun t30_25 w =>
   condW t30_25
   (k (Value.bool false) w)
   (opW Tryz.prog (binS BinOp.add 3 (Operand.tmp 9) (Operand.const (Value.int IntKind.i64 1)) t9_5 (Value.int IntKind.i64 1)) (fun t31_26 w =>
   loopK [] [] [l_1, most_2, l_1, t8_3] [l_1, most_2, l_1, t8_3] (K_6 t31_26 w)) w)) w) w) w) w) w) w) w) w) w) w) w) w) w) w) w) w)
   (k (Value.bool true) w)) w) (Value.int IntKind.i64 0) w) w
theorem S87_vc (l_1 most_2 : Value) (k : Value → World → Prop) (w : World) : vc Tryz.prog Tryz.f87.ntmps ann87 none ((Tryz.f87.body).getD Code.skip) 1 (params 0 [l_1, most_2]) [] (finQ Tryz.prog Tryz.f87.results.toList k) w = S87 l_1 most_2 k w := by kernel_rfl
theorem S87_calls (l_1 most_2 : Value) (k : Value → World → Prop) (w : World) (h : S87 l_1 most_2 k w) : Calls Tryz.prog 87 #[l_1, most_2] w (retP k) :=
  calls_of_vc (fn := Tryz.f87) (c := (Tryz.f87.body).getD Code.skip) ann87 Tryz.func87 (by kernel_rfl) [l_1, most_2] w k (by kernel_rfl) ((S87_vc l_1 most_2 k w).symm ▸ h)
theorem C87 (l_1 most_2 : Value) (k : Value → World → Prop) (w : World) (h : S87 l_1 most_2 k w) : callW Tryz.prog (.func (.func 87) #[] #[]) #[l_1, most_2] k w :=
  callW_calls ok87 (by simpa using S87_calls l_1 most_2 k w h)

/-! newswire/label.counts -/
def ann88 : Ann := [(13, Note.keep []), (26, Note.loop [9] [0, 1, 7, 8]), (422, Note.keep [0, 1, 7, 8, 9]), (3378, Note.plan (Plan.takeP 0 (Plan.takeU 1 (Plan.run 2 (Plan.takeP 3 (Plan.takeP 4 (Plan.takeP 5 (Plan.takeX 6 (Plan.takeP 7 (Plan.run 8 (Plan.takeP 9 (Plan.takeP 10 (Plan.takeP 11 (Plan.takeP 12 (Plan.takeP 13 (Plan.takeP 14 (Plan.takeP 15 (Plan.takeP 16 (Plan.takeP 17 (Plan.takeP 18 (Plan.takeP 19 (Plan.takeX 20 (Plan.takeP 21 (Plan.takeX 22 (Plan.takeP 23 (Plan.takeP 24 (Plan.takeP 25 Plan.done)))))))))))))))))))))))))))]
def S88 (l_1 least_2 : Value) (k : Value → World → Prop) (w : World) : Prop :=
   opW Tryz.prog (Builtin.len_ #[26] 3 #[l_1]) (fun t8_3 w =>
   Loop1 (fun t9_5 w K_6 =>
   opW Tryz.prog (binS BinOp.lss 3 (Operand.tmp 9) (Operand.tmp 8) t9_5 t8_3) (fun t10_7 w =>
   condW t10_7
   (opW Tryz.prog (Instr.indexAt 26 l_1 t9_5) (fun t12_10 w =>
   opW Tryz.prog (Instr.loadAt 121 t12_10) (fun t13_11 w =>
   opW Tryz.prog (Instr.alloc 121 true (Value.tuple #[])) (fun c_12 w =>
   opU Tryz.prog (Instr.storeAt 121 c_12 t13_11) (fun _ w =>
   drewW w (fun w =>
   ∃ S : World → Prop, S w ∧
   takeW Tryz.prog anyW (Instr.fieldAt 121 c_12 0) (fun t14_14 =>
   takeW Tryz.prog S (Instr.loadAt 3 t14_14) (fun t15_15 =>
   callW Tryz.prog (Value.func (Fn.func 86) #[] #[]) #[t15_15, (Value.int IntKind.i64 0), (Value.int IntKind.i64 15)] (fun t16_16 w =>
   takeW Tryz.prog anyW (Op.unary UnOp.not t16_16) (fun t17_17 =>
   guardT (some t17_17, false) (fun k => takeW Tryz.prog anyW (Instr.fieldAt 121 c_12 1) k w) (fun t19_18 =>
   guardT (some t17_17, false) (fun k => takeW Tryz.prog (sameW w) (Instr.loadAt 3 t19_18) k w) (fun t20_19 =>
   guardT (some t17_17, false) (fun k => k least_2) (fun t21_20 =>
   guardW (some t17_17, false) (fun k w => callW Tryz.prog (Value.func (Fn.func 86) #[] #[]) #[t20_19, t21_20, (Value.int IntKind.i64 12)] k w) (fun t22_21 w => keepS S (fun w =>
   guardT (some t17_17, false) (fun k => takeW Tryz.prog anyW (Op.unary UnOp.not t22_21) k w) (fun t23_22 =>
   pickT t17_17 (Value.bool true) t23_22 (fun t24_23 =>
   guardT (some t24_23, false) (fun k => k t9_5) (fun t26_24 =>
   guardT (some t24_23, false) (fun k => takeW Tryz.prog anyW (binS BinOp.gtr 3 (Operand.tmp 26) (Operand.const (Value.int IntKind.i64 0)) t26_24 (Value.int IntKind.i64 0)) k w) (fun t27_25 =>
   guardT (some t24_23, false) (fun k => k t27_25) (fun t28_26 =>
   guardT (some t28_26, true) (fun k => k l_1) (fun t29_27 =>
   guardT (some t28_26, true) (fun k => k t9_5) (fun t30_28 =>
   guardT (some t28_26, true) (fun k => takeW Tryz.prog anyW (binS BinOp.sub 3 (Operand.tmp 30) (Operand.const (Value.int IntKind.i64 1)) t30_28 (Value.int IntKind.i64 1)) k w) (fun t31_29 =>
   guardT (some t28_26, true) (fun k => takeW Tryz.prog anyW (Instr.indexAt 26 t29_27 t31_29) k w) (fun t32_30 =>
   guardT (some t28_26, true) (fun k => takeW Tryz.prog anyW (Instr.fieldAt 121 t32_30 0) k w) (fun t33_31 =>
   guardT (some t28_26, true) (fun k => takeW Tryz.prog (sameW w) (Instr.loadAt 3 t33_31) k w) (fun t34_32 =>
   guardT (some t28_26, true) (fun k => takeW Tryz.prog anyW (Instr.fieldAt 121 c_12 0) k w) (fun t35_33 =>
   guardT (some t28_26, true) (fun k => takeW Tryz.prog (sameW w) (Instr.loadAt 3 t35_33) k w) (fun t36_34 =>
   guardT (some t28_26, true) (fun k => takeW Tryz.prog anyW (binS BinOp.geq 3 (Operand.tmp 34) (Operand.tmp 36) t34_32 t36_34) k w) (fun t37_35 =>
   guardT (some t24_23, false) (fun k => pickT t28_26 t37_35 (Value.bool false) k) (fun t38_36 =>
   pickT t24_23 (Value.bool true) t38_36 (fun t39_37 =>
   condW t39_37
   (k (Value.bool false) w)
   (opW Tryz.prog (binS BinOp.add 3 (Operand.tmp 9) (Operand.const (Value.int IntKind.i64 1)) t9_5 (Value.int IntKind.i64 1)) (fun t40_38 w =>
   loopK [] [] [l_1, least_2, l_1, t8_3] [l_1, least_2, l_1, t8_3] (K_6 t40_38 w)) w)))))))))))))))))) w) w)))) w) w) w) w)) w) w) w) w)
   (k (Value.bool true) w)) w) (Value.int IntKind.i64 0) w) w
theorem S88_vc (l_1 least_2 : Value) (k : Value → World → Prop) (w : World) : vc Tryz.prog Tryz.f88.ntmps ann88 none ((Tryz.f88.body).getD Code.skip) 1 (params 0 [l_1, least_2]) [] (finQ Tryz.prog Tryz.f88.results.toList k) w = S88 l_1 least_2 k w := by kernel_rfl
theorem S88_calls (l_1 least_2 : Value) (k : Value → World → Prop) (w : World) (h : S88 l_1 least_2 k w) : Calls Tryz.prog 88 #[l_1, least_2] w (retP k) :=
  calls_of_vc (fn := Tryz.f88) (c := (Tryz.f88.body).getD Code.skip) ann88 Tryz.func88 (by kernel_rfl) [l_1, least_2] w k (by kernel_rfl) ((S88_vc l_1 least_2 k w).symm ▸ h)
theorem C88 (l_1 least_2 : Value) (k : Value → World → Prop) (w : World) (h : S88 l_1 least_2 k w) : callW Tryz.prog (.func (.func 88) #[] #[]) #[l_1, least_2] k w :=
  callW_calls ok88 (by simpa using S88_calls l_1 least_2 k w h)

end
end Go.Proofs.YtfkfkldhcignbaaGreatDoor
