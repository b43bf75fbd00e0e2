/- Part 6 of the proof of relayMatchesReference: lemmas for it; no condition beyond the statement. -/
import Derived.Test.YtklknkmeljjmgaaGreatDoorKf4
/- The digest: the words as a string; chunks; Sum. -/
set_option linter.unusedSimpArgs false
set_option linter.unusedVariables false
set_option maxRecDepth 4000
namespace Go.Proofs.YtklknkmeljjmgaaGreatDoor
open Go Go.V Go.RowKit
def padBy (N : Nat) (l : List UInt8) : List Value := (l ++ List.replicate (N - l.length) 0).map bV
theorem padBy_set {N : Nat} {l : List UInt8} {x : UInt8} (h : l.length < N) : (padBy N l).set l.length (bV x) = padBy N (l ++ [x]) := by
  unfold padBy
  obtain ⟨m, hm⟩ : ∃ m, N - l.length = m + 1 := ⟨N - l.length - 1, by omega⟩
  rw [hm, show N - (l ++ [x]).length = m by simp; omega, ← List.map_set, List.set_append_right _ _ (Nat.le_refl _), Nat.sub_self, List.replicate_succ, List.set_cons_zero]
  simp
theorem padBy_length {N : Nat} {l : List UInt8} (h : l.length ≤ N) : (padBy N l).length = N := by simp [padBy]; omega
theorem outB_get (u : V8) (i c : Nat) (hi : i < 8) (hc : c < 4) : (outB u)[4 * i + c]? = some (bW (u.l.getD i 0 >>> (24 - 8 * c))) := by
  have e0 : ∀ x : W32, x >>> (0 : Nat) = x := fun x => by simp
  rcases i with _ | _ | _ | _ | _ | _ | _ | _ | i <;> (try omega) <;> rcases c with _ | _ | _ | _ | c <;> (try omega) <;> simp [outB, V8.l, b4]
section
variable {k : Value → World → Prop} {K : Value → Prop} {S : World → Prop} {w w0 : World} {v : Value} {q : IntKind} {m : Int} {i : Nat} {b B : Nat} {vs : List Value} {u : Value} {t : TypeId}
theorem c66 {u : V8} (hk : ∀ w', Below w.heap.size w w' → k (.string ⟨(outB u).toArray⟩) w') : callW Tryz.prog (.func (.func 66) #[] #[]) #[.agg (u.l.map uV).toArray] k w := C66 _ _ _ (by
  unfold S66
  refine w_boxN fun w1 hb1 hsz1 hr1 => ?_
  refine al123 fun w2 hb2 hsz2 hr2 => ?_
  generalize hpo : w1.heap.size = po at *
  have hr1' := hr1.below (by rw [hpo]; exact hb2)
  rw [ld91 (vs := u.l.map uV) rfl hr1'.cells]
  have hb02 := hb1.trans (hb2.mono (by omega))
  have hlo := outB_length u
  generalize hA : w.heap.size = A at *
  have step : ∀ n : Nat, n < 32 → ∀ (w' : World) (x : UInt8), (outB u)[n]? = some x → RowAt w' po 123 (padBy 32 ((outB u).take n)) → Below A w w' → ∀ KK : World → Prop, (∀ w'', RowAt w'' po 123 (padBy 32 ((outB u).take (n + 1))) → Below A w w'' → KK w'') →
      opU Tryz.prog (Instr.storeAt 5 (.pointer (some ⟨po, n, none⟩)) (bV x)) (fun _ w => KK w) w' := fun n hn w' x hx hr hb KK hKK => by
    have hlt : ((outB u).take n).length = n := by rw [List.length_take]; omega
    have hlr : (padBy 32 ((outB u).take n)).length = 32 := padBy_length (by omega)
    rw [st5 (show (bV x).oneCell' = true from rfl) (hr.cell (List.getElem?_eq_getElem (i := n) (by omega))) (hr.free _)]
    refine hKK _ ?_ (hb.setCell (p := ⟨po, n, none⟩) (by show A ≤ po; omega) _)
    have := hr.set n (bV x)
    have e := padBy_set (N := 32) (l := (outB u).take n) (x := x) (by omega)
    rw [hlt, take_snoc hx] at e
    rw [← e]; exact this
  refine Loop1.intro (fun n a w' => ∃ i : Nat, a = I i ∧ i ≤ 8 ∧ n = 8 - i ∧ Below A w w' ∧ RowAt w' po 123 (padBy 32 ((outB u).take (4 * i)))) _ ⟨0, rfl, by omega, rfl, hb02, hr2⟩ ?_
  rintro n _ w3 ⟨i, rfl, hi, rfl, hb3, hr3⟩
  rw [w_lss]
  by_cases hlt : i < 8
  · rw [decide_eq_true (by omega), condW_true]
    rw [w_idxA (n := 8) (e := 89) (i := i) (x := uV (u.l.getD i 0)) (by kernel_rfl) agg89 known89 size89 rfl (by omega) (by rw [List.getElem?_toArray]; exact mapU u i hlt)]
    refine Loop1.intro (fun n a w' => ∃ c : Nat, a = I c ∧ c ≤ 4 ∧ n = 4 - c ∧ Below A w w' ∧ RowAt w' po 123 (padBy 32 ((outB u).take (4 * i + c)))) _ ⟨0, rfl, by omega, rfl, hb3, hr3⟩ ?_
    rintro n _ w4 ⟨c, rfl, hc, rfl, hb4, hr4⟩
    rw [w_lss]
    by_cases hlt4 : c < 4
    · rw [decide_eq_true (by omega), condW_true, w_mul, wrap_id (by omega), w_add, wrap_id (by omega), w_mul, wrap_id (by omega), w_sub, wrap_id (by omega), w_shrU (n := 24 - 8 * c) (by omega) (by omega), w_toB]
      rw [opW_ok (run_indexArr (n := 32) (e := 5) (by kernel_rfl) known5 (by omega) (by omega) w4), size5, Nat.mul_one, Nat.zero_add, show (4 * (i : Int) + (c : Int)).toNat = 4 * i + c by omega]
      refine step (4 * i + c) (by omega) w4 _ (outB_get u i c hlt hlt4) hr4 hb4 _ fun w5 hr5 hb5 => ?_
      rw [w_add, wrap_id (by omega), loopK_self]
      exact ⟨4 - (c + 1), by omega, c + 1, by simp [I], by omega, rfl, hb5, hr5⟩
    · rw [decide_eq_false (by omega), condW_false]
      obtain rfl : c = 4 := by omega
      rw [w_add, wrap_id (by omega), loopK_self]
      exact ⟨8 - (i + 1), by omega, i + 1, by simp [I], by omega, rfl, hb4, hr4⟩
  rw [decide_eq_false (by omega), condW_false]
  obtain rfl : i = 8 := by omega
  rw [List.take_of_length_le (by omega)] at hr3
  rw [opW_ok (show (Instr.sliceAt 123 (.pointer (some ⟨po, 0, none⟩)) none none none).run Tryz.prog w3 = .ok (.slice (some ⟨po, 0, none⟩) 32 32) w3 by kernel_rfl)]
  have hsl : IsSl fB w3 (.slice (some ⟨po, 0, none⟩) 32 32) (outB u) := by
    refine ⟨_, 32, by rw [hlo], by omega, fun i x hx => ⟨po, 0, rfl, fun j y hy => ?_⟩⟩
    have hj : j = 0 := by
      have := (List.getElem?_eq_some_iff.1 hy).1
      simp [fB] at this; exact this
    subst hj
    have : y = bV x := by simp [fB] at hy; exact hy.symm
    subst this
    have hc := hr3.cell (i := i) (u := bV x) (by
      unfold padBy
      rw [List.getElem?_map, List.getElem?_append_left (List.getElem?_eq_some_iff.1 hx).1, hx]; rfl)
    show w3.cell? ⟨po, 0 + i * 1 + 0, none⟩ = _
    rw [show 0 + i * 1 + 0 = i by omega]; exact hc
  rw [w_toStr (e := 5) (l := outB u) (by kernel_rfl) (by kernel_rfl) (by kernel_rfl) hsl (by intro hh; rw [hh] at hlo; cases hlo)]
  exact hk _ (by rw [← hA] at hb3; rw [← hA]; exact hb3))
/-- the chunks, one after the other -/
theorem iter86 {wI : World} {g n c b1 b2 m : Nat} (hn : n = 64 * m) (hm : m ≤ 1000000) (hc : n ≤ c) (h1 : RowAt w b1 69 [.slice (some ⟨g, 0, none⟩) n c]) (h2 : RowAt w b2 3 [I 64]) :
    IterLaw Tryz.prog 86 #[.pointer (some ⟨b1, 0, none⟩), .pointer (some ⟨b2, 0, none⟩)] ((List.range m).map fun i => [.slice (some ⟨g, 64 * i, none⟩) 64 64]) wI (fun b => b = b1 ∨ b = b2) w := by
  intro yield Inv F0 k hY hF h0 hbI hk
  refine S86_calls yield (.pointer (some ⟨b1, 0, none⟩)) (.pointer (some ⟨b2, 0, none⟩)) k w ?_
  unfold S86
  refine Loop1.intro (fun n' a w' => ∃ (i : Nat) (F : Nat → Prop), a = I (64 * i : Nat) ∧ i ≤ m ∧ n' = m - i ∧ Below wI.heap.size wI w' ∧ RowAt w' b1 69 [.slice (some ⟨g, 0, none⟩) n c] ∧ RowAt w' b2 3 [I 64] ∧ Inv i true F w' ∧ ¬ F b1 ∧ ¬ F b2) _
    ⟨0, F0, rfl, by omega, rfl, hbI, h1, h2, h0, hF _ (.inl rfl), hF _ (.inr rfl)⟩ ?_
  rintro n' _ w1 ⟨i, F, rfl, hi, rfl, hb1, hr1, hr2, hi1, hF1, hF2⟩
  rw [ld69 (hr1.cell (i := 0) rfl), leno69, w_lss]
  by_cases hlt : i < m
  · rw [decide_eq_true (by omega), condW_true, drewW_eq]
    have hb1 := hb1.trans (Below.refl _ w1).drew
    replace hr1 := hr1.drew
    replace hr2 := hr2.drew
    replace hi1 : Inv i true F w1.drew := hY.stab _ _ _ _ _ (fun _ => False) hi1 (Off.below (Below.refl _ w1).drew) fun _ _ => id
    generalize w1.drew = w2 at *
    rw [xld3 (hr2.cell (i := 0) rfl), xld69 (hr1.cell (i := 0) rfl), takeW_pure (run_sliceFrom (n := n) (c := c) (i := 64 * i) (q := .i64) (by kernel_rfl) (by kernel_rfl) (by omega)), tleno69, t_min, if_neg (by omega), ld69 (hr1.cell (i := 0) rfl), w_add, wrap_id (by omega), w_add, wrap_id (by omega)]
    rw [opW_ok (show (Instr.sliceAt 69 (.slice (some ⟨g, 0, none⟩) n c) (some (I (64 * i : Nat))) (some (.int .i64 (((64 * i : Nat) : Int) + 64))) (some (.int .i64 (((64 * i : Nat) : Int) + 64)))).run Tryz.prog w2 = .ok (.slice (some ⟨g, 64 * i, none⟩) 64 64) w2 by
      rw [run_sliceAt_slice _ _ _ _ _ _ (by kernel_rfl), run_slice_lhm w2 69 _ _ c (by kernel_rfl) .i64 .i64 .i64 _ _ _ (by omega) (by omega) (by omega) (by omega), Go.V.run_sizeOf (by kernel_rfl)]
      simp only [Result.andThen]
      rw [show (((64 * i : Nat) : Int) + 64).toNat = 64 * i + 64 by omega, show ((64 * i : Nat) : Int).toNat = 64 * i by omega, show sizeT Tryz.prog (Tryz.prog.elem 69) = 1 by kernel_rfl]
      unfold sliced
      rw [if_neg (by omega)]
      simp [Addr.add_lit])]
    refine hY.call i _ F w2 _ hi1 hb1 (by rw [List.getElem?_map, List.getElem?_range hlt]; rfl) fun b F' w3 hb3 ho3 hF3 hi3 => ?_
    rw [w_not]
    cases b with
    | false =>
      simp only [Bool.not_false, condW_true]
      exact hk _ _ _ _ hb3 hi3 fun h => by cases h
    | true =>
      simp only [Bool.not_true, condW_false]
      have hl1 := hr1.lt
      have hl2 := hr2.lt
      have hr1' := hr1.off ho3 hF1
      have hr2' := hr2.off ho3 hF2
      rw [ld3 (hr2'.cell (i := 0) rfl), w_add, wrap_id (by omega), loopK_self]
      exact ⟨m - (i + 1), by omega, i + 1, F', by simp [I]; omega, by omega, rfl, hb3, hr1', hr2', hi3, fun hh => (hF3 _ hh).elim hF1 (by omega), fun hh => (hF3 _ hh).elim hF2 (by omega)⟩
  · rw [decide_eq_false (by omega), condW_false]
    exact hk _ _ _ _ hb1 hi1 fun _ => by simp; omega
theorem c64 {sv : Value} (hs : sv.cells = #[sv]) (hk : ∀ w', Below w.heap.size w w' → w'.heap.size = w.heap.size + 2 → RowAt w' w.heap.size 69 [sv] → RowAt w' (w.heap.size + 1) 3 [I 64] → k (.func (.func 86) #[] #[.pointer (some ⟨w.heap.size, 0, none⟩), .pointer (some ⟨w.heap.size + 1, 0, none⟩)]) w') :
    callW Tryz.prog (.func (.func 64) #[] #[]) #[sv, I 64] k w := C64 _ _ _ _ (by
  unfold S64
  refine w_boxN fun w1 hb1 hsz1 hr1 => ?_
  refine w_boxN fun w2 hb2 hsz2 hr2 => ?_
  refine joinW_use0 (Pre := fun w' => w' = w2) ?_ ?_
  · rintro _ rfl
    rw [w_makeFunc, hsz1]
    rw [hsz1] at hr2
    exact hk _ (hb1.trans (hb2.mono (by omega))) (by omega) (by rw [hs] at hr1; exact hr1.below hb2) hr2
  intro J hJ
  rw [ld3 (hr2.cell (i := 0) rfl), w_lss, decide_eq_false (by decide), condW_false]
  exact hJ _ rfl)
end
end Go.Proofs.YtklknkmeljjmgaaGreatDoor
/- The digest: Sum. -/
set_option linter.unusedSimpArgs false
set_option linter.unusedVariables false
set_option maxRecDepth 4000
namespace Go.Proofs.YtklknkmeljjmgaaGreatDoor
open Go Go.V Go.RowKit
section
variable {k : Value → World → Prop} {w : World}
theorem bld91 {KK : Value → World → Prop} {u : World} : opW Tryz.prog (Instr.build 91 #[(0, (Value.int IntKind.u32 1779033703)), (1, (Value.int IntKind.u32 3144134277)), (2, (Value.int IntKind.u32 1013904242)), (3, (Value.int IntKind.u32 2773480762)), (4, (Value.int IntKind.u32 1359893119)), (5, (Value.int IntKind.u32 2600822924)), (6, (Value.int IntKind.u32 528734635)), (7, (Value.int IntKind.u32 1541459225))]) KK u = KK (.agg (H0.l.map uV).toArray) u := opW_ok (by kernel_rfl)
theorem c41 {s : ByteArray} (hg : Gl w) (hs : s.size ≤ 1000000) (hk : ∀ w', Below w.heap.size w w' → k (.string (shaF s)) w') : callW Tryz.prog (.func (.func 41) #[] #[]) #[.string s] k w := C41 _ _ _ (by
  unfold S41
  rw [bld91]
  refine al91 fun w1 hb1 hsz1 hr1 => ?_
  generalize hA : w.heap.size = A at *
  rw [sta91 (vs := H0.l.map uV) rfl (mapU_one _) (rowCells hr1 rfl) (fun j hj => hr1.free _)]
  have hr2 := row_store (vs := H0.l.map uV) hr1 rfl
  have hb2 : Below A w (setCells w1 A 0 (H0.l.map uV)) := hb1.trans (below_setCells (Nat.le_refl _) _ _ _)
  generalize setCells w1 A 0 (H0.l.map uV) = w2 at *
  have hA2 := hr2.lt
  have hds : s.data.toList.length = s.size := rfl
  refine w_bytes hs fun b0 w3 hb3 hm3 => ?_
  have hs3 := hb3.size
  refine MineZ.push (x := 128) hm3 hs3 (by omega) fun b1 w4 hb4 hm4 => ?_
  replace hb4 := hb3.trans hb4
  have hs4 := hb4.size
  refine Loop1.intro (fun n b w' => ∃ j : Nat, j ≤ zN s.size ∧ n = zN s.size - j ∧ Below w2.heap.size w2 w' ∧ MineZ w' w2.heap.size b (s.data.toList ++ [128] ++ List.replicate j 0)) _ ⟨0, by omega, rfl, hb4, by simpa using hm4⟩ ?_
  rintro n b5 w5 ⟨j, hj, rfl, hb5, hm5⟩
  have hl5 : (s.data.toList ++ [128] ++ List.replicate j 0).length = s.size + 1 + j := by simp; omega
  have hz : zN s.size < 64 := by unfold zN; omega
  have hs5 := hb5.size
  rw [len69 hm5.sl, hl5, w_rem (by omega), w_neq]
  by_cases hne : (s.size + 1 + j) % 64 = 56
  case neg =>
    rw [decide_eq_false (by rw [show ((64 : Int)) = ((64 : Nat) : Int) from rfl, Int.tmod_eq_emod_of_nonneg (by omega)]; omega), Bool.not_false, condW_true]
    have hj2 : j < zN s.size := by
      rcases Nat.lt_or_ge j (zN s.size) with h | h
      · exact h
      · exact absurd (by unfold zN at *; omega) hne
    refine MineZ.push (x := 0) hm5 hs5 (by omega) fun b6 w6 hb6 hm6 => ?_
    rw [loopK_self]
    exact ⟨zN s.size - (j + 1), by omega, j + 1, by omega, rfl, hb5.trans hb6, by rw [List.replicate_succ', ← List.append_assoc]; exact hm6⟩
  rw [decide_eq_true (by rw [show ((64 : Int)) = ((64 : Nat) : Int) from rfl, Int.tmod_eq_emod_of_nonneg (by omega)]; omega), Bool.not_true, condW_false]
  obtain rfl : j = zN s.size := by unfold zN at *; omega
  refine Loop2.intro (fun n b a w' => ∃ q : Nat, a = I (7 - (q : Int)) ∧ q ≤ 8 ∧ n = 8 - q ∧ Below w2.heap.size w2 w' ∧ MineZ w' w2.heap.size b (padB s ++ (List.range q).map fun y => lenB s.size (7 - y))) _ ⟨0, rfl, by omega, rfl, hb5, by simpa [padB] using hm5⟩ ?_
  rintro n b6 _ w6 ⟨q, rfl, hq, rfl, hb6, hm6⟩
  have hs6 := hb6.size
  rw [w_geq]
  by_cases hq8 : q < 8
  · rw [decide_eq_true (by omega), condW_true, w_lenStr (by kernel_rfl), w_mul, w_mul, wrap_id (n := 8 * (7 - (q : Int))) (by omega), w_shr (by omega), w_toB3]
    refine MineZ.push hm6 hs6 (by simp [padB]; omega) fun b7 w7 hb7 hm7 => ?_
    rw [w_sub, wrap_id (by omega), loopK_self]
    refine ⟨8 - (q + 1), by omega, q + 1, by simp [I]; omega, by omega, rfl, hb6.trans hb7, ?_⟩
    rw [List.range_succ, List.map_append, ← List.append_assoc]
    have e1 : bI ((IntKind.i64.wrap (8 * (s.size : Int))).fdiv (2 ^ min (8 * (7 - (q : Int))).toNat IntKind.i64.bits)) = lenB s.size (7 - q) := by
      unfold lenB
      rw [show (8 * (7 - (q : Int))).toNat = 8 * (7 - q) by omega]; rfl
    rw [e1] at hm7
    exact hm7
  rw [decide_eq_false (by omega), condW_false]
  obtain rfl : q = 8 := by omega
  have hmp : MineZ w6 w2.heap.size b6 (padL s) := hm6
  obtain ⟨hpl, hpm⟩ := padL_length s
  have hsha : shaF s = ⟨(outB (hsh (padL s) ((padL s).length / 64))).toArray⟩ := rfl
  generalize hgp : padL s = p at *
  have hr6 := hr2.below hb6
  have hb06 : Below A w w6 := hb2.trans (hb6.mono (by omega))
  clear hm6 hm5 hm4 hm3 hb5 hb4 hb3 hr1
  obtain ⟨g, cap, _, _, hb6e, hgB, _, _, hpc, _⟩ := id hmp
  obtain ⟨m, hm⟩ : ∃ m, p.length = 64 * m := ⟨p.length / 64, by omega⟩
  subst hb6e
  refine c64 rfl fun w7 hb7 hsz7 h71 h72 => ?_
  have hr7 := hr6.below hb7
  have hm7 := hmp.below hb7
  have hb07 : Below A w w7 := hb06.trans (hb7.mono (by omega))
  refine range_of (wI := w) (own := fun b => b = w6.heap.size ∨ b = w6.heap.size + 1) (Inv := fun n j F w' => j = none ∧ RowAt w' A 91 ((hsh p n).l.map uV) ∧ MineZ w' w2.heap.size (.slice (some ⟨g, 0, none⟩) p.length cap) p ∧ ∀ b, F b ↔ b = A ∨ b = g) (F0 := fun b => b = A ∨ b = g)
    ok86 (fun w8 hb8 => iter86 hm (by omega) hpc (h71.below hb8) (h72.below hb8)) (fun a ha => by obtain ⟨d, _, rfl⟩ := List.mem_map.1 ha; rfl) (by rw [hA]; exact hb07)
    (fun b hb => ?_) ⟨rfl, hr7, hm7, fun b => Iff.rfl⟩ ?_ ?_ ?_ ?_
  · have hg6 := (hmp.ge (b := g) rfl).2
    refine ⟨fun h => ?_, ?_⟩
    · rcases hb with h1 | h1 <;> rcases h with h2 | h2 <;> omega
    · rcases hb with h1 | h1 <;> omega
  · rintro n j F u u' pp ⟨rfl, hr, hmm, hF⟩ ho hp
    exact ⟨rfl, hr.off ho (hp _ ((hF _).2 (.inl rfl))), hmm.off ho fun b hb => hp b ((hF b).2 (.inr (by cases hb; rfl))), hF⟩
  · rintro n j F u b ⟨rfl, hr, hmm, hF⟩ hb
    rw [hA]
    rcases (hF b).1 hb with rfl | rfl
    · exact ⟨Nat.le_refl _, hr.lt⟩
    · have := hmm.ge (b := b) rfl
      omega
  · rintro n a F w8 d0 ready o kk ha ⟨_, hr8, hm8, hF⟩ hb8 hrdy hd hdI hdF hkk
    rw [List.getElem?_map, Option.map_eq_some_iff] at ha
    obtain ⟨i, hi, rfl⟩ := ha
    have hn := (List.getElem?_eq_some_iff.1 hi).1
    rw [List.length_range] at hn
    rw [List.getElem?_range hn] at hi
    cases hi
    refine ⟨hrdy _ (Below.refl _ _), ?_⟩
    have hput : Off (· = d0) w8 (w8.putObj d0 o) := off_putObj rfl
    have hbp : Below A w8 (w8.putObj d0 o) := below_putObj (by rw [← hA]; exact hdI)
    have hr9 := hr8.off hput (fun hh => hdF ((hF _).2 (.inl hh.symm)))
    have hm9 := hm8.off hput fun b hb hh => hdF ((hF _).2 (.inr (by cases hb; exact hh.symm)))
    rw [hA] at hb8
    have hb9 := hb8.trans hbp
    have hs9 : (w8.putObj d0 o).heap.size = w8.heap.size := by simp
    show callW _ _ _ _ (w8.putObj d0 o)
    generalize hw9 : w8.putObj d0 o = w9 at *
    have hsl : IsSl fB w9 (.slice (some ⟨g, 64 * n, none⟩) 64 64) ((p.drop (64 * n)).take 64) := by
      have := hm9.sl.slicedTo (lo := 64 * n) (hi := 64 * n + 64) (mx := 64 * n + 64) (by omega) (by omega) (Nat.le_refl _)
      unfold sliced at this
      rw [if_neg (by omega), show 64 * n + 64 - 64 * n = 64 by omega] at this
      simpa [Addr.add_lit, fB] using this
    refine c65 (hg.below hb9 (by have := hg.2; omega)) hr9 hsl (by rw [List.length_take, List.length_drop]; omega) fun w10 hb10 ho10 hr10 => ?_
    have hgA : g ≠ A := by omega
    refine hkk none (fun b => b = A ∨ b = g) w8 w10 (Below.refl _ _) (by rw [hA]; exact hb9.trans hb10) ?_ (fun b hb => .inl ((hF b).2 hb)) ⟨rfl, hr10, hm9.off ho10 fun b hb hh => hgA (by cases hb; exact hh), fun b => Iff.rfl⟩
    rw [hw9]; exact ho10.mono fun b _ h => .inl ((hF b).2 (.inl h))
  · rintro n j F w8 d0 hn hb8 ⟨rfl, hr8, hm8, hF⟩ hd hdI hdF hdd
    rw [jumpW_none]
    rw [ld91 (vs := (hsh p n).l.map uV) rfl hr8.cells]
    have hn := hn rfl
    rw [List.length_map, List.length_range] at hn
    refine c66 fun w9 hb9 => ?_
    have hd9 : w9.heap[d0]? = some (.deferred (some [])) := by rw [hb9.block _ hd]; exact hdd
    refine ⟨hd9, ?_⟩
    have e1 : shaF s = ⟨(outB (hsh p n)).toArray⟩ := by rw [hsha, hn, hm]; congr 5; omega
    rw [← e1]
    rw [hA] at hb8
    have hs8 := hb8.size
    exact hk _ ((hb8.trans (hb9.mono (by omega))).trans (below_putObj (by omega))))
end
end Go.Proofs.YtklknkmeljjmgaaGreatDoor
/- Print. -/
set_option linter.unusedSimpArgs false
set_option linter.unusedVariables false
namespace Go.Proofs.YtklknkmeljjmgaaGreatDoor
open Go Go.V Go.RowKit
/-- what is printed with so much paper, and the paper that stays -/
def printT : Int → List Disp → List Disp × Int
  | p, [] => ([], p)
  | p, d :: l => if p < pagesD d then ([], p) else (d :: (printT (p - pagesD d) l).1, (printT (p - pagesD d) l).2)
noncomputable def slipOf (r : Rel) (d : Disp) : Slp := ⟨r.id, d.story, d.ed, shaF d.text⟩
theorem byClass_len (l : List Disp) : (byClass l).length ≤ l.length := by
  unfold byClass
  rw [List.length_append, List.length_append]
  induction l with
  | nil => simp
  | cons d l ih =>
    simp only [List.filter_cons, List.length_cons]
    by_cases h1 : d.cls = 1
    · simp [h1]; omega
    · by_cases h2 : d.cls = 2
      · simp [h2]; omega
      · by_cases h3 : d.cls = 3
        · simp [h3]; omega
        · simp [h1, h2, h3]; omega
theorem waitL_len (r : Rel) : (waitL r).length ≤ r.kept.length := Nat.le_trans (List.length_filter_le _ _) (byClass_len _)
theorem pagesD_nonneg (d : Disp) : 0 ≤ pagesD d ∧ pagesD d ≤ 201 := by
  unfold pagesD
  split
  · rename_i h
    have := h.2.2.2
    omega
  · omega
/-- what Print does -/
def printR (r : Rel) (e : Int) (r' : Rel) (done : List Disp) : Prop :=
  (ValidR r ∧ ∃ S r1, S.Perm ((printT r.paper (waitL r)).1.map (slipOf r)) ∧ SortedBut cmpP S S.length S.length ∧ joinR r [] S e r1 ∧
    ((e ≠ 0 ∧ r' = zeroR ∧ done = []) ∨ (e = 0 ∧ r' = { r1 with paper := (printT r.paper (waitL r)).2 } ∧ done = (printT r.paper (waitL r)).1))) ∨
  (¬ ValidR r ∧ e = 250 ∧ r' = zeroR ∧ done = [])
theorem joinW_useN {J : Nat → World → Prop} {B : (Nat → World → Prop) → Prop} (Pre : Nat → World → Prop) (h1 : ∀ a w, Pre a w → J a w) (h2 : ∀ J', (∀ a w, Pre a w → J' a w) → B J') : joinW J B := h2 J h1
/-- Print's variables -/
structure PV (B p1 p2 p3 : Nat) (w : World) (vd vs : Value) (D : List Disp) (E : List Slp) (pp : Int) : Prop where
  d : LV fD 31 24 B p1 w vd D
  s : LV fP 63 25 B p2 w vs E
  p : RowAt w p3 3 [I pp]
  d2 : ¬ isOf vd p2
  d3 : ¬ isOf vd p3
  s1 : ¬ isOf vs p1
  s3 : ¬ isOf vs p3
  ds : ∀ b, isOf vd b → ¬ isOf vs b
def pvF (p1 p2 p3 : Nat) (vd vs : Value) (b : Nat) : Prop := b = p1 ∨ b = p2 ∨ b = p3 ∨ isOf vd b ∨ isOf vs b
theorem PV.off {B p1 p2 p3 : Nat} {w w' : World} {vd vs : Value} {D : List Disp} {E : List Slp} {pp : Int} {q : Nat → Prop} (h : PV B p1 p2 p3 w vd vs D E pp) (ho : Off q w w') (hq : ∀ b, pvF p1 p2 p3 vd vs b → ¬ q b) : PV B p1 p2 p3 w' vd vs D E pp :=
  ⟨h.d.off ho (hq _ (.inl rfl)) fun b hb => hq b (.inr (.inr (.inr (.inl hb)))), h.s.off ho (hq _ (.inr (.inl rfl))) fun b hb => hq b (.inr (.inr (.inr (.inr hb)))), h.p.off ho (hq _ (.inr (.inr (.inl rfl)))), h.d2, h.d3, h.s1, h.s3, h.ds⟩
theorem PV.below {B p1 p2 p3 : Nat} {w w' : World} {vd vs : Value} {D : List Disp} {E : List Slp} {pp : Int} (h : PV B p1 p2 p3 w vd vs D E pp) (hb : Below w.heap.size w w') : PV B p1 p2 p3 w' vd vs D E pp := h.off (Off.below (p := fun _ => False) hb) fun _ _ => id
theorem PV.lt {B p1 p2 p3 : Nat} {w : World} {vd vs : Value} {D : List Disp} {E : List Slp} {pp : Int} (h : PV B p1 p2 p3 w vd vs D E pp) (h3 : B ≤ p3) {b : Nat} (hb : pvF p1 p2 p3 vd vs b) : B ≤ b ∧ b < w.heap.size := by
  rcases hb with hb | hb | hb | hb | hb
  · exact h.d.lt (.inl hb)
  · exact h.s.lt (.inl hb)
  · subst hb; exact ⟨h3, h.p.lt⟩
  · exact h.d.lt (.inr hb)
  · exact h.s.lt (.inr hb)
theorem PV.pushD {B p1 p2 p3 : Nat} {w : World} {vd vs : Value} {D : List Disp} {E : List Slp} {pp : Int} {d : Disp} {K : World → Prop} (h : PV B p1 p2 p3 w vd vs D E pp) (hB : B ≤ w.heap.size) (hl : D.length ≤ 10000) (h12 : p1 ≠ p2) (h13 : p1 ≠ p3)
    (hk : ∀ vd' w', PV B p1 p2 p3 w' vd' vs (D ++ [d]) E pp → Below B w w' → Off (pvF p1 p2 p3 vd vs) w w' → (∀ b, isOf vd' b → isOf vd b ∨ w.heap.size ≤ b) → K w') :
    opW Tryz.prog (Instr.buildSlice 24 1 #[(0, agD d)]) (fun s w => opW Tryz.prog (Builtin.append_ #[24, 24] 24 #[vd, s]) (fun r w => opU Tryz.prog (Instr.storeAt 24 (.pointer (some ⟨p1, 0, none⟩)) r) (fun _ w => K w) w) w) w := by
  have l2 := (h.s.lt (.inl rfl)).2
  have l3 := h.p.lt
  refine h.d.pushD hB hl fun v' w' hd hb hof hnew => ?_
  refine hk v' w' ⟨hd, h.s.off hof (fun hh => hh.elim (fun hh => h12 hh.symm) h.d2) (fun b hb hh => hh.elim (fun hh => h.s1 (hh ▸ hb)) fun hh => h.ds b hh hb), h.p.off hof (fun hh => hh.elim (fun hh => h13 hh.symm) h.d3),
    fun hh => (hnew _ hh).elim h.d2 (by omega), fun hh => (hnew _ hh).elim h.d3 (by omega), h.s1, h.s3, fun b hb hs => (hnew _ hb).elim (fun hb => h.ds b hb hs) (by have := (h.s.own.ge hs).2; omega)⟩ hb (hof.mono fun b _ hh => hh.elim .inl fun hh => .inr (.inr (.inr (.inl hh)))) hnew
theorem PV.pushP {B p1 p2 p3 : Nat} {w : World} {vd vs : Value} {D : List Disp} {E : List Slp} {pp : Int} {d : Slp} {K : World → Prop} (h : PV B p1 p2 p3 w vd vs D E pp) (hB : B ≤ w.heap.size) (hl : E.length ≤ 10000) (h12 : p1 ≠ p2) (h23 : p2 ≠ p3) {S : World → Prop} (hS : ∀ w', Below w.heap.size w w' → S w') (hS' : ∀ w', Below B w w' → Off (isOf vs) w w' → S w')
    (hk : ∀ vs' w', PV B p1 p2 p3 w' vd vs' D (E ++ [d]) pp → Below B w w' → Off (pvF p1 p2 p3 vd vs) w w' → (∀ b, isOf vs' b → isOf vs b ∨ w.heap.size ≤ b) → K w') :
    opW Tryz.prog (Instr.buildSlice 25 1 #[(0, agP d)]) (fun s w => keepS S (fun w => opW Tryz.prog (Builtin.append_ #[25, 25] 25 #[vs, s]) (fun r w => keepS S (fun w => opU Tryz.prog (Instr.storeAt 25 (.pointer (some ⟨p2, 0, none⟩)) r) (fun _ w => K w) w) w) w) w) w := by
  have l1 := (h.d.lt (.inl rfl)).2
  have l3 := h.p.lt
  refine h.s.pushP hB hl hS hS' fun v' w' hd hb hof hnew => ?_
  refine hk v' w' ⟨h.d.off hof (fun hh => hh.elim (fun hh => h12 hh) h.s1) (fun b hb hh => hh.elim (fun hh => h.d2 (hh ▸ hb)) fun hh => h.ds b hb hh), hd, h.p.off hof (fun hh => hh.elim (fun hh => h23 hh.symm) h.s3),
    h.d2, h.d3, fun hh => (hnew _ hh).elim h.s1 (by omega), fun hh => (hnew _ hh).elim h.s3 (by omega), fun b hb hs => (hnew _ hs).elim (fun hs => h.ds b hb hs) (by have := (h.d.own.ge hb).2; omega)⟩ hb (hof.mono fun b _ hh => hh.elim (fun h => .inr (.inl h)) fun hh => .inr (.inr (.inr (.inr hh)))) hnew
theorem PV.setP {B p1 p2 p3 : Nat} {w : World} {vd vs : Value} {D : List Disp} {E : List Slp} {pp q : Int} {K : Value → World → Prop} (h : PV B p1 p2 p3 w vd vs D E pp) (h3 : B ≤ p3) (h13 : p1 ≠ p3) (h23 : p2 ≠ p3)
    (hk : ∀ w', PV B p1 p2 p3 w' vd vs D E q → Below B w w' → Off (pvF p1 p2 p3 vd vs) w w' → w'.heap.size = w.heap.size → K undef w') : opU Tryz.prog (Instr.storeAt 3 (.pointer (some ⟨p3, 0, none⟩)) (I q)) K w := by
  refine (st3 rfl (h.p.cell (i := 0) rfl) (h.p.free 0)).mpr ?_
  have hset : Off (· = p3) w (w.setCell ⟨p3, 0, none⟩ (I q)) := Off.set rfl
  exact hk _ ⟨h.d.off hset h13 fun b hb he => h.d3 (he ▸ hb), h.s.off hset h23 fun b hb he => h.s3 (he ▸ hb), h.p.set 0 _, h.d2, h.d3, h.s1, h.s3, h.ds⟩ ((Below.refl _ _).setCell h3 _) (hset.mono fun b _ hh => .inr (.inr (.inl hh))) (by simp)
theorem waitL_right {r : Rel} (hv : ValidR r) {n : Nat} {d : Disp} (h : (waitL r)[n]? = some d) : rightP d := by
  have h1 := List.mem_of_getElem? h
  have h2 := (List.mem_filter.1 h1).1
  exact hv.2.2.2.1.right ((mem_byClass hv.2.2.2.1).1 h2)
theorem slPut {α : Type} {F : Fl α} {w : World} {v : Value} {l : List α} {m : Nat} {x : Option (List Deferred)} (h : IsSl F w v l) (hm : w.heap[m]? = some (.deferred x)) (hp : 0 < F.sz) (o : Obj) : IsSl F (w.putObj m o) v l := by
  obtain ⟨a, c, rfl, hc, hx⟩ := h
  refine ⟨a, c, rfl, hc, fun i y hi => ?_⟩
  obtain ⟨b, o', rfl, hcl⟩ := hx i y hi
  refine ⟨b, o', rfl, hcl.same (World.putObj_heap_other fun hh => ?_)⟩
  subst hh
  have hne : F.e y ≠ [] := fun h => by have := F.len y; rw [h] at this; simp at this; omega
  obtain ⟨u, r, hu⟩ := List.exists_cons_of_ne_nil hne
  have := hcl 0 u (by rw [hu]; rfl)
  simp [World.cell?, hm] at this
section
variable {k : Value → World → Prop} {w : World}
theorem b63 {a b c : Int} {s : ByteArray} : opW Tryz.prog (Instr.build 63 #[(0, I a), (1, I b), (2, I c), (3, .string s)]) k w = k (agP ⟨a, b, c, s⟩) w := opW_ok (by kernel_rfl)
theorem c29 {v : Value} {r : Rel} (h : RelV w v r) (hg : Gl w) (hsm : small r) (h12 : r.kept.length ≤ 12) (hk : ∀ v' dv w' e r' done, Below w.heap.size w w' → printR r e r' done → RelV w' v' r' → IsSl fD w' dv done → Fr w.heap.size v' → (∀ b, isOf dv b → w.heap.size ≤ b) → k (.tuple #[v', dv, I e]) w') : callW Tryz.prog (.func (.func 29) #[] #[]) #[v] k w := C29 _ _ _ (by
  unfold S29
  refine boxR h fun kv sv w1 hv hkv hsv hb1 hsz1 hr1 => al27 fun w2 hb2 hsz2 hr2 => ?_
  have hb02 := below_trans hb1 hb2
  have hr1 := hr1.below hb2
  rw [ld27 (vs := [I r.id, I r.paper, kv, sv]) rfl hr1.cells]
  refine c15 (r := r) ⟨kv, sv, rfl, hkv.below hb02, hsv.below hb02⟩ hsm fun b w3 hb3 hbs => ?_
  have hb03 := below_trans hb02 hb3
  have hr1c := hr1.below hb3
  have hr1 := hr1.below hb3
  have hr2c := hr2.below hb3
  have hr2 := hr2.below hb3
  rw [w_not]
  cases b with
  | false =>
    rw [Bool.not_false, condW_true, b27_0]
    refine sr27 (vs := [I 0, I 0, .slice none 0 0, .slice none 0 0]) rfl hr2 rfl (oneR (IsSl.nil w3) (IsSl.nil w3)) fun w4 ho4 hr4 => ?_
    rw [rc27 rfl hr4.cells]
    exact hk _ _ _ _ zeroR [] (hb03.trans (ho4.rest _ hb1.size)) (.inr ⟨fun hh => (by have := hbs.2 hh; cases this), rfl, rfl, rfl⟩) (RelV.zero _) (IsSl.nil _) (Fr.zero _) (fun b h => by cases h)
  | true =>
  rw [Bool.not_true, condW_false]
  have hvr := hbs.1 rfl
  have hroom := hvr.small
  have hpap := hvr.2.1
  have hwl := waitL_len r
  refine al24 fun w4 hb4 hsz4 hr4 => al25 fun w5 hb5 hsz5 hr5 => ?_
  have hb35 := below_trans hb4 hb5
  have hb05 := below_trans hb03 hb35
  rw [rw27_1 ((hr1.below hb35).cell (i := 1) rfl)]
  refine al3 fun w6 hb6 hsz6 hr6 => ?_
  refine (st3 rfl (hr6.cell (i := 0) rfl) (hr6.free 0)).mpr ?_
  have hr7 : RowAt (w6.setCell ⟨w5.heap.size, 0, none⟩ (I r.paper)) w5.heap.size 3 [I r.paper] := hr6.set 0 _
  have hs5 := hb05.size
  have hb57 : Below w5.heap.size w5 (w6.setCell ⟨w5.heap.size, 0, none⟩ (I r.paper)) := hb6.setCell (Nat.le_refl _) _
  have hsz7 : (w6.setCell ⟨w5.heap.size, 0, none⟩ (I r.paper)).heap.size = w5.heap.size + 1 := by simp [hsz6]
  generalize hw7 : w6.setCell ⟨w5.heap.size, 0, none⟩ (I r.paper) = w7 at *
  have hb37 := below_trans hb35 hb57
  have hb07 := below_trans hb03 hb37
  have hr1 := hr1.below hb37
  have hr2 := hr2.below hb37
  rw [ld27 (vs := [I r.id, I r.paper, kv, sv]) rfl hr1.cells]
  refine c50 (r := r) ⟨kv, sv, rfl, hkv.below hb07, hsv.below hb07⟩ fun kv8 sv8 w8 hb8 hsz8 hkv8 hsv8 hr8 => ?_
  have hb08 := below_trans hb07 hb8
  have hr1 := hr1.below hb8
  have hr2 := hr2.below hb8
  have hs1 := hb1.size
  have hs2 := hb2.size
  have hs3 := hb3.size
  have hs7 := hb57.size
  have hpv : PV w3.heap.size w3.heap.size w4.heap.size w5.heap.size w8 (.slice none 0 0) (.slice none 0 0) [] [] r.paper :=
    ⟨⟨((hr4.below hb5).below hb57).below hb8, Mine.nil _ _, Nat.le_refl _, fun hh => by cases hh⟩, ⟨(hr5.below hb57).below hb8, Mine.nil _ _, by omega, fun hh => by cases hh⟩, hr7.below hb8, fun hh => (by cases hh), fun hh => (by cases hh), fun hh => (by cases hh), fun hh => (by cases hh), fun b hb => (by cases hb)⟩
  refine joinW_useN (Pre := fun m w' => ∃ vd vs, PV w3.heap.size w3.heap.size w4.heap.size w5.heap.size w' vd vs (printT r.paper (waitL r)).1 ((printT r.paper (waitL r)).1.map (slipOf r)) (printT r.paper (waitL r)).2 ∧ Below w3.heap.size w3 w' ∧ w'.heap[m]? = some (.deferred (some [])) ∧ w8.heap.size ≤ m ∧ ¬ pvF w3.heap.size w4.heap.size w5.heap.size vd vs m) ?_ ?_
  · rintro m w9 ⟨vd, vs, hpv, hb9, hdd, hmI, hmF⟩
    have hl3 : w3.heap.size ≤ w5.heap.size := by have := hb35.size; omega
    have hs9 := hb9.size
    have hb09 := hb03.trans (hb9.mono hb03.size)
    have hDl : (printT r.paper (waitL r)).1.length ≤ 12 := by
      have : ∀ (l : List Disp) p, (printT p l).1.length ≤ l.length := fun l => by
        induction l with
        | nil => intro p; simp [printT]
        | cons d l ih => intro p; unfold printT; split; simp; simpa using ih _
      have := this (waitL r) r.paper; omega
    generalize hPT : printT r.paper (waitL r) = PT at *
    obtain ⟨D, pp⟩ := PT
    simp only at hpv hDl
    refine (ld25 (hpv.s.row.cell (i := 0) rfl)).mpr ?_
    refine c58 cmpAnyP lawP hpv.s.own (by simpa using hDl) hb9.size fun M w10 hpM hsM hM hb10 hof10 => ?_
    have hb10' := hb9.trans hb10
    have hb010 := hb03.trans (hb10'.mono hb03.size)
    have hs10 := hof10.size
    have hd10 : w10.heap[m]? = some (.deferred (some [])) := by rw [hof10.block m (Array.getElem?_eq_some_iff.1 hdd).1 fun hh => hmF (.inr (.inr (.inr (.inr hh))))]; exact hdd
    have hlvd := hpv.d.off hof10 hpv.s1 fun b hb => hpv.ds b hb
    have hsrow := hpv.s.row.off hof10 hpv.s.ne
    have hprow := hpv.p.off hof10 hpv.s3
    have hr10 := hr1c.below hb10'
    rw [rw27_2 (hr10.cell (i := 2) rfl)]
    refine c60 (hkv.below hb010) (by omega) fun u w11 hb11 hu => ?_
    have hb11' := hb10'.trans (hb11.mono hb10'.size)
    have hs11 := hb11.size
    have hr11 := hr10.below hb11
    rw [fl27_2]
    refine (st24 hu.sl.one (hr11.cell (i := 2) rfl) (hr11.free 2)).mpr ?_
    have o1 := Only.setCell w.heap.size 2 w11 u
    have hr12 := hr11.set 2 u
    have hb012 := (hb010.trans (hb11.mono hb010.size)).trans (o1.rest _ (Nat.le_refl _))
    have hof12 : Off (· = w.heap.size) w11 (w11.setCell ⟨w.heap.size, 2, none⟩ u) := Off.only o1 rfl
    have hu12 := hu.off hof12 fun b hb he => by have := (hu.ge hb).1; omega
    have hM12 : Mine fP 63 (w11.setCell ⟨w.heap.size, 2, none⟩ u) w3.heap.size vs M := (hM.below hb11).off hof12 fun b hb he => by have := (hM.ge hb).1; omega
    have hsrow12 := (hsrow.below hb11).off hof12 (by omega)
    have hprow12 := (hprow.below hb11).off hof12 (by omega)
    have hlvd12 := (hlvd.below hb11).off hof12 (by omega) fun b hb he => by have := (hlvd.own.ge hb).1; omega
    have hr2_12 := ((hr2c.below hb10').below hb11).off hof12 (by omega)
    have hd12 : (w11.setCell ⟨w.heap.size, 2, none⟩ u).heap[m]? = some (.deferred (some [])) := by
      have hml := (Array.getElem?_eq_some_iff.1 hd10).1
      rw [hof12.block m (by omega) (by omega), hb11.block m hml]; exact hd10
    have hs12 : (w11.setCell ⟨w.heap.size, 2, none⟩ u).heap.size = w11.heap.size := by simp
    generalize w11.setCell ⟨w.heap.size, 2, none⟩ u = w12 at *
    rw [ld27 (vs := [I r.id, I r.paper, u, sv]) rfl hr12.cells]
    refine (ld25 (hsrow12.cell (i := 0) rfl)).mpr ?_
    have hMl := hpM.length_eq
    simp only [List.length_map] at hMl
    refine c54 (r := r) ⟨u, sv, rfl, hu12.sl, hsv.below hb012⟩ (IsSl.nil _) hM12.sl (by simp; omega) (by omega) fun v' w13 e r1 hb13 hj hv' hf13 => ?_
    obtain ⟨k13, s13, rfl, h13, h13'⟩ := hv'
    have hb013 := hb012.trans (hb13.mono hb012.size)
    rw [w_extract (v := .agg #[I r1.id, I r1.paper, k13, s13]) rfl, w_extract (v := I e) rfl]
    have hs13 := hb13.size
    refine w_var (vs := [I r1.id, I r1.paper, k13, s13]) hz27 (by rw [zc27]; rfl) (oneR h13 h13') size27 known27 fun w14 hb14 hsz14 hr14 => ?_
    have hb014 := below_trans hb013 hb14
    have hml12 := (Array.getElem?_eq_some_iff.1 hd12).1
    have hd14 : w14.heap[m]? = some (.deferred (some [])) := by rw [hb14.block m (by omega), hb13.block m hml12]; exact hd12
    have hr2_14 := (hr2_12.below hb13).below hb14
    rw [w_neq]
    by_cases he : e = 0
    · subst he
      rw [decide_eq_true rfl, Bool.not_true, condW_false]
      have hprow14 := (hprow12.below hb13).below hb14
      have hlvd14 := (hlvd12.below hb13).below hb14
      have hr3l := hprow14.lt
      refine (ld3 (hprow14.cell (i := 0) rfl)).mpr ?_
      rw [fl27_1]
      refine (st3 rfl (hr14.cell (i := 1) rfl) (hr14.free 1)).mpr ?_
      have hr15 := hr14.set 1 (I pp)
      have o2 := Only.setCell w13.heap.size 1 w14 (I pp)
      have hof15 : Off (· = w13.heap.size) w14 (w14.setCell ⟨w13.heap.size, 1, none⟩ (I pp)) := Off.only o2 rfl
      have hb13_15 := hb14.trans (o2.rest _ (Nat.le_refl _))
      have hl12 := hr2_12.lt
      have hr2_15 := hr2_14.off hof15 (by omega)
      have hlvd15 := hlvd14.off hof15 (by have := hlvd12.row.lt; omega) fun b hb he => by have := (hlvd12.own.ge hb).2; omega
      have hd15 : (w14.setCell ⟨w13.heap.size, 1, none⟩ (I pp)).heap[m]? = some (.deferred (some [])) := by
        rw [hof15.block m (by omega) (by omega)]; exact hd14
      generalize w14.setCell ⟨w13.heap.size, 1, none⟩ (I pp) = w15 at *
      have hb15 := hb13_15.trans (Below.refl _ w15).drew
      have hr15 := hr15.drew
      have hr2_15 := hr2_15.drew
      have hlvd15 := hlvd15.below (below_drew _)
      rw [drewW_eq]
      have hd16 : w15.drew.heap[m]? = some (.deferred (some [])) := hd15
      generalize w15.drew = w16 at *
      refine ⟨Off (· = w1.heap.size) w16, Off.refl _ _, ?_⟩
      rw [xld27 (vs := [I r1.id, I pp, k13, s13]) rfl hr15.cells, lo24 (hlvd15.row.cell (i := 0) rfl) (by show ¬ w3.heap.size = w1.heap.size; omega) (Off.refl _ _)]
      have hb016 := hb013.trans (hb15.mono hb013.size)
      have hk16 := h13.below hb15
      have hs16 := h13'.below hb15
      refine sr27 (vs := [I r1.id, I pp, k13, s13]) rfl hr2_15 rfl (oneR hk16 hs16) fun w17 ho17 hr17 => ?_
      rw [keepS_eq]
      have hof17 : Off (· = w1.heap.size) w16 w17 := Off.only ho17 rfl
      refine ⟨hof17, ?_⟩
      have hd17 : w17.heap[m]? = some (.deferred (some [])) := by rw [hof17.block m (Array.getElem?_eq_some_iff.1 hd16).1 (by omega)]; exact hd16
      refine ⟨hd17, ?_⟩
      have hpm : Off (· = m) w17 (w17.putObj m (.deferred none)) := off_putObj rfl
      show resCell _ _ _ _ _
      rw [rc27 rfl (hr17.off hpm (by omega)).cells]
      have hn := no27 hr2_15 nilSlice nilSlice
      have hs8 := hb08.size
      refine hk _ _ _ _ { r1 with paper := pp } D ((hb016.trans (ho17.rest _ hb1.size)).trans (below_putObj (by omega))) (.inl ⟨hvr, M, r1, by rw [hPT]; exact hpM, ?_, hj, .inr ⟨rfl, by rw [hPT], by rw [hPT]⟩⟩) ⟨k13, s13, rfl, slPut (slOnly hk16 ho17 hn.1) hd17 (by decide) _, slPut (slOnly hs16 ho17 hn.2) hd17 (by decide) _⟩
        ((hlvd15.own.off hof17 fun b hb he => by have := (hlvd15.own.ge hb).1; omega).off hpm fun b hb he => hmF (.inr (.inr (.inr (.inl (he ▸ hb)))))).sl
        (fun b hb => Nat.le_trans hb012.size (hf13 b (relOf_rel.2 (relOf_rel.1 hb)))) fun b hb => by have := (hlvd15.own.ge hb).1; omega
      have : ((D.map (slipOf r)).length) = M.length := by simp [hMl]
      rw [← this]; exact hsM
    · rw [decide_eq_false he, Bool.not_false, condW_true, b27_0]
      refine sr27 (vs := [I 0, I 0, .slice none 0 0, .slice none 0 0]) rfl hr2_14 rfl (oneR (IsSl.nil w14) (IsSl.nil w14)) fun w15 ho15 hr15 => ?_
      have hof15 : Off (· = w1.heap.size) w14 w15 := Off.only ho15 rfl
      have hd15 : w15.heap[m]? = some (.deferred (some [])) := by rw [hof15.block m (Array.getElem?_eq_some_iff.1 hd14).1 (by omega)]; exact hd14
      refine ⟨hd15, ?_⟩
      have hpm : Off (· = m) w15 (w15.putObj m (.deferred none)) := off_putObj rfl
      show resCell _ _ _ _ _
      rw [rc27 rfl (hr15.off hpm (by omega)).cells]
      have hs8 := hb08.size
      refine hk _ _ _ _ zeroR [] ((hb014.trans (ho15.rest _ hb1.size)).trans (below_putObj (by omega))) (.inl ⟨hvr, M, r1, by rw [hPT]; exact hpM, ?_, hj, .inl ⟨he, rfl, rfl⟩⟩) (RelV.zero _) (IsSl.nil _) (Fr.zero _) (fun b h => by cases h)
      have : ((D.map (slipOf r)).length) = M.length := by simp [hMl]
      rw [← this]; exact hsM
  intro J hJ
  refine range_of (wI := w3) (own := (· = w7.heap.size)) (Inv := fun n j F w' => ∃ vd vs D pp, PV w3.heap.size w3.heap.size w4.heap.size w5.heap.size w' vd vs D (D.map (slipOf r)) pp ∧ (∀ b, F b ↔ pvF w3.heap.size w4.heap.size w5.heap.size vd vs b) ∧
      ((j = none ∧ D = (waitL r).take n ∧ pp ≤ 10000 ∧ 0 ≤ pp ∧ printT r.paper (waitL r) = (D ++ (printT pp ((waitL r).drop n)).1, (printT pp ((waitL r).drop n)).2)) ∨ (j = some (.exit 0) ∧ printT r.paper (waitL r) = (D, pp)))) (F0 := pvF w3.heap.size w4.heap.size w5.heap.size (.slice none 0 0) (.slice none 0 0))
    ok72 (fun w9 hb9 => iter72 (hr8.below hb9) (hkv8.below (below_trans hb8 hb9)) (hsv8.below (below_trans hb8 hb9)) hvr h12) (fun a ha => by obtain ⟨d, _, rfl⟩ := List.mem_map.1 ha; rfl) (hb37.trans (hb8.mono hb37.size)) (fun b hb => ?_)
    ⟨_, _, _, _, hpv, fun b => Iff.rfl, .inl ⟨rfl, rfl, by omega, by omega, rfl⟩⟩ ?_ ?_ ?_ ?_
  · subst hb
    refine ⟨fun hh => ?_, by omega⟩
    rcases hh with hh | hh | hh | hh | hh
    · omega
    · omega
    · omega
    · cases hh
    · cases hh
  · rintro n j F u u' p ⟨vd, vs, D, pp, hpv, hF, hst⟩ ho hp
    exact ⟨vd, vs, D, pp, hpv.off ho fun b hb => hp b ((hF b).2 hb), hF, hst⟩
  · rintro n j F u b ⟨vd, vs, D, pp, hpv, hF, hst⟩ hb
    exact hpv.lt (by omega) ((hF b).1 hb)
  · rintro n a F w9 d0 ready o kk ha ⟨vd, vs, D, pp, hpv, hF, hst⟩ hb9 hrdy hd hdI hdF hkk
    rw [List.getElem?_map, Option.map_eq_some_iff] at ha
    obtain ⟨d, hd', rfl⟩ := ha
    rcases hst with ⟨_, hD, hpp1, hpp0, hprint⟩ | ⟨hj, _⟩
    case' inr => cases hj
    have hrd := waitL_right hvr hd'
    have hpg := pagesD_nonneg d
    have hn := (List.getElem?_eq_some_iff.1 hd').1
    have hdrop : (waitL r).drop n = d :: (waitL r).drop (n + 1) := by rw [List.drop_eq_getElem_cons hn]; congr; exact (List.getElem?_eq_some_iff.1 hd').2
    refine nvD (d := d) fun w10 hb10 hsz10 hr10 => ?_
    refine ⟨hrdy _ hb10, ?_⟩
    have hput : Off (· = d0) w10 (w10.putObj d0 o) := off_putObj rfl
    have hpv1 := (hpv.below hb10).off hput fun b hb hh => hdF ((hF _).2 (hh ▸ hb))
    have hr11 := hr10.off hput (by omega)
    have hnd : ¬ isOf vs w9.heap.size := fun hh => by have := (hpv.s.own.ge hh).2; omega
    have hs9 := hb9.size
    have hs37 := hb37.size
    have hb11 : Below w3.heap.size w3 (w10.putObj d0 o) := (hb9.trans (hb10.mono hs9)).trans (below_putObj hdI)
    have hsz11 : (w10.putObj d0 o).heap.size = w9.heap.size + 1 := by simp [hsz10]
    show drewW (w10.putObj d0 o) _
    rw [drewW_eq]
    have hF11 : Off (pvF w3.heap.size w4.heap.size w5.heap.size vd vs) (w10.putObj d0 o) (w10.putObj d0 o).drew := off_drew _ _
    have hb12 := hb11.trans (Below.refl w3.heap.size (w10.putObj d0 o)).drew
    have hpv2 := hpv1.below (below_drew _)
    have hr12 := hr11.drew
    have hsz12 : (w10.putObj d0 o).drew.heap.size = w9.heap.size + 1 := hsz11
    have tail : ∀ (j : Option Code) (F' : Nat → Prop) (w'' : World), Below w3.heap.size w3 w'' → Off (pvF w3.heap.size w4.heap.size w5.heap.size vd vs) (w10.putObj d0 o).drew w'' → (∀ b, F' b → F b ∨ w9.heap.size ≤ b) → (∃ vd vs D pp, PV w3.heap.size w3.heap.size w4.heap.size w5.heap.size w'' vd vs D (D.map (slipOf r)) pp ∧ (∀ b, F' b ↔ pvF w3.heap.size w4.heap.size w5.heap.size vd vs b) ∧
      ((j = none ∧ D = (waitL r).take (n + 1) ∧ pp ≤ 10000 ∧ 0 ≤ pp ∧ printT r.paper (waitL r) = (D ++ (printT pp ((waitL r).drop (n + 1))).1, (printT pp ((waitL r).drop (n + 1))).2)) ∨ (j = some (.exit 0) ∧ printT r.paper (waitL r) = (D, pp)))) → kk j w'' := fun j F' w'' h1 h2 h3 h4 =>
      hkk j F' w10 w'' hb10 h1 ((hF11.trans h2).mono fun b _ hh => .inl ((hF b).2 hh)) h3 h4
    generalize (w10.putObj d0 o).drew = w12 at *
    clear hkk hF11 hput hr10 hr11 hpv1
    refine ⟨after w12, after_refl _, ?_⟩
    rw [xld31 (vs := fD.e d) rfl hr12.cells, la3 (hpv2.p.cell (i := 0) rfl) (after_refl _)]
    refine c25 (d := d) fun w13 hb13 => ?_
    rw [keepS_eq, t_gtr]
    refine ⟨hb13, ?_⟩
    have hb13' := hb12.trans (hb13.mono hb12.size)
    have hpv3 := hpv2.below hb13
    by_cases hgt : pp < pagesD d
    · rw [decide_eq_true (by omega), condW_true]
      refine tail _ F w13 hb13' (Off.below hb13) (fun b hb => .inl hb) ⟨vd, vs, D, pp, hpv3, hF, .inr ⟨rfl, ?_⟩⟩
      rw [hprint, hdrop, printT, if_pos hgt]; simp
    rw [decide_eq_false (by omega), condW_false, drewW_eq]
    have hb14 := below_trans hb13 (below_drew w13)
    have hb14' := hb12.trans (hb14.mono hb12.size)
    have hpv4 := hpv2.below hb14
    have hr14 := hr12.below hb14
    have hs14 := hb14.size
    generalize w13.drew = w14 at *
    clear hb13 hb13' hpv3
    refine ⟨after w14, after_refl _, ?_⟩
    rw [la3 (hpv4.p.cell (i := 0) rfl) (after_refl _), xld31 (vs := fD.e d) rfl hr14.cells]
    refine c25 (d := d) fun w15 hb15 => ?_
    rw [keepS_eq, t_sub, wrap_id (by omega)]
    refine ⟨hb15, ?_⟩
    have hb15' := hb14'.trans (hb15.mono hb14'.size)
    have hs15 := hb15.size
    have hl3 : w3.heap.size ≤ w5.heap.size := by have := hb35.size; omega
    have hs35 : w3.heap.size < w4.heap.size := by omega
    have hs45 : w4.heap.size < w5.heap.size := by omega
    refine (hpv4.below hb15).setP (q := pp - pagesD d) hl3 (by omega) (by omega) fun w16 hpv6 hb16 hof16 hsz16 => ?_
    have hb16' := hb15'.trans hb16
    have hr16 := (hr14.below hb15).off hof16 fun hh => by have := (hpv.lt hl3 hh).2; omega
    refine (ld24 (hpv6.d.row.cell (i := 0) rfl)).mpr ?_
    rw [ld31 (vs := fD.e d) rfl hr16.cells]
    have hDl : D.length ≤ 12 := by rw [hD, List.length_take]; omega
    refine hpv6.pushD (d := d) hb16'.size (by omega) (by omega) (by omega) fun vd' w17 hpv7 hb17 hof17 hnew17 => ?_
    have hb17' := hb16'.trans hb17
    have hr17 := hr16.off hof17 fun hh => by have := (hpv.lt hl3 hh).2; omega
    rw [drewW_eq]
    have hb18 := hb17'.trans (Below.refl w3.heap.size w17).drew
    have hpv8 := hpv7.below (below_drew _)
    have hr18 := hr17.drew
    have hs17 := hof17.size
    have hs18 : w17.drew.heap.size = w17.heap.size := rfl
    have hof18 : Off (pvF w3.heap.size w4.heap.size w5.heap.size vd vs) w12 w17.drew := (((Off.below (hb14.trans (hb15.mono hb14.size))).trans hof16).trans hof17).trans (off_drew _ _)
    generalize w17.drew = w18 at *
    have hrel : RowAt w18 w.heap.size 27 [I r.id, I r.paper, kv, sv] := hr1c.below hb18
    have hnb : ∀ b, b < w3.heap.size → ¬ isOf vs b := fun b hb hh => by have := (hpv8.s.own.ge hh).1; omega
    refine ⟨Off (isOf vs) w18, Off.refl _ _, ?_⟩
    rw [lo25 (hpv8.s.row.cell (i := 0) rfl) hpv8.s.ne (Off.refl _ _), ro27_0 (hrel.cell (i := 0) rfl) (hnb _ (by omega)) (Off.refl _ _), ro31_0 (hr18.cell (i := 0) rfl) hnd (Off.refl _ _), ro31_1 (hr18.cell (i := 1) rfl) hnd (Off.refl _ _), ro31_3 (hr18.cell (i := 3) rfl) hnd (Off.refl _ _)]
    refine c41 ((hg.below hb03 hg.2).below hb18 (by have := hg.2; omega)) (by have := hrd.2.2.2; omega) fun w19 hb19 => ?_
    rw [keepS_eq]
    refine ⟨Off.below hb19, ?_⟩
    rw [b63, keepS_eq]
    refine ⟨Off.below hb19, ?_⟩
    have hb19' := hb18.trans (hb19.mono hb18.size)
    refine (hpv8.below hb19).pushP (d := slipOf r d) hb19'.size (by simp; omega) (by omega) (by omega) (fun w' hb => (Off.below hb19).trans (Off.below hb)) (fun w' hb hof => (Off.below hb19).trans hof) fun vs' w20 hpv20 hb20 hof20 hnew20 => ?_
    refine tail _ (pvF w3.heap.size w4.heap.size w5.heap.size vd' vs') w20 (hb19'.trans hb20) ?_ (fun b hb => ?_) ⟨vd', vs', D ++ [d], pp - pagesD d, by simpa using hpv20, fun b => Iff.rfl, .inl ⟨rfl, ?_, by omega, by omega, ?_⟩⟩
    · refine ⟨by have := hof18.size; have := hb19.size; have := hof20.size; omega, fun b hb hn => ?_⟩
      have h1 := hof18.size
      have h2 := hb19.size
      rw [hof20.block b (by omega) (fun hh => ?_), hb19.block b (by omega), hof18.block b hb hn]
      rcases hh with hh | hh | hh | hh | hh
      · exact hn (.inl hh)
      · exact hn (.inr (.inl hh))
      · exact hn (.inr (.inr (.inl hh)))
      · rcases hnew17 b hh with h | h
        · exact hn (.inr (.inr (.inr (.inl h))))
        · omega
      · exact hn (.inr (.inr (.inr (.inr hh))))
    · have h1 := hof18.size
      have h2 := hb19.size
      rcases hb with hh | hh | hh | hh | hh
      · exact .inl ((hF b).2 (.inl hh))
      · exact .inl ((hF b).2 (.inr (.inl hh)))
      · exact .inl ((hF b).2 (.inr (.inr (.inl hh))))
      · rcases hnew17 b hh with h | h
        · exact .inl ((hF b).2 (.inr (.inr (.inr (.inl h)))))
        · exact .inr (by omega)
      · rcases hnew20 b hh with h | h
        · exact .inl ((hF b).2 (.inr (.inr (.inr (.inr h)))))
        · exact .inr (by omega)
    · rw [hD, List.take_add_one, hd']; rfl
    · rw [hprint, hdrop, printT, if_neg hgt]; simp
  · rintro n j F w9 d0 hn hb9 ⟨vd, vs, D, pp, hpv, hF, hst⟩ hd hdI hdF hdd
    have hfin : printT r.paper (waitL r) = (D, pp) := by
      rcases hst with ⟨hj, hD, h1, h2, h3⟩ | ⟨hj, h3⟩
      · have := hn hj
        rw [List.length_map] at this
        rw [this, List.drop_length] at h3
        simpa [printT] using h3
      · exact h3
    have hpre := hJ d0 w9 ⟨vd, vs, by rw [hfin]; exact hpv, hb9, hdd, hdI, fun hh => hdF ((hF _).2 hh)⟩
    rcases hst with ⟨rfl, _⟩ | ⟨rfl, _⟩
    · rw [jumpW_none]; exact hpre
    · rw [jumpW_exit]; exact hpre)
end
end Go.Proofs.YtklknkmeljjmgaaGreatDoor
/- The reference: kept. -/
set_option linter.unusedSimpArgs false
set_option linter.unusedVariables false
namespace Go.Proofs.YtklknkmeljjmgaaGreatDoor
open Go Go.V Go.RowKit
/-- a store with a dispatch, from one place on -/
def keptF (d : Disp) : List Disp → Bool → Option (List Disp)
  | [], done => some (if done then [] else [d])
  | x :: l, done =>
    if d.story < x.story ∧ done = false then (keptF d l true).map ([d, x] ++ ·)
    else if x.story ≠ d.story then (keptF d l done).map ([x] ++ ·)
    else if x.cls ≠ d.cls ∨ (x.ed = d.ed ∧ x ≠ d) then none
    else (keptF d l true).map ([if x.ed < d.ed then d else x] ++ ·)
section
variable {k : Value → World → Prop} {w : World}
theorem c56 {v : Value} {l : List Disp} {d : Disp} (hs : IsSl fD w v l) (hl : l.length ≤ 1000000)
    (hk : ∀ r ok o w', Below w.heap.size w w' → keptF d l false = (if ok then some o else none) → Mine fD 31 w' w.heap.size r o → k (.tuple #[r, .bool ok]) w') : callW Tryz.prog (.func (.func 56) #[] #[]) #[v, agD d] k w := C56 _ _ _ _ (by
  unfold S56
  refine boxD (d := d) fun w1 hb1 hsz1 hr1 => ?_
  refine Loop3.intro (fun n o dn a w' => ∃ (i : Nat) (done : Bool) (lo : List Disp), a = I i ∧ dn = .bool done ∧ i ≤ l.length ∧ n = l.length - i ∧ Below w.heap.size w w' ∧ RowAt w' w.heap.size 31 (fD.e d) ∧ Mine fD 31 w' w.heap.size o lo ∧ ¬ isOf o w.heap.size ∧ lo.length ≤ i + (if done then 1 else 0) ∧
    keptF d l false = (keptF d (l.drop i) done).map (lo ++ ·)) _ ⟨0, false, [], rfl, rfl, by omega, rfl, hb1, hr1, Mine.nil _ _, (fun hh => by cases hh), by simp, by simp⟩ ?_
  rintro n o _ _ w2 ⟨i, done, lo, rfl, rfl, hi, rfl, hb2, hr2, ho, hno, hlo, hkp⟩
  refine (len24 (hs.below hb2)).mpr ?_
  rw [w_lss]
  have hlt2 := hr2.lt
  by_cases hlt : i < l.length
  · rw [decide_eq_true (by omega), condW_true]
    obtain ⟨x, hx⟩ : ∃ x, l[i]? = some x := ⟨_, List.getElem?_eq_getElem hlt⟩
    have hdrop : l.drop i = x :: l.drop (i + 1) := by rw [List.drop_eq_getElem_cons hlt]; congr; exact (List.getElem?_eq_some_iff.1 hx).2
    rw [hdrop] at hkp
    refine joinW_use2 (Pre := fun o' dn' w' => ∃ (done' : Bool) (lo' : List Disp), dn' = .bool done' ∧ Below w.heap.size w w' ∧ RowAt w' w.heap.size 31 (fD.e d) ∧ Mine fD 31 w' w.heap.size o' lo' ∧ ¬ isOf o' w.heap.size ∧ lo'.length ≤ i + 1 + (if done' then 1 else 0) ∧
      keptF d l false = (keptF d (l.drop (i + 1)) done').map (lo' ++ ·)) ?_ ?_
    · rintro o' _ w3 ⟨done', lo', rfl, hb3, hr3, ho3, hno3, hlo3, hkp3⟩
      rw [w_add, wrap_id (by omega), loopK_self]
      exact ⟨l.length - (i + 1), by omega, i + 1, done', lo', by simp [I], rfl, by omega, rfl, hb3, hr3, ho3, hno3, hlo3, hkp3⟩
    intro J hJ
    refine joinW_use2 (Pre := fun o' dn' w' => ∃ (done' : Bool) (lo' : List Disp), dn' = .bool done' ∧ Below w.heap.size w w' ∧ RowAt w' w.heap.size 31 (fD.e d) ∧ Mine fD 31 w' w.heap.size o' lo' ∧ ¬ isOf o' w.heap.size ∧ lo'.length ≤ i + (if done' then 1 else 0) ∧
      (done' = true ∨ ¬ d.story < x.story) ∧ keptF d l false = (keptF d (x :: l.drop (i + 1)) done').map (lo' ++ ·)) ?_ ?_
    · rintro o' _ w3 ⟨done', lo', rfl, hb3, hr3, ho3, hno3, hlo3, hdn, hkp3⟩
      have hb3 := hb3.trans (Below.refl _ w3).drew
      have hr3 := hr3.drew
      replace ho3 : Mine fD 31 w3.drew w.heap.size o' lo' := ho3.below (below_drew _)
      rw [drewW_eq]
      generalize w3.drew = w4 at *
      have hb3s := hb3.size
      have hd2 : (if done' then 1 else 0) ≤ 1 := by split <;> omega
      -- one more element
      have push : ∀ (y : Disp) (w5 : World) (K : Value → World → Prop), Below w.heap.size w w5 → RowAt w5 w.heap.size 31 (fD.e d) → Mine fD 31 w5 w.heap.size o' lo' → (∀ r w6, Below w.heap.size w w6 → RowAt w6 w.heap.size 31 (fD.e d) → Mine fD 31 w6 w.heap.size r (lo' ++ [y]) → ¬ isOf r w.heap.size → K r w6) →
          opW Tryz.prog (Instr.buildSlice 24 1 #[(0, agD y)]) (fun s w => opW Tryz.prog (Builtin.append_ #[24, 24] 24 #[o', s]) (fun r w => K r w) w) w5 := fun y w5 K hb5 hr5 ho5 hK => by
        have hl5 := hr5.lt
        refine Mine.push sty24 (eD.one y) rfl (by decide) ho5 hb5.size (by unfold maxLen; omega) (by omega) fun r w6 ho6 hb6 hof6 hnew6 => ?_
        exact hK r w6 (hb5.trans hb6) (hr5.off hof6 hno3) ho6 fun hh => (hnew6 _ hh).elim hno3 (by omega)
      rw [nt24_0 rfl (hs.below hb3) hx rfl, rt31_0 (hr3.cell (i := 0) rfl), t_neq]
      by_cases h1 : x.story = d.story
      case' neg =>
        rw [decide_eq_false h1, Bool.not_false, condW_true, na24 rfl (hs.below hb3) hx]
        refine push x _ _ hb3 hr3 ho3 fun r w6 hb6 hr6 ho6 hno6 => hJ _ _ _ ⟨done', lo' ++ [x], rfl, hb6, hr6, ho6, hno6, by simp; omega, ?_⟩
        rw [hkp3, keptF, if_neg (by rintro ⟨ha, hb⟩; rcases hdn with h | h; rw [hb] at h; cases h; exact h ha), if_pos h1]
        cases keptF d (l.drop (i + 1)) done' <;> simp
      rw [decide_eq_true h1, Bool.not_true, condW_false, drewW_eq]
      have hb3 := hb3.trans (Below.refl _ w4).drew
      have hr3 := hr3.drew
      replace ho3 : Mine fD 31 w4.drew w.heap.size o' lo' := ho3.below (below_drew _)
      generalize w4.drew = w5 at *
      have hkp4 : ¬ (x.cls ≠ d.cls ∨ (x.ed = d.ed ∧ x ≠ d)) → keptF d l false = (keptF d (l.drop (i + 1)) true).map (lo' ++ [if x.ed < d.ed then d else x] ++ ·) := fun hn => by
        rw [hkp3, keptF, if_neg (by omega), if_neg (by omega), if_neg hn]
        cases keptF d (l.drop (i + 1)) true <;> simp
      have bad : (x.cls ≠ d.cls ∨ (x.ed = d.ed ∧ x ≠ d)) → k (.tuple #[.slice none 0 0, .bool false]) w5 := fun hn =>
        hk _ false [] w5 hb3 (by rw [hkp3, keptF, if_neg (by omega), if_neg (by omega), if_pos hn]; rfl) (Mine.nil _ _)
      rw [nt24_2 rfl (hs.below hb3) hx rfl, rt31_2 (hr3.cell (i := 2) rfl), t_neq]
      by_cases h2 : x.cls = d.cls
      case' neg =>
        rw [decide_eq_false h2]
        simp only [Bool.not_false, guardT_tf, guardT_u, pickT_true, condW_true]
        exact bad (.inl h2)
      rw [decide_eq_true h2]
      simp only [Bool.not_true, guardT_ff]
      rw [nt24_1 rfl (hs.below hb3) hx rfl, rt31_1 (hr3.cell (i := 1) rfl), t_eql]
      by_cases h3 : x.ed = d.ed
      case' pos =>
        rw [decide_eq_true h3]
        simp only [guardT_tt]
        rw [nta24 rfl (hs.below hb3) hx, xld31 (vs := fD.e d) rfl hr3.cells]
        refine t_neqD.mpr ?_
        by_cases h4 : x = d
        case' neg =>
          rw [decide_eq_false h4]
          simp only [Bool.not_false, pickT_true, pickT_false, condW_true]
          exact bad (.inr ⟨h3, h4⟩)
        rw [decide_eq_true h4]
        simp only [Bool.not_true, pickT_true, pickT_false, condW_false]
        have hn : ¬ (x.cls ≠ d.cls ∨ (x.ed = d.ed ∧ x ≠ d)) := fun hh => hh.elim (fun hh => hh h2) fun hh => hh.2 h4
      case' neg =>
        rw [decide_eq_false h3]
        simp only [guardT_ft, guardT_u, pickT_true, pickT_false, condW_false]
        have hn : ¬ (x.cls ≠ d.cls ∨ (x.ed = d.ed ∧ x ≠ d)) := fun hh => hh.elim (fun hh => hh h2) fun hh => h3 hh.1
      all_goals
        refine joinW_use1 (Pre := fun o' w' => Below w.heap.size w w' ∧ RowAt w' w.heap.size 31 (fD.e d) ∧ Mine fD 31 w' w.heap.size o' (lo' ++ [if x.ed < d.ed then d else x]) ∧ ¬ isOf o' w.heap.size) ?_ ?_
        · rintro o2 w6 ⟨hb6, hr6, ho6, hno6⟩
          exact hJ _ _ _ ⟨true, lo' ++ [if x.ed < d.ed then d else x], rfl, hb6, hr6, ho6, hno6, by simp; omega, hkp4 hn⟩
        intro J2 hJ2
        rw [drewW_eq]
        have hb3 := hb3.trans (Below.refl _ w5).drew
        have hr3 := hr3.drew
        replace ho3 : Mine fD 31 w5.drew w.heap.size o' lo' := ho3.below (below_drew _)
        generalize w5.drew = w6 at *
        rw [nt24_1 rfl (hs.below hb3) hx rfl, rt31_1 (hr3.cell (i := 1) rfl), t_lss]
        by_cases h5 : x.ed < d.ed
        · rw [decide_eq_true h5, condW_true, ld31 (vs := fD.e d) rfl hr3.cells]
          refine push d _ _ hb3 hr3 ho3 fun r w7 hb7 hr7 ho7 hno7 => hJ2 _ _ ⟨hb7, hr7, ?_, hno7⟩
          rw [if_pos h5]; exact ho7
        · rw [decide_eq_false h5, condW_false, na24 rfl (hs.below hb3) hx]
          refine push x _ _ hb3 hr3 ho3 fun r w7 hb7 hr7 ho7 hno7 => hJ2 _ _ ⟨hb7, hr7, ?_, hno7⟩
          rw [if_neg h5]; exact ho7
    · intro J' hJ'
      have hb2 := hb2.trans (Below.refl _ w2).drew
      have hr2 := hr2.drew
      replace ho : Mine fD 31 w2.drew w.heap.size o lo := ho.below (below_drew _)
      rw [drewW_eq]
      generalize w2.drew = w3 at *
      rw [nt24_0 rfl (hs.below hb2) hx rfl, rt31_0 (hr2.cell (i := 0) rfl), t_gtr]
      by_cases h1 : d.story < x.story
      · rw [decide_eq_true (by omega)]
        simp only [guardT_tt]
        rw [t_not]
        cases done with
        | true =>
          simp only [Bool.not_true, pickT_true, condW_false]
          exact hJ' _ _ _ ⟨true, lo, rfl, hb2, hr2, ho, hno, hlo, .inl rfl, hkp⟩
        | false =>
          simp only [Bool.not_false, pickT_true, condW_true]
          have hl3 := hr2.lt
          rw [ld31 (vs := fD.e d) rfl hr2.cells]
          refine Mine.push sty24 (eD.one d) rfl (by decide) ho hb2.size (by unfold maxLen; simp at hlo; omega) (by simp at hlo; omega) fun r w6 ho6 hb6 hof6 hnew6 => ?_
          refine hJ' _ _ _ ⟨true, lo ++ [d], rfl, hb2.trans hb6, hr2.off hof6 hno, ho6, fun hh => (hnew6 _ hh).elim hno (by omega), by simp at hlo ⊢; omega, .inl rfl, ?_⟩
          rw [hkp, keptF, if_pos ⟨h1, rfl⟩, keptF, if_neg (by simp), if_pos (by omega)]
          cases keptF d (l.drop (i + 1)) true <;> simp
      · rw [decide_eq_false (by omega)]
        simp only [guardT_ft, guardT_u, pickT_false, condW_false]
        exact hJ' _ _ _ ⟨done, lo, rfl, hb2, hr2, ho, hno, hlo, .inr h1, hkp⟩
  · rw [decide_eq_false (by omega), condW_false]
    rw [List.drop_of_length_le (by omega), keptF] at hkp
    refine joinW_use1 (Pre := fun o' w' => ∃ lo', Below w.heap.size w w' ∧ Mine fD 31 w' w.heap.size o' lo' ∧ keptF d l false = some lo') ?_ ?_
    · rintro o' w3 ⟨lo', hb3, ho3, hk3⟩
      exact hk _ true lo' w3 hb3 (by rw [hk3]; rfl) ho3
    intro J hJ
    rw [w_not]
    cases done with
    | true =>
      rw [Bool.not_true, condW_false]
      exact hJ _ _ ⟨lo, hb2, ho, by rw [hkp]; simp⟩
    | false =>
      rw [Bool.not_false, condW_true, ld31 (vs := fD.e d) rfl hr2.cells]
      refine Mine.push sty24 (eD.one d) rfl (by decide) ho hb2.size (by unfold maxLen; simp at hlo; omega) (by simp at hlo; omega) fun r w6 ho6 hb6 hof6 hnew6 => ?_
      exact hJ _ _ ⟨lo ++ [d], hb2.trans hb6, ho6, by rw [hkp]; rfl⟩)
end
end Go.Proofs.YtklknkmeljjmgaaGreatDoor
/- The reference: slips. -/
set_option linter.unusedSimpArgs false
set_option linter.unusedVariables false
namespace Go.Proofs.YtklknkmeljjmgaaGreatDoor
open Go Go.V Go.RowKit
theorem merge_lt {x y : Slp} {a b : List Slp} (h : befP x y) : mergeG cmpP joinP (x :: a) (y :: b) = (mergeG cmpP joinP a (y :: b)).map (x :: ·) := by
  rw [mergeG, if_pos (cmpP_lt.2 h)]
theorem merge_gt {x y : Slp} {a b : List Slp} (h : befP y x) : mergeG cmpP joinP (x :: a) (y :: b) = (mergeG cmpP joinP (x :: a) b).map (y :: ·) := by
  have h1 : cmpP y x < 0 := cmpP_lt.2 h
  rw [mergeG, if_neg (lawP.asym _ _ h1), if_pos (by
    rw [cmpP_lt] at h1
    by_cases h2 : 0 < cmpP x y
    · exact h2
    · exfalso
      have h3 : ¬ cmpP x y < 0 := lawP.asym _ _ (cmpP_lt.2 h1)
      have : cmpP x y = 0 := by omega
      unfold cmpP at this
      simp only [orI] at this
      revert this
      unfold befP at h
      unfold cmpI
      repeat' split
      all_goals omega)]
theorem merge_eq {x y : Slp} {a b : List Slp} (h1 : ¬ befP x y) (h2 : ¬ befP y x) : mergeG cmpP joinP (x :: a) (y :: b) = if x = y then (mergeG cmpP joinP a b).map (x :: ·) else none := by
  have e1 : ¬ cmpP x y < 0 := fun h => h1 (cmpP_lt.1 h)
  have e2 : ¬ 0 < cmpP x y := fun h => h2 (by
    unfold befP at h1 ⊢
    unfold cmpP at h
    simp only [orI] at h
    revert h
    unfold cmpI
    repeat' split
    all_goals omega)
  rw [mergeG, if_neg e1, if_neg e2]
  unfold joinP
  by_cases h : x = y
  · simp [h]
  · simp [h]
theorem drop_some {α : Type} {l : List α} {i : Nat} {x : α} (h : l[i]? = some x) : l.drop i = x :: l.drop (i + 1) := by
  obtain ⟨hi, he⟩ := List.getElem?_eq_some_iff.1 h
  rw [List.drop_eq_getElem_cons hi, he]
section
variable {k : Value → World → Prop} {w : World}
theorem c57 {u v : Value} {a b : List Slp} (hu : IsSl fP w u a) (hv : IsSl fP w v b) (hl : a.length + b.length ≤ 1000000)
    (hk : ∀ r ok o w', Below w.heap.size w w' → mergeG cmpP joinP a b = (if ok then some o else none) → Mine fP 63 w' w.heap.size r o → k (.tuple #[r, .bool ok]) w') : callW Tryz.prog (.func (.func 57) #[] #[]) #[u, v] k w := C57 _ _ _ _ (by
  unfold S57
  let Inv : Nat → Value → Value → Value → World → Prop := fun n o ia kb w' => ∃ (i j : Nat) (lo : List Slp), ia = I i ∧ kb = I j ∧ i ≤ a.length ∧ j ≤ b.length ∧ n = (a.length - i) + (b.length - j) ∧ Below w.heap.size w w' ∧ Mine fP 63 w' w.heap.size o lo ∧ lo.length ≤ i + j ∧
    mergeG cmpP joinP a b = (mergeG cmpP joinP (a.drop i) (b.drop j)).map (lo ++ ·)
  refine Loop3.intro Inv _ ⟨0, 0, [], rfl, rfl, by omega, by omega, rfl, Below.refl _ _, Mine.nil _ _, by simp, by simp⟩ ?_
  rintro n o _ _ w1 ⟨i, j, lo, rfl, rfl, hi, hj, rfl, hb1, ho, hlo, hm⟩
  have push : ∀ (y : Slp) (w5 : World) (K : Value → World → Prop), Below w.heap.size w w5 → Mine fP 63 w5 w.heap.size o lo → (∀ r w6, Below w.heap.size w w6 → Mine fP 63 w6 w.heap.size r (lo ++ [y]) → K r w6) →
      opW Tryz.prog (Instr.buildSlice 25 1 #[(0, agP y)]) (fun s w => opW Tryz.prog (Builtin.append_ #[25, 25] 25 #[o, s]) (fun r w => K r w) w) w5 := fun y w5 K hb5 ho5 hK => by
    refine Mine.push sty25 (eP.one y) rfl (by decide) ho5 hb5.size (by unfold maxLen; omega) (by omega) fun r w6 ho6 hb6 hof6 hnew6 => hK r w6 (hb5.trans hb6) ho6
  refine (len25 (hu.below hb1)).mpr ?_
  rw [w_lss]
  have drewn : ∀ {w' : World}, Below w.heap.size w w' → Mine fP 63 w' w.heap.size o lo → Below w.heap.size w w'.drew ∧ Mine fP 63 w'.drew w.heap.size o lo := fun h1 h2 => ⟨h1.trans (Below.refl _ _).drew, h2.below (below_drew _)⟩
  by_cases h1 : i < a.length
  · rw [decide_eq_true (by omega)]
    simp only [guardW_tf, guardW_u, pickW_true, condW_true]
    obtain ⟨x, hx⟩ : ∃ x, a[i]? = some x := ⟨_, List.getElem?_eq_getElem h1⟩
    rw [drop_some hx] at hm
    refine joinW_use3 (Pre := fun o' ia kb w' => ∃ n', n' < (a.length - i) + (b.length - j) ∧ Inv n' o' ia kb w') ?_ ?_
    · rintro o' ia kb w' h
      rw [loopK_self]; exact h
    intro J hJ
    rw [drewW_eq]
    obtain ⟨hb2, ho2⟩ := drewn hb1 ho
    generalize w1.drew = w2 at *
    rw [tlen25 (hv.below hb2), t_eql]
    have stepA : ∀ w5, Below w.heap.size w w5 → Mine fP 63 w5 w.heap.size o lo → mergeG cmpP joinP (x :: a.drop (i + 1)) (b.drop j) = (mergeG cmpP joinP (a.drop (i + 1)) (b.drop j)).map (x :: ·) →
        opW Tryz.prog (Instr.indexAt 25 u (I i)) (fun t w => opW Tryz.prog (Instr.loadAt 63 t) (fun t w => opW Tryz.prog (Instr.buildSlice 25 1 #[(0, t)]) (fun t w => opW Tryz.prog (Builtin.append_ #[25, 25] 25 #[o, t]) (fun t46 w => opW Tryz.prog (binS BinOp.add 3 (Operand.tmp 47) (Operand.const (Value.int IntKind.i64 1)) (I i) (I 1)) (fun t48 w => J t46 t48 (I j) w) w) w) w) w) w5 := fun w5 hb5 ho5 hstep => by
      rw [na25 rfl (hu.below hb5) hx]
      refine push x _ _ hb5 ho5 fun r w6 hb6 ho6 => ?_
      rw [w_add, wrap_id (by omega)]
      refine hJ _ _ _ _ ⟨(a.length - (i + 1)) + (b.length - j), by omega, i + 1, j, lo ++ [x], by simp [I], rfl, by omega, hj, rfl, hb6, ho6, by simp; omega, ?_⟩
      rw [hm, hstep]
      cases mergeG cmpP joinP (a.drop (i + 1)) (b.drop j) <;> simp
    by_cases h2 : j = b.length
    · rw [decide_eq_true (by omega)]
      simp only [guardT_tf, guardT_u, guardW_u, guardW_tf, pickT_true, condW_true]
      refine stepA _ hb2 ho2 ?_
      rw [h2, List.drop_length, mergeG]
      cases a.drop (i + 1) <;> simp [mergeG]
    rw [decide_eq_false (by omega)]
    obtain ⟨y, hy⟩ : ∃ y, b[j]? = some y := ⟨_, List.getElem?_eq_getElem (by omega)⟩
    rw [drop_some hy] at hm stepA
    simp only [guardT_ff]
    rw [tlen25 (hu.below hb2), t_lss, decide_eq_true (by omega)]
    simp only [guardT_tt, guardW_tt]
    rw [nta25 rfl (hu.below hb2) hx, nta25 rfl (hv.below hb2) hy]
    refine c71 (a := x) (b := y) fun w3 hb3 => ?_
    have hb3' := hb2.trans (hb3.mono hb2.size)
    have ho3 := ho2.below hb3
    simp only [pickT_true, pickT_false]
    by_cases hxy : befP x y
    · rw [decide_eq_true hxy, condW_true]
      exact stepA _ hb3' ho3 (merge_lt hxy)
    rw [decide_eq_false hxy, condW_false]
    refine joinW_use1 (Pre := fun ia w' => ∃ i' : Nat, ia = I i' ∧ Below w.heap.size w w' ∧ Mine fP 63 w' w.heap.size o lo ∧ i ≤ i' ∧ i' ≤ a.length ∧ mergeG cmpP joinP a b = (mergeG cmpP joinP (a.drop i') (b.drop (j + 1))).map (lo ++ [y] ++ ·)) ?_ ?_
    · rintro _ w4 ⟨i', rfl, hb4, ho4, hii, hia, hm4⟩
      rw [na25 rfl (hv.below hb4) hy]
      refine push y _ _ hb4 ho4 fun r w6 hb6 ho6 => ?_
      rw [w_add, wrap_id (by omega)]
      exact hJ _ _ _ _ ⟨(a.length - i') + (b.length - (j + 1)), by have := (List.getElem?_eq_some_iff.1 hy).1; omega, i', j + 1, lo ++ [y], rfl, by simp [I], hia, by omega, rfl, hb6, ho6, by simp; omega, hm4⟩
    intro J2 hJ2
    rw [drewW_eq]
    obtain ⟨hb4, ho4⟩ := drewn hb3' ho3
    generalize w3.drew = w4 at *
    rw [tlen25 (hu.below hb4), t_lss, decide_eq_true (by omega)]
    simp only [guardT_tt, guardW_tt]
    rw [nta25 rfl (hv.below hb4) hy, nta25 rfl (hu.below hb4) hx]
    refine c71 (a := y) (b := x) fun w5 hb5 => ?_
    have hb5' := hb4.trans (hb5.mono hb4.size)
    have ho5 := ho4.below hb5
    rw [t_not, pickT_true]
    by_cases hyx : befP y x
    · rw [decide_eq_true hyx, Bool.not_true, condW_false]
      refine hJ2 _ _ ⟨i, rfl, hb5', ho5, Nat.le_refl _, hi, ?_⟩
      rw [hm, merge_gt hyx, drop_some hx]
      cases mergeG cmpP joinP (x :: a.drop (i + 1)) (b.drop (j + 1)) <;> simp
    · rw [decide_eq_false hyx, Bool.not_false, condW_true, drewW_eq]
      obtain ⟨hb6, ho6⟩ := drewn hb5' ho5
      generalize w5.drew = w6 at *
      rw [nta25 rfl (hu.below hb6) hx, nta25 rfl (hv.below hb6) hy]
      refine t_neqP.mpr ?_
      rw [merge_eq hxy hyx] at hm
      by_cases he : x = y
      · rw [decide_eq_true he, Bool.not_true, condW_false, w_add, wrap_id (by omega)]
        refine hJ2 _ _ ⟨i + 1, by simp [I], hb6, ho6, by omega, by omega, ?_⟩
        rw [hm, if_pos he, he]
        cases mergeG cmpP joinP (a.drop (i + 1)) (b.drop (j + 1)) <;> simp
      · rw [decide_eq_false he, Bool.not_false, condW_true]
        exact hk _ false [] _ hb6 (by rw [hm, if_neg he]; rfl) (Mine.nil _ _)
  · rw [decide_eq_false (by omega)]
    simp only [guardW_ff]
    have hia : i = a.length := by omega
    rw [hia, List.drop_length, mergeG] at hm
    refine (len25 (hv.below hb1)).mpr ?_
    rw [w_lss]
    simp only [pickW_false]
    by_cases h2 : j < b.length
    · rw [decide_eq_true (by omega), condW_true]
      obtain ⟨y, hy⟩ : ∃ y, b[j]? = some y := ⟨_, List.getElem?_eq_getElem h2⟩
      rw [drop_some hy] at hm
      refine joinW_use3 (Pre := fun o' ia kb w' => ∃ n', n' < (a.length - i) + (b.length - j) ∧ Inv n' o' ia kb w') ?_ ?_
      · rintro o' ia kb w' h
        rw [loopK_self]; exact h
      intro J hJ
      rw [drewW_eq]
      obtain ⟨hb2, ho2⟩ := drewn hb1 ho
      generalize w1.drew = w2 at *
      rw [tlen25 (hv.below hb2), t_eql, decide_eq_false (by omega)]
      simp only [guardT_ff]
      rw [tlen25 (hu.below hb2), t_lss, decide_eq_false (by omega)]
      simp only [guardT_ft, guardT_u, guardW_ft, guardW_u, pickT_false, condW_false]
      refine joinW_use1 (Pre := fun ia w' => ia = I i ∧ Below w.heap.size w w' ∧ Mine fP 63 w' w.heap.size o lo) ?_ ?_
      · rintro _ w4 ⟨rfl, hb4, ho4⟩
        rw [na25 rfl (hv.below hb4) hy]
        refine push y _ _ hb4 ho4 fun r w6 hb6 ho6 => ?_
        rw [w_add, wrap_id (by omega)]
        refine hJ _ _ _ _ ⟨(a.length - i) + (b.length - (j + 1)), by omega, i, j + 1, lo ++ [y], rfl, by simp [I], hi, by omega, rfl, hb6, ho6, by simp; omega, ?_⟩
        rw [hm, hia, List.drop_length, mergeG]; simp
      intro J2 hJ2
      rw [drewW_eq]
      obtain ⟨hb4, ho4⟩ := drewn hb2 ho2
      generalize w2.drew = w4 at *
      rw [tlen25 (hu.below hb4), t_lss, decide_eq_false (by omega)]
      simp only [guardT_ft, guardT_u, guardW_ft, guardW_u, pickT_false, condW_false]
      exact hJ2 _ _ ⟨rfl, hb4, ho4⟩
    · rw [decide_eq_false (by omega), condW_false]
      rw [List.drop_of_length_le (by omega)] at hm
      exact hk _ true lo _ hb1 (by rw [hm]; simp) ho)
end
end Go.Proofs.YtklknkmeljjmgaaGreatDoor
/- The reference: Put and Hear. -/
set_option linter.unusedSimpArgs false
set_option linter.unusedVariables false
namespace Go.Proofs.YtklknkmeljjmgaaGreatDoor
open Go Go.V Go.RowKit
section
variable {k : Value → World → Prop} {w : World}
theorem copyPS {w0 : World} {v : Value} {l : List Slp} {K : Value → World → Prop} (hs : IsSl fP w v l) (hl : l.length ≤ 1000000) (h0 : after w0 w) (hk : ∀ u w', Below w.heap.size w w' → Mine fP 63 w' w.heap.size u l → K u w') :
    opW Tryz.prog (Instr.buildSlice 25 0 #[]) (fun s w => keepS (after w0) (fun w => opW Tryz.prog (Builtin.append_ #[25, 25] 25 #[s, v]) (fun r w => keepS (after w0) (fun w => K r w) w) w) w) w := by
  rw [w_build0 sty25]
  have hb1 := below_alloc w (.cells #[] 63 (0, 0))
  have hrow : (w.alloc (.cells #[] 63 (0, 0))).heap[w.heap.size]? = some (.cells #[] 63 (0, 0)) := World.alloc_heap_new _ _
  have hown : Mine fP 63 (w.alloc (.cells #[] 63 (0, 0))) w.heap.size (.slice (some ⟨w.heap.size, 0, none⟩) 0 0) [] := ⟨by simp [flat], .inr ⟨w.heap.size, 0, #[], rfl, Nat.le_refl _, hrow, Nat.le_refl _, by unfold maxLen; omega, by simp, by simp [flat]⟩⟩
  rw [keepS_eq]
  refine ⟨h0.trans (hb1.mono h0.size), Mine.append (F := fP) sty25 eP.one hown (hs.below hb1) hb1.size (by simp; unfold maxLen; omega) (by simp; omega) fun v' w' ho hb _ _ => ?_⟩
  rw [keepS_eq]
  exact ⟨h0.trans ((hb1.trans hb).mono h0.size), hk v' w' (hb1.trans hb) (by simpa using ho)⟩
def putRef (r : Rel) (d : Disp) (e : Int) (r' : Rel) : Prop :=
  (ValidR r ∧ rightP d ∧ ((∃ o, keptF d r.kept false = some o ∧ e = 0 ∧ r' = { r with kept := o }) ∨ (keptF d r.kept false = none ∧ e = 250 ∧ r' = zeroR))) ∨ (¬ (ValidR r ∧ rightP d) ∧ e = 250 ∧ r' = zeroR)
theorem b27_4' {a b : Int} {kv sv : Value} {l : List Disp} {m : List Slp} {w0 w1 : World} (h1 : IsSl fD w0 kv l) (h2 : IsSl fP w1 sv m) : opW Tryz.prog (Instr.build 27 #[(0, I a), (1, I b), (2, kv), (3, sv)]) k w = k (.agg #[I a, I b, kv, sv]) w := by
  obtain ⟨a1, c1, rfl, _⟩ := h1
  obtain ⟨a2, c2, rfl, _⟩ := h2
  exact opW_ok (by kernel_rfl)
theorem c24 {v : Value} {r : Rel} {d : Disp} (h : RelV w v r) (hsm : small r) (hk : ∀ v' w' e r', Below w.heap.size w w' → putRef r d e r' → RelV w' v' r' → Fr w.heap.size v' → k (.tuple #[v', I e]) w') : callW Tryz.prog (.func (.func 24) #[] #[]) #[v, agD d] k w := C24 _ _ _ _ (by
  unfold S24
  refine boxR h fun k0 s0 w1 hv h0 hs0 hb1 hsz1 hr1 => boxD (d := d) fun w2 hb2 hsz2 hr2 => al27 fun w3 hb3 hsz3 hr3 => ?_
  have hr1 := (hr1.below hb2).below hb3
  have hr2 := hr2.below hb3
  have hb02 := below_trans hb1 hb2
  have hb03 := below_trans hb02 hb3
  rw [ld27 (vs := [I r.id, I r.paper, k0, s0]) rfl hr1.cells]
  refine c16 (r := r) ⟨k0, s0, rfl, h0.below hb03, hs0.below hb03⟩ hsm fun b w4 hb4 hbs => ?_
  have hr1 := hr1.below hb4
  have hr2 := hr2.below hb4
  have hr3 := hr3.below hb4
  have hb04 := below_trans hb03 hb4
  rw [w_not]
  cases b with
  | false =>
    simp only [Bool.not_false, guardW_tf, guardW_u, pickW_true, condW_true]
    exact badR hr3 hb04 hb02.size fun v' w' hb hv' hf => hk v' w' 250 zeroR hb (.inr ⟨fun hh => (by have := hbs.2 hh.1; cases this), rfl, rfl⟩) hv' hf
  | true =>
  simp only [Bool.not_true, guardW_ff]
  rw [ld31 (vs := fD.e d) rfl hr2.cells]
  refine c55 (d := d) fun w5 hb5 => ?_
  have hr1 := hr1.below hb5
  have hr2 := hr2.below hb5
  have hr3 := hr3.below hb5
  have hb05 := below_trans hb04 hb5
  rw [w_not]
  by_cases hd : rightP d
  case' neg =>
    rw [decide_eq_false hd]
    simp only [Bool.not_false, pickW_false, condW_true]
    exact badR hr3 hb05 hb02.size fun v' w' hb hv' hf => hk v' w' 250 zeroR hb (.inr ⟨fun hh => hd hh.2, rfl, rfl⟩) hv' hf
  rw [decide_eq_true hd]
  simp only [Bool.not_true, pickW_false, condW_false]
  have hvr := hbs.1 rfl
  have hroom := hvr.small
  rw [rw27_2 (hr1.cell (i := 2) rfl), ld31 (vs := fD.e d) rfl hr2.cells]
  refine c56 (h0.below hb05) (by omega) fun u ok o w6 hb6 hkp hu => ?_
  have hr1 := hr1.below hb6
  have hr3 := hr3.below hb6
  have hb06 := below_trans hb05 hb6
  rw [w_extract (v := u) rfl, w_extract (v := .bool ok) rfl, w_not]
  cases ok with
  | false =>
    rw [Bool.not_false, condW_true]
    exact badR hr3 hb06 hb02.size fun v' w' hb hv' hf => hk v' w' 250 zeroR hb (.inl ⟨hvr, hd, .inr ⟨by simpa using hkp, rfl, rfl⟩⟩) hv' hf
  | true =>
  rw [Bool.not_true, condW_false, drewW_eq]
  have hb06 := hb06.trans (Below.refl _ w6).drew
  have hr1 := hr1.drew
  have hr3 := hr3.drew
  have hu := hu.below (below_drew _)
  generalize w6.drew = w7 at *
  refine ⟨after w7, after_refl _, ?_⟩
  rw [ra27_0 (hr1.cell (i := 0) rfl) (after_refl _), ra27_1 (hr1.cell (i := 1) rfl) (after_refl _), ra27_3 (hr1.cell (i := 3) rfl) (after_refl _)]
  refine copyPS (hs0.below hb06) (by omega) (after_refl _) fun x w8 hb8 hx => ?_
  rw [b27_4' hu.sl hx.sl, keepS_eq]
  refine ⟨hb8, ?_⟩
  have hr3 := hr3.below hb8
  have hu8 := (hu.below hb8).sl
  have hn := no27 hr3 nilSlice nilSlice
  refine sr27 (vs := [I r.id, I r.paper, u, x]) rfl hr3 rfl (oneR hu8 hx.sl) fun w9 ho9 hr9 => ?_
  rw [rc27 rfl hr9.cells]
  refine hk _ _ 0 { r with kept := o } ((below_trans hb06 hb8).trans (ho9.rest _ hb02.size)) (.inl ⟨hvr, hd, .inl ⟨o, by simpa using hkp, rfl, rfl⟩⟩) ⟨u, x, rfl, slOnly hu8 ho9 hn.1, slOnly hx.sl ho9 hn.2⟩ (Fr.rel (fun b hb => Nat.le_trans hb05.size (hu.ge hb).1) fun b hb => Nat.le_trans hb06.size (hx.ge hb).1))
end
end Go.Proofs.YtklknkmeljjmgaaGreatDoor
/- The reference: Hear. -/
set_option linter.unusedSimpArgs false
set_option linter.unusedVariables false
namespace Go.V
open Go Go.RowKit
theorem mkSl {P : Program} {w : World} {t e : Nat} {K : Value → World → Prop} {α : Type} {F : Fl α} {bytes : Nat} {z : Value} (h : STy P t e F.sz bytes z)
    (hk : ∀ v w', Below w.heap.size w w' → Mine F e w' w.heap.size v [] → (∀ b, isOf v b → b = w.heap.size) → w'.heap.size = w.heap.size + 1 → K v w') : opW P (Instr.buildSlice t 0 #[]) K w := by
  rw [w_build0 h]
  refine hk _ _ ((Below.refl _ _).alloc (Nat.le_refl _) _) ⟨by simp [flat], .inr ⟨w.heap.size, 0, #[], rfl, Nat.le_refl _, World.alloc_heap_new _ _, Nat.le_refl _, by unfold maxLen; omega, by simp, by simp [flat]⟩⟩ (fun b hb => by simp [isOf, Value.ownBlock] at hb; exact hb.symm) (by simp)
end Go.V
namespace Go.Proofs.YtklknkmeljjmgaaGreatDoor
open Go Go.V Go.RowKit
def keptsF : List Disp → List Disp → Option (List Disp)
  | l, [] => some l
  | l, d :: ds => (keptF d l false).bind fun l' => keptsF l' ds
def hearOk (r : Rel) (p : Pack) (x : Rel) : Prop := ∃ o s, keptsF r.kept p.kept = some o ∧ mergeG cmpP joinP r.slips p.slips = some s ∧ x = ⟨r.id, r.paper, o, s⟩ ∧ ValidR x
def hearRef (r : Rel) (p : Pack) (e : Int) (r' : Rel) : Prop :=
  (ValidR r ∧ HeldP p ∧ ((hearOk r p r' ∧ e = 0) ∨ ((¬ ∃ x, hearOk r p x) ∧ e = 250 ∧ r' = zeroR))) ∨ (¬ (ValidR r ∧ HeldP p) ∧ e = 250 ∧ r' = zeroR)
theorem keptF_len {d : Disp} : ∀ {l : List Disp} {done : Bool} {o : List Disp}, keptF d l done = some o → o.length ≤ l.length + 1
  | [], done, o, h => by simp only [keptF, Option.some.injEq] at h; subst h; split <;> simp
  | x :: l, done, o, h => by
    have key : ∀ {l : List Disp} {o : List Disp}, keptF d l true = some o → o.length ≤ l.length := by
      intro l
      induction l with
      | nil => intro o h; simp [keptF] at h; subst h; simp
      | cons x l ih =>
        intro o h
        rw [keptF, if_neg (by simp)] at h
        split at h
        · obtain ⟨o', h', rfl⟩ := Option.map_eq_some_iff.1 h
          have := ih h'; simp; omega
        · split at h
          · cases h
          · obtain ⟨o', h', rfl⟩ := Option.map_eq_some_iff.1 h
            have := ih h'; simp; omega
    rw [keptF] at h
    split at h
    · obtain ⟨o', h', rfl⟩ := Option.map_eq_some_iff.1 h
      have := key h'; simp; omega
    · split at h
      · obtain ⟨o', h', rfl⟩ := Option.map_eq_some_iff.1 h
        have := keptF_len h'; simp; omega
      · split at h
        · cases h
        · obtain ⟨o', h', rfl⟩ := Option.map_eq_some_iff.1 h
          have := key h'; simp; omega
section
variable {k : Value → World → Prop} {w : World}
theorem b27_3 {a b : Int} {kv : Value} {l : List Disp} {w0 : World} (h1 : IsSl fD w0 kv l) : opW Tryz.prog (Instr.build 27 #[(0, I a), (1, I b), (2, kv)]) k w = k (.agg #[I a, I b, kv, .slice none 0 0]) w := by
  obtain ⟨a1, c1, rfl, _⟩ := h1
  exact opW_ok (by kernel_rfl)
theorem c28 {v pv : Value} {r : Rel} {p : Pack} (h : RelV w v r) (hp : PackV w pv p) (hsm : small r) (hpm : p.kept.length ≤ 5000 ∧ p.slips.length ≤ 5000) (hk : ∀ v' w' e r', Below w.heap.size w w' → hearRef r p e r' → RelV w' v' r' → Fr w.heap.size v' → k (.tuple #[v', I e]) w') : callW Tryz.prog (.func (.func 28) #[] #[]) #[v, pv] k w := C28 _ _ _ _ (by
  unfold S28
  refine boxR h fun k0 s0 w1 hv h0 hs0 hb1 hsz1 hr1 => boxK (hp.below hb1) fun kp sp w2 hpv hkp hsp hb2 hsz2 hr2 => al27 fun w3 hb3 hsz3 hr3 => ?_
  have hr1 := (hr1.below hb2).below hb3
  have hr2 := hr2.below hb3
  have hb02 := below_trans hb1 hb2
  have hb03 := below_trans hb02 hb3
  have hb13 := below_trans hb2 hb3
  rw [ld27 (vs := [I r.id, I r.paper, k0, s0]) rfl hr1.cells]
  refine c16 (r := r) ⟨k0, s0, rfl, h0.below hb03, hs0.below hb03⟩ hsm fun b w4 hb4 hbs => ?_
  have hr1 := hr1.below hb4
  have hr2 := hr2.below hb4
  have hr3 := hr3.below hb4
  have hb04 := below_trans hb03 hb4
  have hb14 := below_trans hb13 hb4
  rw [w_not]
  have badX : ∀ w', Below w.heap.size w w' → RowAt w' w2.heap.size 27 [I 0, I 0, .slice none 0 0, .slice none 0 0] → hearRef r p 250 zeroR → opW Tryz.prog (Instr.build 27 #[]) (fun t w => opU Tryz.prog (Instr.storeAt 27 (.pointer (some ⟨w2.heap.size, 0, none⟩)) t) (fun _ w => resCell Tryz.prog 27 (.pointer (some ⟨w2.heap.size, 0, none⟩)) (fun r => k (.tuple #[r, I 250]) w) w) w) w' := fun w' hb hr hn =>
    badR hr hb hb02.size fun v' w' hb hv' hf => hk v' w' 250 zeroR hb hn hv' hf
  have bad : ∀ w', Below w4.heap.size w4 w' → ¬ (ValidR r ∧ HeldP p) → opW Tryz.prog (Instr.build 27 #[]) (fun t w => opU Tryz.prog (Instr.storeAt 27 (.pointer (some ⟨w2.heap.size, 0, none⟩)) t) (fun _ w => resCell Tryz.prog 27 (.pointer (some ⟨w2.heap.size, 0, none⟩)) (fun r => k (.tuple #[r, I 250]) w) w) w) w' := fun w' hb hn =>
    badX w' (below_trans hb04 hb) (hr3.below hb) (.inr ⟨hn, rfl, rfl⟩)
  cases b with
  | false =>
    simp only [Bool.not_false, guardW_tf, guardW_u, pickW_true, condW_true]
    exact bad _ (Below.refl _ _) fun hh => by have := hbs.2 hh.1; cases this
  | true =>
  have hvr := hbs.1 rfl
  have hroom := hvr.small
  simp only [Bool.not_true, guardW_ff]
  rw [rw29_0 (hr2.cell (i := 0) rfl)]
  refine c45 ?_
  rw [w_not]
  by_cases hs : 0 ≤ p.src ∧ p.src ≤ 7
  case' neg =>
    rw [decide_eq_false hs]
    simp only [Bool.not_false, pickW_false, guardW_tf, guardW_u, pickW_true, condW_true]
    exact bad _ (Below.refl _ _) fun hh => hs hh.2.1
  rw [decide_eq_true hs]
  simp only [Bool.not_true, pickW_false, guardW_ff]
  rw [rw29_1 (hr2.cell (i := 1) rfl)]
  refine c46 (hkp.below hb14) (by omega) fun b w5 hb5 hb5s => ?_
  rw [w_not]
  cases b with
  | false =>
    simp only [Bool.not_false, pickW_false, guardW_tf, guardW_u, pickW_true, condW_true]
    exact bad _ hb5 fun hh => by have := hb5s.2 hh.2.2.2.1; cases this
  | true =>
  simp only [Bool.not_true, pickW_false, guardW_ff]
  rw [rw29_2 ((hr2.below hb5).cell (i := 2) rfl)]
  refine c47 (hsp.below (below_trans hb14 hb5)) (by omega) fun b w6 hb6 hb6s => ?_
  rw [w_not]
  have hb46 := below_trans hb5 hb6
  cases b with
  | false =>
    simp only [Bool.not_false, pickW_false, condW_true]
    exact bad _ hb46 fun hh => by have := hb6s.2 ⟨hh.2.2.1, hh.2.2.2.2⟩; cases this
  | true =>
  simp only [Bool.not_true, pickW_false, condW_false]
  have hst := hb5s.1 rfl
  have hsf := hb6s.1 rfl
  have hheld : HeldP p := ⟨hs, hsf.1, hst, hsf.2⟩
  have hpl := hst.len
  clear bad
  have hb06 := below_trans hb04 hb46
  have hb16 := below_trans hb14 hb46
  have hr1 := hr1.below hb46
  have hr2 := hr2.below hb46
  have hr3 := hr3.below hb46
  have hs1 := hb1.size
  have hs2 := hb2.size
  have hs3 := hb3.size
  have hs4 := hb4.size
  have hs6 := hb46.size
  refine joinW_use1 (Pre := fun ov w' => ∃ g u, ov = .pointer (some ⟨g, 0, none⟩) ∧ RowAt w' g 27 [I r.id, I r.paper, u, .slice none 0 0] ∧ Mine fD 31 w' w6.heap.size u r.kept ∧ Below w6.heap.size w6 w' ∧ ¬ isOf u g ∧ w6.heap.size ≤ g) ?_ ?_
  · rintro _ w7 ⟨g, u, rfl, hr7, hu7, hb7, hng, hg⟩
    refine Loop1.intro (fun n a w' => ∃ (i : Nat) (cur : List Disp) (u' : Value), a = I i ∧ i ≤ p.kept.length ∧ n = p.kept.length - i ∧ Below w6.heap.size w6 w' ∧ RowAt w' g 27 [I r.id, I r.paper, u', .slice none 0 0] ∧ Mine fD 31 w' w6.heap.size u' cur ∧ ¬ isOf u' g ∧ cur.length ≤ 20 + i ∧
      keptsF r.kept p.kept = keptsF cur (p.kept.drop i)) _ ⟨0, r.kept, u, rfl, by omega, rfl, hb7, hr7, hu7, hng, by omega, rfl⟩ ?_
    rintro n _ w8 ⟨i, cur, u', rfl, hi, rfl, hb8, hr8, hu8, hng8, hcl, hks⟩
    have hr2_8 := hr2.below hb8
    rw [rw29_1 (hr2_8.cell (i := 1) rfl)]
    refine (len24 (hkp.below (below_trans hb16 hb8))).mpr ?_
    rw [w_lss]
    by_cases hlt : i < p.kept.length
    · rw [decide_eq_true (by omega), condW_true, drewW_eq]
      obtain ⟨d, hx⟩ : ∃ d, p.kept[i]? = some d := ⟨_, List.getElem?_eq_getElem hlt⟩
      rw [drop_some hx, keptsF] at hks
      have hb8 := hb8.trans (Below.refl _ w8).drew
      have hr8 := hr8.drew
      have hr2_8 := hr2_8.drew
      replace hu8 : Mine fD 31 w8.drew w6.heap.size u' cur := hu8.below (below_drew _)
      generalize w8.drew = w9 at *
      refine ⟨after w9, after_refl _, ?_⟩
      rw [rt27_2 (hr8.cell (i := 2) rfl), ra29_1 (hr2_8.cell (i := 1) rfl) (after_refl _), nta24 rfl (hkp.below (below_trans hb16 hb8)) hx]
      refine c56 (d := d) hu8.sl (by omega) fun u2 ok o w10 hb10 hkp10 hu10 => ?_
      have hgl := hr8.lt
      have hr8 := hr8.below hb10
      rw [keepS_eq, t_extract (v := u2) rfl, t_extract (v := .bool ok) rfl, w_not]
      refine ⟨hb10, ?_⟩
      have hb010 := hb8.trans (hb10.mono hb8.size)
      cases ok with
      | false =>
        rw [Bool.not_false, condW_true]
        refine badX _ (below_trans hb06 hb010) (hr3.below hb010) (.inl ⟨hvr, hheld, .inr ⟨?_, rfl, rfl⟩⟩)
        rintro ⟨x, o', s', h1, _⟩
        simp only [Bool.false_eq_true, if_false] at hkp10
        rw [hks, hkp10] at h1; cases h1
      | true =>
      simp only [if_true] at hkp10
      rw [Bool.not_true, condW_false, fl27_2]
      refine (st24 hu10.sl.one (hr8.cell (i := 2) rfl) (hr8.free 2)).mpr ?_
      have hset : Off (· = g) w10 (w10.setCell ⟨g, 2, none⟩ u2) := Off.set rfl
      rw [w_add, wrap_id (by omega), loopK_self]
      have hlen := keptF_len hkp10
      refine ⟨p.kept.length - (i + 1), by omega, i + 1, o, u2, by simp [I], by omega, rfl, hb010.setCell hg _, hr8.set 2 u2, (hu10.base hb8.size).off hset fun b hb he => ?_, fun hb => ?_, by omega, by rw [hks, hkp10]; rfl⟩
      · have := (hu10.ge hb).1; omega
      · have := (hu10.ge hb).1; omega
    · rw [decide_eq_false (by omega), condW_false]
      rw [List.drop_of_length_le (by omega), keptsF] at hks
      have hb08 := below_trans hb06 hb8
      rw [rw27_3 ((hr1.below hb8).cell (i := 3) rfl), rw29_2 (hr2_8.cell (i := 2) rfl)]
      refine c57 (hs0.below hb08) (hsp.below (below_trans hb16 hb8)) (by omega) fun x ok s w9 hb9 hmg hx => ?_
      have hb69 := hb8.trans (hb9.mono hb8.size)
      have hb09 := below_trans hb06 hb69
      have hr9 := hr8.below hb9
      rw [w_extract (v := x) rfl, w_extract (v := .bool ok) rfl, w_not]
      cases ok with
      | false =>
        rw [Bool.not_false, condW_true]
        refine badX _ hb09 (hr3.below hb69) (.inl ⟨hvr, hheld, .inr ⟨?_, rfl, rfl⟩⟩)
        rintro ⟨y, o', s', h1, h2, _⟩
        simp only [Bool.false_eq_true, if_false] at hmg
        rw [hmg] at h2; cases h2
      | true =>
      simp only [if_true] at hmg
      rw [Bool.not_true, condW_false, fl27_3]
      refine (st25 hx.sl.one (hr9.cell (i := 3) rfl) (hr9.free 3)).mpr ?_
      have hset : Off (· = g) w9 (w9.setCell ⟨g, 3, none⟩ x) := Off.set rfl
      have hr10 := hr9.set 3 x
      have hl8 := hr8.lt
      have hu10 := (hu8.below hb9).off hset fun b hb he => hng8 (he ▸ hb)
      have hx10 := hx.off hset fun b hb he => by have := (hx.ge hb).1; omega
      have hb610 : Below w6.heap.size w6 (w9.setCell ⟨g, 3, none⟩ x) := hb69.setCell hg _
      generalize w9.setCell ⟨g, 3, none⟩ x = w10 at *
      have hb010 := below_trans hb06 hb610
      rw [ld27 (vs := [I r.id, I r.paper, u', x]) rfl hr10.cells]
      have hml := mergeG_len hmg
      refine c16 (r := ⟨r.id, r.paper, cur, s⟩) ⟨u', x, rfl, hu10.sl, hx10.sl⟩ ⟨by simp; omega, by simp; omega⟩ fun b w11 hb11 hbs11 => ?_
      have hb611 := hb610.trans (hb11.mono hb610.size)
      have hb011 := below_trans hb06 hb611
      rw [w_not]
      cases b with
      | false =>
        rw [Bool.not_false, condW_true]
        refine badX _ hb011 (hr3.below hb611) (.inl ⟨hvr, hheld, .inr ⟨?_, rfl, rfl⟩⟩)
        rintro ⟨y, o', s', h1, h2, h3, h4⟩
        rw [hks] at h1; cases h1
        rw [hmg] at h2; cases h2
        rw [h3] at h4
        have := hbs11.2 h4; cases this
      | true =>
      rw [Bool.not_true, condW_false, ld27 (vs := [I r.id, I r.paper, u', x]) rfl (hr10.below hb11).cells]
      have hr3f := hr3.below hb611
      have hn := no27 hr3f nilSlice nilSlice
      have hu11 := (hu10.below hb11).sl
      have hx11 := (hx10.below hb11).sl
      refine sr27 (vs := [I r.id, I r.paper, u', x]) rfl hr3f rfl (oneR hu11 hx11) fun w12 ho12 hr12 => ?_
      rw [rc27 rfl hr12.cells]
      exact hk _ _ 0 ⟨r.id, r.paper, cur, s⟩ (hb011.trans (ho12.rest _ hb02.size)) (.inl ⟨hvr, hheld, .inl ⟨⟨cur, s, hks, hmg, rfl, hbs11.1 rfl⟩, rfl⟩⟩) ⟨u', x, rfl, slOnly hu11 ho12 hn.1, slOnly hx11 ho12 hn.2⟩ (Fr.rel (fun b hb => Nat.le_trans hb06.size (hu10.ge hb).1) fun b hb => Nat.le_trans hb08.size (hx10.ge hb).1)
  intro J hJ
  rw [drewW_eq]
  have hb67 := (Below.refl w6.heap.size w6).drew
  have hr1 := hr1.drew
  have h07 : IsSl fD w6.drew k0 r.kept := (h0.below hb06).drew
  have hs67 : w6.drew.heap.size = w6.heap.size := rfl
  generalize w6.drew = w7 at *
  refine ⟨after w7, after_refl _, ?_⟩
  rw [ra27_0 (hr1.cell (i := 0) rfl) (after_refl _), ra27_1 (hr1.cell (i := 1) rfl) (after_refl _), ra27_2 (hr1.cell (i := 2) rfl) (after_refl _)]
  have fin : ∀ g u w8, RowAt w8 g 27 [I 0, I 0, .slice none 0 0, .slice none 0 0] → Mine fD 31 w8 w6.heap.size u r.kept → Below w7.heap.size w7 w8 → ¬ isOf u g → w6.heap.size ≤ g →
      opU Tryz.prog (Instr.storeAt 27 (.pointer (some ⟨g, 0, none⟩)) (.agg #[I r.id, I r.paper, u, .slice none 0 0])) (fun _ w => J (.pointer (some ⟨g, 0, none⟩)) w) w8 := fun g u w8 hr hu hb hn hg => by
    refine sr27 (vs := [I r.id, I r.paper, u, .slice none 0 0]) rfl hr rfl (oneR hu.sl (IsSl.nil w8)) fun w9 ho9 hr9 => ?_
    exact hJ _ _ ⟨g, u, rfl, hr9, hu.off (Off.only ho9 rfl) fun b hb he => hn (he ▸ hb), (hb67.trans (hb.mono (by omega))).trans (ho9.rest _ hg), hn, hg⟩
  refine ⟨mkSl (F := fD) sty24 fun a w8 hb8 ha8 hf8 hs8 => ?_, al27 fun w8 hb8 hs8 hr8 => ?_⟩
  · rw [keepS_eq]
    refine ⟨hb8, ?_, ?_⟩
    · refine Mine.append (F := fD) sty24 eD.one ha8 (h07.below hb8) hb8.size (by simp; unfold maxLen; omega) (by simp; omega) fun u w9 hm9 hb9 hof9 hn9 => ?_
      have hb79 := hb8.trans hb9
      replace hm9 : Mine fD 31 w9 w7.heap.size u r.kept := by simpa using hm9
      have hm9' := hm9.base (show w6.heap.size ≤ w7.heap.size by omega)
      rw [keepS_eq]
      refine ⟨hb79, ?_, ?_⟩
      · rw [b27_3 hm9.sl, keepS_eq]
        refine ⟨hb79, al27 fun w10 hb10 hs10 hr10 => ?_⟩
        have hb710 := hb79.trans (hb10.mono hb79.size)
        rw [keepS_eq]
        exact ⟨hb710, fin _ _ _ hr10 (hm9'.below hb10) hb710 (fun hh => by have := (hm9.ge hh).2; omega) (by have := hb79.size; omega)⟩
      · refine al27 fun w10 hb10 hs10 hr10 => ?_
        have hb710 := hb79.trans (hb10.mono hb79.size)
        rw [keepS_eq]
        refine ⟨hb710, ?_⟩
        rw [b27_3 hm9.sl, keepS_eq]
        exact ⟨hb710, fin _ _ _ hr10 (hm9'.below hb10) hb710 (fun hh => by have := (hm9.ge hh).2; omega) (by have := hb79.size; omega)⟩
    · refine al27 fun w9 hb9 hs9 hr9 => ?_
      have hb79 := hb8.trans (hb9.mono hb8.size)
      rw [keepS_eq]
      refine ⟨hb79, Mine.append (F := fD) sty24 eD.one (ha8.below hb9) (h07.below hb79) hb79.size (by simp; unfold maxLen; omega) (by simp; omega) fun u w10 hm10 hb10 hof10 hn10 => ?_⟩
      have hb710 := hb79.trans hb10
      replace hm10 : Mine fD 31 w10 w7.heap.size u r.kept := by simpa using hm10
      have hne : ¬ isOf u w8.heap.size := fun hh => (hn10 _ hh).elim (fun h => by have := hf8 _ h; omega) (by omega)
      rw [keepS_eq]
      refine ⟨hb710, ?_⟩
      rw [b27_3 hm10.sl, keepS_eq]
      exact ⟨hb710, fin _ _ _ (hr9.off hof10 fun h => by have := hf8 _ h; omega) (hm10.base (by omega)) hb710 hne (by omega)⟩
  · rw [keepS_eq]
    refine ⟨hb8, mkSl (F := fD) sty24 fun a w9 hb9 ha9 hf9 hs9 => ?_⟩
    have hb79 := hb8.trans (hb9.mono hb8.size)
    rw [keepS_eq]
    refine ⟨hb79, Mine.append (F := fD) sty24 eD.one ha9 (h07.below hb79) hb9.size (by simp; unfold maxLen; omega) (by simp; omega) fun u w10 hm10 hb10 hof10 hn10 => ?_⟩
    have hb710 := hb79.trans (hb10.mono (by omega))
    replace hm10 : Mine fD 31 w10 w8.heap.size u r.kept := by simpa using hm10
    have hne : ¬ isOf u w7.heap.size := fun hh => by have := (hm10.ge hh).1; omega
    rw [keepS_eq]
    refine ⟨hb710, ?_⟩
    rw [b27_3 hm10.sl, keepS_eq]
    exact ⟨hb710, fin _ _ _ ((hr8.below hb9).off hof10 fun h => by have := hf9 _ h; omega) (hm10.base (by omega)) hb710 hne (by omega)⟩)
end
end Go.Proofs.YtklknkmeljjmgaaGreatDoor
/- The reference: Waiting. -/
set_option linter.unusedSimpArgs false
set_option linter.unusedVariables false
namespace Go.V
open Go Go.RowKit
theorem t_getFA {P : Program} {K : Value → Prop} {w w0 : World} {α : Type} {F : Fl α} {v u : Value} {l : List α} {t st ft : TypeId} {f x : Nat} {q : IntKind} {i : Nat} {a : α} (h : isSliceT P t = true) (he : known P (elemT P t) = true) (hz : sizeT P (elemT P t) = F.sz) (hf : fieldOff P st f = some x) (hg : isAggT P ft = false) (hk : known P ft = true)
    (hs : IsSl F w0 v l) (hx : l[i]? = some a) (hu : (F.e a)[x]? = some u) (ha : after w0 w) :
    takeW P anyW (Instr.indexAt t v (.int q (i : Int))) (fun p => takeW P anyW (Instr.fieldAt st p f) (fun p => takeW P (after w0) (Instr.loadAt ft p) K w) w) w = K u := by
  obtain ⟨b, o, c, rfl, hlt, hcl⟩ := hs.at (i := (i : Int)) (by omega) (by simpa using hx)
  rw [takeW_pure (fun w => run_index h he (by omega) hlt w), hz, r_getA hf hg hk (by rw [hcl x u hu]) ha]
end Go.V
namespace Go.Proofs.YtklknkmeljjmgaaGreatDoor
open Go Go.V Go.RowKit
section
variable {k : Value → World → Prop} {w : World}
theorem c51 {v : Value} {r : Rel} {d : Disp} (h : RelV w v r) (hl : r.slips.length ≤ 1000000) (hk : ∀ w', Below w.heap.size w w' → k (.bool (printedB r d)) w') : callW Tryz.prog (.func (.func 51) #[] #[]) #[v, agD d] k w := C51 _ _ _ _ (by
  unfold S51
  refine boxR h fun k0 s0 w1 hv h0 hs0 hb1 hsz1 hr1 => boxD (d := d) fun w2 hb2 hsz2 hr2 => ?_
  have hr1 := hr1.below hb2
  have hb02 := below_trans hb1 hb2
  refine Loop1.intro (fun n a w' => ∃ i : Nat, a = I i ∧ i ≤ r.slips.length ∧ n = r.slips.length - i ∧ Below w2.heap.size w2 w' ∧ ∀ (j : Nat) s, j < i → r.slips[j]? = some s → ¬ (s.relay = r.id ∧ s.story = d.story ∧ s.ed = d.ed)) _ ⟨0, rfl, by omega, rfl, Below.refl _ _, by omega⟩ ?_
  rintro n _ w3 ⟨i, rfl, hi, rfl, hb3, hno⟩
  have hr1 := hr1.below hb3
  have hr2 := hr2.below hb3
  have hb03 := below_trans hb02 hb3
  rw [rw27_3 (hr1.cell (i := 3) rfl)]
  refine (len25 (hs0.below hb03)).mpr ?_
  rw [w_lss]
  by_cases hlt : i < r.slips.length
  · rw [decide_eq_true (by omega), condW_true, drewW_eq]
    obtain ⟨x, hx⟩ : ∃ x, r.slips[i]? = some x := ⟨_, List.getElem?_eq_getElem hlt⟩
    have hb3 := hb3.trans (Below.refl _ w3).drew
    have hb03 := hb03.trans (Below.refl _ w3).drew
    have hr1 := hr1.drew
    have hr2 := hr2.drew
    generalize w3.drew = w4 at *
    have next : ¬ (x.relay = r.id ∧ x.story = d.story ∧ x.ed = d.ed) → ∃ n', n' < r.slips.length - i ∧ ∃ i' : Nat, I (i + 1) = I i' ∧ i' ≤ r.slips.length ∧ n' = r.slips.length - i' ∧ Below w2.heap.size w2 w4 ∧ ∀ (j : Nat) s, j < i' → r.slips[j]? = some s → ¬ (s.relay = r.id ∧ s.story = d.story ∧ s.ed = d.ed) := fun hn =>
      ⟨r.slips.length - (i + 1), by omega, i + 1, by simp [I], by omega, rfl, hb3, fun j s hj hs => by
        by_cases hji : j = i
        · subst hji; rw [hx] at hs; cases hs; exact hn
        · exact hno j s (by omega) hs⟩
    rw [rt27_3 (hr1.cell (i := 3) rfl), nt25_0 rfl (hs0.below hb03) hx rfl, rt27_0 (hr1.cell (i := 0) rfl), t_eql]
    by_cases h1 : x.relay = r.id
    case' neg =>
      rw [decide_eq_false h1]
      simp only [guardT_ft, guardT_u, pickT_false, condW_false]
      rw [w_add, wrap_id (by omega), loopK_self]
      exact next fun hh => h1 hh.1
    rw [decide_eq_true h1]
    simp only [guardT_tt]
    rw [rt27_3 (hr1.cell (i := 3) rfl), nt25_1 rfl (hs0.below hb03) hx rfl, rt31_0 (hr2.cell (i := 0) rfl), t_eql]
    by_cases h2 : x.story = d.story
    case' neg =>
      rw [decide_eq_false h2]
      simp only [guardT_ft, guardT_u, pickT_true, pickT_false, condW_false]
      rw [w_add, wrap_id (by omega), loopK_self]
      exact next fun hh => h2 hh.2.1
    rw [decide_eq_true h2]
    simp only [guardT_tt, pickT_true]
    rw [rt27_3 (hr1.cell (i := 3) rfl), nt25_2 rfl (hs0.below hb03) hx rfl, rt31_1 (hr2.cell (i := 1) rfl), t_eql]
    by_cases h3 : x.ed = d.ed
    case' neg =>
      rw [decide_eq_false h3]
      simp only [guardT_ft, guardT_u, pickT_true, pickT_false, condW_false]
      rw [w_add, wrap_id (by omega), loopK_self]
      exact next fun hh => h3 hh.2.2
    rw [decide_eq_true h3]
    simp only [pickT_true, condW_true]
    have := hk w4 hb03
    rwa [show printedB r d = true by unfold printedB; rw [List.any_eq_true]; exact ⟨x, List.mem_of_getElem? hx, decide_eq_true ⟨h1, h2, h3⟩⟩] at this
  · rw [decide_eq_false (by omega), condW_false]
    have := hk w3 hb03
    rwa [show printedB r d = false by
      unfold printedB
      rw [List.any_eq_false]
      intro s hs
      obtain ⟨j, hj, rfl⟩ := List.getElem_of_mem hs
      have := hno j _ (by omega) (List.getElem?_eq_getElem hj)
      simpa using this] at this)
/-- what waits of one class -/
def ofClass (r : Rel) (c : Int) : List Disp := (r.kept.filter fun d => decide (d.cls = c)).filter fun d => !printedB r d
def waitTo (r : Rel) : Nat → List Disp
  | 0 => []
  | n + 1 => waitTo r n ++ ofClass r (n + 1)
theorem waitTo_3 (r : Rel) : waitTo r 3 = waitL r := by
  simp [waitTo, ofClass, waitL, byClass, List.filter_append]
theorem ofClass_len (r : Rel) (c : Int) : (ofClass r c).length ≤ r.kept.length := Nat.le_trans (List.length_filter_le _ _) (List.length_filter_le _ _)
theorem waitTo_len (r : Rel) : ∀ n, (waitTo r n).length ≤ n * r.kept.length
  | 0 => by simp [waitTo]
  | n + 1 => by
    have := waitTo_len r n
    have := ofClass_len r (n + 1)
    simp only [waitTo, List.length_append, Nat.succ_mul]; omega
theorem take_filter2 {α : Type} {p q : α → Bool} {l : List α} {i : Nat} {x : α} (h : l[i]? = some x) : ((l.take (i + 1)).filter p).filter q = ((l.take i).filter p).filter q ++ (if p x = true ∧ q x = true then [x] else []) := by
  rw [List.take_add_one, h, List.filter_append, List.filter_append]
  congr 1
  cases hp : p x <;> cases hq : q x <;> simp [hp, hq]
open Classical in
theorem c21 {v : Value} {r : Rel} (h : RelV w v r) (hsm : small r) (hk : ∀ v' w', Below w.heap.size w w' → IsSl fD w' v' (waitV r) → k v' w') : callW Tryz.prog (.func (.func 21) #[] #[]) #[v] k w := C21 _ _ _ (by
  unfold S21
  refine boxR h fun kv sv w1 hv hkv hsv hb1 hsz1 hr1 => ?_
  rw [ld27 (vs := [I r.id, I r.paper, kv, sv]) rfl hr1.cells]
  refine c16 (r := r) ⟨kv, sv, rfl, hkv.below hb1, hsv.below hb1⟩ hsm fun b w2 hb2 hbs => ?_
  have hb02 := below_trans hb1 hb2
  rw [w_not]
  cases b with
  | false =>
    rw [Bool.not_false, condW_true]
    refine hk _ _ hb02 ?_
    unfold waitV
    rw [if_neg fun hh => by have := hbs.2 hh; cases this]
    exact IsSl.nil _
  | true =>
  rw [Bool.not_true, condW_false]
  have hvr := hbs.1 rfl
  have hsv' := hvr.small
  have hr1 := hr1.below hb2
  refine Loop2.intro (fun n o cv w' => ∃ (c : Nat), cv = I (c + 1) ∧ c ≤ 3 ∧ n = 3 - c ∧ Below w2.heap.size w2 w' ∧ Mine fD 31 w' w2.heap.size o (waitTo r c)) _ ⟨0, rfl, by omega, rfl, Below.refl _ _, Mine.nil _ _⟩ ?_
  rintro n o _ w3 ⟨c, rfl, hc, rfl, hb3, ho3⟩
  rw [w_leq]
  by_cases hlt : c < 3
  · rw [decide_eq_true (by omega), condW_true]
    have hwl := waitTo_len r c
    have hwm : c * r.kept.length ≤ 3 * 20 := Nat.mul_le_mul (by omega) (by omega)
    refine Loop2.intro (fun n o a w' => ∃ (i : Nat), a = I i ∧ i ≤ r.kept.length ∧ n = r.kept.length - i ∧ Below w2.heap.size w2 w' ∧ Mine fD 31 w' w2.heap.size o (waitTo r c ++ (((r.kept.take i).filter fun d => decide (d.cls = (c : Int) + 1)).filter fun d => !printedB r d))) _ ⟨0, rfl, by omega, rfl, hb3, by simpa using ho3⟩ ?_
    rintro n o _ w4 ⟨i, rfl, hi, rfl, hb4, ho4⟩
    have hr4 := hr1.below hb4
    have hb04 := below_trans hb02 hb4
    rw [rw27_2 (hr4.cell (i := 2) rfl)]
    refine (len24 (hkv.below hb04)).mpr ?_
    rw [w_lss]
    by_cases hlt2 : i < r.kept.length
    · rw [decide_eq_true (by omega), condW_true]
      obtain ⟨x, hx⟩ : ∃ x, r.kept[i]? = some x := ⟨_, List.getElem?_eq_getElem hlt2⟩
      have htk := take_filter2 (p := fun d : Disp => decide (d.cls = (c : Int) + 1)) (q := fun d => !printedB r d) hx
      refine joinW_use1 (Pre := fun o' w' => Below w2.heap.size w2 w' ∧ Mine fD 31 w' w2.heap.size o' (waitTo r c ++ (((r.kept.take (i + 1)).filter fun d => decide (d.cls = (c : Int) + 1)).filter fun d => !printedB r d))) ?_ ?_
      · rintro o' w5 ⟨hb5, ho5⟩
        rw [w_add, wrap_id (by omega), loopK_self]
        exact ⟨r.kept.length - (i + 1), by omega, i + 1, by simp [I], by omega, rfl, hb5, ho5⟩
      intro J hJ
      rw [drewW_eq]
      have hb4 := hb4.trans (Below.refl _ w4).drew
      have hb04 := hb04.trans (Below.refl _ w4).drew
      have hr4 := hr4.drew
      have ho4 := ho4.below (below_drew _)
      generalize w4.drew = w5 at *
      refine ⟨after w5, after_refl _, ?_⟩
      have hlf : ((((r.kept.take i).filter fun d => decide (d.cls = (c : Int) + 1)).filter fun d => !printedB r d)).length ≤ 20 := by
        have h1 := List.length_filter_le (fun d => !printedB r d) ((r.kept.take i).filter fun d => decide (d.cls = (c : Int) + 1))
        have h2 := List.length_filter_le (fun d : Disp => decide (d.cls = (c : Int) + 1)) (r.kept.take i)
        have h3 := List.length_take_le i r.kept
        omega
      rw [ra27_2 (hr4.cell (i := 2) rfl) (after_refl _), t_getFA (F := fD) (x := 2) (by kernel_rfl) (by kernel_rfl) (by kernel_rfl) (by kernel_rfl) (by kernel_rfl) (by kernel_rfl) (hkv.below hb04) hx rfl (after_refl _), t_eql]
      by_cases hcl : x.cls = (c : Int) + 1
      case' neg =>
        rw [decide_eq_false hcl]
        simp only [guardT_ft, guardT_u, guardW_ft, guardW_u, pickT_false, keepS_eq, condW_false]
        refine ⟨after_refl _, hJ _ _ ⟨hb4, ?_⟩⟩
        rw [htk, if_neg (by rintro ⟨h1, _⟩; exact hcl (of_decide_eq_true h1)), List.append_nil]; exact ho4
      rw [decide_eq_true hcl]
      simp only [guardT_tt, guardW_tt]
      rw [xld27 (vs := [I r.id, I r.paper, kv, sv]) rfl hr4.cells, ra27_2 (hr4.cell (i := 2) rfl) (after_refl _), nta24 rfl (hkv.below hb04) hx]
      refine c51 (r := r) (d := x) ⟨kv, sv, rfl, hkv.below hb04, hsv.below hb04⟩ (by omega) fun w6 hb6 => ?_
      rw [keepS_eq, t_not, pickT_true]
      refine ⟨hb6, ?_⟩
      have hb26 := hb4.trans (hb6.mono hb4.size)
      have hb06 := hb04.trans (hb6.mono hb04.size)
      have ho6 := ho4.below hb6
      cases hpr : printedB r x with
      | true =>
        rw [Bool.not_true, condW_false]
        refine hJ _ _ ⟨hb26, ?_⟩
        rw [htk, if_neg (by rintro ⟨_, h2⟩; rw [hpr] at h2; cases h2), List.append_nil]; exact ho6
      | false =>
        rw [Bool.not_false, condW_true, rw27_2 ((hr4.below hb6).cell (i := 2) rfl), na24 rfl (hkv.below hb06) hx]
        refine Mine.push sty24 (eD.one x) rfl (by decide) ho6 hb26.size (by simp only [List.length_append]; unfold maxLen; omega) (by simp only [List.length_append]; omega) fun u w7 ho7 hb7 _ _ => ?_
        refine hJ _ _ ⟨hb26.trans hb7, ?_⟩
        rw [htk, if_pos ⟨decide_eq_true hcl, by rw [hpr]; rfl⟩, ← List.append_assoc]; exact ho7
    · rw [decide_eq_false (by omega), condW_false, w_add, wrap_id (by omega), loopK_self]
      rw [List.take_of_length_le (by omega)] at ho4
      exact ⟨3 - (c + 1), by omega, c + 1, by simp [I], by omega, rfl, hb4, ho4⟩
  · rw [decide_eq_false (by omega), condW_false]
    obtain rfl : c = 3 := by omega
    rw [waitTo_3] at ho3
    refine hk _ _ (below_trans hb02 hb3) ?_
    unfold waitV
    rw [if_pos hvr]
    exact ho3.sl)
end
end Go.Proofs.YtklknkmeljjmgaaGreatDoor
/- The reference: Print. -/
set_option linter.unusedSimpArgs false
set_option linter.unusedVariables false
namespace Go.Proofs.YtklknkmeljjmgaaGreatDoor
open Go Go.V Go.RowKit
/-- a copy of a relay under way: its own lists, its variable -/
structure CS (r : Rel) (w0 w : World) (da pa : Option (Value × Bool)) (g : Option Nat) : Prop where
  below : after w0 w
  d : ∀ v b, da = some (v, b) → Mine fD 31 w w0.heap.size v (if b then r.kept else [])
  p : ∀ v b, pa = some (v, b) → Mine fP 63 w w0.heap.size v (if b then r.slips else [])
  row : ∀ x, g = some x → RowAt w x 27 [I 0, I 0, .slice none 0 0, .slice none 0 0] ∧ w0.heap.size ≤ x
  dg : ∀ v b x, da = some (v, b) → g = some x → ¬ isOf v x
  pg : ∀ v b x, pa = some (v, b) → g = some x → ¬ isOf v x
  dp : ∀ v b u c, da = some (v, b) → pa = some (u, c) → ∀ y, isOf v y → ¬ isOf u y
section
variable {k : Value → World → Prop} {w w0 : World} {r : Rel} {da pa : Option (Value × Bool)} {g : Option Nat} {K : Value → World → Prop} {v u : Value}
theorem CS.new {w' : World} (h : CS r w0 w da pa g) (hb : Below w.heap.size w w') : CS r w0 w' da pa g :=
  ⟨h.below.trans (hb.mono h.below.size), fun v b e => (h.d v b e).below hb, fun v b e => (h.p v b e).below hb, fun x e => ⟨(h.row x e).1.below hb, (h.row x e).2⟩, h.dg, h.pg, h.dp⟩
theorem cs_mkD (h : CS r w0 w none pa g) (hk : ∀ v w', CS r w0 w' (some (v, false)) pa g → K v w') : opW Tryz.prog (Instr.buildSlice 24 0 #[]) (fun s w => keepS (after w0) (fun w => K s w) w) w := by
  refine mkSl (F := fD) sty24 fun a w1 hb1 ha1 hf1 hs1 => ?_
  have hn := h.new hb1
  have hs := h.below.size
  rw [keepS_eq]
  refine ⟨hn.below, hk a w1 ⟨hn.below, fun v b e => ?_, hn.p, hn.row, fun v b x e ex hh => ?_, hn.pg, fun v b u c e eu y hy hy' => ?_⟩⟩
  · cases e; exact ha1.base hs
  · cases e; have := (h.row x ex).1.lt; have := hf1 x hh; omega
  · cases e; have := ((h.p u c eu).ge hy').2; have := hf1 y hy; omega
theorem cs_mkP (h : CS r w0 w da none g) (hk : ∀ v w', CS r w0 w' da (some (v, false)) g → K v w') : opW Tryz.prog (Instr.buildSlice 25 0 #[]) (fun s w => keepS (after w0) (fun w => K s w) w) w := by
  refine mkSl (F := fP) sty25 fun a w1 hb1 ha1 hf1 hs1 => ?_
  have hn := h.new hb1
  have hs := h.below.size
  rw [keepS_eq]
  refine ⟨hn.below, hk a w1 ⟨hn.below, hn.d, fun v b e => ?_, hn.row, hn.dg, fun v b x e ex hh => ?_, fun v b u c e eu y hy hy' => ?_⟩⟩
  · cases e; exact ha1.base hs
  · cases e; have := (h.row x ex).1.lt; have := hf1 x hh; omega
  · cases eu; have := ((h.d v b e).ge hy).2; have := hf1 y hy'; omega
theorem cs_apD {kv : Value} (h : CS r w0 w (some (v, false)) pa g) (hkv : IsSl fD w0 kv r.kept) (hl : r.kept.length ≤ 1000000) (hk : ∀ v w', CS r w0 w' (some (v, true)) pa g → K v w') : opW Tryz.prog (Builtin.append_ #[24, 24] 24 #[v, kv]) (fun s w => keepS (after w0) (fun w => K s w) w) w := by
  have hv := h.d v false rfl
  refine Mine.append (F := fD) sty24 eD.one hv (hkv.below h.below) h.below.size (by simp; unfold maxLen; omega) (by simp; omega) fun u w1 hm1 hb1 hof1 hn1 => ?_
  rw [keepS_eq]
  have ha := h.below.trans hb1
  refine ⟨ha, hk u w1 ⟨ha, fun v' b e => ?_, fun u' c eu => ?_, fun x ex => ?_, fun v' b x e ex hh => ?_, h.pg, fun v' b u' c e eu y hy hy' => ?_⟩⟩
  · cases e; simpa using hm1
  · exact (h.p u' c eu).off hof1 fun y hy hy' => h.dp v false u' c rfl eu y hy' hy
  · exact ⟨(h.row x ex).1.off hof1 (h.dg v false x rfl ex), (h.row x ex).2⟩
  · cases e; exact (hn1 x hh).elim (h.dg v false x rfl ex) (by have := (h.row x ex).1.lt; omega)
  · cases e; exact (hn1 y hy).elim (fun hy => h.dp v false u' c rfl eu y hy hy') (by have := ((h.p u' c eu).ge hy').2; omega)
theorem cs_apP {sv : Value} (h : CS r w0 w da (some (v, false)) g) (hsv : IsSl fP w0 sv r.slips) (hl : r.slips.length ≤ 1000000) (hk : ∀ v w', CS r w0 w' da (some (v, true)) g → K v w') : opW Tryz.prog (Builtin.append_ #[25, 25] 25 #[v, sv]) (fun s w => keepS (after w0) (fun w => K s w) w) w := by
  have hv := h.p v false rfl
  refine Mine.append (F := fP) sty25 eP.one hv (hsv.below h.below) h.below.size (by simp; unfold maxLen; omega) (by simp; omega) fun u w1 hm1 hb1 hof1 hn1 => ?_
  rw [keepS_eq]
  have ha := h.below.trans hb1
  refine ⟨ha, hk u w1 ⟨ha, fun u' c eu => ?_, fun v' b e => ?_, fun x ex => ?_, h.dg, fun v' b x e ex hh => ?_, fun v' b u' c e eu y hy hy' => ?_⟩⟩
  · exact (h.d u' c eu).off hof1 fun y hy hy' => h.dp u' c v false eu rfl y hy hy'
  · cases e; simpa using hm1
  · exact ⟨(h.row x ex).1.off hof1 (h.pg v false x rfl ex), (h.row x ex).2⟩
  · cases e; exact (hn1 x hh).elim (h.pg v false x rfl ex) (by have := (h.row x ex).1.lt; omega)
  · cases eu; exact (hn1 y hy').elim (fun hy' => h.dp v' b v false e rfl y hy hy') (by have := ((h.d v' b e).ge hy).2; omega)
theorem cs_al (h : CS r w0 w da pa none) (hk : ∀ x w', CS r w0 w' da pa (some x) → K (.pointer (some ⟨x, 0, none⟩)) w') : opW Tryz.prog (Instr.alloc 27 true (.tuple #[])) (fun s w => keepS (after w0) (fun w => K s w) w) w := by
  refine al27 fun w1 hb1 hs1 hr1 => ?_
  have hn := h.new hb1
  have hs := h.below.size
  rw [keepS_eq]
  refine ⟨hn.below, hk _ w1 ⟨hn.below, hn.d, hn.p, fun x ex => ?_, fun v b x e ex hh => ?_, fun v b x e ex hh => ?_, hn.dp⟩⟩
  · cases ex; exact ⟨hr1, hs⟩
  · cases ex; have := ((h.d v b e).ge hh).2; omega
  · cases ex; have := ((h.p v b e).ge hh).2; omega
theorem cs_bd {a b : Int} (h : CS r w0 w (some (v, true)) (some (u, true)) g) (hk : CS r w0 w (some (v, true)) (some (u, true)) g → K (.agg #[I a, I b, v, u]) w) : opW Tryz.prog (Instr.build 27 #[(0, I a), (1, I b), (2, v), (3, u)]) (fun s w => keepS (after w0) (fun w => K s w) w) w := by
  have h1 := (h.d v true rfl).sl
  have h2 := (h.p u true rfl).sl
  rw [b27_4 h1 h2, keepS_eq]
  exact ⟨h.below, hk h⟩
theorem cs_st {x : Nat} {a b : Int} {K : World → Prop} (h : CS r w0 w (some (v, true)) (some (u, true)) (some x))
    (hk : ∀ w', after w0 w' → RowAt w' x 27 [I a, I b, v, u] → w0.heap.size ≤ x → Mine fD 31 w' w0.heap.size v r.kept → Mine fP 63 w' w0.heap.size u r.slips → ¬ isOf v x → ¬ isOf u x → K w') :
    opU Tryz.prog (Instr.storeAt 27 (.pointer (some ⟨x, 0, none⟩)) (.agg #[I a, I b, v, u])) (fun _ w => K w) w := by
  have h1 := h.d v true rfl
  have h2 := h.p u true rfl
  obtain ⟨hr, hx⟩ := h.row x rfl
  refine sr27 (vs := [I a, I b, v, u]) rfl hr rfl (oneR h1.sl h2.sl) fun w' ho hr' => ?_
  exact hk w' (h.below.trans (ho.rest _ hx)) hr' hx (h1.off (Off.only ho rfl) fun y hy e => h.dg v true x rfl rfl (e ▸ hy)) (h2.off (Off.only ho rfl) fun y hy e => h.pg u true x rfl rfl (e ▸ hy)) (h.dg v true x rfl rfl) (h.pg u true x rfl rfl)
end
end Go.Proofs.YtklknkmeljjmgaaGreatDoor
/- The reference: Print, its walk. -/
set_option linter.unusedSimpArgs false
set_option linter.unusedVariables false
namespace Go.Proofs.YtklknkmeljjmgaaGreatDoor
open Go Go.V Go.RowKit
/-- the reference's prints: paper, slips and what is done -/
noncomputable def prF (r : Rel) : Int → List Slp → List Disp → Option (Int × List Slp × List Disp)
  | pp, cur, [] => some (pp, cur, [])
  | pp, cur, d :: l => if pagesD d ≤ pp then (mergeG cmpP joinP cur [slipOf r d]).bind fun cur' => (prF r (pp - pagesD d) cur' l).map fun x => (x.1, x.2.1, d :: x.2.2) else some (pp, cur, [])
def printRef (r : Rel) (e : Int) (r' : Rel) (done : List Disp) : Prop :=
  (ValidR r ∧ ((∃ pp s, prF r r.paper r.slips (waitL r) = some (pp, s, done) ∧ ValidR ⟨r.id, pp, r.kept, s⟩ ∧ e = 0 ∧ r' = ⟨r.id, pp, r.kept, s⟩) ∨
    ((¬ ∃ pp s dn, prF r r.paper r.slips (waitL r) = some (pp, s, dn) ∧ ValidR ⟨r.id, pp, r.kept, s⟩) ∧ e = 250 ∧ r' = zeroR ∧ done = []))) ∨
  (¬ ValidR r ∧ e = 250 ∧ r' = zeroR ∧ done = [])
section
variable {k : Value → World → Prop} {w : World}
theorem w_oneSP {x : Slp} {S : World → Prop} {K : Value → World → Prop} (hk : ∀ u w', Below w.heap.size w w' → IsSl fP w' u [x] → S w' ∧ K u w') : opW Tryz.prog (Instr.buildSlice 25 1 #[(0, agP x)]) (fun s w => keepS S (fun w => K s w) w) w :=
  w_oneS (F := fP) (x := x) sty25 rfl (by decide) fun u w' hb hu => by rw [keepS_eq]; exact hk u w' hb hu
theorem c30 {v : Value} {r : Rel} (h : RelV w v r) (hsm : small r) (hk : ∀ v' dv w' e r' done, Below w.heap.size w w' → printRef r e r' done → RelV w' v' r' → IsSl fD w' dv done → Fr w.heap.size v' → (∀ b, isOf dv b → w.heap.size ≤ b) → k (.tuple #[v', dv, I e]) w') : callW Tryz.prog (.func (.func 30) #[] #[]) #[v] k w := C30 _ _ _ (by
  unfold S30
  refine boxR h fun kv sv w1 hv hkv hsv hb1 hsz1 hr1 => al27 fun w2 hb2 hsz2 hr2 => ?_
  have hb02 := below_trans hb1 hb2
  have hr1 := hr1.below hb2
  rw [ld27 (vs := [I r.id, I r.paper, kv, sv]) rfl hr1.cells]
  refine c16 (r := r) ⟨kv, sv, rfl, hkv.below hb02, hsv.below hb02⟩ hsm fun b w3 hb3 hbs => ?_
  have hb03 := below_trans hb02 hb3
  have hr1 := hr1.below hb3
  have hr2 := hr2.below hb3
  have hs1 := hb1.size
  have hs2 := hb2.size
  have hs3 := hb3.size
  rw [w_not]
  have badX : ∀ w', Below w.heap.size w w' → RowAt w' w1.heap.size 27 [I 0, I 0, .slice none 0 0, .slice none 0 0] → printRef r 250 zeroR [] → opW Tryz.prog (Instr.build 27 #[]) (fun t w => opU Tryz.prog (Instr.storeAt 27 (.pointer (some ⟨w1.heap.size, 0, none⟩)) t) (fun _ w => resCell Tryz.prog 27 (.pointer (some ⟨w1.heap.size, 0, none⟩)) (fun r => k (.tuple #[r, .slice none 0 0, I 250]) w) w) w) w' := fun w' hb hr hn => by
    rw [b27_0]
    refine sr27 (vs := [I 0, I 0, .slice none 0 0, .slice none 0 0]) rfl hr rfl (oneR (IsSl.nil w') (IsSl.nil w')) fun w4 ho4 hr4 => ?_
    rw [rc27 rfl hr4.cells]
    exact hk _ _ _ _ zeroR [] (hb.trans (ho4.rest _ hb1.size)) hn (RelV.zero _) (IsSl.nil _) (Fr.zero _) (fun b h => by cases h)
  cases b with
  | false =>
    rw [Bool.not_false, condW_true]
    exact badX w3 hb03 hr2 (.inr ⟨fun hh => (by have := hbs.2 hh; cases this), rfl, rfl, rfl⟩)
  | true =>
  rw [Bool.not_true, condW_false]
  have hvr := hbs.1 rfl
  have hroom := hvr.small
  have hpap := hvr.2.1
  have hwl := waitL_len r
  refine joinW_use1 (Pre := fun ov w' => ∃ x u y, ov = .pointer (some ⟨x, 0, none⟩) ∧ Below w3.heap.size w3 w' ∧ RowAt w' x 27 [I r.id, I r.paper, u, y] ∧ w3.heap.size ≤ x ∧ Mine fD 31 w' w3.heap.size u r.kept ∧ Mine fP 63 w' w3.heap.size y r.slips ∧ ¬ isOf u x ∧ ¬ isOf y x) ?_ ?_
  · rintro _ w4 ⟨g, ku, y0, rfl, hb4, hrg, hg, hku, hy0, hnk, hny⟩
    have hb04 := hb03.trans (hb4.mono hb03.size)
    have hr1_4 := hr1.below hb4
    rw [ld27 (vs := [I r.id, I r.paper, kv, sv]) rfl hr1_4.cells]
    refine c21 (r := r) ⟨kv, sv, rfl, hkv.below hb04, hsv.below hb04⟩ hsm fun wl w5 hb5 hwl5 => ?_
    unfold waitV at hwl5
    rw [if_pos hvr] at hwl5
    have hb35 := hb4.trans (hb5.mono hb4.size)
    have hrg5 := hrg.below hb5
    have hg5 := hrg5.lt
    have exit : ∀ (w6 : World) (pp : Int) (y o : Value) (cur : List Slp) (D : List Disp), Below w3.heap.size w3 w6 → RowAt w6 g 27 [I r.id, I pp, ku, y] → Mine fD 31 w6 w3.heap.size ku r.kept → Mine fP 63 w6 w3.heap.size y cur → Mine fD 31 w6 w3.heap.size o D → cur.length ≤ 10000 →
        prF r r.paper r.slips (waitL r) = some (pp, cur, D) →
        opW Tryz.prog (Instr.loadAt 27 (.pointer (some ⟨g, 0, none⟩))) (fun t w => callW Tryz.prog (.func (.func 16) #[] #[]) #[t] (fun t w => opW Tryz.prog (Op.unary UnOp.not t) (fun t w => condW t
          (opW Tryz.prog (Instr.build 27 #[]) (fun t w => opU Tryz.prog (Instr.storeAt 27 (.pointer (some ⟨w1.heap.size, 0, none⟩)) t) (fun _ w => resCell Tryz.prog 27 (.pointer (some ⟨w1.heap.size, 0, none⟩)) (fun r => k (.tuple #[r, .slice none 0 0, I 250]) w) w) w) w)
          (opW Tryz.prog (Instr.loadAt 27 (.pointer (some ⟨g, 0, none⟩))) (fun t w => opU Tryz.prog (Instr.storeAt 27 (.pointer (some ⟨w1.heap.size, 0, none⟩)) t) (fun _ w => resCell Tryz.prog 27 (.pointer (some ⟨w1.heap.size, 0, none⟩)) (fun r => k (.tuple #[r, o, I 0]) w) w) w) w)) w) w) w6 := fun w6 pp y o cur D hb6 hr6 hku6 hy6 ho6 hcl hpr => by
      rw [ld27 (vs := [I r.id, I pp, ku, y]) rfl hr6.cells]
      refine c16 (r := ⟨r.id, pp, r.kept, cur⟩) ⟨ku, y, rfl, hku6.sl, hy6.sl⟩ ⟨by simp; omega, by simpa using hcl⟩ fun b w7 hb7 hbs7 => ?_
      have hb37 := hb6.trans (hb7.mono hb6.size)
      have hb07 := hb03.trans (hb37.mono hb03.size)
      have hr2_7 := hr2.below hb37
      rw [w_not]
      cases b with
      | false =>
        rw [Bool.not_false, condW_true]
        refine badX w7 hb07 hr2_7 (.inl ⟨hvr, .inr ⟨?_, rfl, rfl, rfl⟩⟩)
        rintro ⟨pp', s', dn', h1, h2⟩
        rw [hpr] at h1; cases h1
        have := hbs7.2 h2; cases this
      | true =>
        rw [Bool.not_true, condW_false, ld27 (vs := [I r.id, I pp, ku, y]) rfl (hr6.below hb7).cells]
        have hku7 := hku6.below hb7
        have hy7 := hy6.below hb7
        have ho7 := ho6.below hb7
        refine sr27 (vs := [I r.id, I pp, ku, y]) rfl hr2_7 rfl (oneR hku7.sl hy7.sl) fun w8 hs8 hr8 => ?_
        rw [rc27 rfl hr8.cells]
        have hof : Off (· = w1.heap.size) w7 w8 := Off.only hs8 rfl
        exact hk _ _ _ _ ⟨r.id, pp, r.kept, cur⟩ D (hb07.trans (hs8.rest _ hb1.size)) (.inl ⟨hvr, .inl ⟨pp, cur, hpr, hbs7.1 rfl, rfl, rfl⟩⟩)
          ⟨ku, y, rfl, (hku7.off hof fun b hb e => by have := (hku7.ge hb).1; omega).sl, (hy7.off hof fun b hb e => by have := (hy7.ge hb).1; omega).sl⟩ (ho7.off hof fun b hb e => by have := (ho7.ge hb).1; omega).sl
          (Fr.rel (fun b hb => Nat.le_trans hb03.size (hku7.ge hb).1) fun b hb => Nat.le_trans hb03.size (hy7.ge hb).1) fun b hb => Nat.le_trans hb03.size (ho7.ge hb).1
    refine Loop2.intro (fun n o a w' => ∃ (i : Nat) (pp : Int) (cur : List Slp) (y : Value), a = I i ∧ i ≤ (waitL r).length ∧ n = (waitL r).length - i ∧ Below w3.heap.size w3 w' ∧ Off (· = g) w5 w' ∧ RowAt w' g 27 [I r.id, I pp, ku, y] ∧ Mine fP 63 w' w3.heap.size y cur ∧ ¬ isOf y g ∧
      Mine fD 31 w' w5.heap.size o ((waitL r).take i) ∧ (∀ b, isOf o b → ¬ isOf y b) ∧ (0 ≤ pp ∧ pp ≤ 10000) ∧ cur.length ≤ 400 + i ∧ prF r r.paper r.slips (waitL r) = (prF r pp cur ((waitL r).drop i)).map fun x => (x.1, x.2.1, (waitL r).take i ++ x.2.2)) _
      ⟨0, r.paper, r.slips, y0, rfl, by omega, rfl, hb35, Off.refl _ _, hrg5, hy0.below hb5, hny, Mine.nil _ _, (fun b hb => by cases hb), hpap, by omega, by simp⟩ ?_
    rintro n o _ w6 ⟨i, pp, cur, y, rfl, hi, rfl, hb6, hof6, hrg6, hy6, hng6, ho6, hdis, hpp, hcl, hpr⟩
    have hn5 := no27 hrg5 (isSlice hku.sl) (isSlice hy0.sl)
    have hwl : ∀ {w' : World}, Off (· = g) w5 w' → IsSl fD w' wl (waitL r) := fun ho => by
      obtain ⟨a, c, rfl, hc, hx⟩ := hwl5
      refine ⟨a, c, rfl, hc, fun i x hi => ?_⟩
      obtain ⟨b', o', rfl, hcl⟩ := hx i x hi
      refine ⟨b', o', rfl, hcl.same (ho.block b' (hcl.lt (by simp [fD])) fun hh => ?_)⟩
      subst hh
      exact hn5.1 x _ hcl
    have hkun : ∀ {w' : World}, Off (· = g) w5 w' → Mine fD 31 w' w3.heap.size ku r.kept := fun ho => (hku.below hb5).off ho fun b hb e => hnk (e ▸ hb)
    rw [drewW_eq]
    have hb6 := hb6.trans (Below.refl _ w6).drew
    have hof6 := hof6.trans (off_drew _ w6)
    have hrg6 := hrg6.drew
    have hy6 := hy6.below (below_drew _)
    have ho6 := ho6.below (below_drew _)
    generalize w6.drew = w7 at *
    clear hku hy0 hrg
    have hs57 := hof6.size
    have hs35 := hb35.size
    refine ⟨after w7, after_refl _, ?_⟩
    rw [tlen24 (hwl hof6), t_lss]
    by_cases hlt : i < (waitL r).length
    case' neg =>
      rw [decide_eq_false (by omega)]
      simp only [guardT_ft, guardT_u, guardW_ft, guardW_u, pickT_false, keepS_eq, condW_false]
      refine ⟨after_refl _, exit w7 pp y o cur _ hb6 hrg6 (hkun hof6) hy6 (ho6.base (by omega)) (by omega) ?_⟩
      rw [hpr, List.drop_of_length_le (by omega), prF]; simp
    obtain ⟨d, hx⟩ : ∃ d, (waitL r)[i]? = some d := ⟨_, List.getElem?_eq_getElem hlt⟩
    have hrd := waitL_right hvr hx
    have hpg := pagesD_nonneg d
    rw [drop_some hx, prF] at hpr
    rw [decide_eq_true (by omega)]
    simp only [guardT_tt, guardW_tt]
    rw [nta24 rfl (hwl hof6) hx, ra27_1 (hrg6.cell (i := 1) rfl) (after_refl _)]
    refine c26 (d := d) fun w8 hb8 => ?_
    rw [keepS_eq, t_leq, pickT_true]
    refine ⟨hb8, ?_⟩
    have hb6 := hb6.trans (hb8.mono hb6.size)
    have hof6 := hof6.trans (Off.below hb8)
    have hrg6 := hrg6.below hb8
    have hy6 := hy6.below hb8
    have ho6 := ho6.below hb8
    have hs58 := hof6.size
    by_cases hle : pagesD d ≤ pp
    case' neg =>
      rw [decide_eq_false hle, condW_false]
      refine exit w8 pp y o cur _ hb6 hrg6 (hkun hof6) hy6 (ho6.base (by omega)) (by omega) ?_
      rw [hpr, if_neg hle]; simp
    rw [if_pos hle] at hpr
    rw [decide_eq_true hle, condW_true, drewW_eq]
    have hb6 := hb6.trans (Below.refl _ w8).drew
    have hof6 := hof6.trans (off_drew _ w8)
    have hrg6 := hrg6.drew
    have hy6 := hy6.below (below_drew _)
    have ho6 := ho6.below (below_drew _)
    generalize w8.drew = w9 at *
    refine ⟨after w9, after_refl _, ?_⟩
    rw [ra27_1 (hrg6.cell (i := 1) rfl) (after_refl _), nta24 rfl (hwl hof6) hx]
    refine c26 (d := d) fun w10 hb10 => ?_
    rw [keepS_eq, t_sub, wrap_id (by omega), tfl27_1]
    refine ⟨hb10, ?_⟩
    have hb6 := hb6.trans (hb10.mono hb6.size)
    have hof6 := hof6.trans (Off.below hb10)
    have hrg6 := hrg6.below hb10
    have hy6 := hy6.below hb10
    have ho6 := ho6.below hb10
    refine (st3 rfl (hrg6.cell (i := 1) rfl) (hrg6.free 1)).mpr ?_
    have hset : Off (· = g) w10 (w10.setCell ⟨g, 1, none⟩ (I (pp - pagesD d))) := Off.set rfl
    have hb6 : Below w3.heap.size w3 (w10.setCell ⟨g, 1, none⟩ (I (pp - pagesD d))) := hb6.setCell hg _
    have hof6 := hof6.trans hset
    have hrg6 := hrg6.set 1 (I (pp - pagesD d))
    have hy6 := hy6.off hset fun b hb e => hng6 (e ▸ hb)
    have ho6 := ho6.off hset fun b hb e => by have := (ho6.ge hb).1; omega
    rw [drewW_eq]
    have hb6 := hb6.trans (Below.refl _ (w10.setCell ⟨g, 1, none⟩ (I (pp - pagesD d)))).drew
    have hof6 := hof6.trans (off_drew _ _)
    have hrg6 := hrg6.drew
    have hy6 := hy6.below (below_drew _)
    have ho6 := ho6.below (below_drew _)
    clear hset hb10
    generalize (w10.setCell ⟨g, 1, none⟩ (I (pp - pagesD d))).drew = w11 at *
    refine ⟨after w11, after_refl _, ?_⟩
    have hwl11 := hwl hof6
    have hr1_11 := hr1.below hb6
    have hs511 := hof6.size
    have hol : ∀ b, isOf o b → b < w11.heap.size := fun b hb => (ho6.ge hb).2
    rw [ra27_3 (hrg6.cell (i := 3) rfl) (after_refl _), ra27_0 (hr1_11.cell (i := 0) rfl) (after_refl _)]
    rw [t_getFA (F := fD) (x := 0) (by kernel_rfl) (by kernel_rfl) (by kernel_rfl) (by kernel_rfl) (by kernel_rfl) (by kernel_rfl) hwl11 hx rfl (after_refl _), t_getFA (F := fD) (x := 1) (by kernel_rfl) (by kernel_rfl) (by kernel_rfl) (by kernel_rfl) (by kernel_rfl) (by kernel_rfl) hwl11 hx rfl (after_refl _), t_getFA (F := fD) (x := 3) (by kernel_rfl) (by kernel_rfl) (by kernel_rfl) (by kernel_rfl) (by kernel_rfl) (by kernel_rfl) hwl11 hx rfl (after_refl _)]
    refine c61 (by have := hrd.2.2.2; omega) fun w12 hb12 => ?_
    rw [keepS_eq]
    refine ⟨hb12, ?_⟩
    rw [b63, keepS_eq]
    refine ⟨hb12, ?_⟩
    refine w_oneSP (x := slipOf r d) fun one w13 hb13 hone => ?_
    have hb1113 := below_trans hb12 hb13
    refine ⟨hb1113, ?_⟩
    refine c57 (hy6.below hb1113).sl hone (by simp; omega) fun y2 ok cur2 w14 hb14 hmg hy2 => ?_
    have hb1114 := below_trans hb1113 hb14
    rw [keepS_eq, t_extract (v := y2) rfl, t_extract (v := .bool ok) rfl, w_not]
    refine ⟨hb1114, ?_⟩
    have hb6 := hb6.trans (hb1114.mono hb6.size)
    have hof6 := hof6.trans (Off.below hb1114)
    have hrg6 := hrg6.below hb1114
    have ho6 := ho6.below hb1114
    have hs1114 := hb1114.size
    have hs1113 := hb1113.size
    cases ok with
    | false =>
      rw [Bool.not_false, condW_true]
      refine badX _ (hb03.trans (hb6.mono hb03.size)) (hr2.below hb6) (.inl ⟨hvr, .inr ⟨?_, rfl, rfl, rfl⟩⟩)
      rintro ⟨pp', s', dn', h1, h2⟩
      simp only [Bool.false_eq_true, if_false] at hmg
      rw [hpr, hmg] at h1; cases h1
    | true =>
    simp only [if_true] at hmg
    rw [Bool.not_true, condW_false, fl27_3]
    refine (st25 hy2.sl.one (hrg6.cell (i := 3) rfl) (hrg6.free 3)).mpr ?_
    have hset : Off (· = g) w14 (w14.setCell ⟨g, 3, none⟩ y2) := Off.set rfl
    have hb6 : Below w3.heap.size w3 (w14.setCell ⟨g, 3, none⟩ y2) := hb6.setCell hg _
    have hof6 := hof6.trans hset
    have hrg6 := hrg6.set 3 y2
    have hy2' := hy2.off hset fun b hb e => by have := (hy2.ge hb).1; omega
    have ho6' := ho6.off hset fun b hb e => by have := (ho6.ge hb).1; omega
    have hdis2 : ∀ b, isOf o b → ¬ isOf y2 b := fun b hb hb' => by have := hol b hb; have := (hy2.ge hb').1; omega
    generalize w14.setCell ⟨g, 3, none⟩ y2 = w15 at *
    rw [na24 rfl (hwl hof6) hx]
    have hml := mergeG_len hmg
    have htl : ((waitL r).take i).length ≤ 20 := by rw [List.length_take]; omega
    refine Mine.push sty24 (eD.one d) rfl (by decide) ho6' (by have := hof6.size; omega) (by unfold maxLen; omega) (by omega) fun o2 w16 ho16 hb16 hof16 hnew16 => ?_
    rw [w_add, wrap_id (by omega), loopK_self]
    have hs15 := hof6.size
    have hs16 := hof16.size
    refine ⟨(waitL r).length - (i + 1), by omega, i + 1, pp - pagesD d, cur2, y2, by simp [I], by omega, rfl, hb6.trans (hb16.mono (by omega)), ⟨by omega, fun b hb hn => (hof16.block b (by omega) fun hh => (by have := (ho6'.ge hh).1; omega)).trans (hof6.block b hb hn)⟩, hrg6.off hof16 fun hh => by have := (ho6'.ge hh).1; omega, (hy2'.base (by omega)).off hof16 fun b hb hh => hdis2 b hh hb, fun hh => by have := (hy2.ge hh).1; omega, ?_, fun b hb hb' => ?_, by omega, by simp at hml; omega, ?_⟩
    · rw [List.take_add_one, hx]; exact ho16
    · rcases hnew16 b hb with h | h
      · exact hdis2 b h hb'
      · have := (hy2'.ge hb').2; omega
    · rw [hpr, hmg, Option.bind_some, Option.map_map, List.take_add_one, hx]
      cases prF r (pp - pagesD d) cur2 ((waitL r).drop (i + 1)) <;> simp
  intro J hJ
  rw [drewW_eq]
  have hb34 := (Below.refl w3.heap.size w3).drew
  have hr1 := hr1.drew
  have hkv4 : IsSl fD w3.drew kv r.kept := (hkv.below hb03).drew
  have hsv4 : IsSl fP w3.drew sv r.slips := (hsv.below hb03).drew
  have hs34 : w3.drew.heap.size = w3.heap.size := rfl
  generalize w3.drew = w4 at *
  refine ⟨after w4, after_refl _, ?_⟩
  rw [ra27_0 (hr1.cell (i := 0) rfl) (after_refl _), ra27_1 (hr1.cell (i := 1) rfl) (after_refl _), ra27_2 (hr1.cell (i := 2) rfl) (after_refl _), ra27_3 (hr1.cell (i := 3) rfl) (after_refl _)]
  have hc0 : CS r w4 w4 none none none := ⟨after_refl _, fun _ _ h => (by cases h), fun _ _ h => (by cases h), fun _ h => (by cases h), fun _ _ _ h => (by cases h), fun _ _ _ h => (by cases h), fun _ _ _ _ h => (by cases h)⟩
  have hl1 : r.kept.length ≤ 1000000 := by omega
  have hl2 : r.slips.length ≤ 1000000 := by omega
  have fin : ∀ {w' v u x}, CS r w4 w' (some (v, true)) (some (u, true)) (some x) → opU Tryz.prog (Instr.storeAt 27 (.pointer (some ⟨x, 0, none⟩)) (.agg #[I r.id, I r.paper, v, u])) (fun _ w => J (.pointer (some ⟨x, 0, none⟩)) w) w' := fun hc =>
    cs_st hc fun w' h1 h2 h3 h4 h5 h6 h7 => hJ _ _ ⟨_, _, _, rfl, hb34.trans (h1.mono (by omega)), h2, by omega, h4.base (by omega), h5.base (by omega), h6, h7⟩
  repeat' first
    | exact fin (by assumption)
    | refine cs_bd (by assumption) fun _ => ?_
    | refine cs_apD (by assumption) hkv4 hl1 fun _ _ _ => ?_
    | refine cs_apP (by assumption) hsv4 hl2 fun _ _ _ => ?_
    | refine cs_mkD (by assumption) fun _ _ _ => ?_
    | refine cs_mkP (by assumption) fun _ _ _ => ?_
    | refine cs_al (by assumption) fun _ _ _ => ?_
    | refine And.intro ?_ ?_)
end
end Go.Proofs.YtklknkmeljjmgaaGreatDoor
/- The reference: Made. -/
set_option linter.unusedSimpArgs false
set_option linter.unusedVariables false
namespace Go.V
open Go Go.RowKit
section
variable {P : Program} {k : Value → World → Prop} {K : Value → Prop} {S : World → Prop} {w w0 : World} {t e ft : TypeId} {b n : Nat} {q : IntKind} {i : Nat} {u : Value} {ox oy : Operand}
theorem t_addStr {x y : ByteArray} (h : x.size + y.size ≤ 9223372036854775807) : takeW P S (binS .add t ox oy (.string x) (.string y)) K w = K (.string (x ++ y)) := takeW_pure fun w => run_of_eq fun k => w_addStr h
theorem t_sliceStr {s : ByteArray} {q q' : IntKind} {i j : Int} (h : P.underlying t = some .string) (h0 : 0 ≤ i) (h1 : i ≤ j) (h2 : j ≤ s.size) : takeW P S (Instr.sliceAt t (.string s) (some (.int q i)) (some (.int q' j)) none) K w = K (.string (s.extract i.toNat j.toNat)) := takeW_pure fun w => run_of_eq fun k => w_sliceStr h h0 h1 h2
theorem r_arr {i : Int} {j : Nat} (hij : i = j) (ht : P.underlying t = some (.array n e)) (he : known P e = true) (hs : sizeT P e = 1) (hg : isAggT P ft = false) (hk : known P ft = true) (hi : j < n) (hc : w.cell? ⟨b, j, none⟩ = some u) :
    opW P (Instr.indexAt t (.pointer (some ⟨b, 0, none⟩)) (.int q i)) (fun p w => opW P (Instr.loadAt ft p) k w) w = k u w := by
  subst hij
  rw [opW_ok (run_indexArr ht he (by omega) (by omega) w), hs, Nat.mul_one, Nat.zero_add, Int.toNat_natCast, w_load hg hk hc]
theorem r_arrA {i : Int} {j : Nat} (hij : i = j) (ht : P.underlying t = some (.array n e)) (he : known P e = true) (hs : sizeT P e = 1) (hg : isAggT P ft = false) (hk : known P ft = true) (hi : j < n) (hc : w0.cell? ⟨b, j, none⟩ = some u) (ha : after w0 w) :
    takeW P anyW (Instr.indexAt t (.pointer (some ⟨b, 0, none⟩)) (.int q i)) (fun p => takeW P (after w0) (Instr.loadAt ft p) K w) w = K u := by
  subst hij
  rw [takeW_pure (run_indexArr ht he (by omega) (by omega)), hs, Nat.mul_one, Nat.zero_add, Int.toNat_natCast]
  exact r_loadA hg hk hc ha
end
end Go.V
namespace Go.Proofs.YtklknkmeljjmgaaGreatDoor
open Go Go.V Go.RowKit
abbrev abc : ByteArray := ⟨#[97, 98, 32]⟩
def madeTxt (ed : Int) : Nat → ByteArray
  | 0 => ⟨#[]⟩
  | n + 1 => madeTxt ed n ++ abc.extract (((n : Int) + ed).tmod 3).toNat ((((n : Int) + ed).tmod 3) + 1).toNat
def madeOf (st ed : Int) : Disp := ⟨st, ed, 1 + st.tmod 3, madeTxt ed (30 * ed + st).toNat⟩
def madeD (x0 x1 : Int) : Disp := madeOf (pickI x0 6) (1 + pickI x1 5)
theorem tmod3 {x : Int} (h : 0 ≤ x) : 0 ≤ x.tmod 3 ∧ x.tmod 3 < 3 := by
  rw [Int.tmod_eq_emod_of_nonneg h]; omega
theorem madeTxt_size {ed : Int} (h : 0 ≤ ed) : ∀ n, (madeTxt ed n).size = n
  | 0 => rfl
  | n + 1 => by
    have := tmod3 (x := (n : Int) + ed) (by omega)
    rw [madeTxt, ByteArray.size_append, madeTxt_size h n, ByteArray.size_extract]
    have h3 : abc.size = 3 := rfl
    omega
theorem madeOf_right {st ed : Int} (h1 : 0 ≤ st ∧ st < 6) (h2 : 1 ≤ ed ∧ ed ≤ 5) : rightP (madeOf st ed) := by
  have := tmod3 (x := st) h1.1
  refine ⟨⟨h1.1, by show st ≤ 19; omega⟩, ⟨h2.1, by show ed ≤ 1000; omega⟩, ⟨by show 1 ≤ 1 + st.tmod 3; omega, by show 1 + st.tmod 3 ≤ 3; omega⟩, ?_⟩
  show ((madeTxt ed (30 * ed + st).toNat).size : Int) ≤ 20000
  rw [madeTxt_size (by omega)]; omega
def in64 (x : Int) : Prop := -9223372036854775808 ≤ x ∧ x ≤ 9223372036854775807
/-- a dispatch's variable under way -/
def GS (w0 w : World) (g : Option Nat) : Prop := after w0 w ∧ ∀ x, g = some x → RowAt w x 31 [I 0, I 0, I 0, .string ⟨#[]⟩] ∧ w0.heap.size ≤ x
section
variable {k : Value → World → Prop} {w w0 : World} {g : Option Nat}
theorem gs_pick {c n : Int} {K : Value → World → Prop} (hn : n ≠ 0) (h : GS w0 w g) (hk : GS w0 w g → K (I (pickI c n)) w) : callW Tryz.prog (.func (.func 52) #[] #[]) #[I c, I n] (fun t w => keepS (after w0) (fun w => K t w) w) w :=
  c52 hn (by rw [keepS_eq]; exact ⟨h.1, hk h⟩)
theorem gs_al {K : Value → World → Prop} (h : GS w0 w none) (hk : ∀ x w', GS w0 w' (some x) → K (.pointer (some ⟨x, 0, none⟩)) w') : opW Tryz.prog (Instr.alloc 31 true (.tuple #[])) (fun s w => keepS (after w0) (fun w => K s w) w) w := by
  refine al31 fun w1 hb1 hs1 hr1 => ?_
  have hs := h.1.size
  have ha := h.1.trans (hb1.mono hs)
  rw [keepS_eq]
  exact ⟨ha, hk _ w1 ⟨ha, fun x e => by cases e; exact ⟨hr1, hs⟩⟩⟩
theorem gs_bd {a b : Int} {K : Value → World → Prop} (h : GS w0 w g) (hk : GS w0 w g → K (agD ⟨a, b, 0, ⟨#[]⟩⟩) w) : opW Tryz.prog (Instr.build 31 #[(0, I a), (1, I b)]) (fun s w => keepS (after w0) (fun w => K s w) w) w := by
  rw [show opW Tryz.prog (Instr.build 31 #[(0, I a), (1, I b)]) (fun s w => keepS (after w0) (fun w => K s w) w) w = keepS (after w0) (fun w => K (agD ⟨a, b, 0, ⟨#[]⟩⟩) w) w from opW_ok (by kernel_rfl), keepS_eq]
  exact ⟨h.1, hk h⟩
theorem c22 {x0 x1 : Int} (h0 : in64 x0) (h1 : in64 x1) (hk : ∀ w', Below w.heap.size w w' → k (agD (madeD x0 x1)) w') : callW Tryz.prog (.func (.func 22) #[] #[]) #[.agg #[I x0, I x1]] k w := C22 _ _ _ (by
  unfold S22
  refine w_boxN (v := .agg #[I x0, I x1]) fun w1 hb1 hsz1 hr1 => al31 fun w2 hb2 hsz2 hr2 => ?_
  replace hr1 : RowAt w1 w.heap.size 23 [I x0, I x1] := hr1
  have hr1 := hr1.below hb2
  have hb02 := below_trans hb1 hb2
  have hp0 := pickI_range (c := x0) (n := 6) (by omega) h0
  have hp1 := pickI_range (c := x1) (n := 5) (by omega) h1
  have hs1 := hb1.size
  refine joinW_use1 (Pre := fun ov w' => ∃ x, ov = .pointer (some ⟨x, 0, none⟩) ∧ Below w2.heap.size w2 w' ∧ RowAt w' x 31 (fD.e ⟨pickI x0 6, 1 + pickI x1 5, 0, ⟨#[]⟩⟩) ∧ w2.heap.size ≤ x) ?_ ?_
  · rintro _ w3 ⟨g, rfl, hb3, hr3, hg⟩
    have hm := tmod3 (x := pickI x0 6) hp0.1
    rw [rw31_0 (hr3.cell (i := 0) rfl), w_rem (by omega), w_add, wrap_id (by show _ ≤ 1 + (pickI x0 6).tmod 3 ∧ 1 + (pickI x0 6).tmod 3 ≤ _; omega), fl31_2]
    refine (st3 rfl (hr3.cell (i := 2) rfl) (hr3.free 2)).mpr ?_
    have hr4 : RowAt (w3.setCell ⟨g, 2, none⟩ (I (1 + (pickI x0 6).tmod 3))) g 31 (fD.e ⟨pickI x0 6, 1 + pickI x1 5, 1 + (pickI x0 6).tmod 3, madeTxt (1 + pickI x1 5) 0⟩) := hr3.set 2 _
    have hb4 : Below w2.heap.size w2 (w3.setCell ⟨g, 2, none⟩ (I (1 + (pickI x0 6).tmod 3))) := hb3.setCell hg _
    generalize w3.setCell ⟨g, 2, none⟩ (I (1 + (pickI x0 6).tmod 3)) = w4 at *
    generalize hst : pickI x0 6 = st at *
    generalize hed : 1 + pickI x1 5 = ed at *
    have hed' : 1 ≤ ed ∧ ed ≤ 5 := by omega
    refine Loop1.intro (fun n a w' => ∃ i : Nat, a = I i ∧ (i : Int) ≤ 30 * ed + st ∧ n = (30 * ed + st).toNat - i ∧ Below w2.heap.size w2 w' ∧ RowAt w' g 31 (fD.e ⟨st, ed, 1 + st.tmod 3, madeTxt ed i⟩)) _ ⟨0, rfl, by omega, rfl, hb4, hr4⟩ ?_
    rintro n _ w5 ⟨i, rfl, hi, rfl, hb5, hr5⟩
    rw [rw31_1 (hr5.cell (i := 1) rfl), w_mul, wrap_id (by show _ ≤ 30 * ed ∧ 30 * ed ≤ _; omega), rw31_0 (hr5.cell (i := 0) rfl), w_add, wrap_id (by show _ ≤ 30 * ed + st ∧ 30 * ed + st ≤ _; omega), w_lss]
    by_cases hlt : (i : Int) < 30 * ed + st
    · rw [decide_eq_true (by show (i : Int) < 30 * ed + st; omega), condW_true, drewW_eq]
      have hb5 := hb5.trans (Below.refl _ w5).drew
      have hr5 := hr5.drew
      generalize w5.drew = w6 at *
      have hm3 := tmod3 (x := (i : Int) + ed) (by omega)
      rw [rt31_3 (hr5.cell (i := 3) rfl), rt31_1 (hr5.cell (i := 1) rfl), t_add, wrap_id (by show _ ≤ (i : Int) + ed ∧ (i : Int) + ed ≤ _; omega), t_rem (by omega), rt31_1 (hr5.cell (i := 1) rfl), t_add, wrap_id (by show _ ≤ (i : Int) + ed ∧ (i : Int) + ed ≤ _; omega), t_rem (by omega), t_add, wrap_id (by show _ ≤ ((i : Int) + ed).tmod 3 + 1 ∧ ((i : Int) + ed).tmod 3 + 1 ≤ _; omega)]
      have hsz := madeTxt_size (ed := ed) (by omega) i
      have hesz : (abc.extract (((i : Int) + ed).tmod 3).toNat ((((i : Int) + ed).tmod 3) + 1).toNat).size ≤ 3 := by rw [ByteArray.size_extract]; have h3 : abc.size = 3 := rfl; omega
      rw [t_sliceStr str9 (by show 0 ≤ ((i : Int) + ed).tmod 3; omega) (by show ((i : Int) + ed).tmod 3 ≤ ((i : Int) + ed).tmod 3 + 1; omega) (by show ((i : Int) + ed).tmod 3 + 1 ≤ ((3 : Nat) : Int); omega), t_addStr (by show (madeTxt ed i).size + (abc.extract (((i : Int) + ed).tmod 3).toNat ((((i : Int) + ed).tmod 3) + 1).toNat).size ≤ _; rw [hsz]; omega), tfl31_3]
      refine (st9 rfl (hr5.cell (i := 3) rfl) (hr5.free 3)).mpr ?_
      rw [w_add, wrap_id (by omega), loopK_self]
      exact ⟨(30 * ed + st).toNat - (i + 1), by omega, i + 1, by simp [I], by omega, rfl, hb5.setCell hg _, hr5.set 3 _⟩
    · rw [decide_eq_false (by show ¬ (i : Int) < 30 * ed + st; omega), condW_false, ld31 (vs := fD.e ⟨st, ed, 1 + st.tmod 3, madeTxt ed i⟩) rfl hr5.cells]
      refine sr31 (vs := fD.e ⟨st, ed, 1 + st.tmod 3, madeTxt ed i⟩) rfl (hr2.below hb5) rfl (eD.one _) fun w6 ho6 hr6 => ?_
      rw [rc31 rfl hr6.cells]
      have := hk w6 ((hb02.trans (hb5.mono hb02.size)).trans (ho6.rest _ hb1.size))
      unfold madeD madeOf at this
      rw [hst, hed, show (30 * ed + st).toNat = i by omega] at this
      exact this
  intro J hJ
  rw [drewW_eq]
  have hb23 := (Below.refl w2.heap.size w2).drew
  have hr1 := hr1.drew
  have hs23 : w2.drew.heap.size = w2.heap.size := rfl
  generalize w2.drew = w3 at *
  refine ⟨after w3, after_refl _, ?_⟩
  have e0 : (0 : Int) = ((0 : Nat) : Int) := rfl
  rw [r_arrA (i := 0) (j := 0) rfl (n := 2) (e := 3) (by kernel_rfl) (by kernel_rfl) (by kernel_rfl) (by kernel_rfl) (by kernel_rfl) (by omega) (hr1.cell (i := 0) rfl) (after_refl _), r_arrA (i := 1) (j := 1) rfl (n := 2) (e := 3) (by kernel_rfl) (by kernel_rfl) (by kernel_rfl) (by kernel_rfl) (by kernel_rfl) (by omega) (hr1.cell (i := 1) rfl) (after_refl _)]
  have hc0 : GS w3 w3 none := ⟨after_refl _, fun _ h => (by cases h)⟩
  have fin : ∀ {w' x}, GS w3 w' (some x) → opU Tryz.prog (Instr.storeAt 31 (.pointer (some ⟨x, 0, none⟩)) (agD ⟨pickI x0 6, 1 + pickI x1 5, 0, ⟨#[]⟩⟩)) (fun _ w => J (.pointer (some ⟨x, 0, none⟩)) w) w' := fun {w' x} hc => by
    obtain ⟨hr, hx⟩ := hc.2 x rfl
    refine sr31 (vs := fD.e ⟨pickI x0 6, 1 + pickI x1 5, 0, ⟨#[]⟩⟩) rfl hr rfl (eD.one _) fun w4 ho4 hr4 => ?_
    exact hJ _ _ ⟨x, rfl, (hb23.trans (hc.1.mono (by omega))).trans (ho4.rest _ (by omega)), hr4, by omega⟩
  have had : ∀ {K : Value → Prop} {w : World} {ox oy : Operand}, K (I (1 + pickI x1 5)) → takeW Tryz.prog anyW (binS .add 3 ox oy (I 1) (I (pickI x1 5))) K w := fun h => by rw [t_add, wrap_id (by omega)]; exact h
  repeat' first
    | exact fin (by assumption)
    | refine gs_bd (by assumption) fun _ => ?_
    | refine gs_pick (by omega) (by assumption) fun _ => ?_
    | refine had ?_
    | refine gs_al (by assumption) fun _ _ _ => ?_
    | refine And.intro ?_ ?_)
end
end Go.Proofs.YtklknkmeljjmgaaGreatDoor
/- Plain: merging sorted lists. -/
set_option linter.unusedSimpArgs false
set_option linter.unusedVariables false
namespace Go.V
/-- a comparison that orders -/
structure Cmp {α : Type} (c : α → α → Int) : Prop where
  asym : ∀ x y, c x y < 0 → ¬ c y x < 0
  nt : ∀ x y z, ¬ c z y < 0 → ¬ c y x < 0 → ¬ c z x < 0
  gt : ∀ x y, 0 < c x y ↔ c y x < 0
section
variable {α : Type} {c : α → α → Int} {comb : α → α → α × Bool}
theorem Cmp.irr (h : Cmp c) (x : α) : ¬ c x x < 0 := fun hh => h.asym x x hh hh
theorem Cmp.self (h : Cmp c) (x : α) : c x x = 0 := by have := h.irr x; have := (h.gt x x); omega
theorem Cmp.trans (h : Cmp c) {x y z : α} (h1 : c x y < 0) (h2 : c y z < 0) : c x z < 0 := by
  by_cases h3 : c x z < 0
  · exact h3
  · exact absurd h1 (h.nt y z x h3 (h.asym y z h2))
theorem Cmp.symm (h : Cmp c) {x y : α} (h1 : c x y = 0) : c y x = 0 := by have := h.gt x y; have := h.gt y x; omega
theorem Cmp.eq_lt (h : Cmp c) {x y z : α} (h1 : c x y = 0) (h2 : c y z < 0) : c x z < 0 := by
  by_cases h3 : c x z < 0
  · exact h3
  · have h4 : ¬ c y x < 0 := by have := h.gt x y; omega
    have h5 := h.nt z x y h4 h3
    exact absurd h2 h5
theorem Cmp.lt_eq (h : Cmp c) {x y z : α} (h1 : c x y < 0) (h2 : c y z = 0) : c x z < 0 := by
  by_cases h3 : c x z < 0
  · exact h3
  · have h4 : ¬ c z y < 0 := by have := h.gt y z; omega
    exact absurd h1 (h.nt y z x h3 h4)
abbrev Asc (c : α → α → Int) (l : List α) : Prop := l.Pairwise fun x y => c x y < 0
/-- what is in the merge -/
def inMerge (c : α → α → Int) (comb : α → α → α × Bool) (a b : List α) (z : α) : Prop :=
  (z ∈ a ∧ ∀ y ∈ b, c z y ≠ 0) ∨ (z ∈ b ∧ ∀ x ∈ a, c x z ≠ 0) ∨ ∃ x ∈ a, ∃ y ∈ b, c x y = 0 ∧ z = (comb x y).1
theorem merge_spec (h : Cmp c) (hc : ∀ x y, c x y = 0 → c (comb x y).1 x = 0) : ∀ {a b : List α}, Asc c a → Asc c b →
    (∀ o, mergeG c comb a b = some o → Asc c o ∧ (∀ z, z ∈ o ↔ inMerge c comb a b z) ∧ ∀ x ∈ a, ∀ y ∈ b, c x y = 0 → (comb x y).2 = true) ∧
    (mergeG c comb a b = none → ∃ x ∈ a, ∃ y ∈ b, c x y = 0 ∧ (comb x y).2 = false)
  | [], b, ha, hb => by
    refine ⟨fun o ho => ?_, fun hn => by simp [mergeG] at hn⟩
    simp [mergeG] at ho; subst ho
    exact ⟨hb, fun z => by simp [inMerge], by simp⟩
  | x :: a, [], ha, hb => by
    refine ⟨fun o ho => ?_, fun hn => by simp [mergeG] at hn⟩
    simp [mergeG] at ho; subst ho
    exact ⟨ha, fun z => by simp [inMerge], by simp⟩
  | x :: a, y :: b, ha, hb => by
    obtain ⟨hax, ha'⟩ := List.pairwise_cons.1 ha
    obtain ⟨hby, hb'⟩ := List.pairwise_cons.1 hb
    rw [mergeG]
    by_cases h1 : c x y < 0
    · rw [if_pos h1]
      have ih := merge_spec h hc (a := a) (b := y :: b) ha' hb
      have xlt : ∀ z ∈ y :: b, c x z < 0 := fun z hz => by
        rcases List.mem_cons.1 hz with rfl | hz
        · exact h1
        · exact h.trans h1 (hby z hz)
      refine ⟨fun o ho => ?_, fun hn => ?_⟩
      · obtain ⟨o', ho', rfl⟩ := Option.map_eq_some_iff.1 ho
        obtain ⟨i1, i2, i3⟩ := ih.1 o' ho'
        refine ⟨List.pairwise_cons.2 ⟨fun z hz => ?_, i1⟩, fun z => ?_, fun u hu v hv huv => ?_⟩
        · rcases (i2 z).1 hz with ⟨hz, _⟩ | ⟨hz, _⟩ | ⟨u, hu, v, hv, huv, rfl⟩
          · exact hax z hz
          · exact xlt z hz
          · exact h.lt_eq (hax u hu) (h.symm (hc u v huv))
        · rw [List.mem_cons, i2 z]
          constructor
          · rintro (rfl | ⟨hz, hn⟩ | ⟨hz, hn⟩ | ⟨u, hu, v, hv, huv, e⟩)
            · exact .inl ⟨by simp, fun v hv => by have := xlt v hv; omega⟩
            · exact .inl ⟨by simp [hz], hn⟩
            · refine .inr (.inl ⟨hz, fun u hu => ?_⟩)
              rcases List.mem_cons.1 hu with rfl | hu
              · have := xlt z hz; omega
              · exact hn u hu
            · exact .inr (.inr ⟨u, by simp [hu], v, hv, huv, e⟩)
          · rintro (⟨hz, hn⟩ | ⟨hz, hn⟩ | ⟨u, hu, v, hv, huv, e⟩)
            · rcases List.mem_cons.1 hz with rfl | hz
              · exact .inl rfl
              · exact .inr (.inl ⟨hz, hn⟩)
            · exact .inr (.inr (.inl ⟨hz, fun u hu => hn u (by simp [hu])⟩))
            · rcases List.mem_cons.1 hu with rfl | hu
              · have := xlt v hv; omega
              · exact .inr (.inr (.inr ⟨u, hu, v, hv, huv, e⟩))
        · rcases List.mem_cons.1 hu with rfl | hu
          · have := xlt v hv; omega
          · exact i3 u hu v hv huv
      · obtain ⟨u, hu, v, hv, huv, hf⟩ := ih.2 (by simpa using hn)
        exact ⟨u, by simp [hu], v, hv, huv, hf⟩
    rw [if_neg h1]
    by_cases h2 : 0 < c x y
    · rw [if_pos h2]
      have h2' := (h.gt x y).1 h2
      have ih := merge_spec h hc (a := x :: a) (b := b) ha hb'
      have ylt : ∀ z ∈ x :: a, c y z < 0 := fun z hz => by
        rcases List.mem_cons.1 hz with rfl | hz
        · exact h2'
        · exact h.trans h2' (hax z hz)
      have yne : ∀ z ∈ x :: a, c z y ≠ 0 := fun z hz hh => by have := ylt z hz; have := h.symm hh; omega
      refine ⟨fun o ho => ?_, fun hn => ?_⟩
      · obtain ⟨o', ho', rfl⟩ := Option.map_eq_some_iff.1 ho
        obtain ⟨i1, i2, i3⟩ := ih.1 o' ho'
        refine ⟨List.pairwise_cons.2 ⟨fun z hz => ?_, i1⟩, fun z => ?_, fun u hu v hv huv => ?_⟩
        · rcases (i2 z).1 hz with ⟨hz, _⟩ | ⟨hz, _⟩ | ⟨u, hu, v, hv, huv, rfl⟩
          · exact ylt z hz
          · exact hby z hz
          · exact h.lt_eq (ylt u hu) (h.symm (hc u v huv))
        · rw [List.mem_cons, i2 z]
          constructor
          · rintro (rfl | ⟨hz, hn⟩ | ⟨hz, hn⟩ | ⟨u, hu, v, hv, huv, e⟩)
            · exact .inr (.inl ⟨by simp, fun v hv => yne v hv⟩)
            · refine .inl ⟨hz, fun v hv => ?_⟩
              rcases List.mem_cons.1 hv with rfl | hv
              · exact yne z hz
              · exact hn v hv
            · exact .inr (.inl ⟨by simp [hz], hn⟩)
            · exact .inr (.inr ⟨u, hu, v, by simp [hv], huv, e⟩)
          · rintro (⟨hz, hn⟩ | ⟨hz, hn⟩ | ⟨u, hu, v, hv, huv, e⟩)
            · exact .inr (.inl ⟨hz, fun v hv => hn v (by simp [hv])⟩)
            · rcases List.mem_cons.1 hz with rfl | hz
              · exact .inl rfl
              · exact .inr (.inr (.inl ⟨hz, hn⟩))
            · rcases List.mem_cons.1 hv with rfl | hv
              · exact absurd huv (yne u hu)
              · exact .inr (.inr (.inr ⟨u, hu, v, hv, huv, e⟩))
        · rcases List.mem_cons.1 hv with rfl | hv
          · exact absurd huv (yne u hu)
          · exact i3 u hu v hv huv
      · obtain ⟨u, hu, v, hv, huv, hf⟩ := ih.2 (by simpa using hn)
        exact ⟨u, hu, v, by simp [hv], huv, hf⟩
    rw [if_neg h2]
    have h0 : c x y = 0 := by omega
    have h0' := h.symm h0
    have xlt : ∀ z ∈ b, c x z < 0 := fun z hz => h.eq_lt h0 (hby z hz)
    have ylt : ∀ z ∈ a, c y z < 0 := fun z hz => h.eq_lt h0' (hax z hz)
    have yne : ∀ z ∈ a, c z y ≠ 0 := fun z hz hh => by have := ylt z hz; have := h.symm hh; omega
    by_cases h3 : (comb x y).2 = true
    · rw [if_pos h3]
      have ih := merge_spec h hc (a := a) (b := b) ha' hb'
      have hz0 := hc x y h0
      refine ⟨fun o ho => ?_, fun hn => ?_⟩
      · obtain ⟨o', ho', rfl⟩ := Option.map_eq_some_iff.1 ho
        obtain ⟨i1, i2, i3⟩ := ih.1 o' ho'
        refine ⟨List.pairwise_cons.2 ⟨fun z hz => ?_, i1⟩, fun z => ?_, fun u hu v hv huv => ?_⟩
        · rcases (i2 z).1 hz with ⟨hz, _⟩ | ⟨hz, _⟩ | ⟨u, hu, v, hv, huv, rfl⟩
          · exact h.eq_lt hz0 (hax z hz)
          · exact h.eq_lt hz0 (xlt z hz)
          · exact h.eq_lt hz0 (h.lt_eq (hax u hu) (h.symm (hc u v huv)))
        · rw [List.mem_cons, i2 z]
          constructor
          · rintro (rfl | ⟨hz, hn⟩ | ⟨hz, hn⟩ | ⟨u, hu, v, hv, huv, e⟩)
            · exact .inr (.inr ⟨x, by simp, y, by simp, h0, rfl⟩)
            · refine .inl ⟨by simp [hz], fun v hv => ?_⟩
              rcases List.mem_cons.1 hv with rfl | hv
              · exact yne z hz
              · exact hn v hv
            · refine .inr (.inl ⟨by simp [hz], fun u hu => ?_⟩)
              rcases List.mem_cons.1 hu with rfl | hu
              · have := xlt z hz; omega
              · exact hn u hu
            · exact .inr (.inr ⟨u, by simp [hu], v, by simp [hv], huv, e⟩)
          · rintro (⟨hz, hn⟩ | ⟨hz, hn⟩ | ⟨u, hu, v, hv, huv, e⟩)
            · rcases List.mem_cons.1 hz with rfl | hz
              · exact absurd h0 (hn y (by simp))
              · exact .inr (.inl ⟨hz, fun v hv => hn v (by simp [hv])⟩)
            · rcases List.mem_cons.1 hz with rfl | hz
              · exact absurd h0 (hn x (by simp))
              · exact .inr (.inr (.inl ⟨hz, fun u hu => hn u (by simp [hu])⟩))
            · rcases List.mem_cons.1 hu with rfl | hu
              · rcases List.mem_cons.1 hv with rfl | hv
                · exact .inl e
                · have := xlt v hv; omega
              · rcases List.mem_cons.1 hv with rfl | hv
                · exact absurd huv (yne u hu)
                · exact .inr (.inr (.inr ⟨u, hu, v, hv, huv, e⟩))
        · rcases List.mem_cons.1 hu with rfl | hu
          · rcases List.mem_cons.1 hv with rfl | hv
            · exact h3
            · have := xlt v hv; omega
          · rcases List.mem_cons.1 hv with rfl | hv
            · exact absurd huv (yne u hu)
            · exact i3 u hu v hv huv
      · obtain ⟨u, hu, v, hv, huv, hf⟩ := ih.2 (by simpa using hn)
        exact ⟨u, by simp [hu], v, by simp [hv], huv, hf⟩
    · rw [if_neg h3]
      refine ⟨fun o ho => (by cases ho), fun _ => ⟨x, by simp, y, by simp, h0, by simpa using h3⟩⟩
termination_by a b => a.length + b.length
end
end Go.V
/- Plain: stores, sheaves, relays that are made. -/
set_option linter.unusedSimpArgs false
set_option linter.unusedVariables false
namespace Go.Proofs.YtklknkmeljjmgaaGreatDoor
open Go Go.V Go.RowKit
theorem CD : Cmp cmpD := ⟨fun x y => by rw [cmpD_lt, cmpD_lt]; omega, fun x y z => by rw [cmpD_lt, cmpD_lt, cmpD_lt]; omega, fun x y => by rw [cmpD_gt, cmpD_lt]⟩
theorem CP : Cmp cmpP := ⟨lawP.asym, lawP.nt, fun x y => by rw [cmpP_gt, cmpP_lt]; omega⟩
theorem cmpD_eq {x y : Disp} : cmpD x y = 0 ↔ x.story = y.story := by have := @cmpD_lt x y; have := @cmpD_gt x y; omega
theorem cmpP_eq {x y : Slp} : cmpP x y = 0 ↔ x.relay = y.relay ∧ x.story = y.story ∧ x.ed = y.ed := by have := @cmpP_lt x y; have := @cmpP_gt x y; omega
theorem newer_mem (a b : Disp) : (newerD a b).1 = a ∨ (newerD a b).1 = b := by unfold newerD; split; simp; split <;> simp
theorem newer_story {a b : Disp} (h : cmpD a b = 0) : cmpD (newerD a b).1 a = 0 := by
  rw [cmpD_eq] at *
  rcases newer_mem a b with e | e <;> rw [e]; exact h.symm
theorem join_key {a b : Slp} (h : cmpP a b = 0) : cmpP (joinP a b).1 a = 0 := by unfold joinP; exact CP.self a
theorem SortG.asc {α : Type} {p : α → Bool} {c : α → α → Int} (h : Cmp c) {l : List α} (hs : SortG p c l) : Asc c l := by
  show l.Pairwise _
  rw [List.pairwise_iff_getElem]
  intro i j hi hj hij
  obtain ⟨d, rfl⟩ : ∃ d, j = i + 1 + d := ⟨j - (i + 1), by omega⟩
  induction d with
  | zero => exact hs.2 i _ _ (List.getElem?_eq_getElem hi) (List.getElem?_eq_getElem hj)
  | succ d ih => exact h.trans (ih (by omega) (by omega)) (hs.2 (i + 1 + d) _ _ (List.getElem?_eq_getElem (by omega)) (List.getElem?_eq_getElem hj))
theorem sortG_of {α : Type} {p : α → Bool} {c : α → α → Int} {l : List α} (h1 : ∀ x ∈ l, p x = true) (h2 : Asc c l) : SortG p c l := by
  refine ⟨fun i x hx => h1 x (List.mem_of_getElem? hx), fun i x y hx hy => ?_⟩
  have h2 : l.Pairwise _ := h2
  rw [List.pairwise_iff_getElem] at h2
  obtain ⟨hi, rfl⟩ := List.getElem?_eq_some_iff.1 hx
  obtain ⟨hj, rfl⟩ := List.getElem?_eq_some_iff.1 hy
  exact h2 i (i + 1) hi hj (by omega)
theorem storeP_iff {l : List Disp} : StoreP l ↔ (∀ d ∈ l, rightP d) ∧ Asc cmpD l :=
  ⟨fun h => ⟨fun d hd => h.right hd, SortG.asc CD h⟩, fun h => sortG_of (fun x hx => decide_eq_true (h.1 x hx)) h.2⟩
theorem sheafP_iff {l : List Slp} : SheafP l ↔ (∀ d ∈ l, slipP d) ∧ Asc cmpP l :=
  ⟨fun h => ⟨fun d hd => h.right hd, SortG.asc CP h⟩, fun h => sortG_of (fun x hx => decide_eq_true (h.1 x hx)) h.2⟩
/-- ascending lists with the same elements -/
theorem asc_ext {α : Type} {c : α → α → Int} (h : Cmp c) {a b : List α} (ha : Asc c a) (hb : Asc c b) (he : ∀ x, x ∈ a ↔ x ∈ b) : a = b :=
  eq_of_sorted (R := fun x y => c x y < 0) h.irr h.asym ha hb he
/-- the reference's kept is the merge with one -/
theorem keptF_done {d : Disp} : ∀ {l : List Disp}, Asc cmpD l → (∀ x ∈ l, d.story < x.story) → keptF d l true = some l
  | [], _, _ => rfl
  | x :: l, ha, hx => by
    rw [keptF, if_neg (by simp), if_pos (by have := hx x (by simp); omega), keptF_done (List.pairwise_cons.1 ha).2 fun y hy => hx y (by simp [hy])]; rfl
theorem keptF_merge {d : Disp} : ∀ {l : List Disp}, Asc cmpD l → keptF d l false = mergeG cmpD newerD l [d]
  | [], _ => by simp [keptF, mergeG]
  | x :: l, ha => by
    obtain ⟨hx, hl⟩ := List.pairwise_cons.1 ha
    rw [keptF, mergeG]
    have e1 := @cmpD_lt x d
    have e2 := @cmpD_gt x d
    by_cases h1 : x.story < d.story
    · rw [if_neg (by omega), if_pos (by omega), if_pos (e1.2 h1), keptF_merge hl]; rfl
    · rw [if_neg (show ¬ cmpD x d < 0 by omega)]
      by_cases h2 : d.story < x.story
      · rw [if_pos ⟨h2, rfl⟩, if_pos (e2.2 h2), keptF_done hl fun y hy => by have := cmpD_lt.1 (hx y hy); omega]
        simp [mergeG]
      · rw [if_neg (show ¬ (d.story < x.story ∧ false = false) by omega), if_neg (show ¬ x.story ≠ d.story by omega), if_neg (show ¬ 0 < cmpD x d by omega)]
        have hd : keptF d l true = some l := keptF_done hl fun y hy => by have := cmpD_lt.1 (hx y hy); omega
        by_cases h3 : x.cls ≠ d.cls ∨ (x.ed = d.ed ∧ x ≠ d)
        · rw [if_pos h3, if_neg (by unfold newerD; rw [if_pos h3]; simp)]
        · rw [if_neg h3, hd]
          have hm : mergeG cmpD newerD l [] = some l := by cases l <;> simp [mergeG]
          have hnw : newerD x d = if d.ed ≤ x.ed then (x, true) else (d, true) := by unfold newerD; rw [if_neg h3]
          rw [hnw]
          by_cases h4 : d.ed ≤ x.ed
          · simp [if_pos h4, hm, show ¬ x.ed < d.ed by omega]
          · simp [if_neg h4, hm, show x.ed < d.ed by omega]
end Go.Proofs.YtklknkmeljjmgaaGreatDoor
/- Plain: relays that are made stay so. -/
set_option linter.unusedSimpArgs false
set_option linter.unusedVariables false
namespace Go.Proofs.YtklknkmeljjmgaaGreatDoor
open Go Go.V Go.RowKit
theorem asc_room2 {α : Type} {c : α → α → Int} {f : α → Int} {l : List α} {n : Nat} (h : Asc c l) (hp : ∀ x ∈ l, 0 ≤ f x ∧ f x < n) (hc : ∀ x ∈ l, ∀ y ∈ l, c x y < 0 → f x < f y) : l.length ≤ n := by
  have h : l.Pairwise _ := h
  rw [List.pairwise_iff_getElem] at h
  have key : ∀ i (hi : i < l.length), (i : Int) ≤ f (l[i]) := by
    intro i
    induction i with
    | zero => intro hi; exact (hp _ (List.getElem_mem hi)).1
    | succ i ih =>
      intro hi
      have h1 := ih (by omega)
      have h2 := hc _ (List.getElem_mem (by omega)) _ (List.getElem_mem hi) (h i (i + 1) (by omega) hi (by omega))
      omega
  rcases Nat.eq_zero_or_pos l.length with h0 | h0
  · omega
  · have h1 := key (l.length - 1) (by omega)
    have h2 := (hp _ (List.getElem_mem (show l.length - 1 < l.length by omega))).2
    omega
def madeP (d : Disp) : Prop := (0 ≤ d.story ∧ d.story < 6) ∧ (1 ≤ d.ed ∧ d.ed ≤ 5) ∧ d = madeOf d.story d.ed
def madeS (s : Slp) : Prop := (0 ≤ s.relay ∧ s.relay ≤ 7) ∧ (0 ≤ s.story ∧ s.story < 6) ∧ (1 ≤ s.ed ∧ s.ed ≤ 5) ∧ s.dig = shaF (madeOf s.story s.ed).text
theorem madeP.right {d : Disp} (h : madeP d) : rightP d := by rw [h.2.2]; exact madeOf_right h.1 h.2.1
theorem madeS.right {s : Slp} (h : madeS s) : slipP s := by
  obtain ⟨h1, h2, h3, h4⟩ := h
  refine ⟨h1, ⟨h2.1, by omega⟩, ⟨h3.1, by omega⟩, by rw [h4, shaF_size]; rfl⟩
theorem madeD_made {x0 x1 : Int} (h0 : in64 x0) (h1 : in64 x1) : madeP (madeD x0 x1) := by
  have hp0 := pickI_range (c := x0) (n := 6) (by omega) h0
  have hp1 := pickI_range (c := x1) (n := 5) (by omega) h1
  refine ⟨hp0, ?_, rfl⟩
  show 1 ≤ 1 + pickI x1 5 ∧ 1 + pickI x1 5 ≤ 5
  omega
theorem madeP.same {a b : Disp} (ha : madeP a) (hb : madeP b) (h1 : a.story = b.story) (h2 : a.ed = b.ed) : a = b := by rw [ha.2.2, hb.2.2, h1, h2]
theorem madeP.cls {a b : Disp} (ha : madeP a) (hb : madeP b) (h1 : a.story = b.story) : a.cls = b.cls := by rw [ha.2.2, hb.2.2, h1]; rfl
theorem madeS.same {a b : Slp} (ha : madeS a) (hb : madeS b) (h : cmpP a b = 0) : a = b := by
  obtain ⟨h1, h2, h3⟩ := cmpP_eq.1 h
  exact Slp.ext' h1 h2 h3 (by rw [ha.2.2.2, hb.2.2.2, h2, h3])
theorem newer_made {a b : Disp} (ha : madeP a) (hb : madeP b) (h : cmpD a b = 0) : newerD a b = if b.ed ≤ a.ed then (a, true) else (b, true) := by
  have hs := cmpD_eq.1 h
  unfold newerD
  rw [if_neg]
  rintro (hh | hh)
  · exact hh (ha.cls hb hs)
  · exact hh.2 (ha.same hb hs hh.1)
theorem merge_made {a b : List Disp} (ha : Asc cmpD a) (hb : Asc cmpD b) (ma : ∀ d ∈ a, madeP d) (mb : ∀ d ∈ b, madeP d) : ∃ o, mergeG cmpD newerD a b = some o ∧ Asc cmpD o ∧ (∀ d ∈ o, madeP d) ∧ ∀ z, z ∈ o ↔ inMerge cmpD newerD a b z := by
  have hs := merge_spec CD (comb := newerD) (fun x y => newer_story) ha hb
  cases hm : mergeG cmpD newerD a b with
  | none =>
    obtain ⟨x, hx, y, hy, h0, hf⟩ := hs.2 hm
    rw [newer_made (ma x hx) (mb y hy) h0] at hf
    split at hf <;> cases hf
  | some o =>
    obtain ⟨h1, h2, h3⟩ := hs.1 o hm
    refine ⟨o, rfl, h1, fun d hd => ?_, h2⟩
    rcases (h2 d).1 hd with ⟨h, _⟩ | ⟨h, _⟩ | ⟨x, hx, y, hy, h0, rfl⟩
    · exact ma d h
    · exact mb d h
    · rcases newer_mem x y with e | e <;> rw [e]
      · exact ma x hx
      · exact mb y hy
theorem mergeP_made {a b : List Slp} (ha : Asc cmpP a) (hb : Asc cmpP b) (ma : ∀ d ∈ a, madeS d) (mb : ∀ d ∈ b, madeS d) : ∃ o, mergeG cmpP joinP a b = some o ∧ Asc cmpP o ∧ (∀ d ∈ o, madeS d) ∧ ∀ z, z ∈ o ↔ z ∈ a ∨ z ∈ b := by
  have hs := merge_spec CP (comb := joinP) (fun x y => join_key) ha hb
  cases hm : mergeG cmpP joinP a b with
  | none =>
    obtain ⟨x, hx, y, hy, h0, hf⟩ := hs.2 hm
    unfold joinP at hf
    exact absurd ((ma x hx).same (mb y hy) h0) (of_decide_eq_false hf)
  | some o =>
    obtain ⟨h1, h2, h3⟩ := hs.1 o hm
    have hz : ∀ z, z ∈ o ↔ z ∈ a ∨ z ∈ b := fun z => by
      rw [h2 z]
      constructor
      · rintro (⟨h, _⟩ | ⟨h, _⟩ | ⟨x, hx, y, hy, h0, rfl⟩)
        · exact .inl h
        · exact .inr h
        · exact .inl hx
      · rintro (h | h)
        · by_cases hh : ∃ y ∈ b, cmpP z y = 0
          · obtain ⟨y, hy, h0⟩ := hh
            exact .inr (.inr ⟨z, h, y, hy, h0, rfl⟩)
          · exact .inl ⟨h, fun y hy h0 => hh ⟨y, hy, h0⟩⟩
        · by_cases hh : ∃ x ∈ a, cmpP x z = 0
          · obtain ⟨x, hx, h0⟩ := hh
            have := (ma x hx).same (mb z h) h0
            subst this
            exact .inr (.inr ⟨x, hx, x, h, h0, rfl⟩)
          · exact .inr (.inl ⟨h, fun x hx h0 => hh ⟨x, hx, h0⟩⟩)
    exact ⟨o, rfl, h1, fun d hd => ((hz d).1 hd).elim (ma d) (mb d), hz⟩
structure GoodR (r : Rel) : Prop where
  id : 0 ≤ r.id ∧ r.id ≤ 7
  paper : 0 ≤ r.paper ∧ r.paper ≤ 10000
  kept : ∀ d ∈ r.kept, madeP d
  slips : ∀ s ∈ r.slips, madeS s
  ascK : Asc cmpD r.kept
  ascS : Asc cmpP r.slips
theorem slips_room {l : List Slp} (h : Asc cmpP l) (hm : ∀ s ∈ l, madeS s) : l.length ≤ 240 := by
  refine asc_room2 (f := fun s => s.relay * 30 + s.story * 5 + (s.ed - 1)) h (fun x hx => ?_) fun x hx y hy hxy => ?_
  · obtain ⟨h1, h2, h3, _⟩ := hm x hx
    omega
  · obtain ⟨h1, h2, h3, _⟩ := hm x hx
    obtain ⟨g1, g2, g3, _⟩ := hm y hy
    rw [cmpP_lt] at hxy
    omega
theorem kept_room {l : List Disp} (h : Asc cmpD l) (hm : ∀ s ∈ l, madeP s) : l.length ≤ 6 := by
  refine asc_room2 (f := fun s => s.story) h (fun x hx => ?_) fun x hx y hy hxy => ?_
  · obtain ⟨h1, h2, h3⟩ := hm x hx
    omega
  · exact cmpD_lt.1 hxy
theorem GoodR.valid {r : Rel} (h : GoodR r) : ValidR r :=
  ⟨h.id, h.paper, by have := slips_room h.ascS h.slips; omega, storeP_iff.2 ⟨fun d hd => (h.kept d hd).right, h.ascK⟩, sheafP_iff.2 ⟨fun s hs => (h.slips s hs).right, h.ascS⟩⟩
theorem GoodR.small {r : Rel} (h : GoodR r) : small r := by
  have h1 := slips_room h.ascS h.slips
  have h2 := kept_room h.ascK h.kept
  exact ⟨by omega, by omega⟩
theorem merge_nil {α : Type} {c : α → α → Int} {comb : α → α → α × Bool} {a : List α} : mergeG c comb a [] = some a := by cases a <;> simp [mergeG]
/-- Put, by the reference -/
theorem putRef_good {r : Rel} {d : Disp} {e : Int} {r' : Rel} (hr : GoodR r) (hd : madeP d) (h : putRef r d e r') : e = 0 ∧ GoodR r' ∧ mergeG cmpD newerD r.kept [d] = some r'.kept ∧ r'.slips = r.slips ∧ r'.id = r.id ∧ r'.paper = r.paper := by
  obtain ⟨o, ho, h1, h2, h3⟩ := merge_made hr.ascK (List.pairwise_singleton _ d) hr.kept (by simpa using hd)
  have hk := keptF_merge (d := d) hr.ascK
  rcases h with ⟨_, _, ⟨o', h4, rfl, rfl⟩ | ⟨h4, _⟩⟩ | ⟨h4, _⟩
  · rw [hk, ho] at h4; cases h4
    exact ⟨rfl, ⟨hr.id, hr.paper, h2, hr.slips, h1, hr.ascS⟩, ho, rfl, rfl, rfl⟩
  · rw [hk, ho] at h4; cases h4
  · exact absurd ⟨hr.valid, hd.right⟩ h4
structure GoodK (p : Pack) : Prop where
  src : 0 ≤ p.src ∧ p.src ≤ 7
  kept : ∀ d ∈ p.kept, madeP d
  slips : ∀ s ∈ p.slips, madeS s
  ascK : Asc cmpD p.kept
  ascS : Asc cmpP p.slips
theorem GoodK.held {p : Pack} (h : GoodK p) : HeldP p :=
  ⟨h.src, by have := slips_room h.ascS h.slips; omega, storeP_iff.2 ⟨fun d hd => (h.kept d hd).right, h.ascK⟩, sheafP_iff.2 ⟨fun s hs => (h.slips s hs).right, h.ascS⟩⟩
theorem GoodK.small {p : Pack} (h : GoodK p) : p.kept.length ≤ 5000 ∧ p.slips.length ≤ 5000 := by
  have h1 := slips_room h.ascS h.slips
  have h2 := kept_room h.ascK h.kept
  exact ⟨by omega, by omega⟩
theorem tell_good {r : Rel} {e : Int} {p : Pack} (hr : GoodR r) (h : tellR r e p) : e = 0 ∧ p = ⟨r.id, r.kept, r.slips⟩ ∧ GoodK p := by
  rcases h with ⟨_, rfl, rfl⟩ | ⟨h, _⟩
  · exact ⟨rfl, rfl, hr.id, hr.kept, hr.slips, hr.ascK, hr.ascS⟩
  · exact absurd hr.valid h
theorem refill_good {r : Rel} {n e : Int} {r' : Rel} (hr : GoodR r) (hn : 0 ≤ n ∧ n ≤ 10000 - r.paper) (h : refillR r n e r') : e = 0 ∧ r' = { r with paper := r.paper + n } ∧ GoodR r' := by
  rcases h with ⟨_, rfl, rfl⟩ | ⟨h, _⟩
  · exact ⟨rfl, rfl, hr.id, ⟨by show 0 ≤ r.paper + n; have := hr.paper; omega, by show r.paper + n ≤ 10000; omega⟩, hr.kept, hr.slips, hr.ascK, hr.ascS⟩
  · exact absurd ⟨hr.valid, hn⟩ h
/-- the reference's keeping one after the other is the merge -/
theorem keptsF_merge : ∀ {b a : List Disp}, Asc cmpD a → Asc cmpD b → keptsF a b = mergeG cmpD newerD a b
  | [], a, ha, hb => by rw [keptsF, merge_nil]
  | d :: b, a, ha, hb => by
    obtain ⟨hd, hb'⟩ := List.pairwise_cons.1 hb
    rw [keptsF, keptF_merge ha]
    have s1 := merge_spec CD (comb := newerD) (fun x y => newer_story) ha (List.pairwise_singleton _ d)
    have s2 := merge_spec CD (comb := newerD) (fun x y => newer_story) ha hb
    cases h1 : mergeG cmpD newerD a [d] with
    | none =>
      obtain ⟨x, hx, y, hy, h0, hf⟩ := s1.2 h1
      rw [Option.bind_none]
      cases h2 : mergeG cmpD newerD a (d :: b) with
      | none => rfl
      | some o =>
        have := (s2.1 o h2).2.2 x hx y (by simp only [List.mem_singleton] at hy; simp [hy]) h0
        rw [hf] at this; cases this
    | some a' =>
      obtain ⟨i1, i2, i3⟩ := s1.1 a' h1
      rw [Option.bind_some, keptsF_merge i1 hb']
      have s3 := merge_spec CD (comb := newerD) (fun x y => newer_story) i1 hb'
      -- in a' with the key of one of b: it is of a
      have inA : ∀ z ∈ a', ∀ y ∈ b, cmpD z y = 0 → z ∈ a := fun z hz y hy h0 => by
        have hdy := cmpD_lt.1 (hd y hy)
        have h0' := cmpD_eq.1 h0
        rcases (i2 z).1 hz with ⟨h, _⟩ | ⟨h, _⟩ | ⟨u, hu, v, hv, huv, rfl⟩
        · exact h
        · simp only [List.mem_singleton] at h; subst h; omega
        · simp only [List.mem_singleton] at hv; subst hv
          have h5 := cmpD_eq.1 (newer_story huv)
          have h6 := cmpD_eq.1 huv
          omega
      have ofA : ∀ z ∈ a, ∀ y ∈ b, cmpD z y = 0 → z ∈ a' := fun z hz y hy h0 => by
        have hdy := cmpD_lt.1 (hd y hy)
        have h0' := cmpD_eq.1 h0
        refine (i2 z).2 (.inl ⟨hz, fun v hv hh => ?_⟩)
        simp only [List.mem_singleton] at hv; subst hv
        have := cmpD_eq.1 hh
        omega
      cases h3 : mergeG cmpD newerD a' b with
      | none =>
        obtain ⟨x, hx, y, hy, h0, hf⟩ := s3.2 h3
        cases h2 : mergeG cmpD newerD a (d :: b) with
        | none => rfl
        | some o =>
          have := (s2.1 o h2).2.2 x (inA x hx y hy h0) y (by simp [hy]) h0
          rw [hf] at this; cases this
      | some o =>
        obtain ⟨j1, j2, j3⟩ := s3.1 o h3
        cases h2 : mergeG cmpD newerD a (d :: b) with
        | none =>
          obtain ⟨x, hx, y, hy, h0, hf⟩ := s2.2 h2
          rcases List.mem_cons.1 hy with rfl | hy
          · have := i3 x hx y (by simp) h0
            rw [hf] at this; cases this
          · have := j3 x (ofA x hx y hy h0) y hy h0
            rw [hf] at this; cases this
        | some o' =>
          obtain ⟨k1, k2, k3⟩ := s2.1 o' h2
          refine congrArg some (asc_ext CD j1 k1 fun z => ?_)
          rw [j2 z, k2 z]
          constructor
          · rintro (⟨hz, hn⟩ | ⟨hz, hn⟩ | ⟨x, hx, y, hy, h0, e⟩)
            · rcases (i2 z).1 hz with ⟨h, hn'⟩ | ⟨h, hn'⟩ | ⟨u, hu, v, hv, huv, e⟩
              · exact .inl ⟨h, fun y hy => by rcases List.mem_cons.1 hy with rfl | hy; exact hn' y (by simp); exact hn y hy⟩
              · simp only [List.mem_singleton] at h; subst h
                exact .inr (.inl ⟨by simp, hn'⟩)
              · simp only [List.mem_singleton] at hv; subst hv
                exact .inr (.inr ⟨u, hu, v, by simp, huv, e⟩)
            · refine .inr (.inl ⟨by simp [hz], fun x hx h0 => hn x (ofA x hx z hz h0) h0⟩)
            · exact .inr (.inr ⟨x, inA x hx y hy h0, y, by simp [hy], h0, e⟩)
          · rintro (⟨hz, hn⟩ | ⟨hz, hn⟩ | ⟨x, hx, y, hy, h0, e⟩)
            · exact .inl ⟨(i2 z).2 (.inl ⟨hz, fun y hy => hn y (by simp only [List.mem_singleton] at hy; simp [hy])⟩), fun y hy => hn y (by simp [hy])⟩
            · rcases List.mem_cons.1 hz with rfl | hz
              · exact .inl ⟨(i2 z).2 (.inr (.inl ⟨by simp, hn⟩)), fun y hy h0 => by have := hd y hy; omega⟩
              · exact .inr (.inl ⟨hz, fun x hx h0 => hn x (inA x hx z hz h0) h0⟩)
            · rcases List.mem_cons.1 hy with rfl | hy
              · refine .inl ⟨(i2 z).2 (.inr (.inr ⟨x, hx, y, by simp, h0, e⟩)), fun v hv hh => ?_⟩
                subst e
                have h4 := cmpD_lt.1 (hd v hv)
                have h5 := cmpD_eq.1 (newer_story h0)
                have h6 := cmpD_eq.1 h0
                have h7 := cmpD_eq.1 hh
                omega
              · exact .inr (.inr ⟨x, ofA x hx y hy h0, y, hy, h0, e⟩)
theorem hearRef_good {r : Rel} {p : Pack} {e : Int} {r' : Rel} (hr : GoodR r) (hp : GoodK p) (h : hearRef r p e r') : e = 0 ∧ GoodR r' ∧ r'.id = r.id ∧ r'.paper = r.paper := by
  obtain ⟨o, ho, h1, h2, h3⟩ := merge_made hr.ascK hp.ascK hr.kept hp.kept
  obtain ⟨s, hs, g1, g2, g3⟩ := mergeP_made hr.ascS hp.ascS hr.slips hp.slips
  have hg : GoodR ⟨r.id, r.paper, o, s⟩ := ⟨hr.id, hr.paper, h2, g2, h1, g1⟩
  have hk := keptsF_merge hr.ascK hp.ascK
  have hok : hearOk r p ⟨r.id, r.paper, o, s⟩ := ⟨o, s, by rw [hk, ho], hs, rfl, hg.valid⟩
  rcases h with ⟨_, _, ⟨⟨o', s', h4, h5, rfl, _⟩, rfl⟩ | ⟨h4, _⟩⟩ | ⟨h4, _⟩
  · rw [hk, ho] at h4; rw [hs] at h5; cases h4; cases h5
    exact ⟨rfl, hg, rfl, rfl⟩
  · exact absurd ⟨_, hok⟩ h4
  · exact absurd ⟨hr.valid, hp.held⟩ h4
theorem slipOf_made {r : Rel} {d : Disp} (hr : 0 ≤ r.id ∧ r.id ≤ 7) (hd : madeP d) : madeS (slipOf r d) := by
  refine ⟨hr, hd.1, hd.2.1, ?_⟩
  show shaF d.text = shaF (madeOf d.story d.ed).text
  rw [← hd.2.2]
theorem waitL_mem {r : Rel} (h : StoreP r.kept) {d : Disp} : d ∈ waitL r ↔ d ∈ r.kept ∧ printedB r d = false := by
  unfold waitL
  rw [List.mem_filter, mem_byClass h]
  simp
theorem prF_made {r : Rel} (hr : 0 ≤ r.id ∧ r.id ≤ 7) : ∀ {L : List Disp} {pp : Int} {cur : List Slp} {pp' : Int} {s : List Slp} {dn : List Disp}, (∀ d ∈ L, madeP d) → Asc cmpP cur → (∀ z ∈ cur, madeS z) → prF r pp cur L = some (pp', s, dn) → Asc cmpP s ∧ (∀ z ∈ s, madeS z) ∧ pp' ≤ pp
  | [], pp, cur, pp', s, dn, hL, ha, hm, h => by
    simp only [prF, Option.some.injEq, Prod.mk.injEq] at h
    obtain ⟨rfl, rfl, rfl⟩ := h
    exact ⟨ha, hm, Int.le_refl _⟩
  | d :: L, pp, cur, pp', s, dn, hL, ha, hm, h => by
    rw [prF] at h
    split at h
    · obtain ⟨o, ho, h1, h2, h3⟩ := mergeP_made ha (List.pairwise_singleton _ (slipOf r d)) hm (by simpa using slipOf_made hr (hL d (by simp)))
      rw [ho, Option.bind_some, Option.map_eq_some_iff] at h
      obtain ⟨⟨a, b, c⟩, hx, he⟩ := h
      simp only [Prod.mk.injEq] at he
      obtain ⟨rfl, rfl, rfl⟩ := he
      obtain ⟨i1, i2, i3⟩ := prF_made hr (fun d hd => hL d (by simp [hd])) h1 h2 hx
      have := pagesD_nonneg d
      exact ⟨i1, i2, by omega⟩
    · simp only [Option.some.injEq, Prod.mk.injEq] at h
      obtain ⟨rfl, rfl, rfl⟩ := h
      exact ⟨ha, hm, Int.le_refl _⟩
theorem printRef_good {r : Rel} {e : Int} {r' : Rel} {dn : List Disp} (hr : GoodR r) (h : printRef r e r' dn) (he : e = 0) : GoodR r' ∧ r'.id = r.id ∧ r'.paper ≤ r.paper := by
  rcases h with ⟨_, ⟨pp, s, h1, h2, _, rfl⟩ | ⟨_, h, _⟩⟩ | ⟨h, _⟩
  · obtain ⟨i1, i2, i3⟩ := prF_made hr.id (fun d hd => hr.kept d ((waitL_mem hr.valid.2.2.2.1).1 hd).1) hr.ascS hr.slips h1
    exact ⟨⟨hr.id, h2.2.1, hr.kept, i2, hr.ascK, i1⟩, rfl, i3⟩
  · omega
  · exact absurd hr.valid h
end Go.Proofs.YtklknkmeljjmgaaGreatDoor
/- The reference: Deed and Relays. -/
set_option linter.unusedSimpArgs false
set_option linter.unusedVariables false
namespace Go.Proofs.YtklknkmeljjmgaaGreatDoor
open Go Go.V Go.RowKit
/-- a relay's cells -/
structure RW where
  id : Int
  paper : Int
  ka : Option Addr
  kn : Nat
  kc : Nat
  sa : Option Addr
  sn : Nat
  sc : Nat
def fR : Fl RW := ⟨4, fun x => [I x.id, I x.paper, .slice x.ka x.kn x.kc, .slice x.sa x.sn x.sc], fun _ => rfl⟩
abbrev agR (x : RW) : Value := .agg (fR.e x).toArray
structure Q4 where
  a : Int
  b : Int
  c : Int
  d : Int
def fQ : Fl Q4 := ⟨4, fun x => [I x.a, I x.b, I x.c, I x.d], fun _ => rfl⟩
theorem eR : ETy Tryz.prog 34 27 fR := ⟨by kernel_rfl, by kernel_rfl, by kernel_rfl, by kernel_rfl, by kernel_rfl, by kernel_rfl, fun x u hu => by simp [fR] at hu; rcases hu with rfl | rfl | rfl | rfl <;> rfl⟩
theorem RelV.raw {w : World} {v : Value} {r : Rel} (h : RelV w v r) : ∃ x, v = agR x := by
  obtain ⟨kv, sv, rfl, ⟨a, c, rfl, _⟩, ⟨a', c', rfl, _⟩⟩ := h
  exact ⟨⟨_, _, a, _, c, a', _, c'⟩, rfl⟩
def RelsX (w : World) (xs : List RW) (rs : List Rel) : Prop := xs.length = rs.length ∧ ∀ (i : Nat) x r, xs[i]? = some x → rs[i]? = some r → RelV w (agR x) r
/-- v is a slice of the relays rs -/
def RelsV (w : World) (v : Value) (rs : List Rel) : Prop := ∃ xs, IsSl fR w v xs ∧ RelsX w xs rs
theorem RelsX.at {w : World} {xs : List RW} {rs : List Rel} (h : RelsX w xs rs) {i : Nat} {r : Rel} (hr : rs[i]? = some r) : ∃ x, xs[i]? = some x ∧ RelV w (agR x) r := by
  have hi : i < xs.length := by rw [h.1]; exact (List.getElem?_eq_some_iff.1 hr).1
  exact ⟨_, List.getElem?_eq_getElem hi, h.2 i _ r (List.getElem?_eq_getElem hi) hr⟩
/-- three relays to which n things happened at most -/
structure Three (n : Nat) (rs : List Rel) : Prop where
  good : ∀ r ∈ rs, GoodR r
  paper : ∀ r ∈ rs, r.paper ≤ 5 + 4 * n
  ids : rs.map (·.id) = [0, 1, 4]
theorem Three.len {n : Nat} {rs : List Rel} (h : Three n rs) : rs.length = 3 := by have := congrArg List.length h.ids; simpa using this
theorem Three.set {n : Nat} {rs : List Rel} (h : Three n rs) {k : Nat} {r r' : Rel} (hr : rs[k]? = some r) (hg : GoodR r') (hi : r'.id = r.id) (hp : r'.paper ≤ 5 + 4 * (n + 1)) : Three (n + 1) (rs.set k r') := by
  refine ⟨fun x hx => ?_, fun x hx => ?_, ?_⟩
  · rcases List.mem_or_eq_of_mem_set hx with h' | rfl
    · exact h.good x h'
    · exact hg
  · rcases List.mem_or_eq_of_mem_set hx with h' | rfl
    · have := h.paper x h'; omega
    · exact hp
  · rw [List.map_set, hi, ← h.ids]
    obtain ⟨hk, rfl⟩ := List.getElem?_eq_some_iff.1 hr
    apply List.ext_getElem?
    intro i
    rw [List.getElem?_set]
    by_cases e : k = i
    · subst e; simp [hk]
    · simp [e]
theorem Three.mono {n : Nat} {rs : List Rel} (h : Three n rs) : Three (n + 1) rs := ⟨h.good, fun r hr => by have := h.paper r hr; omega, h.ids⟩
def okQ (q : Q4) : Prop := in64 q.a ∧ in64 q.b ∧ in64 q.c ∧ in64 q.d
section
variable {k : Value → World → Prop} {w : World}
theorem oneRW (x : RW) : ∀ u ∈ fR.e x, u.oneCell' = true := eR.one x
theorem bx59 {b : Nat} {i : Int} {j : Nat} {q : Q4} {u : Value} {w : World} {k : Value → World → Prop} (hij : i = j) (hr : RowAt w b 59 (fQ.e q)) (hj : j < 4) (hu : (fQ.e q)[j]? = some u) :
    opW Tryz.prog (Instr.indexAt 59 (.pointer (some ⟨b, 0, none⟩)) (I i)) (fun p w => opW Tryz.prog (Instr.loadAt 3 p) k w) w = k u w :=
  r_arr hij (n := 4) (e := 3) (by kernel_rfl) (by kernel_rfl) (by kernel_rfl) (by kernel_rfl) (by kernel_rfl) hj (hr.cell hu)
theorem bx59A {b : Nat} {i : Int} {j : Nat} {q : Q4} {u : Value} {w w0 : World} {K : Value → Prop} (hij : i = j) (hr : RowAt w0 b 59 (fQ.e q)) (hj : j < 4) (hu : (fQ.e q)[j]? = some u) (ha : after w0 w) :
    takeW Tryz.prog anyW (Instr.indexAt 59 (.pointer (some ⟨b, 0, none⟩)) (I i)) (fun p => takeW Tryz.prog (after w0) (Instr.loadAt 3 p) K w) w = K u :=
  r_arrA hij (n := 4) (e := 3) (by kernel_rfl) (by kernel_rfl) (by kernel_rfl) (by kernel_rfl) (by kernel_rfl) hj (hr.cell hu) ha
end
end Go.Proofs.YtklknkmeljjmgaaGreatDoor
/- The reference: Relays. -/
set_option linter.unusedSimpArgs false
set_option linter.unusedVariables false
namespace Go.V
open Go Go.RowKit
end Go.V
namespace Go.Proofs.YtklknkmeljjmgaaGreatDoor
open Go Go.V Go.RowKit
def first3 : List Rel := [⟨0, 3, [], []⟩, ⟨1, 5, [], []⟩, ⟨4, 1, [], []⟩]
theorem three_first : Three 0 first3 := by
  have g : ∀ i p : Int, 0 ≤ i ∧ i ≤ 7 → 0 ≤ p ∧ p ≤ 10000 → GoodR ⟨i, p, [], []⟩ := fun i p h1 h2 => ⟨h1, h2, (fun d h => by cases h), (fun d h => by cases h), List.Pairwise.nil, List.Pairwise.nil⟩
  refine ⟨fun r hr => ?_, fun r hr => ?_, rfl⟩
  · simp only [first3, List.mem_cons, List.not_mem_nil, or_false] at hr
    rcases hr with rfl | rfl | rfl <;> exact g _ _ (by omega) (by omega)
  · simp only [first3, List.mem_cons, List.not_mem_nil, or_false] at hr
    rcases hr with rfl | rfl | rfl <;> simp
section
variable {k : Value → World → Prop} {w : World}
end
end Go.Proofs.YtklknkmeljjmgaaGreatDoor
/- Plain: the relays of the examples. -/
set_option linter.unusedSimpArgs false
set_option linter.unusedVariables false
namespace Go.Proofs.YtklknkmeljjmgaaGreatDoor
open Go Go.V Go.RowKit
theorem sorted_eq {α : Type} {c : α → α → Int} (h : Cmp c) {S T : List α} (ht : Asc c T) (hp : S.Perm T) (hs : SortedBut c S S.length S.length) : S = T := by
  have hne : S.Pairwise fun x y => c x y ≠ 0 := (hp.symm.pairwise_iff (fun {a b} (hh : c a b ≠ 0) => fun h0 => hh (h.symm h0))).1 (List.Pairwise.imp (fun {a b} (hh : c a b < 0) => by omega) ht)
  refine asc_ext h ?_ ht fun x => hp.mem_iff
  show S.Pairwise _
  rw [List.pairwise_iff_getElem] at hne ⊢
  intro i j hi hj hij
  have h1 := hne i j hi hj hij
  have h2 := hs i j _ _ hij (by omega) (by omega) (List.getElem?_eq_getElem hi) (List.getElem?_eq_getElem hj)
  have h3 := h.gt S[i] S[j]
  omega
theorem putR_eval {r : Rel} {d : Disp} {o : List Disp} {e : Int} {r' : Rel} (hv : ValidR r) (hd : rightP d) (ho : mergeG cmpD newerD r.kept [d] = some o) (hv' : ValidR ⟨r.id, r.paper, o, r.slips⟩) (h : putR r d e r') : e = 0 ∧ r' = ⟨r.id, r.paper, o, r.slips⟩ := by
  rcases h with ⟨_, _, ⟨o', s', h4, h5, h6⟩ | ⟨h4 | h4, _⟩⟩ | ⟨h, _⟩
  · rw [ho] at h4; rw [merge_nil] at h5; cases h4; cases h5
    rcases h6 with ⟨_, rfl, rfl⟩ | ⟨h6, _⟩
    · exact ⟨rfl, rfl⟩
    · exact absurd hv' h6
  · rw [ho] at h4; cases h4
  · rw [merge_nil] at h4; cases h4
  · exact absurd ⟨hv, hd⟩ h
theorem putR_bad {r : Rel} {d : Disp} {e : Int} {r' : Rel} (ho : mergeG cmpD newerD r.kept [d] = none) (h : putR r d e r') : e = 250 ∧ r' = zeroR := by
  rcases h with ⟨_, _, ⟨o', s', h4, h5, h6⟩ | ⟨_, h1, h2⟩⟩ | ⟨_, h1, h2⟩
  · rw [ho] at h4; cases h4
  · exact ⟨h1, h2⟩
  · exact ⟨h1, h2⟩
theorem printR_eval {r : Rel} {D : List Disp} {pp : Int} {T s : List Slp} {e : Int} {r' : Rel} {dn : List Disp} (hv : ValidR r) (hd : printT r.paper (waitL r) = (D, pp)) (hT : Asc cmpP T) (hp : T.Perm (D.map (slipOf r))) (hm : mergeG cmpP joinP r.slips T = some s) (hv' : ValidR ⟨r.id, r.paper, r.kept, s⟩)
    (h : printR r e r' dn) : e = 0 ∧ r' = ⟨r.id, pp, r.kept, s⟩ ∧ dn = D := by
  rcases h with ⟨_, S, r1, h1, h2, h3, h4⟩ | ⟨h, _⟩
  · rw [hd] at h1 h4
    have hS : S = T := sorted_eq CP hT (h1.trans hp.symm) h2
    subst hS
    have h5 : e = 0 ∧ r1 = ⟨r.id, r.paper, r.kept, s⟩ := by
      rcases h3 with ⟨o', s', g4, g5, g6⟩ | ⟨g4 | g4, _⟩
      · rw [merge_nil] at g4; rw [hm] at g5; cases g4; cases g5
        rcases g6 with ⟨_, rfl, rfl⟩ | ⟨g6, _⟩
        · exact ⟨rfl, rfl⟩
        · exact absurd hv' g6
      · rw [merge_nil] at g4; cases g4
      · rw [hm] at g4; cases g4
    obtain ⟨rfl, rfl⟩ := h5
    rcases h4 with ⟨h4, _⟩ | ⟨_, h4, h5⟩
    · exact absurd rfl h4
    · exact ⟨rfl, h4, h5⟩
  · exact absurd hv h
def zeros150 : ByteArray := ⟨(List.replicate 150 0).toArray⟩
def twenty : ByteArray := ⟨#[116, 119, 101, 110, 116, 121, 32, 98, 121, 116, 101, 115, 32, 111, 102, 32, 116, 101, 120, 116]⟩
theorem z150 : zeros150.size = 150 := by unfold zeros150; simp [ByteArray.size]
def exA : Disp := ⟨4, 1, 3, zeros150⟩
def exA2 : Disp := ⟨4, 2, 3, zeros150⟩
def exA3 : Disp := ⟨4, 2, 1, zeros150⟩
def exB : Disp := ⟨9, 2, 1, twenty⟩
noncomputable def exSA : Slp := ⟨1, 4, 1, shaF zeros150⟩
noncomputable def exSB : Slp := ⟨1, 9, 2, shaF twenty⟩
theorem right_A : rightP exA := ⟨by decide, by decide, by decide, by show (zeros150.size : Int) ≤ 20000; rw [z150]; decide⟩
theorem right_A2 : rightP exA2 := ⟨by decide, by decide, by decide, by show (zeros150.size : Int) ≤ 20000; rw [z150]; decide⟩
theorem right_B : rightP exB := ⟨by decide, by decide, by decide, by decide⟩
theorem right_SA : slipP exSA := ⟨by decide, by decide, by decide, by show ((shaF zeros150).size : Int) = 32; rw [shaF_size]; rfl⟩
theorem right_SB : slipP exSB := ⟨by decide, by decide, by decide, by show ((shaF twenty).size : Int) = 32; rw [shaF_size]; rfl⟩
theorem valid_of {i p : Int} {l : List Disp} {m : List Slp} (hi : 0 ≤ i ∧ i ≤ 7) (hp : 0 ≤ p ∧ p ≤ 10000) (hm : m.length ≤ 400) (h1 : ∀ d ∈ l, rightP d) (h2 : Asc cmpD l) (h3 : ∀ d ∈ m, slipP d) (h4 : Asc cmpP m) : ValidR ⟨i, p, l, m⟩ :=
  ⟨hi, hp, hm, storeP_iff.2 ⟨h1, h2⟩, sheafP_iff.2 ⟨h3, h4⟩⟩
theorem two_all {α : Type} {p : α → Prop} {a b : α} (ha : p a) (hb : p b) : ∀ x ∈ [a, b], p x := fun x hx => by
  simp only [List.mem_cons, List.not_mem_nil, or_false] at hx
  rcases hx with rfl | rfl
  · exact ha
  · exact hb
theorem two_asc {α : Type} {c : α → α → Int} {a b : α} (h : c a b < 0) : Asc c [a, b] := List.pairwise_cons.2 ⟨fun x hx => by simp at hx; subst hx; exact h, List.pairwise_singleton _ _⟩
theorem ex_AB : cmpD exA exB < 0 := by decide
theorem ex_A2B : cmpD exA2 exB < 0 := by decide
theorem ex_SAB : cmpP exSA exSB < 0 := by rw [cmpP_lt]; exact .inr ⟨rfl, .inl (by decide)⟩
theorem exv_0 : ValidR ⟨1, 3, [], []⟩ := valid_of (by decide) (by decide) (by decide) (by simp) List.Pairwise.nil (by simp) List.Pairwise.nil
theorem exv_1 : ValidR ⟨1, 3, [exA], []⟩ := valid_of (by decide) (by decide) (by decide) (by simpa using right_A) (List.pairwise_singleton _ _) (by simp) List.Pairwise.nil
theorem exv_2 : ValidR ⟨1, 3, [exA, exB], []⟩ := valid_of (by decide) (by decide) (by decide) (two_all right_A right_B) (two_asc ex_AB) (by simp) List.Pairwise.nil
theorem exv_3 {p : Int} (hp : 0 ≤ p ∧ p ≤ 10000) : ValidR ⟨1, p, [exA, exB], [exSA, exSB]⟩ := valid_of (by decide) hp (by simp) (two_all right_A right_B) (two_asc ex_AB) (two_all right_SA right_SB) (two_asc ex_SAB)
theorem exv_4 {p : Int} (hp : 0 ≤ p ∧ p ≤ 10000) : ValidR ⟨1, p, [exA2, exB], [exSA, exSB]⟩ := valid_of (by decide) hp (by simp) (two_all right_A2 right_B) (two_asc ex_A2B) (two_all right_SA right_SB) (two_asc ex_SAB)
theorem exm_1 : mergeG cmpD newerD [] [exA] = some [exA] := by simp [mergeG]
theorem exm_2 : mergeG cmpD newerD [exA] [exB] = some [exA, exB] := by rw [mergeG, if_pos ex_AB]; simp [mergeG]
theorem exm_3 : mergeG cmpD newerD [exA, exB] [exA2] = some [exA2, exB] := by
  rw [mergeG, if_neg (by decide), if_neg (by decide)]
  have : newerD exA exA2 = (exA2, true) := by unfold newerD; rw [if_neg (by rintro (h | h); exact h rfl; exact absurd h.1 (by decide)), if_neg (by decide)]
  rw [this, if_pos rfl, merge_nil]; rfl
theorem exm_4 : mergeG cmpD newerD [exA, exB] [exA3] = none := by
  rw [mergeG, if_neg (by decide), if_neg (by decide)]
  have : newerD exA exA3 = (exA, false) := by unfold newerD; rw [if_pos (.inl (by decide))]
  rw [this, if_neg (by decide)]
theorem newer_self (a : Disp) : newerD a a = (a, true) := by unfold newerD; rw [if_neg (by rintro (h | h); exact h rfl; exact h.2 rfl), if_pos (Int.le_refl _)]
theorem exm_5 : mergeG cmpD newerD [exA, exB] [exA, exB] = some [exA, exB] := by
  rw [mergeG, if_neg (by decide), if_neg (by decide), newer_self, if_pos rfl, mergeG, if_neg (by decide), if_neg (by decide), newer_self, if_pos rfl, mergeG]; rfl
theorem pages_A : pagesD exA = 2 := by unfold pagesD; rw [if_pos right_A]; show 1 + (zeros150.size : Int) / 100 = 2; rw [z150]; decide
theorem pages_A2 : pagesD exA2 = 2 := by unfold pagesD; rw [if_pos right_A2]; show 1 + (zeros150.size : Int) / 100 = 2; rw [z150]; decide
theorem pages_B : pagesD exB = 1 := by unfold pagesD; rw [if_pos right_B]; decide
theorem wait_2 : waitL ⟨1, 3, [exA, exB], []⟩ = [exB, exA] := by
  unfold waitL byClass printedB
  simp [exA, exB]
theorem wait_3 {p : Int} : waitL ⟨1, p, [exA, exB], [exSA, exSB]⟩ = [] := by
  unfold waitL byClass printedB
  simp [exA, exB, exSA, exSB]
theorem wait_4 {p : Int} : waitL ⟨1, p, [exA2, exB], [exSA, exSB]⟩ = [exA2] := by
  unfold waitL byClass printedB
  simp [exA2, exB, exSA, exSB]
theorem ex_print1 {e : Int} {r' : Rel} {dn : List Disp} (h : printR ⟨1, 3, [exA, exB], []⟩ e r' dn) : e = 0 ∧ r' = ⟨1, 0, [exA, exB], [exSA, exSB]⟩ ∧ dn = [exB, exA] := by
  refine printR_eval (T := [exSA, exSB]) (s := [exSA, exSB]) (pp := 0) exv_2 ?_ (two_asc ex_SAB) (List.Perm.swap _ _ _) (by simp [mergeG]) (exv_3 (by decide)) h
  rw [wait_2]
  simp [printT, pages_A, pages_B]
theorem ex_print2 {e : Int} {r' : Rel} {dn : List Disp} (h : printR ⟨1, 0, [exA2, exB], [exSA, exSB]⟩ e r' dn) : e = 0 ∧ r' = ⟨1, 0, [exA2, exB], [exSA, exSB]⟩ ∧ dn = [] := by
  refine printR_eval (T := []) (s := [exSA, exSB]) (pp := 0) (exv_4 (by decide)) ?_ List.Pairwise.nil (List.Perm.refl _) merge_nil (exv_4 (by decide)) h
  rw [wait_4]
  simp [printT, pages_A2]
theorem ex_hear {e : Int} {r' : Rel} (h : hearR ⟨1, 3, [exA, exB], []⟩ ⟨1, [exA, exB], [exSA, exSB]⟩ e r') : e = 0 ∧ r' = ⟨1, 3, [exA, exB], [exSA, exSB]⟩ := by
  have hv := exv_3 (p := 3) (by decide)
  have hheld : HeldP ⟨1, [exA, exB], [exSA, exSB]⟩ := ⟨by decide, hv.2.2.1, hv.2.2.2.1, hv.2.2.2.2⟩
  rcases h with ⟨_, _, ⟨o', s', g4, g5, g6⟩ | ⟨g4 | g4, _⟩⟩ | ⟨h, _⟩
  · rw [exm_5] at g4; rw [mergeG] at g5; cases g4; cases g5
    rcases g6 with ⟨_, rfl, rfl⟩ | ⟨g6, _⟩
    · exact ⟨rfl, rfl⟩
    · exact absurd hv g6
  · rw [exm_5] at g4; cases g4
  · rw [mergeG] at g4; cases g4
  · exact absurd ⟨exv_2, hheld⟩ h
end Go.Proofs.YtklknkmeljjmgaaGreatDoor
/- sane: the examples. -/
set_option linter.unusedSimpArgs false
set_option linter.unusedVariables false
namespace Go.V
open Go Go.RowKit
section
variable {P : Program} {k : Value → World → Prop} {w : World} {t e d : TypeId}
theorem t_getFAi {K : Value → Prop} {w0 : World} {α : Type} {F : Fl α} {v u : Value} {l : List α} {st ft : TypeId} {f x : Nat} {q : IntKind} {m : Int} {i : Nat} {a : α} (hm : m = (i : Int)) (h : isSliceT P t = true) (he : known P (elemT P t) = true) (hz : sizeT P (elemT P t) = F.sz) (hf : fieldOff P st f = some x) (hg : isAggT P ft = false) (hk : known P ft = true)
    (hs : IsSl F w0 v l) (hx : l[i]? = some a) (hu : (F.e a)[x]? = some u) (ha : after w0 w) :
    takeW P anyW (Instr.indexAt t v (.int q m)) (fun p => takeW P anyW (Instr.fieldAt st p f) (fun p => takeW P (after w0) (Instr.loadAt ft p) K w) w) w = K u := by
  subst hm; exact t_getFA h he hz hf hg hk hs hx hu ha
theorem w_zeros {n : Nat} {m : Int} (hmn : m = (n : Int)) {z : Value} {bytes : Nat} {α : Type} {F : Fl α} {x : α} (h : STy P t e F.sz bytes z) (hF : F.sz = 1) (hu : F.e x = [z]) (hzc : z.cells = #[z]) (hn : n ≤ 16777216) (hb : bytes * n ≤ 281474976710656)
    (hk : ∀ w', Below w.heap.size w w' → IsSl F w' (.slice (some ⟨w.heap.size, 0, none⟩) n n) (List.replicate n x) → k (.slice (some ⟨w.heap.size, 0, none⟩) n n) w') : opW P (Instr.makeSlice t (.int .i64 m) (.int .i64 m)) k w := by
  subst hmn
  obtain ⟨i, hi, hzz, hs, hby⟩ := h.info
  obtain ⟨w', hr, ho, hg⟩ := run_makeSlice_full (P := P) (w := w) w.heap.size t e i z F.sz h.u hi hzz hs .i64 .i64 n (by rw [hF]; omega) (by rw [hby]; exact hb) (by unfold maxLen; omega) (Nat.le_refl _)
  rw [opW_ok hr]
  have hfl : flat F (List.replicate n x) = (madeCells z.cells (n * F.sz)).toList := by
    rw [hF, hzc, toList_madeCells_one, Nat.mul_one]
    clear ho hr hg hn hb hk
    induction n with
    | zero => rfl
    | succ n ih => simp [List.replicate_succ, flat, hu] at ih ⊢; exact ih
  have hm : Mine F e w' w.heap.size (.slice (some ⟨w.heap.size, 0, none⟩) n n) (List.replicate n x) := by
    unfold Mine
    rw [hfl, List.length_replicate]; exact ho
  exact hk w' ⟨hg.os, hg.tape, hg.output, hg.size, fun k hk => hg.block k hk (by simp)⟩ hm.sl
end
end Go.V
namespace Go.Proofs.YtklknkmeljjmgaaGreatDoor
open Go Go.V Go.RowKit
section
variable {k : Value → World → Prop} {w : World}
theorem b27_1 {a : Int} : opW Tryz.prog (Instr.build 27 #[(0, I a)]) k w = k (.agg #[I a, I 0, .slice none 0 0, .slice none 0 0]) w := opW_ok (by kernel_rfl)
theorem b31_4 {a b c : Int} {s : ByteArray} : opW Tryz.prog (Instr.build 31 #[(0, I a), (1, I b), (2, I c), (3, .string s)]) k w = k (agD ⟨a, b, c, s⟩) w := opW_ok (by kernel_rfl)
theorem nvR {v : Value} {r : Rel} {kk : Value → Value → World → Prop} (hv : RelV w v r) (h : ∀ x w', v = agR x → Below w.heap.size w w' → w'.heap.size = w.heap.size + 1 → RowAt w' w.heap.size 27 (fR.e x) → kk (.pointer (some ⟨w.heap.size, 0, none⟩)) undef w') :
    opW Tryz.prog (Instr.alloc 27 true (.tuple #[])) (fun x w => opU Tryz.prog (Instr.storeAt 27 x v) (kk x) w) w := by
  obtain ⟨x, rfl⟩ := hv.raw
  exact w_var (vs := fR.e x) hz27 (by rw [zc27]; rfl) (eR.one x) size27 known27 fun w' h1 h2 h3 => h x w' rfl h1 h2 h3
/-- a relay in a variable -/
structure RV (n b : Nat) (w : World) (r : Rel) : Prop where
  v : ∃ x, RowAt w b 27 (fR.e x) ∧ RelV w (agR x) r ∧ Fr n (agR x)
theorem RV.off {n b : Nat} {w w' : World} {r : Rel} {p : Nat → Prop} (h : RV n b w r) (ho : Off p w w') (hb : ¬ p b) (hn : ∀ c, n ≤ c → ¬ p c) : RV n b w' r := by
  obtain ⟨x, h1, h2, h3⟩ := h
  exact ⟨x, h1.off ho hb, h2.off ho fun c hc => hn c (h3 c hc), h3⟩
theorem RV.below {n b : Nat} {w w' : World} {r : Rel} (h : RV n b w r) (hb : Below w.heap.size w w') : RV n b w' r := h.off (Off.below (p := fun _ => False) hb) id fun _ _ => id
theorem RV.lt {n b : Nat} {w : World} {r : Rel} (h : RV n b w r) : b < w.heap.size := by obtain ⟨x, h1, _⟩ := h; exact h1.lt
theorem RV.open {n b : Nat} {w : World} {r : Rel} (h : RV n b w r) : ∃ kv sv, RowAt w b 27 [I r.id, I r.paper, kv, sv] ∧ IsSl fD w kv r.kept ∧ IsSl fP w sv r.slips := by
  obtain ⟨x, h1, ⟨kv, sv, he, h2, h3⟩, _⟩ := h
  refine ⟨kv, sv, ?_, h2, h3⟩
  have : (fR.e x).toArray = #[I r.id, I r.paper, kv, sv] := by injection he
  have e : fR.e x = [I r.id, I r.paper, kv, sv] := by have := congrArg Array.toList this; simpa using this
  rw [← e]; exact h1
/-- read whole -/
theorem RV.ld {n b : Nat} {r : Rel} (h : RV n b w r) (hk : ∀ v, RelV w v r → k v w) : opW Tryz.prog (Instr.loadAt 27 (.pointer (some ⟨b, 0, none⟩))) k w := by
  obtain ⟨x, h1, h2, h3⟩ := h
  rw [ld27 (vs := fR.e x) rfl h1.cells]
  exact hk _ h2
/-- made -/
theorem RV.new {n : Nat} {v : Value} {r : Rel} {kk : Value → Value → World → Prop} (hv : RelV w v r) (hf : Fr n v) (h : ∀ w', Below w.heap.size w w' → w'.heap.size = w.heap.size + 1 → RV n w.heap.size w' r → kk (.pointer (some ⟨w.heap.size, 0, none⟩)) undef w') :
    opW Tryz.prog (Instr.alloc 27 true (.tuple #[])) (fun x w => opU Tryz.prog (Instr.storeAt 27 x v) (kk x) w) w :=
  nvR hv fun x w' he hb hs hr => by subst he; exact h w' hb hs ⟨x, hr, hv.below hb, hf⟩
/-- stored -/
theorem RV.st {n b : Nat} {v : Value} {r r' : Rel} (h : RV n b w r) (hv : RelV w v r') (hf : Fr n v) (hnb : ∀ c, relOf v c → c ≠ b) (hk : ∀ w', Only b w w' → RV n b w' r' → k undef w') : opU Tryz.prog (Instr.storeAt 27 (.pointer (some ⟨b, 0, none⟩)) v) k w := by
  obtain ⟨x, h1, h2, h3⟩ := h
  obtain ⟨y, rfl⟩ := hv.raw
  exact sr27 (vs := fR.e y) rfl h1 rfl (eR.one y) fun w' ho hr => hk w' ho ⟨y, hr, hv.off (Off.only (p := (· = b)) ho rfl) hnb, hf⟩
end
end Go.Proofs.YtklknkmeljjmgaaGreatDoor
/- sane holds. -/
set_option linter.unusedSimpArgs false
set_option linter.unusedVariables false
namespace Go.Proofs.YtklknkmeljjmgaaGreatDoor
open Go Go.V Go.RowKit
section
variable {k : Value → World → Prop} {w : World}
set_option maxRecDepth 20000 in
theorem c10 (hg : Gl w) (hk : ∀ w', Below w.heap.size w w' → k (.bool true) w') : callW Tryz.prog (.func (.func 10) #[] #[]) #[] k w := C10 _ _ (by
  unfold S10
  have a1 : (150 : Int) = ((150 : Nat) : Int) := by decide
  have a2 : fB.e 0 = [Value.int IntKind.u8 0] := by kernel_rfl
  have a3 : (150 : Nat) ≤ 16777216 := by decide
  have a4 : 1 * 150 ≤ 281474976710656 := by decide
  refine w_zeros (F := fB) (n := 150) a1 (x := 0) sty69 rfl a2 rfl a3 a4 fun w1 hb1 hs1 => ?_
  rw [w_toStr (t := 69) (e := 5) (d := 9) (by kernel_rfl) (by kernel_rfl) (by kernel_rfl) hs1 (by simp), b31_4]
  refine nvD (d := exA) fun w2 hb2 hsz2 hrA => ?_
  rw [b31_4]
  refine nvD (d := exB) fun w3 hb3 hsz3 hrB => ?_
  have hrA := hrA.below hb3
  have hb03 := below_trans (below_trans hb1 hb2) hb3
  have hg3 := hg.below hb03 hg.2
  have hs1 := hb1.size
  have hs2 := hb2.size
  refine c36 fun v4 w4 e4 r4 hb4 hc4 hv4 hf4 => ?_
  have hE4 : e4 = 0 ∧ r4 = ⟨1, 3, [], []⟩ := by
    rcases hc4 with ⟨_, h1, h2⟩ | ⟨h, _⟩
    · exact ⟨h1, h2⟩
    · exact absurd exv_0 h
  obtain ⟨rfl, rfl⟩ := hE4
  rw [w_extract (v := v4) rfl, w_extract (v := I 0) rfl]
  refine RV.new (n := w3.heap.size) hv4 hf4 fun w5 hb5 hsz5 R5 => ?_
  have hb35 := below_trans hb4 hb5
  have hs4 := hb4.size
  refine R5.ld fun v5 hv5 => ?_
  rw [ld31 (vs := fD.e exA) rfl (hrA.below hb35).cells]
  refine c23 (d := exA) hv5 ⟨by simp, by simp⟩ fun v6 w6 e6 r6 hb6 hp6 hv6 hf6 => ?_
  obtain ⟨rfl, rfl⟩ := putR_eval exv_0 right_A exm_1 exv_1 hp6
  rw [w_extract (v := v6) rfl, w_extract (v := I 0) rfl]
  have hl5 := R5.lt
  have hs5 := hb5.size
  refine RV.st (R5.below hb6) hv6 (fun c hc => by have := hf6 c hc; omega) (fun c hc => by have := hf6 c hc; omega) fun w7 ho7 R7 => ?_
  have hb57 : Below w4.heap.size w5 w7 := (hb6.mono hs5).trans (ho7.rest _ (Nat.le_refl _))
  have hb37 : Below w3.heap.size w3 w7 := hb35.trans (hb57.mono hs4)
  have hs57 := hb57.size
  refine R7.ld fun v7 hv7 => ?_
  rw [ld31 (vs := fD.e exB) rfl (hrB.below hb37).cells]
  refine c23 (d := exB) hv7 ⟨by simp, by simp⟩ fun v8 w8 e8 r8 hb8 hp8 hv8 hf8 => ?_
  obtain ⟨rfl, rfl⟩ := putR_eval exv_1 right_B exm_2 exv_2 hp8
  rw [w_extract (v := v8) rfl, w_extract (v := I 0) rfl]
  have hs7 := hb37.size
  refine RV.st (R7.below hb8) hv8 (fun c hc => by have := hf8 c hc; omega) (fun c hc => by have := hf8 c hc; omega) fun w9 ho9 R9 => ?_
  have hb79 : Below w4.heap.size w7 w9 := (hb8.mono (by omega)).trans (ho9.rest _ (Nat.le_refl _))
  have hb39 : Below w3.heap.size w3 w9 := hb37.trans (hb79.mono hs4)
  have hs9 := hb39.size
  -- Waiting, Print
  refine R9.ld fun v9 hv9 => ?_
  refine c20 hv9 ⟨by simp, by simp⟩ (by simp) fun wt w10 hb10 hwt hfw => ?_
  unfold waitV at hwt
  rw [if_pos exv_2, wait_2] at hwt
  have R10 := R9.below hb10
  have hb310 := hb39.trans (hb10.mono hs9)
  refine R10.ld fun v10 hv10 => ?_
  refine c29 hv10 (hg3.below hb310 (by omega)) ⟨by simp, by simp⟩ (by simp) fun v11 dn w11 e11 r11 done hb11 hp11 hv11 hdn hf11 hfd => ?_
  obtain ⟨rfl, rfl, rfl⟩ := ex_print1 hp11
  have hs10 := hb310.size
  rw [w_extract (v := v11) rfl, w_extract (v := dn) rfl, w_extract (v := I 0) rfl]
  refine RV.new (n := w3.heap.size) hv11 (fun c hc => by have := hf11 c hc; omega) fun w12 hb12 hsz12 S12 => ?_
  have hb1012 := below_trans hb11 hb12
  have hb312 := hb310.trans (hb1012.mono hs10)
  have R12 := R10.below hb1012
  have hwt12 := hwt.below hb1012
  have hdn12 := hdn.below hb12
  have hrA12 := hrA.below hb312
  have hrB12 := hrB.below hb312
  rw [fl31_1]
  refine (st3 rfl (hrA12.cell (i := 1) rfl) (hrA12.free 1)).mpr ?_
  have hset1 : Off (· = w1.heap.size) w12 (w12.setCell ⟨w1.heap.size, 1, none⟩ (I 2)) := Off.set rfl
  have hrA13 : RowAt (w12.setCell ⟨w1.heap.size, 1, none⟩ (I 2)) w1.heap.size 31 (fD.e exA2) := hrA12.set 1 (I 2)
  have hb1213 : Below w1.heap.size w12 (w12.setCell ⟨w1.heap.size, 1, none⟩ (I 2)) := (Below.refl w1.heap.size w12).setCell (p := ⟨w1.heap.size, 1, none⟩) (Nat.le_refl _) _
  have hs13 : (w12.setCell ⟨w1.heap.size, 1, none⟩ (I 2)).heap.size = w12.heap.size := by simp
  have ge3 : ∀ c, w3.heap.size ≤ c → ¬ c = w1.heap.size := fun c hc => by omega
  have hs12 := hb312.size
  have R13 := R12.off hset1 (by omega) ge3
  have S13 := S12.off hset1 (by omega) ge3
  have hwt13 := hwt12.off hset1 fun b hb => ge3 b (by have := hfw b hb; omega)
  have hdn13 := hdn12.off hset1 fun b hb => ge3 b (by have := hfd b hb; omega)
  have hrB13 := hrB12.off hset1 (by omega)
  have hg13 : Gl (w12.setCell ⟨w1.heap.size, 1, none⟩ (I 2)) := (hg3.below hb312 (by omega)).below hb1213 (by have := hg.2; omega)
  have hb013 : Below w.heap.size w (w12.setCell ⟨w1.heap.size, 1, none⟩ (I 2)) := ((hb03.trans (hb312.mono (by omega))).trans (hb1213.mono hs1))
  clear hrA12 hset1 hrB12 hwt12 hdn12 S12 R12 hb1213
  generalize w12.setCell ⟨w1.heap.size, 1, none⟩ (I 2) = w13 at *
  -- Put of the new edition, Print again
  refine S13.ld fun v13 hv13 => ?_
  rw [ld31 (vs := fD.e exA2) rfl hrA13.cells]
  refine c23 (d := exA2) hv13 ⟨by simp, by simp⟩ fun v14 w14 e14 r14 hb14 hp14 hv14 hf14 => ?_
  obtain ⟨rfl, rfl⟩ := putR_eval (exv_3 (by decide)) right_A2 exm_3 (exv_4 (by decide)) hp14
  rw [w_extract (v := v14) rfl, w_extract (v := I 0) rfl]
  refine RV.new (n := w3.heap.size) hv14 (fun c hc => by have := hf14 c hc; omega) fun w15 hb15 hsz15 U15 => ?_
  have hb1315 := below_trans hb14 hb15
  refine U15.ld fun v15 hv15 => ?_
  refine c29 hv15 (hg13.below hb1315 hg13.2) ⟨by simp, by simp⟩ (by simp) fun v16 nn w16 e16 r16 none16 hb16 hp16 hv16 hnn hf16 hfn => ?_
  obtain ⟨rfl, rfl, rfl⟩ := ex_print2 hp16
  have hs1315 := hb1315.size
  rw [w_extract (v := v16) rfl, w_extract (v := nn) rfl, w_extract (v := I 0) rfl]
  refine RV.new (n := w3.heap.size) hv16 (fun c hc => by have := hf16 c hc; omega) fun w17 hb17 hsz17 T17 => ?_
  have hb1517 := below_trans hb16 hb17
  have hb1317 := below_trans hb1315 hb1517
  have hs17 := hb1317.size
  have hrA17 := hrA13.below hb1317
  rw [fl31_2]
  refine (st3 rfl (hrA17.cell (i := 2) rfl) (hrA17.free 2)).mpr ?_
  have hset2 : Off (· = w1.heap.size) w17 (w17.setCell ⟨w1.heap.size, 2, none⟩ (I 1)) := Off.set rfl
  have hrA18 : RowAt (w17.setCell ⟨w1.heap.size, 2, none⟩ (I 1)) w1.heap.size 31 (fD.e exA3) := hrA17.set 2 (I 1)
  have hb1718 : Below w1.heap.size w17 (w17.setCell ⟨w1.heap.size, 2, none⟩ (I 1)) := (Below.refl w1.heap.size w17).setCell (p := ⟨w1.heap.size, 2, none⟩) (Nat.le_refl _) _
  have hs18 : (w17.setCell ⟨w1.heap.size, 2, none⟩ (I 1)).heap.size = w17.heap.size := by simp
  have R18 := (R13.below hb1317).off hset2 (by omega) ge3
  have S18 := (S13.below hb1317).off hset2 (by omega) ge3
  have T18 := T17.off hset2 (by omega) ge3
  have hwt18 := (hwt13.below hb1317).off hset2 fun b hb => ge3 b (by have := hfw b hb; omega)
  have hdn18 := (hdn13.below hb1317).off hset2 fun b hb => ge3 b (by have := hfd b hb; omega)
  have hnn18 := (hnn.below hb17).off hset2 fun b hb => ge3 b (by have := hfn b hb; omega)
  have hrB18 := (hrB13.below hb1317).off hset2 (by omega)
  have hg18 : Gl (w17.setCell ⟨w1.heap.size, 2, none⟩ (I 1)) := (hg13.below hb1317 hg13.2).below hb1718 (by have := hg.2; omega)
  have hb018 : Below w.heap.size w (w17.setCell ⟨w1.heap.size, 2, none⟩ (I 1)) := (hb013.trans (hb1317.mono hb013.size)).trans (hb1718.mono hs1)
  clear hrA17 hset2 hrB13 hwt13 hdn13 S13 R13 hb1718 T17 U15 hnn
  generalize w17.setCell ⟨w1.heap.size, 2, none⟩ (I 1) = w18 at *
  -- another class
  refine S18.ld fun v18 hv18 => ?_
  rw [ld31 (vs := fD.e exA3) rfl hrA18.cells]
  refine c23 (d := exA3) hv18 ⟨by simp, by simp⟩ fun v19 w19 e19 r19 hb19 hp19 hv19 hf19 => ?_
  obtain ⟨rfl, rfl⟩ := putR_bad exm_4 hp19
  rw [w_extract (v := v19) rfl, w_extract (v := I 250) rfl]
  refine RV.new (n := 0) hv19 (fun c hc => Nat.zero_le c) fun w20 hb20 hsz20 _ => ?_
  have hb1820 := below_trans hb19 hb20
  refine (T18.below hb1820).ld fun v20 hv20 => ?_
  refine c34 hv20 ⟨by simp, by simp⟩ fun v21 w21 e21 r21 hb21 hp21 hv21 hf21 => ?_
  have hE21 : e21 = 0 ∧ r21 = ⟨1, 7, [exA2, exB], [exSA, exSB]⟩ := by
    rcases hp21 with ⟨_, h1, h2⟩ | ⟨h, _⟩
    · exact ⟨h1, h2⟩
    · exact absurd ⟨exv_4 (by decide), by decide, by decide⟩ h
  obtain ⟨rfl, rfl⟩ := hE21
  rw [w_extract (v := v21) rfl, w_extract (v := I 0) rfl]
  refine RV.new (n := 0) hv21 (fun c hc => Nat.zero_le c) fun w22 hb22 hsz22 W22 => ?_
  have hb1822 := below_trans hb1820 (below_trans hb21 hb22)
  refine (S18.below hb1822).ld fun v22 hv22 => ?_
  refine c31 hv22 ⟨by simp, by simp⟩ fun v23 w23 e23 p23 hb23 hp23 hv23 hf23 => ?_
  have hE23 : e23 = 0 ∧ p23 = ⟨1, [exA, exB], [exSA, exSB]⟩ := by
    rcases hp23 with ⟨_, h1, h2⟩ | ⟨h, _⟩
    · exact ⟨h1, h2⟩
    · exact absurd (exv_3 (by decide)) h
  obtain ⟨rfl, rfl⟩ := hE23
  obtain ⟨k23, s23, rfl, hk23, hs23⟩ := hv23
  rw [w_extract (v := .agg #[I 1, k23, s23]) rfl, w_extract (v := I 0) rfl]
  refine w_var (vs := [I 1, k23, s23]) hz29 (by rw [zc29]; rfl) (oneK hk23 hs23) size29 known29 fun w24 hb24 hsz24 hr24 => ?_
  have hb1824 := below_trans hb1822 (below_trans hb23 hb24)
  refine (R18.below hb1824).ld fun v24 hv24 => ?_
  rw [ld29 (vs := [I 1, k23, s23]) rfl hr24.cells]
  refine c27 (p := ⟨1, [exA, exB], [exSA, exSB]⟩) hv24 ⟨k23, s23, rfl, hk23.below hb24, hs23.below hb24⟩ ⟨by simp, by simp⟩ ⟨by simp, by simp⟩ fun v25 w25 e25 r25 hb25 hp25 hv25 hf25 => ?_
  obtain ⟨rfl, rfl⟩ := ex_hear hp25
  rw [w_extract (v := v25) rfl, w_extract (v := I 0) rfl]
  refine RV.new (n := 0) hv25 (fun c hc => Nat.zero_le c) fun w26 hb26 hsz26 X26 => ?_
  refine c36 fun v27 w27 e27 r27 hb27 hc27 hv27 hf27 => ?_
  have hE27 : e27 = 250 := by
    rcases hc27 with ⟨h, _⟩ | ⟨_, h, _⟩
    · exact absurd h.1.2 (by decide)
    · exact h
  obtain rfl := hE27
  rw [w_extract (v := v27) rfl, w_extract (v := I 250) rfl]
  refine RV.new (n := 0) hv27 (fun c hc => Nat.zero_le c) fun w28 hb28 hsz28 _ => ?_
  have hb2428 := below_trans (below_trans hb25 hb26) (below_trans hb27 hb28)
  have hb1828 := below_trans hb1824 hb2428
  have hb2628 := below_trans hb27 hb28
  have hb2228 := below_trans (below_trans hb23 hb24) hb2428
  simp only [w_neq, decide_true, Bool.not_true, guardW_ff, pickW_false, condW_false]
  have R28 := R18.below hb1828
  have S28 := S18.below hb1828
  have W28 := W22.below hb2228
  have X28 := X26.below hb2628
  have hwt28 := hwt18.below hb1828
  have hdn28 := hdn18.below hb1828
  have hnn28 := hnn18.below hb1828
  have hrB28 := hrB18.below hb1828
  have hg28 := hg18.below hb1828 hg18.2
  have hr28 := hr24.below hb2428
  have hb028 := hb018.trans (hb1828.mono hb018.size)
  clear hwt18 hdn18 hnn18 R18 S18 T18 W22 X26
  obtain ⟨kR, sR, rR, hRk, hRs⟩ := R28.open
  obtain ⟨kS, sS, rS, hSk, hSs⟩ := S28.open
  obtain ⟨kW, sW, rW, hWk, hWs⟩ := W28.open
  obtain ⟨kX, sX, rX, hXk, hXs⟩ := X28.open
  refine (len24 hwt28).mpr ?_
  rw [w_neq, decide_eq_true (by rfl)]
  simp only [Bool.not_true, guardW_ff]
  refine (len24 hdn28).mpr ?_
  rw [w_neq, decide_eq_true (by rfl)]
  simp only [Bool.not_true, pickW_false, guardW_ff]
  refine (len24 hnn28).mpr ?_
  rw [w_neq, decide_eq_true (by rfl)]
  simp only [Bool.not_true, pickW_false, guardW_ff]
  rw [rw27_3 (rS.cell (i := 3) rfl)]
  refine (len25 hSs).mpr ?_
  rw [w_neq, decide_eq_true (by rfl)]
  simp only [Bool.not_true, pickW_false, guardW_ff]
  rw [rw27_3 (rX.cell (i := 3) rfl)]
  refine (len25 hXs).mpr ?_
  rw [w_neq, decide_eq_true (by rfl)]
  simp only [Bool.not_true, pickW_false, guardW_ff]
  rw [rw29_1 (hr28.cell (i := 1) rfl)]
  refine (len24 ((hk23.below hb24).below hb2428)).mpr ?_
  rw [w_neq, decide_eq_true (by rfl)]
  simp only [Bool.not_true, pickW_false, condW_false]
  rw [drewW_eq]
  have hb28d := below_drew w28
  have hb029 := hb028.trans (hb28d.mono hb028.size)
  have hg29 := hg28.below hb28d hg28.2
  have rR := rR.drew
  have rS := rS.drew
  have rW := rW.drew
  have rX := rX.drew
  have hwt29 := hwt28.below hb28d
  have hdn29 := hdn28.below hb28d
  have hRk := hRk.below hb28d
  have hRs := hRs.below hb28d
  have hSk := hSk.below hb28d
  have hSs := hSs.below hb28d
  have hXk := hXk.below hb28d
  have hXs := hXs.below hb28d
  have hrB29 := hrB28.drew
  clear hb28d
  generalize w28.drew = w29 at *
  have h29 := after_refl w29
  refine ⟨after w29, h29, ?_⟩
  rw [getA0 eD hwt29 h29 (by decide), la31 (vs := fD.e exB) rfl hrB29.cells h29]
  refine t_eqlD.mpr ?_
  rw [decide_eq_true rfl]
  simp only [guardT_tt]
  rw [getA0 eD hdn29 h29 (by decide), la31 (vs := fD.e exB) rfl hrB29.cells h29]
  refine t_eqlD.mpr ?_
  rw [decide_eq_true rfl]
  simp only [pickT_true, guardT_tt]
  rw [ra27_1 (rS.cell (i := 1) rfl) h29, t_eql, decide_eq_true (by rfl)]
  simp only [pickT_true, guardT_tt]
  rw [ra27_3 (rS.cell (i := 3) rfl) h29]
  rw [t_getFAi (F := fP) (m := 1) (i := 1) (x := 3) rfl (by kernel_rfl) (by kernel_rfl) (by kernel_rfl) (by kernel_rfl) (by kernel_rfl) (by kernel_rfl) hSs (a := exSB) rfl rfl h29, ra31_3 (hrB29.cell (i := 3) rfl) h29]
  rw [guardW_tt]
  refine c41 (s := twenty) hg29 (by decide) fun w30 hb30 => ?_
  rw [keepS_eq, t_eqlStr str9, decide_eq_true (by rfl)]
  have h30 : after w29 w30 := hb30
  refine ⟨h30, ?_⟩
  simp only [pickT_true, guardT_tt]
  rw [ra27_1 (rW.cell (i := 1) rfl) h30, t_eql, decide_eq_true (by rfl)]
  simp only [pickT_true, guardT_tt]
  rw [ra27_1 (rX.cell (i := 1) rfl) h30, t_eql, decide_eq_true (by rfl)]
  simp only [pickT_true, guardT_tt, guardW_tt]
  rw [la27 (vs := [I 1, I 3, kX, sX]) rfl rX.cells h30]
  refine c20 (r := ⟨1, 3, [exA, exB], [exSA, exSB]⟩) ⟨kX, sX, rfl, hXk.below hb30, hXs.below hb30⟩ ⟨by simp, by simp⟩ (by simp) fun wx w31 hb31 hwx hfx => ?_
  unfold waitV at hwx
  rw [if_pos (exv_3 (by decide)), wait_3] at hwx
  have h31 : after w29 w31 := h30.trans (hb31.mono h30.size)
  rw [keepS_eq]
  refine ⟨h31, ?_⟩
  rw [tlen24 hwx, t_eql, decide_eq_true (by rfl)]
  simp only [pickT_true, guardT_tt, guardW_tt]
  rw [la31 (vs := fD.e exB) rfl hrB29.cells h31]
  refine c25 (d := exB) fun w32 hb32 => ?_
  have h32 : after w29 w32 := h31.trans (hb32.mono h31.size)
  rw [keepS_eq, pages_B, t_eql, decide_eq_true (by rfl)]
  refine ⟨h32, ?_⟩
  simp only [pickT_true, guardT_tt, guardW_tt]
  rw [la27 (vs := [I 1, I 3, kR, sR]) rfl rR.cells h32]
  refine c15 (r := ⟨1, 3, [exA, exB], []⟩) ⟨kR, sR, rfl, hRk.below h32, hRs.below h32⟩ ⟨by simp, by simp⟩ fun b w33 hb33 hbs => ?_
  have h33 : after w29 w33 := h32.trans (hb33.mono h32.size)
  obtain rfl : b = true := hbs.2 exv_2
  rw [keepS_eq]
  refine ⟨h33, ?_⟩
  simp only [pickT_true, guardT_tt, guardW_tt]
  rw [la27 (vs := [I 1, I 3, kR, sR]) rfl rR.cells h33, la27 (vs := [I 1, I 3, kR, sR]) rfl rR.cells h33]
  refine c17 (a := ⟨1, 3, [exA, exB], []⟩) (b := ⟨1, 3, [exA, exB], []⟩) ⟨kR, sR, rfl, hRk.below h33, hRs.below h33⟩ ⟨kR, sR, rfl, hRk.below h33, hRs.below h33⟩ ⟨by simp, by simp⟩ fun w34 hb34 => ?_
  have h34 : after w29 w34 := h33.trans (hb34.mono h33.size)
  rw [keepS_eq, decide_eq_true rfl]
  refine ⟨h34, ?_⟩
  simp only [pickT_true, guardT_tt, guardW_tt]
  rw [la27 (vs := [I 1, I 3, kR, sR]) rfl rR.cells h34, la27 (vs := [I 1, I 0, kS, sS]) rfl rS.cells h34]
  refine c17 (a := ⟨1, 3, [exA, exB], []⟩) (b := ⟨1, 0, [exA, exB], [exSA, exSB]⟩) ⟨kR, sR, rfl, hRk.below h34, hRs.below h34⟩ ⟨kS, sS, rfl, hSk.below h34, hSs.below h34⟩ ⟨by simp, by simp⟩ fun w35 hb35' => ?_
  have h35 : after w29 w35 := h34.trans (hb35'.mono h34.size)
  rw [keepS_eq, decide_eq_false (fun hh => by have := congrArg Rel.paper hh; simp at this), t_not]
  refine ⟨h35, ?_⟩
  simp only [Bool.not_false, pickT_true, guardT_tt, guardW_tt]
  rw [b27_1, keepS_eq]
  refine ⟨h35, ?_⟩
  refine c15 (r := ⟨8, 0, [], []⟩) ⟨_, _, rfl, IsSl.nil _, IsSl.nil _⟩ ⟨by simp, by simp⟩ fun b w36 hb36 hbs => ?_
  have h36 : after w29 w36 := h35.trans (hb36.mono h35.size)
  have hbf : b = false := by
    cases b with
    | false => rfl
    | true => exact absurd (hbs.1 rfl).1.2 (by decide)
  subst hbf
  rw [keepS_eq, t_not]
  refine ⟨h36, ?_⟩
  simp only [Bool.not_false, pickT_true]
  exact hk _ (hb029.trans (h36.mono hb029.size)))
end
end Go.Proofs.YtklknkmeljjmgaaGreatDoor
/- Plain: what a relay that is made prints. -/
set_option linter.unusedSimpArgs false
set_option linter.unusedVariables false
namespace Go.Proofs.YtklknkmeljjmgaaGreatDoor
open Go Go.V Go.RowKit
theorem printT_prefix : ∀ (l : List Disp) (p : Int), ∃ l', l = (printT p l).1 ++ l'
  | [], p => ⟨[], by simp [printT]⟩
  | d :: l, p => by
    unfold printT
    split
    · exact ⟨d :: l, rfl⟩
    · obtain ⟨l', h⟩ := printT_prefix l (p - pagesD d)
      exact ⟨l', by simp only [List.cons_append]; rw [← h]⟩
theorem printT_len (l : List Disp) (p : Int) : (printT p l).1.length ≤ l.length := by
  obtain ⟨l', h⟩ := printT_prefix l p
  have := congrArg List.length h
  simp at this; omega
theorem printT_range : ∀ (l : List Disp) (p : Int), 0 ≤ p → 0 ≤ (printT p l).2 ∧ (printT p l).2 ≤ p
  | [], p, h => by simp [printT, h]
  | d :: l, p, h => by
    unfold printT
    have := pagesD_nonneg d
    split
    · exact ⟨h, Int.le_refl _⟩
    · have := printT_range l (p - pagesD d) (by omega)
      simp only; omega
theorem waitL_sub {r : Rel} (h : StoreP r.kept) {d : Disp} (hd : d ∈ waitL r) : d ∈ r.kept := ((waitL_mem h).1 hd).1
theorem waitL_asc {r : Rel} (h : StoreP r.kept) : (waitL r).Pairwise fun x y => cmpC x y < 0 := (byClass_asc h).filter _
end Go.Proofs.YtklknkmeljjmgaaGreatDoor
/- Calls whose relay goes into a new variable. -/
set_option linter.unusedSimpArgs false
set_option linter.unusedVariables false
namespace Go.Proofs.YtklknkmeljjmgaaGreatDoor
open Go Go.V Go.RowKit
section
variable {k : Value → World → Prop} {w w0 : World} {c : Option Nat}
theorem RV.la {n b : Nat} {r : Rel} {K : Value → Prop} (h : RV n b w0 r) (ha : after w0 w) (hk : ∀ v, RelV w0 v r → K v) : takeW Tryz.prog (after w0) (Instr.loadAt 27 (.pointer (some ⟨b, 0, none⟩))) K w := by
  obtain ⟨x, h1, h2, h3⟩ := h
  rw [la27 (vs := fR.e x) rfl h1.cells ha]
  exact hk _ h2
end
end Go.Proofs.YtklknkmeljjmgaaGreatDoor
/- RelayPaper. -/
set_option linter.unusedSimpArgs false
set_option linter.unusedVariables false
namespace Go.Proofs.YtklknkmeljjmgaaGreatDoor
open Go Go.V Go.RowKit
section
variable {k : Value → World → Prop} {w : World}
theorem Three.at {n : Nat} {rs : List Rel} (h : Three n rs) {i : Nat} (hi : i < 3) : ∃ r, rs[i]? = some r ∧ GoodR r ∧ r.paper ≤ 5 + 4 * n := by
  have hl := h.len
  exact ⟨_, List.getElem?_eq_getElem (by omega), h.good _ (List.getElem_mem _), h.paper _ (List.getElem_mem _)⟩
theorem GoodR.k12 {r : Rel} (h : GoodR r) : r.kept.length ≤ 12 := by have := kept_room h.ascK h.kept; omega
end
end Go.Proofs.YtklknkmeljjmgaaGreatDoor
/- RelayContradicts. -/
set_option linter.unusedSimpArgs false
set_option linter.unusedVariables false
namespace Go.V
open Go Go.RowKit
theorem getAi {P : Program} {w w0 : World} {α : Type} {F : Fl α} {t e : Nat} {v : Value} {l : List α} (h : ETy P t e F) {K : Value → Prop} {q : IntKind} {a : α} {m : Int} {i : Nat} (hm : m = (i : Int)) (hs : IsSl F w0 v l) (hx : l[i]? = some a) (ha : after w0 w) (hp : 0 < F.sz) :
    takeW P anyW (Instr.indexAt t v (.int q m)) (fun p => takeW P (after w0) (Instr.loadAt e p) K w) w = K (.agg (F.e a).toArray) := by
  subst hm; exact getA h hs hx ha hp
end Go.V
namespace Go.Proofs.YtklknkmeljjmgaaGreatDoor
open Go Go.V Go.RowKit
section
variable {k : Value → World → Prop} {w : World}
end
end Go.Proofs.YtklknkmeljjmgaaGreatDoor
/- RelayReceipts. -/
set_option linter.unusedSimpArgs false
set_option linter.unusedVariables false
namespace Go.Proofs.YtklknkmeljjmgaaGreatDoor
open Go Go.V Go.RowKit
section
variable {k : Value → World → Prop} {w w0 : World} {c : Option Nat}
end
theorem wait_stories {r : Rel} (h : StoreP r.kept) : (waitL r).Pairwise fun x y => x.story ≠ y.story := by
  have h5 := waitL_asc h
  refine List.Pairwise.imp_of_mem (fun {x y} hx hy hxy hss => ?_) h5
  have hx' := waitL_sub h hx
  have hy' := waitL_sub h hy
  have ha : r.kept.Pairwise fun x y => x.story < y.story := h.asc
  rw [List.pairwise_iff_getElem] at ha
  obtain ⟨i, hi, rfl⟩ := List.getElem_of_mem hx'
  obtain ⟨j, hj, rfl⟩ := List.getElem_of_mem hy'
  rcases Nat.lt_trichotomy i j with hij | hij | hij
  · have := ha i j hi hj hij; omega
  · subst hij; rw [cmpC_lt] at hxy; omega
  · have := ha j i hj hi hij; omega
end Go.Proofs.YtklknkmeljjmgaaGreatDoor
/- Own slices of relays and of packets. -/
set_option linter.unusedSimpArgs false
set_option linter.unusedVariables false
namespace Go.V
open Go Go.RowKit
/-- V holds whatever happens to the blocks q -/
def AV (V : World → Prop) (q : Nat → Prop) (w : World) : Prop := ∀ w', Off q w w' → V w'
theorem AV.now {V : World → Prop} {q : Nat → Prop} {w : World} (h : AV V q w) : V w := h w (Off.refl _ _)
theorem AV.off {V : World → Prop} {q : Nat → Prop} {w w' : World} (h : AV V q w) (ho : Off q w w') : AV V q w' := fun w'' h'' => h w'' (ho.trans h'')
theorem AV.below {V : World → Prop} {q : Nat → Prop} {w w' : World} (h : AV V q w) (hb : Below w.heap.size w w') : AV V q w' := h.off (Off.below hb)
theorem AV.grow {V : World → Prop} {q q' : Nat → Prop} {w w' : World} (h : AV V q w) (ho : Off q w w') (hq : ∀ b, q' b → q b ∨ w.heap.size ≤ b) : AV V q' w' := fun w'' h'' =>
  h w'' ⟨Nat.le_trans ho.size h''.size, fun b hb hn => (h''.block b (Nat.lt_of_lt_of_le hb ho.size) fun hh => (hq b hh).elim hn (by omega)).trans (ho.block b hb hn)⟩
end Go.V
namespace Go.Proofs.YtklknkmeljjmgaaGreatDoor
open Go Go.V Go.RowKit
structure KW where
  src : Int
  ka : Option Addr
  kn : Nat
  kc : Nat
  sa : Option Addr
  sn : Nat
  sc : Nat
def fK : Fl KW := ⟨3, fun x => [I x.src, .slice x.ka x.kn x.kc, .slice x.sa x.sn x.sc], fun _ => rfl⟩
abbrev agK (x : KW) : Value := .agg (fK.e x).toArray
theorem eK : ETy Tryz.prog 36 29 fK := ⟨by kernel_rfl, by kernel_rfl, by kernel_rfl, by kernel_rfl, by kernel_rfl, by kernel_rfl, fun x u hu => by simp [fK] at hu; rcases hu with rfl | rfl | rfl <;> rfl⟩
theorem PackV.raw {w : World} {v : Value} {p : Pack} (h : PackV w v p) : ∃ x, v = agK x := by
  obtain ⟨kv, sv, rfl, ⟨a, c, rfl, _⟩, ⟨a', c', rfl, _⟩⟩ := h
  exact ⟨⟨_, a, _, c, a', _, c'⟩, rfl⟩
theorem PackV.off {p : Nat → Prop} {w w' : World} {v : Value} {r : Pack} (h : PackV w v r) (ho : Off p w w') (hp : ∀ b, relOf v b → ¬ p b) : PackV w' v r := by
  obtain ⟨kv, sv, rfl, h1, h2⟩ := h
  exact ⟨kv, sv, rfl, h1.off ho fun b hb => hp b (relOf_pack.2 (.inl hb)), h2.off ho fun b hb => hp b (relOf_pack.2 (.inr hb))⟩
/-- an own slice of relays -/
structure RLs (B : Nat) (w : World) (v : Value) (rs : List Rel) : Prop where
  v : ∃ xs, Mine fR 27 w B v xs ∧ xs.length = rs.length ∧ ∀ (i : Nat) x r, xs[i]? = some x → rs[i]? = some r → AV (fun w => RelV w (agR x) r) (isOf v) w
section
variable {k : Value → World → Prop} {w w' : World} {B : Nat} {v : Value}
end
end Go.Proofs.YtklknkmeljjmgaaGreatDoor
