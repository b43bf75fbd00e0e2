/- Part 4 of the proof of journalMatchesReference: lemmas for it; no condition beyond the statement. -/
import Derived.Test.YtbojglaimdjagaaGreatDoorMr2
import Derived.Shelf.Strings.OnBuilder
import Derived.Shelf.Strings.Trim
import Derived.Shelf.Strings.Builder1
import Derived.Shelf.Strings.Builder2
import Derived.Shelf.Strings.BuilderF
import Derived.Shelf.Strings.BuilderK
import Derived.Shelf.Slices.Clone
import Derived.Shelf.Slices.Cells
import Derived.Shelf.SlicesE.Clone
import Derived.Test.YtbojglaimdjagaaGreatDoorProg
import Derived.Lib.LazyBuf
/- The digest: Sum. -/
set_option linter.unusedSimpArgs false
set_option linter.unusedVariables false
set_option maxRecDepth 4000
namespace Go.Proofs.YtbojglaimdjagaaGreatDoor
open Go Go.V Go.RowKit
section
variable {k : Value → World → Prop} {w : World}
theorem bld193 {KK : Value → World → Prop} {u : World} : opW Tryz.prog (Instr.build 193 #[(0, (Value.int IntKind.u32 1779033703)), (1, (Value.int IntKind.u32 3144134277)), (2, (Value.int IntKind.u32 1013904242)), (3, (Value.int IntKind.u32 2773480762)), (4, (Value.int IntKind.u32 1359893119)), (5, (Value.int IntKind.u32 2600822924)), (6, (Value.int IntKind.u32 528734635)), (7, (Value.int IntKind.u32 1541459225))]) KK u = KK (.agg (H0.l.map uV).toArray) u := opW_ok (by kernel_rfl)
theorem c110 {s : ByteArray} (hg : Gl w) (hs : s.size ≤ 1000000) (hk : ∀ w', Below w.heap.size w w' → k (.string (shaF s)) w') : callW Tryz.prog (.func (.func 110) #[] #[]) #[.string s] k w := C110 _ _ _ (by
  unfold S110
  rw [bld193]
  refine al193 fun w1 hb1 hsz1 hr1 => ?_
  generalize hA : w.heap.size = A at *
  rw [sta193 (vs := H0.l.map uV) rfl (mapU_one _) (rowCells hr1 rfl) (fun j hj => hr1.free _)]
  have hr2 := row_store (vs := H0.l.map uV) hr1 rfl
  have hb2 : Below A w (setCells w1 A 0 (H0.l.map uV)) := hb1.trans (Go.V.below_setCells (Nat.le_refl _) _ _ _)
  generalize setCells w1 A 0 (H0.l.map uV) = w2 at *
  have hA2 := hr2.lt
  have hds : s.data.toList.length = s.size := rfl
  refine w_bytes hs fun b0 w3 hb3 hm3 => ?_
  have hs3 := hb3.size
  refine MineZ.push (x := 128) hm3 hs3 (by omega) fun b1 w4 hb4 hm4 => ?_
  replace hb4 := hb3.trans hb4
  have hs4 := hb4.size
  refine Loop1.intro (fun n b w' => ∃ j : Nat, j ≤ zN s.size ∧ n = zN s.size - j ∧ Below w2.heap.size w2 w' ∧ MineZ w' w2.heap.size b (s.data.toList ++ [128] ++ List.replicate j 0)) _ ⟨0, by omega, rfl, hb4, by simpa using hm4⟩ ?_
  rintro n b5 w5 ⟨j, hj, rfl, hb5, hm5⟩
  have hl5 : (s.data.toList ++ [128] ++ List.replicate j 0).length = s.size + 1 + j := by simp; omega
  have hz : zN s.size < 64 := by unfold zN; omega
  have hs5 := hb5.size
  rw [len39 hm5.sl, hl5, w_rem (by omega), w_neq]
  by_cases hne : (s.size + 1 + j) % 64 = 56
  case neg =>
    rw [decide_eq_false (by rw [show ((64 : Int)) = ((64 : Nat) : Int) from rfl, Int.tmod_eq_emod_of_nonneg (by omega)]; omega), Bool.not_false, condW_true]
    have hj2 : j < zN s.size := by
      rcases Nat.lt_or_ge j (zN s.size) with h | h
      · exact h
      · exact absurd (by unfold zN at *; omega) hne
    refine MineZ.push (x := 0) hm5 hs5 (by omega) fun b6 w6 hb6 hm6 => ?_
    rw [loopK_self]
    exact ⟨zN s.size - (j + 1), by omega, j + 1, by omega, rfl, hb5.trans hb6, by rw [List.replicate_succ', ← List.append_assoc]; exact hm6⟩
  rw [decide_eq_true (by rw [show ((64 : Int)) = ((64 : Nat) : Int) from rfl, Int.tmod_eq_emod_of_nonneg (by omega)]; omega), Bool.not_true, condW_false]
  obtain rfl : j = zN s.size := by unfold zN at *; omega
  refine Loop2.intro (fun n b a w' => ∃ q : Nat, a = I (7 - (q : Int)) ∧ q ≤ 8 ∧ n = 8 - q ∧ Below w2.heap.size w2 w' ∧ MineZ w' w2.heap.size b (padB s ++ (List.range q).map fun y => lenB s.size (7 - y))) _ ⟨0, rfl, by omega, rfl, hb5, by simpa [padB] using hm5⟩ ?_
  rintro n b6 _ w6 ⟨q, rfl, hq, rfl, hb6, hm6⟩
  have hs6 := hb6.size
  rw [w_geq]
  by_cases hq8 : q < 8
  · rw [decide_eq_true (by omega), condW_true, w_lenStr (by kernel_rfl), w_mul, w_mul, wrap_id (n := 8 * (7 - (q : Int))) (by omega), w_shr (by omega), w_toB3]
    refine MineZ.push hm6 hs6 (by simp [padB]; omega) fun b7 w7 hb7 hm7 => ?_
    rw [w_sub, wrap_id (by omega), loopK_self]
    refine ⟨8 - (q + 1), by omega, q + 1, by simp [I]; omega, by omega, rfl, hb6.trans hb7, ?_⟩
    rw [List.range_succ, List.map_append, ← List.append_assoc]
    have e1 : bI ((IntKind.i64.wrap (8 * (s.size : Int))).fdiv (2 ^ min (8 * (7 - (q : Int))).toNat IntKind.i64.bits)) = lenB s.size (7 - q) := by
      unfold lenB
      rw [show (8 * (7 - (q : Int))).toNat = 8 * (7 - q) by omega]; rfl
    rw [e1] at hm7
    exact hm7
  rw [decide_eq_false (by omega), condW_false]
  obtain rfl : q = 8 := by omega
  have hmp : MineZ w6 w2.heap.size b6 (padL s) := hm6
  obtain ⟨hpl, hpm⟩ := padL_length s
  have hsha : shaF s = ⟨(outB (hsh (padL s) ((padL s).length / 64))).toArray⟩ := rfl
  generalize hgp : padL s = p at *
  have hr6 := hr2.below hb6
  have hb06 : Below A w w6 := hb2.trans (hb6.mono (by omega))
  clear hm6 hm5 hm4 hm3 hb5 hb4 hb3 hr1
  obtain ⟨g, cap, _, _, hb6e, hgB, _, _, hpc, _⟩ := id hmp
  obtain ⟨m, hm⟩ : ∃ m, p.length = 64 * m := ⟨p.length / 64, by omega⟩
  subst hb6e
  refine c128 rfl fun w7 hb7 hsz7 h71 h72 => ?_
  have hr7 := hr6.below hb7
  have hm7 := hmp.below hb7
  have hb07 : Below A w w7 := hb06.trans (hb7.mono (by omega))
  refine range_of (wI := w) (own := fun b => b = w6.heap.size ∨ b = w6.heap.size + 1) (Inv := fun n j F w' => j = none ∧ RowAt w' A 193 ((hsh p n).l.map uV) ∧ MineZ w' w2.heap.size (.slice (some ⟨g, 0, none⟩) p.length cap) p ∧ ∀ b, F b ↔ b = A ∨ b = g) (F0 := fun b => b = A ∨ b = g)
    ok143 (fun w8 hb8 => iter143 hm (by omega) hpc (h71.below hb8) (h72.below hb8)) (fun a ha => by obtain ⟨d, _, rfl⟩ := List.mem_map.1 ha; rfl) (by rw [hA]; exact hb07)
    (fun b hb => ?_) ⟨rfl, hr7, hm7, fun b => Iff.rfl⟩ ?_ ?_ ?_ ?_
  · have hg6 := (hmp.ge (b := g) rfl).2
    refine ⟨fun h => ?_, ?_⟩
    · rcases hb with h1 | h1 <;> rcases h with h2 | h2 <;> omega
    · rcases hb with h1 | h1 <;> omega
  · rintro n j F u u' pp ⟨rfl, hr, hmm, hF⟩ ho hp
    exact ⟨rfl, hr.off ho (hp _ ((hF _).2 (.inl rfl))), hmm.off ho fun b hb => hp b ((hF b).2 (.inr (by cases hb; rfl))), hF⟩
  · rintro n j F u b ⟨rfl, hr, hmm, hF⟩ hb
    rw [hA]
    rcases (hF b).1 hb with rfl | rfl
    · exact ⟨Nat.le_refl _, hr.lt⟩
    · have := hmm.ge (b := b) rfl
      omega
  · rintro n a F w8 d0 ready o kk ha ⟨_, hr8, hm8, hF⟩ hb8 hrdy hd hdI hdF hkk
    rw [List.getElem?_map, Option.map_eq_some_iff] at ha
    obtain ⟨i, hi, rfl⟩ := ha
    have hn := (List.getElem?_eq_some_iff.1 hi).1
    rw [List.length_range] at hn
    rw [List.getElem?_range hn] at hi
    cases hi
    refine ⟨hrdy _ (Below.refl _ _), ?_⟩
    have hput : Off (· = d0) w8 (w8.putObj d0 o) := off_putObj rfl
    have hbp : Below A w8 (w8.putObj d0 o) := below_putObj (by rw [← hA]; exact hdI)
    have hr9 := hr8.off hput (fun hh => hdF ((hF _).2 (.inl hh.symm)))
    have hm9 := hm8.off hput fun b hb hh => hdF ((hF _).2 (.inr (by cases hb; exact hh.symm)))
    rw [hA] at hb8
    have hb9 := hb8.trans hbp
    have hs9 : (w8.putObj d0 o).heap.size = w8.heap.size := by simp
    show callW _ _ _ _ (w8.putObj d0 o)
    generalize hw9 : w8.putObj d0 o = w9 at *
    have hsl : IsSl fB w9 (.slice (some ⟨g, 64 * n, none⟩) 64 64) ((p.drop (64 * n)).take 64) := by
      have := hm9.sl.slicedTo (lo := 64 * n) (hi := 64 * n + 64) (mx := 64 * n + 64) (by omega) (by omega) (Nat.le_refl _)
      unfold sliced at this
      rw [if_neg (by omega), show 64 * n + 64 - 64 * n = 64 by omega] at this
      simpa [Addr.add_lit, fB] using this
    refine c129 (hg.below hb9 (by have := hg.2.1; omega)) hr9 hsl (by rw [List.length_take, List.length_drop]; omega) fun w10 hb10 ho10 hr10 => ?_
    have hgA : g ≠ A := by omega
    refine hkk none (fun b => b = A ∨ b = g) w8 w10 (Below.refl _ _) (by rw [hA]; exact hb9.trans hb10) ?_ (fun b hb => .inl ((hF b).2 hb)) ⟨rfl, hr10, hm9.off ho10 fun b hb hh => hgA (by cases hb; exact hh), fun b => Iff.rfl⟩
    rw [hw9]; exact ho10.mono fun b _ h => .inl ((hF b).2 (.inl h))
  · rintro n j F w8 d0 hn hb8 ⟨rfl, hr8, hm8, hF⟩ hd hdI hdF hdd
    rw [jumpW_none]
    rw [ld193 (vs := (hsh p n).l.map uV) rfl hr8.cells]
    have hn := hn rfl
    rw [List.length_map, List.length_range] at hn
    refine c130 fun w9 hb9 => ?_
    have hd9 : w9.heap[d0]? = some (.deferred (some [])) := by rw [hb9.block _ hd]; exact hdd
    refine ⟨hd9, ?_⟩
    have e1 : shaF s = ⟨(outB (hsh p n)).toArray⟩ := by rw [hsha, hn, hm]; congr 5; omega
    rw [← e1]
    rw [hA] at hb8
    have hs8 := hb8.size
    exact hk _ ((hb8.trans (hb9.mono (by omega))).trans (below_putObj (by omega))))
end
end Go.Proofs.YtbojglaimdjagaaGreatDoor
/-
  DERIVED: THE SHELF's CONTRACTS AT THIS DUMP, IN PLAIN WORDS (tools/lay-plain.mjs out of 'TryzShelf.lean', which tools/lay-shelf.mjs wrote): THE SAME DECLARATIONS UNDER THE SAME NAMES: 'import', 'namespace', 'open', 'def', 'theorem' AND NOTHING ELSE: no command of the shelf's: FOR A HAND-IN. Each laying: the table of numbers ('.._ren') and one theorem, a field a fact of the dump's own or the kernel's comparison; each contract: ONE APPLICATION.
-/
namespace Go.Proofs
open Go.Shelf
def Tryz.lays169_ren : Go.Shelf.Ren := ⟨fun | 169 => 39 | n => n, fun | 70 => 76 | 9 => 9 | 0 => 0 | 72 => 78 | 37 => 39 | 127 => 126 | 3 => 3 | 5 => 5 | n => n, fun | n => n⟩
theorem Tryz.lays169 : Go.Proofs.Lays.n169 Tryz.prog Tryz.lays169_ren := {
  mixed := by kernel_rfl
  f169 := Tryz.func39.trans (congrArg some (by kernel_rfl))
  t0 := Tryz.underlying0
  a0 := Tryz.isAgg0
  z0 := Tryz.sizeOf0
  v0 := Tryz.zeroValue0
  t3 := Tryz.underlying3
  a3 := Tryz.isAgg3
  z3 := Tryz.sizeOf3
  v3 := Tryz.zeroValue3
  t9 := Tryz.underlying9
  a9 := Tryz.isAgg9
  z9 := Tryz.sizeOf9
  v9 := Tryz.zeroValue9
  t37 := Tryz.underlying39
  a37 := Tryz.isAgg39
  z37 := Tryz.sizeOf39
  v37 := Tryz.zeroValue39
  t70 := Tryz.underlying76
  a70 := Tryz.isAgg76
  z70 := Tryz.sizeOf76
  v70 := Tryz.zeroValue76
  t72 := Tryz.underlying78
  a72 := Tryz.isAgg78
  z72 := Tryz.sizeOf78
  v72 := Tryz.zeroValue78
  t127 := Tryz.underlying126
  a127 := Tryz.isAgg126
  z127 := Tryz.sizeOf126
  v127 := Tryz.zeroValue126 }
theorem Tryz.Builder_Extra_169 : Builder.Extra Tryz.prog Tryz.lays169_ren := {
  sizeBuilder := by kernel_rfl
  liesBuilder := by kernel_rfl
  t5 := Tryz.underlying5
  a5 := Tryz.isAgg5
  z5 := Tryz.sizeOf5
  v5 := Tryz.zeroValue5
  infoByte := by kernel_rfl
  cellsByte := by kernel_rfl
  sizeByte := by kernel_rfl
  neB5 := by decide }
def Tryz.lays156_ren : Go.Shelf.Ren := ⟨fun | 156 => 111 | 165 => 131 | 166 => 37 | 169 => 39 | 240 => 69 | 241 => 146 | 276 => 94 | 277 => 150 | n => n, fun | 31 => 22 | 9 => 9 | 3 => 3 | 4 => 4 | 0 => 0 | 20 => 20 | 72 => 78 | 76 => 81 | 70 => 76 | 37 => 39 | 75 => 80 | 127 => 126 | 164 => 148 | 5 => 5 | 80 => 83 | n => n, fun | n => n⟩
theorem Tryz.lays156 : Go.Proofs.Lays.n156 Tryz.prog Tryz.lays156_ren := {
  mixed := by kernel_rfl
  f156 := Tryz.func111.trans (congrArg some (by kernel_rfl))
  f165 := Tryz.func131.trans (congrArg some (by kernel_rfl))
  f166 := Tryz.func37.trans (congrArg some (by kernel_rfl))
  f169 := Tryz.func39.trans (congrArg some (by kernel_rfl))
  f240 := Tryz.func69.trans (congrArg some (by kernel_rfl))
  f241 := Tryz.func146.trans (congrArg some (by kernel_rfl))
  f276 := Tryz.func94.trans (congrArg some (by kernel_rfl))
  f277 := Tryz.func150.trans (congrArg some (by kernel_rfl))
  t0 := Tryz.underlying0
  a0 := Tryz.isAgg0
  z0 := Tryz.sizeOf0
  v0 := Tryz.zeroValue0
  t3 := Tryz.underlying3
  a3 := Tryz.isAgg3
  z3 := Tryz.sizeOf3
  v3 := Tryz.zeroValue3
  t4 := Tryz.underlying4
  a4 := Tryz.isAgg4
  z4 := Tryz.sizeOf4
  v4 := Tryz.zeroValue4
  t9 := Tryz.underlying9
  a9 := Tryz.isAgg9
  z9 := Tryz.sizeOf9
  v9 := Tryz.zeroValue9
  t20 := Tryz.underlying20
  a20 := Tryz.isAgg20
  z20 := Tryz.sizeOf20
  v20 := Tryz.zeroValue20
  t31 := Tryz.underlying22
  a31 := Tryz.isAgg22
  z31 := Tryz.sizeOf22
  v31 := Tryz.zeroValue22
  t37 := Tryz.underlying39
  a37 := Tryz.isAgg39
  z37 := Tryz.sizeOf39
  v37 := Tryz.zeroValue39
  t70 := Tryz.underlying76
  a70 := Tryz.isAgg76
  z70 := Tryz.sizeOf76
  v70 := Tryz.zeroValue76
  t72 := Tryz.underlying78
  a72 := Tryz.isAgg78
  z72 := Tryz.sizeOf78
  v72 := Tryz.zeroValue78
  t75 := Tryz.underlying80
  a75 := Tryz.isAgg80
  z75 := Tryz.sizeOf80
  v75 := Tryz.zeroValue80
  t76 := Tryz.underlying81
  a76 := Tryz.isAgg81
  z76 := Tryz.sizeOf81
  v76 := Tryz.zeroValue81
  t127 := Tryz.underlying126
  a127 := Tryz.isAgg126
  z127 := Tryz.sizeOf126
  v127 := Tryz.zeroValue126
  t164 := Tryz.underlying148
  a164 := Tryz.isAgg148
  z164 := Tryz.sizeOf148
  v164 := Tryz.zeroValue148 }
theorem Tryz.Builder_Extra_156 : Builder.Extra Tryz.prog Tryz.lays156_ren := {
  sizeBuilder := by kernel_rfl
  liesBuilder := by kernel_rfl
  t5 := Tryz.underlying5
  a5 := Tryz.isAgg5
  z5 := Tryz.sizeOf5
  v5 := Tryz.zeroValue5
  infoByte := by kernel_rfl
  cellsByte := by kernel_rfl
  sizeByte := by kernel_rfl
  neB5 := by decide }
open Go.RowKit in
/-- strings.Join: "Join concatenates the elements of its first argument to create a single string. The separator string sep is placed between elements in the resulting string.": HOWEVER MANY ELEMENTS. Below the heap's end the world is as it was. (LAID: no walk: one application.) -/
theorem Tryz.strings_Join (bk o c : Nat) (xs : List ByteArray) (sep : ByteArray) (w : World) (hcells : ∀ (j : Nat) x, xs[j]? = some x → w.cell? ⟨bk, o + j, none⟩ = some (.string x)) (hbk : bk < w.heap.size) (hN : xs.length ≤ 140737488355328) (hcap : xs.length ≤ c) (hlen : (Lib.join (xs.map (·.data.toList)) sep.data.toList).length ≤ 140737488355328) :
    Calls Tryz.prog 111 #[.slice (some ⟨bk, o, none⟩) xs.length c, .string sep] w fun e w' => e = .returned (.string ⟨(Lib.join (xs.map (·.data.toList)) sep.data.toList).toArray⟩) ∧ Below w.heap.size w w' := Any.strings_Join Tryz.lays156 Tryz.Builder_Extra_156 bk o c xs sep w hcells hbk hN hcap hlen
def Tryz.lays160_ren : Go.Shelf.Ren := ⟨fun | 160 => 55 | 232 => 80 | 231 => 79 | 227 => 81 | 234 => 83 | 233 => 82 | 236 => 85 | 235 => 84 | 228 => 102 | 271 => 105 | 151 => 104 | 197 => 103 | 120 => 116 | 152 => 115 | 260 => 114 | 137 => 133 | 119 => 134 | 224 => 135 | 225 => 136 | 217 => 147 | 266 => 151 | n => n, fun | 9 => 9 | 4 => 4 | 3 => 3 | 5 => 5 | 117 => 137 | 116 => 136 | 0 => 0 | 124 => 140 | 21 => 21 | 105 => 160 | 46 => 113 | 119 => 199 | 139 => 202 | 138 => 201 | n => n, fun | 3 => 1 | 4 => 2 | n => n⟩
theorem Tryz.lays160 : Go.Proofs.Lays.n160 Tryz.prog Tryz.lays160_ren := {
  mixed := by kernel_rfl
  f119 := Tryz.func134.trans (congrArg some (by kernel_rfl))
  f120 := Tryz.func116.trans (congrArg some (by kernel_rfl))
  f137 := Tryz.func133.trans (congrArg some (by kernel_rfl))
  f151 := Tryz.func104.trans (congrArg some (by kernel_rfl))
  f152 := Tryz.func115.trans (congrArg some (by kernel_rfl))
  f160 := Tryz.func55.trans (congrArg some (by kernel_rfl))
  f197 := Tryz.func103.trans (congrArg some (by kernel_rfl))
  f217 := Tryz.func147.trans (congrArg some (by kernel_rfl))
  f224 := Tryz.func135.trans (congrArg some (by kernel_rfl))
  f225 := Tryz.func136.trans (congrArg some (by kernel_rfl))
  f227 := Tryz.func81.trans (congrArg some (by kernel_rfl))
  f228 := Tryz.func102.trans (congrArg some (by kernel_rfl))
  f231 := Tryz.func79.trans (congrArg some (by kernel_rfl))
  f232 := Tryz.func80.trans (congrArg some (by kernel_rfl))
  f233 := Tryz.func82.trans (congrArg some (by kernel_rfl))
  f234 := Tryz.func83.trans (congrArg some (by kernel_rfl))
  f235 := Tryz.func84.trans (congrArg some (by kernel_rfl))
  f236 := Tryz.func85.trans (congrArg some (by kernel_rfl))
  f260 := Tryz.func114.trans (congrArg some (by kernel_rfl))
  f266 := Tryz.func151.trans (congrArg some (by kernel_rfl))
  f271 := Tryz.func105.trans (congrArg some (by kernel_rfl))
  t0 := Tryz.underlying0
  a0 := Tryz.isAgg0
  z0 := Tryz.sizeOf0
  v0 := Tryz.zeroValue0
  t3 := Tryz.underlying3
  a3 := Tryz.isAgg3
  z3 := Tryz.sizeOf3
  v3 := Tryz.zeroValue3
  t4 := Tryz.underlying4
  a4 := Tryz.isAgg4
  z4 := Tryz.sizeOf4
  v4 := Tryz.zeroValue4
  t5 := Tryz.underlying5
  a5 := Tryz.isAgg5
  z5 := Tryz.sizeOf5
  v5 := Tryz.zeroValue5
  t9 := Tryz.underlying9
  a9 := Tryz.isAgg9
  z9 := Tryz.sizeOf9
  v9 := Tryz.zeroValue9
  t21 := Tryz.underlying21
  a21 := Tryz.isAgg21
  z21 := Tryz.sizeOf21
  v21 := Tryz.zeroValue21
  t46 := Tryz.underlying113
  a46 := Tryz.isAgg113
  z46 := Tryz.sizeOf113
  v46 := Tryz.zeroValue113
  t105 := Tryz.underlying160
  a105 := Tryz.isAgg160
  z105 := Tryz.sizeOf160
  v105 := Tryz.zeroValue160
  t116 := Tryz.underlying136
  a116 := Tryz.isAgg136
  z116 := Tryz.sizeOf136
  t117 := Tryz.underlying137
  a117 := Tryz.isAgg137
  z117 := Tryz.sizeOf137
  v117 := Tryz.zeroValue137
  t119 := Tryz.underlying199
  a119 := Tryz.isAgg199
  z119 := Tryz.sizeOf199
  t124 := Tryz.underlying140
  a124 := Tryz.isAgg140
  z124 := Tryz.sizeOf140
  v124 := Tryz.zeroValue140
  t138 := Tryz.underlying201
  a138 := Tryz.isAgg201
  z138 := Tryz.sizeOf201
  v138 := Tryz.zeroValue201
  t139 := Tryz.underlying202
  a139 := Tryz.isAgg202
  z139 := Tryz.sizeOf202
  v139 := Tryz.zeroValue202
  g3 := by kernel_rfl
  g4 := by kernel_rfl }
open Go.RowKit in
/-- strings.Trim: "Trim returns a slice of the string s with all leading and trailing Unicode code points contained in cutset removed.": AT A cutset OF ONE ASCII BYTE. THE WORLD BEHIND IT: as it was, or (where s is not empty) with ONE DRAW MORE off the tape: the statement 'return trimLeftByte(trimRightByte(s, c), c)' draws its order of evaluation. (LAID: no walk: one application.) -/
theorem Tryz.strings_Trim_one (s : ByteArray) (c : UInt8) (hc : c.toNat < 128) (w : World) (hs : s.size ≤ 9223372036854775807) :
    Calls Tryz.prog 55 #[.string s, .string ⟨#[c]⟩] w fun e w' => e = .returned (.string ⟨(Lib.trimB s.data.toList c).toArray⟩) ∧ (w' = w ∨ w' = w.drew) := Any.strings_Trim_one Tryz.lays160 s c hc w hs
def Tryz.laysNm216_ren : Go.Shelf.Ren := ⟨fun | 16 => 36 | n => n, fun | 24 => 22 | 9 => 9 | 4 => 4 | n => n, fun | n => n⟩
theorem Tryz.laysNm216 : Go.Proofs.Lays2.n16 Tryz.prog Tryz.laysNm216_ren := {
  mixed := by kernel_rfl
  f16 := Tryz.func36.trans (congrArg some (by kernel_rfl))
  t4 := Tryz.underlying4
  a4 := Tryz.isAgg4
  z4 := Tryz.sizeOf4
  v4 := Tryz.zeroValue4
  t9 := Tryz.underlying9
  a9 := Tryz.isAgg9
  z9 := Tryz.sizeOf9
  v9 := Tryz.zeroValue9
  t24 := Tryz.underlying22
  a24 := Tryz.isAgg22
  z24 := Tryz.sizeOf22
  v24 := Tryz.zeroValue22
  i9 := by kernel_rfl }
open Go.RowKit Go.Lib in
/-- slices.Clone at []string: "Clone returns a copy of the slice. The elements are copied using assignment, so this is a shallow clone. The result may have additional unused capacity. The result preserves the nilness of s.": OF A SLICE THAT IS NOT nil IT RETURNS A SLICE THAT IS NOT nil, OF THE SAME ELEMENTS, IN MEMORY OF THE CALL's OWN: in the how-to's words (6f): 'w'.ownsRow B e 1 v' n cells': v' begins at the head of a row among the blocks from B on (B: the heap's size at the call), not frozen, whose first cells are the elements · 'Below B w w'': below B all is as it was. The capacity is whatever the run-time gives. 'zs': what the cells behind the slice's address hold; 'zs.take n': its elements. (LAID: no walk: one application.) -/
theorem Tryz.slices_Clone_string (b off n c : Nat) (zs : List ByteArray) (w : World) (hz : n ≤ zs.length) (hbig : n * 16 ≤ 140737488355328) (hc : ∀ j, j < zs.length → w.cell? ⟨b, off + j, none⟩ = some (.string (zs.getD j ByteArray.empty))) :
    Calls Tryz.prog 36 #[.slice (some ⟨b, off, none⟩) n c] w fun e w' => ∃ v', e = .returned v' ∧ w'.ownsRow w.heap.size 9 1 v' n ((zs.take n).map (Value.string)) ∧ v' ≠ .slice none 0 0 ∧ Below w.heap.size w w' := Any.slices_Clone_string Tryz.laysNm216 b off n c zs w hz hbig hc
open Go.RowKit Go.Lib in
/-- The same at nil: nil comes back; the world is as it was. (LAID: no walk: one application.) -/
theorem Tryz.slices_Clone_string_nil (n c : Nat) (w : World) :
    Calls Tryz.prog 36 #[.slice none n c] w fun e w' => e = .returned (.slice none 0 0) ∧ w' = w := Any.slices_Clone_string_nil Tryz.laysNm216 n c w
open Go.RowKit Go.Lib in
/-- The same at a slice of length 0 that is not nil, WHATEVER ITS ADDRESS (no cell is asked for): a slice that is not nil and owns nothing comes back. (LAID: no walk: one application.) -/
theorem Tryz.slices_Clone_string_zero (a : Addr) (c : Nat) (w : World) :
    Calls Tryz.prog 36 #[.slice (some a) 0 c] w fun e w' => ∃ v', e = .returned v' ∧ w'.ownsRow w.heap.size 9 1 v' 0 [] ∧ v' ≠ .slice none 0 0 ∧ Below w.heap.size w w' := Any.slices_Clone_string_zero Tryz.laysNm216 a c w
end Go.Proofs
/- The chain of digests. -/
set_option linter.unusedSimpArgs false
set_option linter.unusedVariables false
set_option maxRecDepth 4000
namespace Go.Proofs.YtbojglaimdjagaaGreatDoor
open Go Go.V Go.RowKit
def fT : Fl ByteArray := ⟨1, fun s => [.string s], fun _ => rfl⟩
def chainF (h r : ByteArray) : ByteArray := shaF ((⟨#[2]⟩ : ByteArray) ++ h ++ r)
theorem below_trans {a b c : World} (h : Below a.heap.size a b) (k : Below b.heap.size b c) : Below a.heap.size a c := h.trans (k.mono h.size)
theorem gl_below {w w' : World} (h : Gl w) (hb : Below w.heap.size w w') : Gl w' := Gl.below h hb h.2.1
theorem join2 (a b : ByteArray) : (⟨(Lib.join ([a, b].map (·.data.toList)) (⟨#[]⟩ : ByteArray).data.toList).toArray⟩ : ByteArray) = a ++ b := by
  have h : Lib.join [a.data.toList, b.data.toList] ([] : List UInt8) = a.data.toList ++ b.data.toList := by
    simp [Lib.join, List.intercalate, List.intersperse]
  simp only [List.map_cons, List.map_nil]
  show (⟨(Lib.join [a.data.toList, b.data.toList] []).toArray⟩ : ByteArray) = _
  rw [h]
  apply ByteArray.ext
  rw [ByteArray.data_append]
  apply Array.ext'
  simp
section
variable {k : Value → World → Prop} {w : World}
theorem c111two {v : Value} {a b : ByteArray} (hs : IsSl fT w v [a, b]) (hl : a.size + b.size ≤ 1000000) (hk : ∀ w', Below w.heap.size w w' → k (.string (a ++ b)) w') : callW Tryz.prog (.func (.func 111) #[] #[]) #[v, .string ⟨#[]⟩] k w := by
  obtain ⟨ad, c, rfl, hc, hx⟩ := hs
  obtain ⟨bk, o, rfl, h0⟩ := hx 0 a rfl
  have hcell : ∀ (j : Nat) x, [a, b][j]? = some x → w.cell? ⟨bk, o + j, none⟩ = some (.string x) := fun j x hj => by
    obtain ⟨b', o', he, hcl⟩ := hx j x hj
    cases he
    have := hcl 0 (.string x) rfl
    simpa [fT] using this
  refine callW_calls ok111 (Calls.mono (Tryz.strings_Join bk o c [a, b] ⟨#[]⟩ w hcell (World.block_lt_of_cell? w _ (hcell 0 a rfl)) (by simp) hc ?_) ?_)
  · have := congrArg ByteArray.size (join2 a b)
    have h2 : (⟨(Lib.join ([a, b].map (·.data.toList)) (⟨#[]⟩ : ByteArray).data.toList).toArray⟩ : ByteArray).size = (Lib.join ([a, b].map (·.data.toList)) (⟨#[]⟩ : ByteArray).data.toList).length := by
      show Array.size _ = _; simp
    rw [← h2, this, ByteArray.size_append]; omega
  · rintro e w' ⟨rfl, hb⟩
    rw [join2]
    exact hk _ hb
theorem c109 {v : Value} {a b m : ByteArray} {mb : Nat} (hg : Gl w) (hs : IsSl fT w v [a, b]) (hm : RowAt w mb 9 [.string m]) (hl : m.size + a.size + b.size ≤ 1000000) (hk : ∀ w', Below w.heap.size w w' → k (.string (shaF (m ++ (a ++ b)))) w') : callW Tryz.prog (.func (.func 109) #[] #[.pointer (some ⟨mb, 0, none⟩)]) #[v] k w := C109 _ _ _ _ (by
  unfold S109
  rw [drewW_eq]
  have hbd := (Below.refl w.heap.size w).drew
  replace hs := hs.below hbd
  replace hm := hm.below hbd
  replace hg := gl_below hg hbd
  replace hk : ∀ w', Below w.drew.heap.size w.drew w' → k (.string (shaF (m ++ (a ++ b)))) w' := fun w' h => hk w' (below_trans hbd h)
  generalize w.drew = w1 at *
  have a1 : after w1 w1 := Below.refl _ _
  refine ⟨after w1, a1, ?_⟩
  rw [r_loadA agg9 known9 (hm.cell (i := 0) rfl) a1]
  refine c111two hs (by omega) fun w2 hb2 => ?_
  rw [keepS_eq]
  refine ⟨hb2, ?_⟩
  rw [t_addStr (by rw [ByteArray.size_append]; have : 1000000 ≤ maxLen := by decide
                   omega)]
  refine c110 (gl_below hg hb2) (by rw [ByteArray.size_append, ByteArray.size_append]; omega) fun w3 hb3 => ?_
  rw [keepS_eq]
  exact ⟨below_trans hb2 hb3, hk _ (below_trans hb2 hb3)⟩)
theorem c70 {h r : ByteArray} (hg : Gl w) (hl : h.size + r.size ≤ 900000) (hk : ∀ w', Below w.heap.size w w' → k (.string (chainF h r)) w') : callW Tryz.prog (.func (.func 70) #[] #[]) #[.string h, .string r] k w := C70 _ _ _ _ (by
  unfold S70
  refine C95 _ _ _ ?_
  unfold S95
  refine w_boxN fun w1 hb1 hsz1 hr1 => ?_
  rw [w_makeFunc]
  replace hr1 : RowAt w1 w.heap.size 9 [.string ⟨#[2]⟩] := hr1
  refine w_parts (F := fT) (l := [h, r]) sty22 rfl (by decide) (by decide) (by kernel_rfl) rfl fun w2 hb2 _ hm2 => ?_
  have hb02 := below_trans hb1 hb2
  refine c109 (gl_below hg hb02) hm2.sl (hr1.below hb2) (by have : (⟨#[2]⟩ : ByteArray).size = 1 := rfl; omega) fun w3 hb3 => ?_
  have e : (⟨#[2]⟩ : ByteArray) ++ (h ++ r) = (⟨#[2]⟩ : ByteArray) ++ h ++ r := by rw [ByteArray.append_assoc]
  rw [e]
  exact hk _ (below_trans hb02 hb3))
theorem c57 {h r : ByteArray} (hl : h.size + r.size ≤ 900000) (hk : ∀ w', Below w.heap.size w w' → k (.string (chainF h r)) w') : callW Tryz.prog (.func (.func 57) #[] #[]) #[.string h, .string r] k w := C57 _ _ _ _ (by
  unfold S57
  have hml : 1000000 ≤ maxLen := by decide
  have h1 : (⟨#[2]⟩ : ByteArray).size = 1 := rfl
  rw [w_addStr (by omega), w_addStr (by rw [ByteArray.size_append]; omega)]
  refine c28 (by rw [ByteArray.size_append, ByteArray.size_append]; omega) fun w1 hb1 => ?_
  exact hk _ hb1)
end
end Go.Proofs.YtbojglaimdjagaaGreatDoor
/- The wire: integers and strings, the reference's. -/
set_option linter.unusedSimpArgs false
set_option linter.unusedVariables false
set_option maxRecDepth 4000
namespace Go.Proofs.YtbojglaimdjagaaGreatDoor
open Go Go.V Go.RowKit
theorem wrapU {n : Int} (h : 0 ≤ n ∧ n < 18446744073709551616) : IntKind.u64.wrap n = n := by
  simp only [IntKind.wrap]
  have h2 : (2 : Int) ^ IntKind.bits .u64 = 18446744073709551616 := by decide
  simp [IntKind.signed, h2]
  omega
/-- a number in groups of seven bits, the lowest first -/
def vb (z : Nat) : List UInt8 := if h : z < 128 then [UInt8.ofNat z] else UInt8.ofNat (z % 128 + 128) :: vb (z / 128)
termination_by z
decreasing_by omega
theorem vb_lt {z : Nat} (h : z < 128) : vb z = [UInt8.ofNat z] := by rw [vb, dif_pos h]
theorem vb_ge {z : Nat} (h : 128 ≤ z) : vb z = UInt8.ofNat (z % 128 + 128) :: vb (z / 128) := by rw [vb, dif_neg (by omega)]
theorem vb_len (z : Nat) : 1 ≤ (vb z).length ∧ (vb z).length ≤ z + 1 := by
  induction z using Nat.strongRecOn with
  | ind z ih =>
    by_cases h : z < 128
    · rw [vb_lt h]; simp
    · rw [vb_ge (by omega)]
      have := ih (z / 128) (by omega)
      simp only [List.length_cons]
      omega
/-- how a length is encoded -/
def lenB (n : Nat) : ByteArray := ⟨(vb (2 * n)).toArray⟩
section
variable {k : Value → World → Prop} {w : World}
theorem ex0 {a b : Value} : opW Tryz.prog (Instr.extract (.tuple #[a, b]) 0) k w = k a w := w_extract rfl
theorem ex1 {a b : Value} : opW Tryz.prog (Instr.extract (.tuple #[a, b]) 1) k w = k b w := w_extract rfl
theorem c86 {n : Nat} (h : n ≤ 1000000000) (hk : k (.int .u64 ((2 * n : Nat) : Int)) w) : callW Tryz.prog (.func (.func 86) #[] #[]) #[I n] k w := C86 _ _ _ (by
  unfold S86
  rw [w_lss, decide_eq_false (by omega), condW_false, w_conv (q := .u64) (by kernel_rfl) (by kernel_rfl), wrapU (by omega), w_mul, wrapU (by omega)]
  rw [show ((n : Int) * 2) = ((2 * n : Nat) : Int) by omega]
  exact hk)
theorem c56 {n : Nat} (h : n ≤ 1000000) (hk : ∀ w', Below w.heap.size w w' → k (.tuple #[.string (lenB n), I 0]) w') : callW Tryz.prog (.func (.func 56) #[] #[]) #[I n] k w := C56 _ _ _ (by
  unfold S56
  have hml : 100000000 ≤ maxLen := by decide
  rw [w_lss, decide_eq_false (by omega)]
  simp only [guardW_ff, pickW_false]
  rw [w_gtr, decide_eq_false (by omega), condW_false]
  refine c86 (by omega) ?_
  refine Loop2.intro (fun m a b w' => ∃ (z : Nat) (l : List UInt8), a = .int .u64 z ∧ m = z ∧ z ≤ 2000000 ∧ Below w.heap.size w w' ∧ Mine fB 5 w' w.heap.size b l ∧ l ++ vb z = vb (2 * n)) _ ⟨2 * n, [], rfl, rfl, by omega, Below.refl _ _, Mine.nil _ _, rfl⟩ ?_
  rintro m _ b w1 ⟨z, l, rfl, rfl, hz, hb1, hm1, he⟩
  have hlen := congrArg List.length he
  rw [List.length_append] at hlen
  have h1 := (vb_len (2 * n)).2
  have h2 := (vb_len m).1
  rw [w_geq]
  by_cases hge : 128 ≤ m
  · rw [decide_eq_true (by omega), condW_true, w_rem (by decide), Int.tmod_eq_emod_of_nonneg (by omega), w_add, wrapU (by omega), w_conv (q := .u8) (by kernel_rfl) (by kernel_rfl), conv_bI]
    refine Mine.push (F := fB) (x := bI ((m : Int) % 128 + 128)) sty39 (fun u hu => by simp [fB] at hu; subst hu; rfl) rfl (by decide) hm1 hb1.size (by omega) (by omega) fun v2 w2 hm2 hb2 _ _ => ?_
    rw [w_quo (by decide), loopK_self]
    rw [Int.tdiv_eq_ediv_of_nonneg (by omega), wrapU (by omega), show ((m : Int) / 128) = ((m / 128 : Nat) : Int) by omega]
    refine ⟨m / 128, by omega, m / 128, l ++ [bI ((m : Int) % 128 + 128)], rfl, rfl, by omega, hb1.trans hb2, hm2, ?_⟩
    rw [← he, vb_ge hge]
    have : bI ((m : Int) % 128 + 128) = UInt8.ofNat (m % 128 + 128) := by
      unfold bI
      rw [show (((m : Int) % 128 + 128) % 256).toNat = m % 128 + 128 by omega]
    rw [this]; simp
  · rw [decide_eq_false (by omega), condW_false, w_conv (q := .u8) (by kernel_rfl) (by kernel_rfl), conv_bI]
    refine Mine.push (F := fB) (x := bI (m : Int)) sty39 (fun u hu => by simp [fB] at hu; subst hu; rfl) rfl (by decide) hm1 hb1.size (by omega) (by omega) fun v2 w2 hm2 hb2 _ _ => ?_
    rw [w_toStr (e := 5) (by kernel_rfl) (by kernel_rfl) (by kernel_rfl) hm2.sl (by simp)]
    have hb : bI (m : Int) = UInt8.ofNat m := by
      unfold bI
      rw [show ((m : Int) % 256).toNat = m by omega]
    have : l ++ [bI (m : Int)] = vb (2 * n) := by rw [← he, vb_lt (by omega), hb]
    rw [this]
    exact hk _ (hb1.trans hb2))
theorem c73 {s : ByteArray} (h : s.size ≤ 65536) (hk : ∀ w', Below w.heap.size w w' → k (.tuple #[.string (lenB s.size ++ s), I 0]) w') : callW Tryz.prog (.func (.func 73) #[] #[]) #[.string s] k w := C73 _ _ _ (by
  unfold S73
  rw [w_lenStr (by kernel_rfl), w_gtr, decide_eq_false (by omega), condW_false, w_lenStr (by kernel_rfl)]
  refine c56 (by omega) fun w1 hb1 => ?_
  rw [ex0, ex1, w_addStr ?_]
  · exact hk _ hb1
  · have : (lenB s.size).size = (vb (2 * s.size)).length := by show Array.size _ = _; simp
    have := (vb_len (2 * s.size)).2
    have hml : 100000000 ≤ maxLen := by decide
    omega)
end
end Go.Proofs.YtbojglaimdjagaaGreatDoor
/- The wire: integers and strings, the program's. -/
set_option linter.unusedSimpArgs false
set_option linter.unusedVariables false
set_option maxRecDepth 4000
namespace Go.Proofs.YtbojglaimdjagaaGreatDoor
open Go Go.V Go.RowKit
section
variable {P : Program} {k : Value → World → Prop} {w : World} {t : TypeId} {ox oy : Operand}
theorem w_andU {n m : Nat} (hn : n < 4611686018427387904) (hm : m < 4611686018427387904) : opW P (binS .and t ox oy (.int .u64 n) (.int .u64 m)) k w = k (.int .u64 ((n &&& m : Nat) : Int)) w :=
  opW_ok (by
    rw [run_binS_int (by simp) (by simp)]
    have h3 : n &&& m ≤ n := Nat.and_le_left
    have hb : (BitVec.ofInt (IntKind.bits .u64) (n : Int) &&& BitVec.ofInt (IntKind.bits .u64) (m : Int)).toNat = n &&& m := by
      show (BitVec.ofInt 64 (n : Int) &&& BitVec.ofInt 64 (m : Int)).toNat = n &&& m
      rw [ofInt_small, ofInt_small, BitVec.toNat_and, BitVec.toNat_ofNat, BitVec.toNat_ofNat, Nat.mod_eq_of_lt (by omega), Nat.mod_eq_of_lt (by omega)]
    simp only [binOp, Op.intBits]
    rw [hb, wrapU (by omega)]
    rfl)
theorem w_xorU0 {n : Nat} (hn : n < 4611686018427387904) : opW P (binS .xor t ox oy (.int .u64 n) (.int .u64 0)) k w = k (.int .u64 (n : Int)) w :=
  opW_ok (by
    rw [run_binS_int (by simp) (by simp)]
    have hb : (BitVec.ofInt (IntKind.bits .u64) (n : Int) ^^^ BitVec.ofInt (IntKind.bits .u64) (0 : Int)).toNat = n := by
      show (BitVec.ofInt 64 (n : Int) ^^^ BitVec.ofInt 64 ((0 : Nat) : Int)).toNat = n
      rw [ofInt_small, ofInt_small, BitVec.toNat_xor, BitVec.toNat_ofNat, BitVec.toNat_ofNat, Nat.mod_eq_of_lt (by omega), Nat.mod_eq_of_lt (by omega), Nat.xor_zero]
    simp only [binOp, Op.intBits]
    rw [hb, wrapU (by omega)]
    rfl)
end
theorem w_or128 {k : Value → World → Prop} {w : World} {ox oy : Operand} {x : Nat} (h : x < 128) : opW Tryz.prog (binS .or 5 ox oy (.int .u8 x) (.int .u8 128)) k w = k (.int .u8 ((x + 128 : Nat) : Int)) w :=
  opW_ok (by
    rw [run_binS_int (by simp) (by simp)]
    have hb : (BitVec.ofInt (IntKind.bits .u8) (x : Int) ||| BitVec.ofInt (IntKind.bits .u8) (128 : Int)).toNat = x + 128 := by
      show (BitVec.ofInt 8 (x : Int) ||| BitVec.ofInt 8 ((128 : Nat) : Int)).toNat = x + 128
      rw [BitVec.ofInt_natCast, BitVec.ofInt_natCast]
      revert x
      decide
    simp only [binOp, Op.intBits]
    rw [hb]
    have : IntKind.u8.wrap ((x + 128 : Nat) : Int) = ((x + 128 : Nat) : Int) := by rw [wrap8]; omega
    rw [this]
    rfl)
/-- the groups of a number, as the iterator hands them on -/
def gsL (z : Nat) : List (List Value) := if h : z < 128 then [[.int .u8 (z : Int), .bool true]] else [.int .u8 ((z % 128 : Nat) : Int), .bool false] :: gsL (z / 128)
termination_by z
decreasing_by omega
theorem gsL_lt {z : Nat} (h : z < 128) : gsL z = [[.int .u8 (z : Int), .bool true]] := by rw [gsL, dif_pos h]
theorem gsL_ge {z : Nat} (h : 128 ≤ z) : gsL z = [.int .u8 ((z % 128 : Nat) : Int), .bool false] :: gsL (z / 128) := by rw [gsL, dif_neg (by omega)]
theorem gsL_get (z : Nat) : (gsL z).length = (vb z).length ∧ ∀ (n : Nat) a, (gsL z)[n]? = some a → ∃ (x : Nat) (l : Bool), x < 128 ∧ a = [.int .u8 (x : Int), .bool l] ∧ (vb z)[n]? = some (UInt8.ofNat (if l = true then x else x + 128)) := by
  induction z using Nat.strongRecOn with
  | ind z ih =>
    by_cases h : z < 128
    · rw [gsL_lt h, vb_lt h]
      refine ⟨rfl, fun n a ha => ?_⟩
      match n, ha with
      | 0, ha => simp at ha; subst ha; exact ⟨z, true, h, rfl, rfl⟩
      | n + 1, ha => simp at ha
    · rw [gsL_ge (by omega), vb_ge (by omega)]
      obtain ⟨i1, i2⟩ := ih (z / 128) (by omega)
      refine ⟨by simp [i1], fun n a ha => ?_⟩
      match n, ha with
      | 0, ha => simp at ha; subst ha; exact ⟨z % 128, false, by omega, by simp, rfl⟩
      | n + 1, ha => simp at ha; simpa using i2 n a ha
section
variable {k : Value → World → Prop} {w : World}
theorem iter132 {wI : World} {b1 z : Nat} (hwI : wI.heap.size ≤ b1) (hz : z ≤ 2000000) (h1 : RowAt w b1 141 [.int .u64 (z : Int)]) :
    IterLaw Tryz.prog 132 #[.pointer (some ⟨b1, 0, none⟩)] (gsL z) wI (fun b => b = b1) w := by
  intro yield Inv F0 k hY hF h0 hbI hk
  refine S132_calls yield (.pointer (some ⟨b1, 0, none⟩)) k w ?_
  unfold S132
  refine Loop0.intro (fun m w' => ∃ (pre : List (List Value)) (y : Nat) (F : Nat → Prop), gsL z = pre ++ gsL y ∧ y ≤ 2000000 ∧ m = y ∧ Below wI.heap.size wI w' ∧ RowAt w' b1 141 [.int .u64 (y : Int)] ∧ Inv pre.length true F w' ∧ ¬ F b1) _ ⟨[], z, F0, rfl, hz, rfl, hbI, h1, h0, hF _ rfl⟩ ?_
  rintro m w1 ⟨pre, y, F, hpre, hy, rfl, hb1, hr1, hi1, hF1⟩
  have hld : ∀ (kk : Value → World → Prop) (u : World) (v : Value), RowAt u b1 141 [v] → opW Tryz.prog (Instr.loadAt 141 (.pointer (some ⟨b1, 0, none⟩))) kk u = kk v u := fun kk u v hr => w_load (by kernel_rfl) (by kernel_rfl) (hr.cell (i := 0) rfl)
  rw [hld _ _ _ hr1, w_lss, hld _ _ _ hr1, show ((127 : Int)) = ((127 : Nat) : Int) from rfl, w_andU (by omega) (by omega), w_conv (q := .u8) (by kernel_rfl) (by kernel_rfl)]
  have hand : m &&& 127 = m % 128 := Nat.and_two_pow_sub_one_eq_mod m 7
  have hw8 : IntKind.u8.wrap ((m &&& 127 : Nat) : Int) = ((m % 128 : Nat) : Int) := by rw [wrap8, hand]; omega
  rw [hw8]
  have hget : (gsL z)[pre.length]? = some [.int .u8 ((m % 128 : Nat) : Int), .bool (decide ((m : Int) < 128))] := by
    rw [hpre, List.getElem?_append_right (Nat.le_refl _), Nat.sub_self]
    by_cases h : m < 128
    · rw [gsL_lt h, decide_eq_true (by omega), Nat.mod_eq_of_lt h]; rfl
    · rw [gsL_ge (by omega), decide_eq_false (by omega)]; rfl
  refine hY.call _ _ F w1 _ hi1 hb1 hget fun b F' w3 hb3 ho3 hF3 hi3 => ?_
  rw [w_not]
  cases b with
  | false =>
    simp only [Bool.not_false, guardW_tf, guardW_u, pickW_true]
    rw [condW_true]
    exact hk _ _ _ _ hb3 hi3 fun h => by cases h
  | true =>
    simp only [Bool.not_true, guardW_ff, pickW_false]
    have hl1 := hr1.lt
    have hr3 := hr1.off ho3 hF1
    by_cases h : m < 128
    · rw [decide_eq_true (by omega), condW_true]
      refine hk _ _ _ _ hb3 hi3 fun _ => ?_
      rw [hpre, gsL_lt h]; simp
    · rw [decide_eq_false (by omega), condW_false, hld _ _ _ hr3, w_shr (by decide)]
      have hsh : ((m : Int)).fdiv (2 ^ (min ((7 : Int).toNat) (IntKind.bits .u64))) = ((m / 128 : Nat) : Int) := by
        have := shr_nat m 7
        rw [show (2 : Nat) ^ 7 = 128 from rfl] at this
        rw [show min ((7 : Int).toNat) (IntKind.bits .u64) = 7 from rfl]; exact this
      rw [hsh]
      have hst : ∀ (kk : Value → World → Prop), opU Tryz.prog (Instr.storeAt 141 (.pointer (some ⟨b1, 0, none⟩)) (.int .u64 ((m / 128 : Nat) : Int))) kk w3 = kk undef (w3.setCell ⟨b1, 0, none⟩ (.int .u64 ((m / 128 : Nat) : Int))) := fun kk => w_store rfl (by kernel_rfl) (by kernel_rfl) (hr3.cell (i := 0) rfl) (hr3.free _)
      rw [hst, loopK_self]
      have hF' : ¬ F' b1 := fun hh => (hF3 _ hh).elim hF1 (by omega)
      refine ⟨m / 128, by omega, pre ++ [[.int .u8 ((m % 128 : Nat) : Int), .bool false]], m / 128, F', ?_, by omega, rfl, hb3.setCell hwI _, hr3.set 0 _, ?_, hF'⟩
      · rw [hpre, gsL_ge (by omega)]; simp
      · rw [List.length_append]
        exact hY.stab _ _ _ _ _ (fun x => x = b1) hi3 (Off.set rfl) fun b hb hh => hF' (by rw [← hh]; exact hb)
end
end Go.Proofs.YtbojglaimdjagaaGreatDoor
/- The wire: PutInt, PutString, the program's. -/
set_option linter.unusedSimpArgs false
set_option linter.unusedVariables false
set_option maxRecDepth 4000
namespace Go.Proofs.YtbojglaimdjagaaGreatDoor
open Go Go.V Go.RowKit
section
variable {k : Value → World → Prop} {w : World}
theorem c96 {n : Nat} (h : n ≤ 1000000) (hk : ∀ w', Below w.heap.size w w' → k (.tuple #[.string (lenB n), I 0]) w') : callW Tryz.prog (.func (.func 96) #[] #[]) #[I n] k w := C96 _ _ _ (by
  unfold S96
  have hml : 100000000 ≤ maxLen := by decide
  rw [w_lss, decide_eq_false (by omega)]
  simp only [guardW_ff, pickW_false]
  rw [w_gtr, decide_eq_false (by omega), condW_false]
  refine al39 fun w1 hb1 hsz1 hr1 => ?_
  obtain ⟨ob, hob⟩ : ∃ b, w.heap.size = b := ⟨_, rfl⟩
  rw [hob] at hr1 ⊢
  rw [w_conv (q := .u64) (by kernel_rfl) (by kernel_rfl), wrapU (by omega), w_shl (by decide), show ((n : Int) * 2 ^ (min ((1 : Int).toNat) (IntKind.bits .u64))) = ((2 * n : Nat) : Int) by
    rw [show min ((1 : Int).toNat) (IntKind.bits .u64) = 1 from rfl]; omega, wrapU (by omega), w_shr (by decide)]
  have h63 : ((n : Int)).fdiv (2 ^ (min ((63 : Int).toNat) (IntKind.bits .i64))) = 0 := by
    rw [show min ((63 : Int).toNat) (IntKind.bits .i64) = 63 from rfl]
    have := shr_nat n 63
    have h0 : n / 2 ^ 63 = 0 := Nat.div_eq_of_lt (by omega)
    rw [h0] at this
    simpa using this
  rw [h63, w_conv (q := .u64) (by kernel_rfl) (by kernel_rfl), wrapU (by decide), w_xorU0 (by omega)]
  refine C112 _ _ _ ?_
  unfold S112
  refine w_boxN fun w2 hb2 hsz2 hz2 => ?_
  rw [w_makeFunc]
  obtain ⟨zb, hzb⟩ : ∃ b, w1.heap.size = b := ⟨_, rfl⟩
  replace hz2 : RowAt w2 w1.heap.size 141 [.int .u64 ((2 * n : Nat) : Int)] := hz2
  rw [hzb] at hz2 ⊢
  have hb02 : Below w.heap.size w w2 := below_trans hb1 hb2
  have hr2 := hr1.below hb2
  obtain ⟨gl1, gl2⟩ := gsL_get (2 * n)
  obtain ⟨v1, v2⟩ := vb_len (2 * n)
  refine range_of (wI := w) (own := fun b => b = zb) (Inv := fun i j F w' => j = none ∧ i ≤ (vb (2 * n)).length ∧ ∃ v, RowAt w' ob 39 [v] ∧ Mine fB 5 w' (ob + 1) v ((vb (2 * n)).take i) ∧ ∀ b, F b ↔ b = ob ∨ isOf v b) (F0 := fun b => b = ob)
    ok132 (args := gsL (2 * n)) (fun w3 hb3 => iter132 (by omega) (by omega) (hz2.below hb3)) (fun a ha => ?_) hb02 (fun b hb => ?_) ⟨rfl, by omega, nS, hr2, Mine.nil _ _, fun b => ⟨.inl, fun h => h.elim (fun h => h) fun h => by cases h⟩⟩ ?_ ?_ ?_ ?_
  · obtain ⟨i, hi, rfl⟩ := List.getElem_of_mem ha
    obtain ⟨x, l, _, e, _⟩ := gl2 i _ (List.getElem?_eq_getElem hi)
    rw [e]; rfl
  · subst hb
    have := hz2.lt
    exact ⟨by omega, this⟩
  · rintro i j F u u' p ⟨rfl, hi, v, hr, hm, hF⟩ ho hp
    exact ⟨rfl, hi, v, hr.off ho (hp _ ((hF _).2 (.inl rfl))), hm.off ho fun b hb => hp b ((hF b).2 (.inr hb)), hF⟩
  · rintro i j F u b ⟨rfl, hi, v, hr, hm, hF⟩ hb
    rcases (hF b).1 hb with rfl | hb
    · exact ⟨by omega, hr.lt⟩
    · have := hm.ge hb
      omega
  · rintro i a F w3 d0 ready o kk ha ⟨_, hi, v, hr3, hm3, hF⟩ hb3 hrdy hd hdI hdF hkk
    obtain ⟨x, l, hx, rfl, hv⟩ := gl2 i a ha
    refine ⟨hrdy _ (Below.refl _ _), ?_⟩
    have hput : Off (· = d0) w3 (w3.putObj d0 o) := off_putObj rfl
    have hbp : Below w.heap.size w3 (w3.putObj d0 o) := below_putObj hdI
    have hr4 := hr3.off hput (fun hh => hdF ((hF _).2 (.inl hh.symm)))
    have hm4 := hm3.off hput fun b hb hh => hdF ((hF _).2 (.inr (by rw [← hh]; exact hb)))
    have hb4 := hb3.trans hbp
    have hs4 : (w3.putObj d0 o).heap.size = w3.heap.size := by simp
    have hil := (List.getElem?_eq_some_iff.1 hv).1
    generalize hw4 : w3.putObj d0 o = w4 at *
    have hob4 : ob < w4.heap.size := hr4.lt
    have fin : ∀ y : Nat, UInt8.ofNat y = UInt8.ofNat (if l = true then x else x + 128) → y < 256 → opW Tryz.prog (Instr.loadAt 39 (.pointer (some ⟨ob, 0, none⟩))) (fun t27 w => opW Tryz.prog (Instr.buildSlice 39 1 #[(0, .int .u8 (y : Int))]) (fun t29 w => opW Tryz.prog (Builtin.append_ #[39, 39] 39 #[t27, t29]) (fun t30 w => opU Tryz.prog (Instr.storeAt 39 (.pointer (some ⟨ob, 0, none⟩)) t30) (fun _ w => kk none w) w) w) w) w4 := fun y hy hy2 => by
      rw [ld39 (hr4.cell (i := 0) rfl)]
      have hc : (Value.int .u8 (y : Int)).cells.toList = fB.e (UInt8.ofNat y) := by
        show [Value.int .u8 (y : Int)] = [Value.int .u8 (((UInt8.ofNat y).toNat : Nat) : Int)]
        rw [UInt8.toNat_ofNat', Nat.mod_eq_of_lt (by omega)]
      refine Mine.push (F := fB) (x := UInt8.ofNat y) sty39 (fun u hu => by simp [fB] at hu; subst hu; rfl) hc (by decide) hm4 (by omega) (by rw [List.length_take]; omega) (by rw [List.length_take]; omega) fun v5 w5 hm5 hb5 ho5 hu5 => ?_
      have hov : v5.oneCell' = true := by obtain ⟨a9, c9, rfl, -⟩ := hm5.sl; rfl
      have hne : ¬ isOf v ob := fun hh => by have := hm4.ge hh; omega
      have hr5 := hr4.off ho5 hne
      have hne5 : ∀ b, isOf v5 b → b ≠ ob := fun b hb hh => by have := hm5.ge hb; omega
      rw [st39 hov (hr5.cell (i := 0) rfl) (hr5.free _)]
      have hof : Off (fun b => b = ob) w5 (w5.setCell ⟨ob, 0, none⟩ v5) := Off.set rfl
      refine hkk none (fun b => b = ob ∨ isOf v5 b) w3 _ (Below.refl _ _) ?_ ?_ ?_ ⟨rfl, by omega, v5, hr5.set 0 v5, ?_, fun b => Iff.rfl⟩
      · exact (hb4.trans (hb5.mono (by omega))).setCell (by show w.heap.size ≤ ob; omega) _
      · rw [hw4]
        refine (ho5.mono fun b _ hb => .inl ((hF b).2 (.inr hb))).trans (hof.mono fun b _ hb => .inl ((hF b).2 (.inl hb)))
      · intro b hb
        rcases hb with rfl | hb
        · exact .inl ((hF _).2 (.inl rfl))
        · rcases hu5 b hb with h1 | h1
          · exact .inl ((hF b).2 (.inr h1))
          · exact .inr (by omega)
      · have e : (vb (2 * n)).take (i + 1) = (vb (2 * n)).take i ++ [UInt8.ofNat y] := by
          rw [List.take_add_one, hv, hy]; rfl
        rw [e]
        exact hm5.off hof fun b hb hh => hne5 b hb hh
    show joinW _ _
    refine joinW_use1 (fun g w' => w' = w4 ∧ ∃ y : Nat, g = .int .u8 (y : Int) ∧ UInt8.ofNat y = UInt8.ofNat (if l = true then x else x + 128) ∧ y < 256) ?_ ?_
    · rintro _ _ ⟨rfl, y, rfl, hy, hy2⟩
      exact fin y hy hy2
    · intro J hJ
      cases l with
      | true =>
        simp only [List.tail_cons, List.headD_cons]
        rw [w_not, Bool.not_true, condW_false]
        exact hJ _ _ ⟨hw4, x, rfl, rfl, by omega⟩
      | false =>
        simp only [List.tail_cons, List.headD_cons]
        rw [w_not, Bool.not_false, condW_true, w_or128 hx]
        exact hJ _ _ ⟨hw4, x + 128, rfl, rfl, by omega⟩
  · rintro i j F w3 d0 hn hb3 ⟨rfl, hi, v, hr3, hm3, hF⟩ hd hdI hdF hdd
    rw [jumpW_none, ld39 (hr3.cell (i := 0) rfl)]
    have hn := hn rfl
    have hall : (vb (2 * n)).take i = vb (2 * n) := by rw [List.take_of_length_le]; omega
    rw [hall] at hm3
    rw [w_toStr (e := 5) (by kernel_rfl) (by kernel_rfl) (by kernel_rfl) hm3.sl (fun hh => by rw [hh] at v1; simp at v1)]
    refine ⟨hdd, ?_⟩
    exact hk _ (hb3.trans (below_putObj (by omega))))
theorem c71 {s : ByteArray} (h : s.size ≤ 65536) (hk : ∀ w', Below w.heap.size w w' → k (.tuple #[.string (lenB s.size ++ s), I 0]) w') : callW Tryz.prog (.func (.func 71) #[] #[]) #[.string s] k w := C71 _ _ _ (by
  unfold S71
  rw [w_lenStr (by kernel_rfl), w_gtr, decide_eq_false (by omega), condW_false, w_lenStr (by kernel_rfl)]
  refine c96 (by omega) fun w1 hb1 => ?_
  rw [ex0, ex1, w_addStr ?_]
  · exact hk _ hb1
  · have : (lenB s.size).size = (vb (2 * s.size)).length := by show Array.size _ = _; simp
    have := (vb_len (2 * s.size)).2
    have hml : 100000000 ≤ maxLen := by decide
    omega)
end
end Go.Proofs.YtbojglaimdjagaaGreatDoor
/- Small functions of the laws: lists of strings, picks, sizes. -/
set_option linter.unusedSimpArgs false
set_option linter.unusedVariables false
set_option maxRecDepth 4000
namespace Go.Proofs.YtbojglaimdjagaaGreatDoor
open Go Go.V Go.RowKit
def in64 (x : Int) : Prop := -9223372036854775808 ≤ x ∧ x ≤ 9223372036854775807
theorem below_drew (w : World) : Below w.heap.size w w.drew := (Below.refl w.heap.size w).drew
def pkN (c n : Int) : Int := (if c < 0 then -(c + 1) else c).tmod n
theorem pkN_in {c n : Int} (hn : 0 < n) : 0 ≤ pkN c n ∧ pkN c n < n := by
  unfold pkN
  have h : 0 ≤ (if c < 0 then -(c + 1) else c) := by split <;> omega
  rw [Int.tmod_eq_emod_of_nonneg h]
  exact ⟨Int.emod_nonneg _ (by omega), Int.emod_lt_of_pos _ hn⟩
section
variable {k : Value → World → Prop} {K : Value → Prop} {w w0 : World}
theorem ro22 {K : Value → Prop} {v : Value} {l : List ByteArray} {p : Nat → Prop} {s : ByteArray} {i : Nat} {q : IntKind} (hs : IsSl fT w0 v l) (hx : l[i]? = some s) (hp : ∀ b, isOf v b → ¬ p b) (ho : Off p w0 w) : takeW Tryz.prog anyW (Instr.indexAt 22 v (.int q (i : Int))) (fun p' => takeW Tryz.prog (Off p w0) (Instr.loadAt 9 p') K w) w = K (.string s) := by
  obtain ⟨b, o, c, rfl, hlt, hcl⟩ := hs.at (i := (i : Int)) (by omega) (by simpa using hx)
  rw [takeW_pure (fun w => run_index (by kernel_rfl) (by kernel_rfl) (by omega) hlt w)]
  refine r_loadO (by kernel_rfl) (by kernel_rfl) ?_ (hp _ rfl) ho
  have hsz : sizeT Tryz.prog (elemT Tryz.prog 22) = 1 := by kernel_rfl
  have := hcl 0 (.string s) rfl
  rw [hsz]
  simpa [fT] using this
theorem t_headStr {S : World → Prop} {K : Value → Prop} {t : TypeId} {s : ByteArray} {q : IntKind} {j : Int} (h : Tryz.prog.underlying t = some .string) (h1 : 0 ≤ j) (h2 : j ≤ s.size) : takeW Tryz.prog S (Instr.sliceAt t (.string s) none (some (.int q j)) none) K w = K (.string (s.extract 0 j.toNat)) := takeW_pure fun w => run_of_eq fun k => w_headStr h h1 h2
theorem c14 {c n : Int} (hc : in64 c) (hn : 0 < n) (hk : k (I (pkN c n)) w) : callW Tryz.prog (.func (.func 14) #[] #[]) #[I c, I n] k w := C14 _ _ _ _ (by
  unfold S14
  unfold in64 at hc
  refine joinW_use1 (fun v w' => w' = w ∧ v = I (if c < 0 then -(c + 1) else c)) ?_ ?_
  · rintro _ _ ⟨rfl, rfl⟩
    rw [w_rem (by omega)]
    exact hk
  intro J hJ
  rw [w_lss]
  by_cases h : c < 0
  · rw [decide_eq_true h, condW_true, w_add, wrap_id (by omega), w_neg, wrap_id (by omega)]
    exact hJ _ _ ⟨rfl, by rw [if_pos h]⟩
  · rw [decide_eq_false h, condW_false]
    exact hJ _ _ ⟨rfl, by rw [if_neg h]⟩)
/-- the size of a law's disk -/
def szN (n : Int) : Nat := (1 + pkN n 1500).toNat
theorem szN_in {n : Int} : 1 ≤ szN n ∧ szN n ≤ 1500 ∧ (szN n : Int) = 1 + pkN n 1500 := by
  have := pkN_in (c := n) (n := 1500) (by decide)
  unfold szN
  omega
theorem c15 {n : Int} (hn : in64 n) (hk : k (I (szN n)) w) : callW Tryz.prog (.func (.func 15) #[] #[]) #[I n] k w := C15 _ _ _ (by
  unfold S15
  refine c14 hn (by decide) ?_
  have h := pkN_in (c := n) (n := 1500) (by decide)
  rw [w_add, wrap_id (by omega), ← szN_in.2.2]
  exact hk)
theorem c18 {u v : Value} {a b : List ByteArray} (hu : IsSl fT w u a) (hv : IsSl fT w v b) (hl : a.length ≤ maxLen) (hk : ∀ w', Below w.heap.size w w' → k (.bool (decide (a = b))) w') : callW Tryz.prog (.func (.func 18) #[] #[]) #[u, v] k w := C18 _ _ _ _ (by
  unfold S18
  have hml : maxLen ≤ 9223372036854775807 := by decide
  rw [len22 hu, len22 hv, w_neq]
  by_cases hlm : a.length = b.length
  case' neg =>
    rw [decide_eq_false (by omega), Bool.not_false, condW_true]
    have := hk _ (Below.refl _ _)
    rwa [decide_eq_false (fun h => hlm (by rw [h]))] at this
  rw [decide_eq_true (by omega), Bool.not_true, condW_false]
  refine Loop1.intro (fun n x w' => ∃ i : Nat, x = I i ∧ i ≤ a.length ∧ n = a.length - i ∧ Below w.heap.size w w' ∧ ∀ j, j < i → a[j]? = b[j]?) _ ⟨0, rfl, by omega, rfl, Below.refl _ _, by omega⟩ ?_
  rintro n _ w1 ⟨i, rfl, hi, rfl, hb1, hP⟩
  rw [len22 (hu.below hb1), w_lss]
  by_cases hlt : i < a.length
  case' neg =>
    rw [decide_eq_false (by omega), condW_false]
    have := hk _ hb1
    rwa [decide_eq_true (List.ext_getElem? fun j => by
      by_cases hj : j < i
      · exact hP j hj
      · rw [List.getElem?_eq_none (by omega), List.getElem?_eq_none (by omega)])] at this
  rw [decide_eq_true (by omega), condW_true, drewW_eq]
  obtain ⟨x, hx⟩ : ∃ x, a[i]? = some x := ⟨_, List.getElem?_eq_getElem hlt⟩
  obtain ⟨y, hy⟩ : ∃ y, b[i]? = some y := ⟨_, List.getElem?_eq_getElem (by omega)⟩
  have hbd := below_trans hb1 (below_drew w1)
  rw [nt22 (F := fT) rfl (hu.below hbd) hx rfl, nt22 (F := fT) rfl (hv.below hbd) hy rfl, takeW_pure fun w => run_neqStr (by kernel_rfl) w]
  by_cases hxy : x = y
  · rw [decide_eq_true hxy, Bool.not_true, condW_false, w_add, wrap_id (by omega), loopK_self]
    refine ⟨a.length - (i + 1), by omega, i + 1, by simp [I], by omega, rfl, hbd, fun j hj => ?_⟩
    by_cases hji : j = i
    · subst hji; rw [hx, hy, hxy]
    · exact hP j (by omega)
  · rw [decide_eq_false hxy, Bool.not_false, condW_true]
    have := hk _ hbd
    rwa [decide_eq_false (fun h => hxy (by rw [h, hy] at hx; exact (Option.some.inj hx).symm))] at this)
/-- at most six strings, cut -/
def cutB (s : ByteArray) : ByteArray := s.extract 0 (min s.size 100)
def fewL (l : List ByteArray) : List ByteArray := (l.take 6).map cutB
theorem fewL_ok {l : List ByteArray} : (fewL l).length ≤ 6 ∧ ∀ s ∈ fewL l, s.size ≤ 100 := by
  refine ⟨by unfold fewL; rw [List.length_map, List.length_take]; omega, fun s hs => ?_⟩
  obtain ⟨x, _, rfl⟩ := List.mem_map.1 hs
  unfold cutB
  rw [ByteArray.size_extract]; omega
theorem c11 {v : Value} {l : List ByteArray} (hs : IsSl fT w v l) (hl : l.length ≤ maxLen) (hk : ∀ v w', Below w.heap.size w w' → Mine fT 9 w' w.heap.size v (fewL l) → k v w') : callW Tryz.prog (.func (.func 11) #[] #[]) #[v] k w := C11 _ _ _ (by
  unfold S11
  have hml : maxLen ≤ 9223372036854775807 := by decide
  have hml0 : 1000000 ≤ maxLen := by decide
  refine Loop2.intro (fun n out c w' => ∃ i : Nat, c = I i ∧ i ≤ l.length ∧ i ≤ 6 ∧ n = 6 - i ∧ Below w.heap.size w w' ∧ Mine fT 9 w' w.heap.size out ((l.take i).map cutB)) _ ⟨0, rfl, by omega, by omega, rfl, Below.refl _ _, Mine.nil _ _⟩ ?_
  rintro n out _ w1 ⟨i, rfl, hil, hi6, rfl, hb1, hm⟩
  have fin : ¬ (i < l.length ∧ i < 6) → k out w1 := fun h => by
    refine hk _ _ hb1 ?_
    have : l.take i = l.take 6 := by
      rcases Nat.lt_or_ge i 6 with h6 | h6
      · rw [List.take_of_length_le (by omega), List.take_of_length_le (by omega)]
      · rw [show i = 6 by omega]
    unfold fewL
    rw [← this]; exact hm
  rw [len22 (hs.below hb1), w_lss]
  by_cases h1 : i < l.length
  · rw [decide_eq_true (by omega)]
    simp only [guardW_tt]
    rw [w_lss]
    simp only [pickW_true]
    by_cases h2 : i < 6
    · rw [decide_eq_true (by omega), condW_true, drewW_eq]
      have hbd := below_trans hb1 (below_drew w1)
      replace hm := hm.below (below_drew w1)
      generalize w1.drew = w2 at *
      obtain ⟨s, hsx⟩ : ∃ s, l[i]? = some s := ⟨_, List.getElem?_eq_getElem h1⟩
      have hpo : ∀ b, isOf v b → ¬ (w.heap.size ≤ b) := fun b hb => by
        have := IsSl.ofLt hs (by decide) (fun hh => by rw [hh] at hsx; simp at hsx) hb
        omega
      refine ⟨Off (fun b => w.heap.size ≤ b) w, Off.below hbd, ?_⟩
      rw [ro22 hs hsx hpo (Off.below hbd), ro22 hs hsx hpo (Off.below hbd), t_lenStr (by kernel_rfl), t_min]
      have hmn : (if (100 : Int) < (s.size : Int) then (100 : Int) else (s.size : Int)) = ((min s.size 100 : Nat) : Int) := by split <;> omega
      rw [hmn, t_headStr (by kernel_rfl) (by omega) (by omega)]
      refine Mine.pushS (F := fT) (x := cutB s) sty22 (fun u hu => by simp [fT] at hu; subst hu; rfl) (by rw [Int.toNat_natCast]; rfl) (by decide) hm hbd.size (by rw [List.length_map, List.length_take]; omega) (by rw [List.length_map, List.length_take]; omega) (fun w' h => Off.below (below_trans hbd h)) fun o2 w3 hm3 hb3 _ _ => ⟨Off.below (hbd.trans hb3), ?_⟩
      rw [w_add, wrap_id (by omega), loopK_self]
      refine ⟨6 - (i + 1), by omega, i + 1, by simp [I], by omega, by omega, rfl, hbd.trans hb3, ?_⟩
      rw [List.take_add_one, hsx, List.map_append]; exact hm3
    · rw [decide_eq_false (by omega), condW_false]
      exact fin (by omega)
  · rw [decide_eq_false (by omega)]
    simp only [guardW_ft, guardW_u, pickW_false]
    rw [condW_false]
    exact fin (by omega))
end
end Go.Proofs.YtbojglaimdjagaaGreatDoor
/- The disk: what it holds; a new one; what is asked of it. -/
set_option linter.unusedSimpArgs false
set_option linter.unusedVariables false
set_option maxRecDepth 4000
namespace Go.Proofs.YtbojglaimdjagaaGreatDoor
open Go Go.V Go.RowKit
structure DK where
  off : Bool
  left : Int
  dur : List UInt8
  vis : List UInt8
  pend : List (Int × ByteArray)
def fWr : Fl (Int × ByteArray) := ⟨2, fun p => [I p.1, .string p.2], fun _ => rfl⟩
/-- a disk in memory: its row, and three rows of its own, at or above B -/
structure DiskR (B : Nat) (w : World) (b : Nat) (D : DK) (dv vv pv : Value) : Prop where
  row : RowAt w b 97 [.bool D.off, I D.left, dv, vv, pv]
  base : B ≤ b
  dur : Mine fB 5 w B dv D.dur
  vis : Mine fB 5 w B vv D.vis
  pend : Mine fWr 92 w B pv D.pend
  len : D.dur.length = D.vis.length
  two : ∀ x, isOf dv x → ¬ isOf vv x
/-- the blocks of a disk -/
def dBl (b : Nat) (dv vv pv : Value) (x : Nat) : Prop := x = b ∨ isOf dv x ∨ isOf vv x ∨ isOf pv x
theorem DiskR.off {B : Nat} {w w' : World} {b : Nat} {D : DK} {dv vv pv : Value} {p : Nat → Prop} (h : DiskR B w b D dv vv pv) (ho : Off p w w') (hp : ∀ x, dBl b dv vv pv x → ¬ p x) : DiskR B w' b D dv vv pv :=
  ⟨h.row.off ho (hp _ (.inl rfl)), h.base, h.dur.off ho fun x hx => hp x (.inr (.inl hx)), h.vis.off ho fun x hx => hp x (.inr (.inr (.inl hx))), h.pend.off ho fun x hx => hp x (.inr (.inr (.inr hx))), h.len, h.two⟩
theorem DiskR.below {B : Nat} {w w' : World} {b : Nat} {D : DK} {dv vv pv : Value} (h : DiskR B w b D dv vv pv) (hb : Below w.heap.size w w') : DiskR B w' b D dv vv pv :=
  ⟨h.row.below hb, h.base, h.dur.below hb, h.vis.below hb, h.pend.below hb, h.len, h.two⟩
theorem DiskR.lt {B : Nat} {w : World} {b : Nat} {D : DK} {dv vv pv : Value} (h : DiskR B w b D dv vv pv) {x : Nat} (hx : dBl b dv vv pv x) : B ≤ x ∧ x < w.heap.size := by
  rcases hx with rfl | hx | hx | hx
  · exact ⟨h.base, h.row.lt⟩
  · exact h.dur.ge hx
  · exact h.vis.ge hx
  · exact h.pend.ge hx
theorem DiskR.lower {B B' : Nat} {w : World} {b : Nat} {D : DK} {dv vv pv : Value} (h : DiskR B w b D dv vv pv) (hb : B' ≤ B) : DiskR B' w b D dv vv pv :=
  ⟨h.row, Nat.le_trans hb h.base, h.dur.base hb, h.vis.base hb, h.pend.base hb, h.len, h.two⟩
section
variable {k : Value → World → Prop} {w : World}
theorem w_zerosM {n : Nat} (hn : n ≤ 1000000) (hk : ∀ w', Below w.heap.size w w' → Mine fB 5 w' w.heap.size (.slice (some ⟨w.heap.size, 0, none⟩) n n) (List.replicate n 0) → k (.slice (some ⟨w.heap.size, 0, none⟩) n n) w') : opW Tryz.prog (Instr.makeSlice 39 (I n) (I n)) k w := by
  have hml : 1000000 ≤ maxLen := by decide
  refine w_make (base := w.heap.size) sty39 (by omega) (by omega) (Nat.le_refl _) fun w' ho hg => ?_
  have hfl : flat fB (List.replicate n 0) = (madeCells (Value.int .u8 0).cells (n * 1)).toList := by
    rw [show (Value.int .u8 0).cells = #[Value.int .u8 0] from rfl, toList_madeCells_one, Nat.mul_one]
    clear ho hg hn hk
    induction n with
    | zero => rfl
    | succ n ih => simp [List.replicate_succ, flat, fB] at ih ⊢; exact ih
  refine hk w' ⟨hg.os, hg.tape, hg.output, hg.size, fun k hk => hg.block k hk (by simp)⟩ ?_
  unfold Mine
  rw [hfl, List.length_replicate]
  exact ho
theorem b97 {a1 a2 : Option Addr} {n1 n2 c1 c2 : Nat} : opW Tryz.prog (Instr.build 97 #[(1, .slice a1 n1 c1), (2, .slice a2 n2 c2)]) k w = k (.agg ([.bool false, I 0, .slice a1 n1 c1, .slice a2 n2 c2, nS] : List Value).toArray) w := opW_ok (by kernel_rfl)
def newD (n : Nat) : DK := ⟨false, 0, List.replicate n 0, List.replicate n 0, []⟩
theorem c24 {n : Nat} (h1 : 1 ≤ n) (h2 : n ≤ 100000) (hk : ∀ b dv vv w', Below w.heap.size w w' → DiskR w.heap.size w' b (newD n) dv vv nS → k (.tuple #[.pointer (some ⟨b, 0, none⟩), I 0]) w') : callW Tryz.prog (.func (.func 24) #[] #[]) #[I n] k w := C24 _ _ _ (by
  unfold S24
  rw [w_lss, decide_eq_false (by omega)]
  simp only [guardW_ff, pickW_false]
  rw [w_gtr, decide_eq_false (by omega), condW_false]
  refine joinW_use1 (fun v w' => ∃ b dv vv, v = .pointer (some ⟨b, 0, none⟩) ∧ Below w.heap.size w w' ∧ DiskR w.heap.size w' b (newD n) dv vv nS) ?_ ?_
  · rintro _ w' ⟨b, dv, vv, rfl, hb, hd⟩
    exact hk _ _ _ _ hb hd
  intro J hJ
  rw [drewW_eq]
  have hbd := below_drew w
  generalize w.drew = w1 at *
  have fin : ∀ (w3 : World) (g1 g2 : Nat), Below w.heap.size w w3 → w.heap.size ≤ g1 → w.heap.size ≤ g2 → g1 ≠ g2 → Mine fB 5 w3 w.heap.size (.slice (some ⟨g1, 0, none⟩) n n) (List.replicate n 0) → Mine fB 5 w3 w.heap.size (.slice (some ⟨g2, 0, none⟩) n n) (List.replicate n 0) →
      opW Tryz.prog (Instr.build 97 #[(1, .slice (some ⟨g1, 0, none⟩) n n), (2, .slice (some ⟨g2, 0, none⟩) n n)]) (fun t w => opW Tryz.prog (Instr.box 97 t) (fun t w => J t w) w) w3 := fun w3 g1 g2 hb3 hg1 hg2 hne hm1 hm2 => by
    rw [b97]
    refine w_boxN fun w4 hb4 _ hr4 => ?_
    exact hJ _ _ ⟨_, _, _, rfl, below_trans hb3 hb4, hr4, hb3.size, hm1.below hb4, hm2.below hb4, Mine.nil _ _, rfl, fun x hx hy => hne (by cases hx; cases hy; rfl)⟩
  refine ⟨?_, ?_⟩
  · refine w_zerosM (by omega) fun w2 hb2 hm2 => ?_
    refine w_zerosM (by omega) fun w3 hb3 hm3 => ?_
    have e1 := hbd.size
    have e2 := (hm2.ge (b := w1.heap.size) rfl).2
    exact fin w3 _ _ (below_trans (below_trans hbd hb2) hb3) e1 (by omega) (by omega) ((hm2.below hb3).base e1) (hm3.base (by omega))
  · refine w_zerosM (by omega) fun w2 hb2 hm2 => ?_
    refine w_zerosM (by omega) fun w3 hb3 hm3 => ?_
    have e1 := hbd.size
    have e2 := (hm2.ge (b := w1.heap.size) rfl).2
    exact fin w3 _ _ (below_trans (below_trans hbd hb2) hb3) (by omega) e1 (by omega) (hm3.base (by omega)) ((hm2.below hb3).base e1))
theorem eqP27 {ox oy : Operand} {a : Addr} : opW Tryz.prog (binS .eql 27 ox oy (.pointer (some a)) (.pointer none)) k w = k (.bool false) w := opW_ok (by kernel_rfl)
variable {B b : Nat} {D : DK} {dv vv pv : Value}
theorem c46 (h : DiskR B w b D dv vv pv) (hk : k (I (if D.off = true then 331 else 0)) w) : callW Tryz.prog (.func (.func 46) #[] #[]) #[.pointer (some ⟨b, 0, none⟩)] k w := C46 _ _ _ (by
  unfold S46
  rw [eqP27]
  simp only [condW_false, nilW_ptr]
  rw [fl97_0, fl95_0, w_load (t := 4) (by kernel_rfl) (by kernel_rfl) (h.row.cell (i := 0) rfl)]
  cases hoff : D.off with
  | true => rw [condW_true]; rw [hoff] at hk; exact hk
  | false => rw [condW_false]; rw [hoff] at hk; exact hk)
theorem c51 (h : DiskR B w b D dv vv pv) (hk : k (I D.dur.length) w) : callW Tryz.prog (.func (.func 51) #[] #[]) #[.pointer (some ⟨b, 0, none⟩)] k w := C51 _ _ _ (by
  unfold S51
  rw [eqP27]
  simp only [condW_false, nilW_ptr]
  rw [rw97_1 (h.row.cell (i := 0 + 2) rfl), len39 h.dur.sl]
  exact hk)
theorem c47 {o n : Int} (h : DiskR B w b D dv vv pv) (ho : in64 o) (hk : k (.bool (decide (0 ≤ o ∧ 0 ≤ n ∧ o ≤ D.dur.length ∧ n ≤ D.dur.length - o))) w) : callW Tryz.prog (.func (.func 47) #[] #[]) #[.pointer (some ⟨b, 0, none⟩), I o, I n] k w := C47 _ _ _ _ _ (by
  unfold S47
  have hml : maxLen ≤ 9223372036854775807 := by decide
  have hl : D.dur.length ≤ maxLen := by
    obtain ⟨a, c, e, hc, hx⟩ := h.dur.sl
    rcases h.dur.2 with ⟨_, h0⟩ | ⟨g, cap, cur, _, _, _, hnc, hcm, _⟩
    · omega
    · omega
  unfold in64 at ho
  rw [w_geq]
  by_cases h1 : 0 ≤ o
  case' neg =>
    rw [decide_eq_false h1]
    simp only [guardW_ft, guardW_u, pickW_false]
    rw [decide_eq_false (fun hh => h1 hh.1)] at hk
    exact hk
  rw [decide_eq_true h1]
  simp only [guardW_tt, pickW_true]
  rw [w_geq]
  by_cases h2 : 0 ≤ n
  case' neg =>
    rw [decide_eq_false h2]
    simp only [guardW_ft, guardW_u, pickW_false]
    rw [decide_eq_false (fun hh => h2 hh.2.1)] at hk
    exact hk
  rw [decide_eq_true h2]
  simp only [guardW_tt, pickW_true, nilW_ptr]
  rw [rw97_1 (h.row.cell (i := 0 + 2) rfl), len39 h.dur.sl, w_leq]
  by_cases h3 : o ≤ D.dur.length
  case' neg =>
    rw [decide_eq_false h3]
    simp only [guardW_ft, guardW_u, pickW_false]
    rw [decide_eq_false (fun hh => h3 hh.2.2.1)] at hk
    exact hk
  rw [decide_eq_true h3]
  simp only [guardW_tt, pickW_true, nilW_ptr]
  rw [rw97_1 (h.row.cell (i := 0 + 2) rfl), len39 h.dur.sl, w_sub, wrap_id (by omega), w_leq]
  by_cases h4 : n ≤ D.dur.length - o
  · rw [decide_eq_true h4]
    rw [decide_eq_true ⟨h1, h2, h3, h4⟩] at hk
    exact hk
  · rw [decide_eq_false h4]
    rw [decide_eq_false (fun hh => h4 hh.2.2.2)] at hk
    exact hk)
end
end Go.Proofs.YtbojglaimdjagaaGreatDoor
/- The disk: power, reading. -/
set_option linter.unusedSimpArgs false
set_option linter.unusedVariables false
set_option maxRecDepth 4000
namespace Go.V
open Go Go.RowKit
def Tag (w : World) (g t : Nat) : Prop := ∃ cur, w.heap[g]? = some (.cells cur t (0, 0))
theorem Tag.uniq {w : World} {g t t' : Nat} (h : Tag w g t) (h' : Tag w g t') : t = t' := by
  obtain ⟨a, ha⟩ := h
  obtain ⟨b, hb⟩ := h'
  rw [ha] at hb
  simp at hb
  exact hb.2
theorem RowAt.tag {w : World} {b t : Nat} {vs : List Value} (h : RowAt w b t vs) : Tag w b t := ⟨_, h⟩
theorem Mine.tag {α : Type} {F : Fl α} {e B x : Nat} {w : World} {v : Value} {l : List α} (h : Mine F e w B v l) (hx : isOf v x) : Tag w x e := by
  rcases h.2 with ⟨rfl, _⟩ | ⟨g, cap, cur, rfl, _, hgg, _⟩
  · simp [isOf, Value.ownBlock] at hx
  · simp [isOf, Value.ownBlock] at hx
    subst hx; exact ⟨_, hgg⟩
/-- the blocks that may change are rows of another type than t -/
def Apart (w : World) (p : Nat → Prop) (t : Nat) : Prop := ∀ x, p x → ∃ t', Tag w x t' ∧ t' ≠ t
theorem apMine {α : Type} {F : Fl α} {e B t : Nat} {w : World} {v : Value} {l : List α} (h : Mine F e w B v l) (ht : e ≠ t) : Apart w (isOf v) t := fun x hx => ⟨e, Mine.tag h hx, ht⟩
theorem apRow {w : World} {b t s : Nat} {vs : List Value} (h : RowAt w b t vs) (ht : t ≠ s) : Apart w (fun x => x = b) s := fun x hx => by subst hx; exact ⟨t, RowAt.tag h, ht⟩
theorem Mine.apart {α : Type} {F : Fl α} {e B : Nat} {w w' : World} {v : Value} {l : List α} {p : Nat → Prop} (h : Mine F e w B v l) (ho : Off p w w') (ha : Apart w p e) : Mine F e w' B v l := Go.V.Mine.off h ho fun x hx hp => by
  obtain ⟨t, h1, h2⟩ := ha x hp
  exact h2 (h1.uniq (Mine.tag h hx))
theorem RowAt.apart {w w' : World} {b t : Nat} {vs : List Value} {p : Nat → Prop} (h : RowAt w b t vs) (ho : Off p w w') (ha : Apart w p t) : RowAt w' b t vs := Go.V.RowAt.off h ho fun hp => by
  obtain ⟨t', h1, h2⟩ := ha b hp
  exact h2 (h1.uniq (RowAt.tag h))
end Go.V
namespace Go.Proofs.YtbojglaimdjagaaGreatDoor
open Go Go.V Go.RowKit
/-- a write is counted -/
def usedD (D : DK) : DK := if D.left = 0 then D else { D with left := D.left - 1, off := decide (D.left - 1 = 0) }
theorem usedD_dur (D : DK) : (usedD D).dur = D.dur ∧ (usedD D).vis = D.vis ∧ (usedD D).pend = D.pend := by unfold usedD; split <;> exact ⟨rfl, rfl, rfl⟩
section
variable {k : Value → World → Prop} {w : World} {B b : Nat} {D : DK} {dv vv pv : Value}
/-- a store into the row of a disk -/
theorem DiskR.put (h : DiskR B w b D dv vv pv) {w' : World} (ho : Off (fun x => x = b) w w') {D' : DK} (hr : RowAt w' b 97 [.bool D'.off, I D'.left, dv, vv, pv]) (h1 : D'.dur = D.dur) (h2 : D'.vis = D.vis) (h3 : D'.pend = D.pend) : DiskR B w' b D' dv vv pv := by
  have ne : ∀ {α : Type} {F : Fl α} {e : Nat} {v : Value} {l : List α}, Mine F e w B v l → e ≠ 97 → ∀ x, isOf v x → ¬ x = b := fun hm he x hx hh => by
    subst hh
    exact he (Tag.uniq (Mine.tag hm hx) (RowAt.tag h.row))
  exact ⟨hr, h.base, by rw [h1]; exact h.dur.off ho (ne h.dur (by decide)), by rw [h2]; exact h.vis.off ho (ne h.vis (by decide)), by rw [h3]; exact h.pend.off ho (ne h.pend (by decide)), by rw [h1, h2]; exact h.len, h.two⟩
theorem c49 (h : DiskR B w b D dv vv pv) (hl : 0 ≤ D.left ∧ D.left ≤ 1000000) (hk : ∀ w', DiskR B w' b (usedD D) dv vv pv → Off (fun x => x = b) w w' → Below B w w' → k (.tuple #[]) w') : callW Tryz.prog (.func (.func 49) #[] #[]) #[.pointer (some ⟨b, 0, none⟩)] k w := C49 _ _ _ (by
  unfold S49
  simp only [nilW_ptr]
  rw [fl95_1, ld3 (h.row.cell (i := 0 + 1) rfl), w_eql]
  by_cases h0 : D.left = 0
  · rw [decide_eq_true h0, condW_true]
    refine hk _ ?_ (Off.refl _ _) (Below.refl _ _)
    unfold usedD
    rw [if_pos h0]; exact h
  · rw [decide_eq_false h0, condW_false]
    rw [fl95_1, ld3 (h.row.cell (i := 0 + 1) rfl), w_sub, wrap_id (by omega), fl95_1, st3 rfl (h.row.cell (i := 0 + 1) rfl) (h.row.free _)]
    have hr1 : RowAt (w.setCell ⟨b, 0 + 1, none⟩ (I (D.left - 1))) b 97 [.bool D.off, I (D.left - 1), dv, vv, pv] := h.row.set 1 _
    rw [fl95_1, ld3 (hr1.cell (i := 0 + 1) rfl), w_eql, fl95_0, st4 rfl (hr1.cell (i := 0) rfl) (hr1.free _)]
    have hr2 : RowAt ((w.setCell ⟨b, 0 + 1, none⟩ (I (D.left - 1))).setCell ⟨b, 0, none⟩ (.bool (decide (D.left - 1 = 0)))) b 97 [.bool (decide (D.left - 1 = 0)), I (D.left - 1), dv, vv, pv] := hr1.set 0 _
    have ho : Off (fun x => x = b) w ((w.setCell ⟨b, 0 + 1, none⟩ (I (D.left - 1))).setCell ⟨b, 0, none⟩ (.bool (decide (D.left - 1 = 0)))) := (Off.set (p := fun x => x = b) rfl).trans (Off.set (p := fun x => x = b) rfl)
    have e : usedD D = { D with left := D.left - 1, off := decide (D.left - 1 = 0) } := by unfold usedD; rw [if_neg h0]
    exact hk _ (h.put ho (D' := usedD D) (by rw [e]; exact hr2) (usedD_dur D).1 (usedD_dur D).2.1 (usedD_dur D).2.2) ho (((Below.refl B w).setCell h.base _).setCell h.base _))
theorem c32 (h : DiskR B w b D dv vv pv) (hk : k (I D.pend.length) w) : callW Tryz.prog (.func (.func 32) #[] #[]) #[.pointer (some ⟨b, 0, none⟩)] k w := C32 _ _ _ (by
  unfold S32
  rw [eqP27]
  simp only [condW_false, nilW_ptr]
  rw [rw97_3 (h.row.cell (i := 0 + 4) rfl), w_lenS (by kernel_rfl) h.pend.sl]
  exact hk)
/-- all of a disk is read -/
theorem c52 (h : DiskR B w b D dv vv pv) (hne : D.dur ≠ []) (hk : ∀ e, (D.off = true → e = .tuple #[.string ⟨#[]⟩, I 331]) → (D.off = false → e = .tuple #[.string ⟨D.vis.toArray⟩, I 0]) → k e w) : callW Tryz.prog (.func (.func 52) #[] #[]) #[.pointer (some ⟨b, 0, none⟩), I 0, I D.dur.length] k w := C52 _ _ _ _ _ (by
  unfold S52
  refine c46 h ?_
  cases hoff : D.off with
  | true =>
    rw [if_pos rfl, w_neq]
    simp only [show decide ((331 : Int) = 0) = false from rfl, Bool.not_false]
    rw [condW_true]
    exact hk _ (fun _ => rfl) (fun hh => by rw [hoff] at hh; cases hh)
  | false =>
    rw [if_neg (by simp), w_neq]
    simp only [decide_true, Bool.not_true]
    rw [condW_false]
    refine c47 h (by unfold in64; omega) ?_
    rw [decide_eq_true ⟨by omega, by omega, by omega, by omega⟩, w_not, Bool.not_true, condW_false]
    simp only [nilW_ptr]
    have hvl : D.vis.length = D.dur.length := h.len.symm
    rw [rw97_2 (h.row.cell (i := 0 + 3) rfl)]
    refine w_from (F := fB) (x := 0) (lo := 0) rfl (by kernel_rfl) (by kernel_rfl) (by kernel_rfl) h.vis.sl (by omega) fun v1 hv1 => ?_
    rw [List.drop_zero] at hv1
    refine w_headX (F := fB) (x := (D.dur.length : Int)) (m := D.dur.length) rfl (by kernel_rfl) (by kernel_rfl) (by kernel_rfl) hv1 (by omega) fun v2 hv2 => ?_
    have h2 := hv2 w hv1
    rw [List.take_of_length_le (by omega)] at h2
    rw [w_toStr (e := 5) (by kernel_rfl) (by kernel_rfl) (by kernel_rfl) h2 (fun hh => by
      rw [hh] at hvl
      exact hne (List.eq_nil_of_length_eq_zero hvl.symm))]
    exact hk _ (fun hh => by rw [hoff] at hh; cases hh) (fun _ => rfl))
end
end Go.Proofs.YtbojglaimdjagaaGreatDoor
/- The disk: a write is laid onto a content. -/
set_option linter.unusedSimpArgs false
set_option linter.unusedVariables false
set_option maxRecDepth 4000
namespace Go.Proofs.YtbojglaimdjagaaGreatDoor
open Go Go.V Go.RowKit Go.Proofs
/-- a string laid onto a content -/
def ontoL (l : List UInt8) (o : Nat) (s : ByteArray) : List UInt8 := l.take o ++ s.data.toList ++ l.drop (o + s.size)
theorem ontoL_len {l : List UInt8} {o : Nat} {s : ByteArray} (h : o + s.size ≤ l.length) : (ontoL l o s).length = l.length := by
  unfold ontoL
  have : s.data.toList.length = s.size := by simp
  simp only [List.length_append, List.length_take, List.length_drop, this]
  omega
theorem flatB : ∀ l : List UInt8, flat fB l = l.map fun x => Value.int .u8 (x.toNat : Int)
  | [] => rfl
  | x :: r => by show [_] ++ flat fB r = _; rw [flatB r]; rfl
section
variable {k : Value → World → Prop} {w : World} {B : Nat}
/-- the copy itself -/
theorem copy_onto {g cap o : Nat} {l : List UInt8} {s : ByteArray} {dLen dCap : Nat} (hm : Mine fB 5 w B (.slice (some ⟨g, 0, none⟩) l.length cap) l) (hl : o + s.size ≤ l.length) (hd : s.size ≤ dLen)
    (hk : ∀ w', Mine fB 5 w' B (.slice (some ⟨g, 0, none⟩) l.length cap) (ontoL l o s) → Off (fun x => x = g) w w' → Below B w w' → k (I s.size) w') : opW Tryz.prog (Builtin.copy_ #[39, 9] 3 #[.slice (some ⟨g, o, none⟩) dLen dCap, .string s]) k w := by
  rcases id hm.2 with ⟨he, _⟩ | ⟨g', cap', cur, he, hB, hgg, hnc, hcm, hcs, htk⟩
  · cases he
  simp only [Value.slice.injEq, Option.some.injEq, Addr.mk.injEq, and_true, true_and] at he
  obtain ⟨rfl, rfl⟩ := he
  have hsz : fB.sz = 1 := rfl
  rw [hsz, Nat.mul_one] at hcs htk
  have hrow : RowAt w g 5 cur.toList := hgg
  have hcl : cur.toList.length = cap := by simpa using hcs
  have hsl : s.data.toList.length = s.size := by simp
  obtain ⟨R, hR⟩ : ∃ R, cur.toList = (l.map fun x => Value.int .u8 (x.toNat : Int)) ++ R := ⟨cur.toList.drop l.length, by rw [← flatB, ← htk, List.take_append_drop]⟩
  have hLl : (l.map fun x => Value.int .u8 (x.toNat : Int)).length = l.length := by simp
  have hbl : (s.data.toList.map fun x => Value.int .u8 (x.toNat : Int)).length = s.size := by simp
  rw [opW_ok (run_copy_string (P := Tryz.prog) w 39 9 3 5 g o dLen dCap s (by kernel_rfl) (fun w => by kernel_rfl) hd (fun j hj => by
    rw [hrow.cell (i := o + j) (u := cur.toList[o + j]'(by omega)) (List.getElem?_eq_getElem _)]; rfl) (fun j _ => hrow.free _))]
  rw [setCells_eq]
  have hsplit : cur.toList = (l.map fun x => Value.int .u8 (x.toNat : Int)).take o ++ ((l.map fun x => Value.int .u8 (x.toNat : Int)).drop o).take s.size ++ ((l.map fun x => Value.int .u8 (x.toNat : Int)).drop (o + s.size) ++ R) := by
    rw [hR, ← List.append_assoc, List.append_assoc (List.take o _), show (l.map fun x => Value.int .u8 (x.toNat : Int)).drop (o + s.size) = ((l.map fun x => Value.int .u8 (x.toNat : Int)).drop o).drop s.size by rw [List.drop_drop], List.take_append_drop, List.take_append_drop]
  have hpl : ((l.map fun x => Value.int .u8 (x.toNat : Int)).take o).length = o := by rw [List.length_take]; omega
  have hrow2 := hrow
  rw [hsplit] at hrow2
  have hr3 := rowAt_setMid (s.data.toList.map fun x => Value.int .u8 (x.toNat : Int)) _ _ _ w hrow2 (by rw [List.length_take, List.length_drop]; omega)
  rw [hpl] at hr3
  have hol := ontoL_len hl
  have hof := only_setCells (b := g) (s.data.toList.map fun x => Value.int .u8 (x.toNat : Int)) o w
  have hfl : flat fB (ontoL l o s) = (l.map fun x => Value.int .u8 (x.toNat : Int)).take o ++ (s.data.toList.map fun x => Value.int .u8 (x.toNat : Int)) ++ (l.map fun x => Value.int .u8 (x.toNat : Int)).drop (o + s.size) := by
    rw [flatB]; unfold ontoL; simp [List.map_append, List.map_take, List.map_drop]
  refine hk _ ?_ (Off.only hof rfl) (hof.rest _ hB)
  refine ⟨by rw [flat_length], .inr ⟨g, cap, ((l.map fun x => Value.int .u8 (x.toNat : Int)).take o ++ (s.data.toList.map fun x => Value.int .u8 (x.toNat : Int)) ++ ((l.map fun x => Value.int .u8 (x.toNat : Int)).drop (o + s.size) ++ R)).toArray, by rw [hol], hB, hr3, by rw [hol]; exact hnc, hcm, ?_, ?_⟩⟩
  · have := congrArg List.length hsplit
    simp only [List.length_append, List.length_take, List.length_drop] at this
    simp only [List.size_toArray, List.length_append, List.length_take, List.length_drop, hsz, Nat.mul_one]
    omega
  · rw [hfl, hol, hsz, Nat.mul_one, ← List.append_assoc, List.take_append_of_le_length (by simp only [List.length_append, List.length_take, List.length_drop]; omega), List.take_of_length_le (by simp only [List.length_append, List.length_take, List.length_drop]; omega)]
end
end Go.Proofs.YtbojglaimdjagaaGreatDoor
/- The disk: a write laid onto a content. -/
set_option linter.unusedSimpArgs false
set_option linter.unusedVariables false
set_option maxRecDepth 4000
namespace Go.Proofs.YtbojglaimdjagaaGreatDoor
open Go Go.V Go.RowKit
theorem ontoL_nil {l : List UInt8} {o : Nat} {s : ByteArray} (h : s.size = 0) : ontoL l o s = l := by
  unfold ontoL
  have : s.data.toList = [] := List.eq_nil_of_length_eq_zero (by simpa using h)
  rw [this, h, Nat.add_zero, List.append_nil, List.take_append_drop]
section
variable {k : Value → World → Prop} {w : World} {B : Nat}
theorem c48 {o : Nat} {s : ByteArray} {l : List UInt8} {vv : Value} (hm : Mine fB 5 w B vv l) (hne : l ≠ []) (hl : o + s.size ≤ l.length) (hB : B ≤ w.heap.size)
    (hk : ∀ w', Mine fB 5 w' B vv (ontoL l o s) → Off (isOf vv) w w' → Below B w w' → k (.tuple #[]) w') : callW Tryz.prog (.func (.func 48) #[] #[]) #[.agg #[I o, .string s], vv] k w := C48 _ _ _ _ (by
  unfold S48
  refine w_boxN (v := .agg #[I o, .string s]) fun w1 hb1 hsz1 hr1 => ?_
  replace hr1 : RowAt w1 w.heap.size 92 [I o, .string s] := hr1
  rw [drewW_eq]
  have hb1' := below_trans hb1 (below_drew w1)
  have hm1 := hm.below hb1'
  replace hr1 := hr1.drew
  have hnb : ¬ isOf vv w.heap.size := fun hh => by have := (hm.ge hh).2; omega
  generalize w1.drew = w2 at *
  refine ⟨Off (isOf vv) w2, Off.refl _ _, ?_⟩
  rw [ro92_0 (hr1.cell (i := 0) rfl) hnb (Off.refl _ _)]
  rcases id hm.2 with ⟨_, h0⟩ | ⟨g, cap, cur, rfl, hgB, hgg, hnc, hcm, _⟩
  · exact absurd (List.eq_nil_of_length_eq_zero h0) hne
  have fin : ∀ (w' : World), Mine fB 5 w' B (.slice (some ⟨g, 0, none⟩) l.length cap) (ontoL l o s) → Off (fun x => x = g) w2 w' → Below B w2 w' → keepS (Off (isOf (.slice (some ⟨g, 0, none⟩) l.length cap)) w2) (fun w => k (.tuple #[]) w) w' := fun w' h1 h2 h3 => by
    have h2' : Off (isOf (.slice (some ⟨g, 0, none⟩) l.length cap)) w2 w' := h2.mono fun i _ hi => by subst hi; rfl
    rw [keepS_eq]
    exact ⟨h2', hk _ h1 ((Off.below hb1').trans h2') ((hb1'.mono hB).trans h3)⟩
  rw [takeW_pure (fun w => run_sliceFrom (n := l.length) (c := cap) (i := o) (q := .i64) (by kernel_rfl) (by kernel_rfl) (by omega) w), rt92_1 (hr1.cell (i := 0 + 1) rfl)]
  by_cases hco : cap = o
  · rw [if_pos hco]
    have hs0 : s.size = 0 := by omega
    refine copy_onto (o := 0) hm1 (by omega) (by omega) fun w' h1 h2 h3 => ?_
    rw [ontoL_nil hs0] at h1
    exact fin w' (by rw [ontoL_nil hs0]; exact h1) h2 h3
  · rw [if_neg hco]
    have he : Option.map (fun x => x.add (o * sizeT Tryz.prog (Tryz.prog.elem 39))) (some (⟨g, 0, none⟩ : Addr)) = some ⟨g, o, none⟩ := by
      rw [show sizeT Tryz.prog (Tryz.prog.elem 39) = 1 by kernel_rfl, Nat.mul_one, Option.map_some, add_none, Nat.zero_add]
    rw [he]
    exact copy_onto hm1 hl (by omega) fun w' h1 h2 h3 => fin w' h1 h2 h3)
end
end Go.Proofs.YtbojglaimdjagaaGreatDoor
/- The disk: Write. -/
set_option linter.unusedSimpArgs false
set_option linter.unusedVariables false
set_option maxRecDepth 4000
namespace Go.Proofs.YtbojglaimdjagaaGreatDoor
open Go Go.V Go.RowKit
/-- a write that is taken -/
def wrD (D : DK) (o : Nat) (s : ByteArray) : DK := usedD { D with vis := ontoL D.vis o s, pend := D.pend ++ [((o : Int), s)] }
section
variable {k : Value → World → Prop} {w : World} {B b : Nat} {D : DK} {dv vv pv : Value}
theorem b92 {o : Int} {s : ByteArray} : opW Tryz.prog (Instr.build 92 #[(0, I o), (1, .string s)]) k w = k (.agg ([I o, .string s] : List Value).toArray) w := opW_ok (by kernel_rfl)
theorem c13 {o : Nat} {s : ByteArray} (h : DiskR B w b D dv vv pv) (hne : D.dur ≠ []) (hon : D.off = false) (hin : o + s.size ≤ D.dur.length) (hlen : D.dur.length ≤ 1000000) (hleft : 0 ≤ D.left ∧ D.left ≤ 1000000) (hpl : D.pend.length ≤ 100000) (hBw : B ≤ w.heap.size)
    (hk : ∀ w' pv', DiskR B w' b (wrD D o s) dv vv pv' → Off (dBl b dv vv pv) w w' → Below B w w' → (∀ x, isOf pv' x → isOf pv x ∨ w.heap.size ≤ x) → k (I 0) w') : callW Tryz.prog (.func (.func 13) #[] #[]) #[.pointer (some ⟨b, 0, none⟩), I o, .string s] k w := C13 _ _ _ _ _ (by
  unfold S13
  have hml : 100000000 ≤ maxLen := by decide
  refine c46 h ?_
  rw [hon, if_neg (by simp), w_neq]
  simp only [decide_true, Bool.not_true]
  rw [condW_false, w_lenStr (by kernel_rfl)]
  refine c47 h (by unfold in64; omega) ?_
  rw [decide_eq_true ⟨by omega, by omega, by omega, by omega⟩, w_not, Bool.not_true, condW_false, b92]
  refine al92 fun w1 hb1 _ hr1 => ?_
  refine sr92 (vs := [I o, .string s]) rfl hr1 rfl (by simp [Value.oneCell']) fun w2 ho2 hr2 => ?_
  have hb2 : Below w.heap.size w w2 := hb1.trans (ho2.rest _ (Nat.le_refl _))
  rw [drewW_eq]
  have hb3 := below_trans hb2 (below_drew w2)
  replace hr2 := hr2.drew
  have h3 := h.below hb3
  generalize w2.drew = w3 at *
  have hlt3 : w.heap.size < w3.heap.size := hr2.lt
  have hnp : ¬ isOf pv w.heap.size := fun hh => by have := (h.pend.ge hh).2; omega
  have hnb : ¬ isOf pv b := fun hh => by
    have := Tag.uniq (Mine.tag h.pend hh) (RowAt.tag h.row)
    cases this
  refine ⟨Off (isOf pv) w3, Off.refl _ _, ?_⟩
  rw [nilT_ptr, ro97_3 (h3.row.cell (i := 0 + 4) rfl) hnb (Off.refl _ _), lo92 rfl hr2.cells hnp (Off.refl _ _)]
  have hB3 : B ≤ w3.heap.size := Nat.le_trans hBw hb3.size
  refine Mine.pushS (F := fWr) (x := ((o : Int), s)) sty93 (fun u hu => by simp [fWr] at hu; rcases hu with rfl | rfl <;> rfl) rfl (by decide) h3.pend hB3 (by omega) (by omega) (fun w' hb' => Off.below hb') fun pv4 w4 hm4 hb4 ho4 hu4 => ⟨ho4, ?_⟩
  have hov : pv4.oneCell' = true := by obtain ⟨a9, c9, rfl, -⟩ := hm4.sl; rfl
  have hr4 := h3.row.off ho4 hnb
  rw [nilT_ptr, tfl97_3, st93 hov (hr4.cell (i := 0 + 4) rfl) (hr4.free _)]
  have hof : Off (fun x => x = b) w4 (w4.setCell ⟨b, 0 + 4, none⟩ pv4) := Off.set (p := fun x => x = b) rfl
  have hbb : b < w.heap.size := h.row.lt
  have h5 : DiskR B (w4.setCell ⟨b, 0 + 4, none⟩ pv4) b { D with pend := D.pend ++ [((o : Int), s)] } dv vv pv4 :=
    ⟨hr4.set 4 pv4, h.base, (h3.dur.apart ho4 (apMine h3.pend (by decide))).apart hof (apRow hr4 (by decide)), (h3.vis.apart ho4 (apMine h3.pend (by decide))).apart hof (apRow hr4 (by decide)), hm4.apart hof (apRow hr4 (by decide)), h.len, h.two⟩
  have hr5 := (hr2.off ho4 hnp).off hof (by omega)
  have ho35 : Off (dBl b dv vv pv) w3 (w4.setCell ⟨b, 0 + 4, none⟩ pv4) := (ho4.mono fun x _ hx => .inr (.inr (.inr hx))).trans (hof.mono fun x _ hx => .inl hx)
  have hb35 : Below B w3 (w4.setCell ⟨b, 0 + 4, none⟩ pv4) := hb4.setCell h.base _
  clear hr4 hof hb4 ho4
  generalize w4.setCell ⟨b, 0 + 4, none⟩ pv4 = w5 at *
  rw [drewW_eq]
  have hd5 := below_drew w5
  replace h5 := h5.below hd5
  replace hr5 := hr5.below hd5
  replace ho35 : Off (dBl b dv vv pv) w3 w5.drew := ho35.trans (Off.below hd5)
  replace hb35 : Below B w3 w5.drew := hb35.trans (hd5.mono (Nat.le_trans hB3 hb35.size))
  generalize w5.drew = w6 at *
  have hvl : D.vis.length = D.dur.length := h.len.symm
  have hvne : D.vis ≠ [] := fun hh => by
    rw [hh] at hvl
    exact hne (List.eq_nil_of_length_eq_zero hvl.symm)
  rw [xld92 rfl hr5.cells, nilT_ptr, rt97_2 (h5.row.cell (i := 0 + 3) rfl)]
  refine c48 h5.vis hvne (by show o + s.size ≤ D.vis.length; omega) (Nat.le_trans hB3 hb35.size) fun w7 hm7 ho7 hb7 => ?_
  have hvb : ¬ isOf vv b := fun hh => by
    have := Tag.uniq (Mine.tag h5.vis hh) (RowAt.tag h5.row)
    cases this
  have h7 : DiskR B w7 b { D with vis := ontoL D.vis o s, pend := D.pend ++ [((o : Int), s)] } dv vv pv4 :=
    ⟨h5.row.off ho7 hvb, h.base, h5.dur.off ho7 h.two, hm7, h5.pend.apart ho7 (apMine h5.vis (by decide)), by show D.dur.length = _; rw [ontoL_len (by omega)]; exact h.len, h.two⟩
  simp only [nilW_ptr]
  rw [fl97_0]
  refine c49 h7 hleft fun w8 h8 ho8 hb8 => ?_
  refine hk _ _ h8 ?_ (((hb3.mono hBw).trans hb35).trans (hb7.trans hb8)) fun x hx => ?_
  · exact ((Off.below hb3).trans ho35).trans ((ho7.mono fun x _ hx => .inr (.inr (.inl hx))).trans (ho8.mono fun x _ hx => .inl hx))
  · rcases hu4 x hx with h1 | h1
    · exact .inl h1
    · exact .inr (Nat.le_trans hb3.size h1))
end
end Go.Proofs.YtbojglaimdjagaaGreatDoor
/- The disk: Cut. -/
set_option linter.unusedSimpArgs false
set_option linter.unusedVariables false
set_option maxRecDepth 4000
namespace Go.Proofs.YtbojglaimdjagaaGreatDoor
open Go Go.V Go.RowKit
/-- the power is to fail after n writes -/
def cutD (D : DK) (n : Int) : DK := { D with off := decide (n = 0), left := n }
section
variable {k : Value → World → Prop} {w : World} {B b : Nat} {D : DK} {dv vv pv : Value}
theorem b95 {x : Bool} {n : Int} : opW Tryz.prog (Instr.build 95 #[(0, .bool x), (1, I n)]) k w = k (.agg ([.bool x, I n] : List Value).toArray) w := opW_ok (by kernel_rfl)
theorem c29 {n : Int} (h : DiskR B w b D dv vv pv) (hn : 0 ≤ n) (hk0 : D.off = true → k (I 331) w)
    (hk : D.off = false → ∀ w', DiskR B w' b (cutD D n) dv vv pv → Off (fun x => x = b) w w' → Below B w w' → k (I 0) w') : callW Tryz.prog (.func (.func 29) #[] #[]) #[.pointer (some ⟨b, 0, none⟩), I n] k w := C29 _ _ _ _ (by
  unfold S29
  refine c46 h ?_
  cases hoff : D.off with
  | true =>
    rw [if_pos rfl, w_neq]
    simp only [show decide ((331 : Int) = 0) = false from rfl, Bool.not_false]
    rw [condW_true]
    exact hk0 hoff
  | false =>
    rw [if_neg (by simp), w_neq]
    simp only [decide_true, Bool.not_true]
    rw [condW_false, w_lss, decide_eq_false (by omega), condW_false, w_eql, b95]
    simp only [nilW_ptr]
    rw [fl97_0, sta95 (vs := [.bool (decide (n = 0)), I n]) rfl (by simp [Value.oneCell']) (fun j hj => ⟨([.bool D.off, I D.left, dv, vv, pv] : List Value)[0 + j]'(by simp; omega), h.row.cell (List.getElem?_eq_getElem _)⟩) (fun j hj => h.row.free _)]
    have hr : RowAt (setCells w b 0 [.bool (decide (n = 0)), I n]) b 97 [.bool (decide (n = 0)), I n, dv, vv, pv] := rowAt_setMid [.bool (decide (n = 0)), I n] [] [.bool D.off, I D.left] [dv, vv, pv] w h.row rfl
    have ho := only_setCells (b := b) [.bool (decide (n = 0)), I n] 0 w
    have hof : Off (fun x => x = b) w (setCells w b 0 [.bool (decide (n = 0)), I n]) := Off.only ho rfl
    exact hk hoff _ (h.put hof (D' := cutD D n) hr rfl rfl rfl) hof (ho.rest _ h.base))
end
end Go.Proofs.YtbojglaimdjagaaGreatDoor
/- The disk: one content copied onto the other. -/
set_option linter.unusedSimpArgs false
set_option linter.unusedVariables false
set_option maxRecDepth 4000
namespace Go.Proofs.YtbojglaimdjagaaGreatDoor
open Go Go.V Go.RowKit
section
variable {k : Value → World → Prop} {w : World} {B : Nat}
theorem copy_all {tv fv : Value} {l1 l2 : List UInt8} (ht : Mine fB 5 w B tv l1) (hf : IsSl fB w fv l2) (hl : l1.length = l2.length) (hne : l1 ≠ [])
    (hk : ∀ w', Mine fB 5 w' B tv l2 → Off (isOf tv) w w' → Below B w w' → k (I l1.length) w') : opW Tryz.prog (Builtin.copy_ #[39, 39] 3 #[tv, fv]) k w := by
  rcases id ht.2 with ⟨_, h0⟩ | ⟨g, cap, cur, rfl, hB, hgg, hnc, hcm, hcs, htk⟩
  · exact absurd (List.eq_nil_of_length_eq_zero h0) hne
  have hsz : fB.sz = 1 := rfl
  rw [hsz, Nat.mul_one] at hcs htk
  have hrow : RowAt w g 5 cur.toList := hgg
  have hcl : cur.toList.length = cap := by simpa using hcs
  obtain ⟨a2, c2, rfl, hc2, hx2⟩ := hf
  have hne2 : 0 < l2.length := by
    rw [← hl]
    exact List.length_pos_iff.2 hne
  obtain ⟨g2, o2, rfl, _⟩ := hx2 0 _ (List.getElem?_eq_getElem hne2)
  have hbl : (l2.map fun x => Value.int .u8 (x.toNat : Int)).length = l1.length := by simp [hl]
  have hrun := run_copy_cells (P := Tryz.prog) w 39 39 3 5 g 0 l1.length cap ⟨g2, o2, none⟩ l2.length c2 (l2.map fun x => Value.int .u8 (x.toNat : Int)) (by kernel_rfl) (by kernel_rfl) (by rw [hbl, hl]; exact (Nat.min_self _).symm)
    (fun j v hv => by
      rw [List.getElem?_map, Option.map_eq_some_iff] at hv
      obtain ⟨x, hx, rfl⟩ := hv
      obtain ⟨b', o', he, hcc⟩ := hx2 j x hx
      cases he
      have := hcc 0 _ rfl
      rw [add_none]
      simpa [fB] using this)
    (fun j hj => by
      rw [hbl] at hj
      rw [Nat.zero_add, hrow.cell (i := j) (u := cur.toList[j]'(by omega)) (List.getElem?_eq_getElem _)]; rfl)
    (fun j _ => hrow.free _)
    (fun v hv => by obtain ⟨x, _, rfl⟩ := List.mem_map.1 hv; rfl)
  rw [opW_ok hrun, setCells_eq]
  have hsplit : cur.toList = [] ++ cur.toList.take l1.length ++ cur.toList.drop l1.length := by rw [List.nil_append, List.take_append_drop]
  have hrow2 := hrow
  rw [hsplit] at hrow2
  have hr3 := rowAt_setMid (l2.map fun x => Value.int .u8 (x.toNat : Int)) [] _ _ w hrow2 (by rw [List.length_take]; omega)
  rw [List.nil_append] at hr3
  have hof := only_setCells (b := g) (l2.map fun x => Value.int .u8 (x.toNat : Int)) 0 w
  have hgo : (goInt (l2.map fun x => Value.int .u8 (x.toNat : Int)).length) = I l1.length := by rw [hbl]; rfl
  rw [hgo]
  refine hk _ ?_ (Off.only hof rfl) (hof.rest _ hB)
  refine ⟨by rw [flat_length], .inr ⟨g, cap, ((l2.map fun x => Value.int .u8 (x.toNat : Int)) ++ cur.toList.drop l1.length).toArray, by rw [hl], hB, hr3, by omega, hcm, ?_, ?_⟩⟩
  · simp only [List.size_toArray, List.length_append, hbl, List.length_drop, hsz, Nat.mul_one]; omega
  · rw [flatB, hsz, Nat.mul_one, List.take_append_of_le_length (by rw [hbl]; omega), List.take_of_length_le (by rw [hbl]; omega)]
end
end Go.Proofs.YtbojglaimdjagaaGreatDoor
/- The disk: the pending writes cleared. -/
set_option linter.unusedSimpArgs false
set_option linter.unusedVariables false
set_option maxRecDepth 4000
namespace Go.Proofs.YtbojglaimdjagaaGreatDoor
open Go Go.V Go.RowKit
section
variable {k : Value → World → Prop} {w : World} {B : Nat}
theorem zeroWr (n : Nat) : (Builtin.zeroCells (Value.agg #[Value.int .i64 0, .string ⟨#[]⟩]).cells n).toList = flat fWr (List.replicate n ((0 : Int), (⟨#[]⟩ : ByteArray))) := by
  apply List.ext_getElem?
  intro j
  by_cases hj : j < n * 2
  · have h1 := flat_get (F := fWr) (List.replicate n ((0 : Int), (⟨#[]⟩ : ByteArray))) (j / 2) (j % 2) (0, ⟨#[]⟩) (([I 0, .string ⟨#[]⟩] : List Value)[j % 2]'(by simp; omega)) (by rw [List.getElem?_replicate, if_pos (by omega)]) (by show ([I 0, .string ⟨#[]⟩] : List Value)[j % 2]? = _; rw [List.getElem?_eq_getElem])
    have e : j / 2 * fWr.sz + j % 2 = j := by show j / 2 * 2 + j % 2 = j; omega
    rw [e] at h1
    rw [h1]
    have h2 : j % 2 = 0 ∨ j % 2 = 1 := by omega
    simp [Builtin.zeroCells, hj]
    rcases h2 with h2 | h2 <;> simp [h2, Value.cells] <;> exact ⟨j, by rw [List.getElem?_range hj], by simp [h2]⟩
  · rw [List.getElem?_eq_none (by simp [Builtin.zeroCells, Value.cells]; omega), List.getElem?_eq_none (by rw [flat_length, List.length_replicate]; show n * 2 ≤ j; omega)]
theorem w_clearWr {pv : Value} {l : List (Int × ByteArray)} (hp : Mine fWr 92 w B pv l) (hk : ∀ w' l', Mine fWr 92 w' B pv l' → l'.length = l.length → Off (isOf pv) w w' → Below B w w' → k (.tuple #[]) w') : opW Tryz.prog (Builtin.clear_ #[93] 0 #[pv]) k w := by
  have hno : ∀ a c, (Builtin.clear_ #[93] 0 #[.slice a 0 c]).run Tryz.prog w = .ok (.tuple #[]) w := fun a c => by cases a <;> simp [Builtin.clear_, run_underlying sty93.u, run_zeroOf sty93, Sem.run_bind, Result.andThen, Builtin.zeroCells]
  rcases id hp.2 with ⟨rfl, h0⟩ | ⟨g, cap, cur, rfl, hB, hgg, hnc, hcm, hcs, htk⟩
  · rw [opW_ok (hno none 0)]
    exact hk _ _ hp rfl (Off.refl _ _) (Below.refl _ _)
  · have hsz : fWr.sz = 2 := rfl
    rw [hsz] at hcs htk
    by_cases h0 : l.length = 0
    · have hl0 := List.eq_nil_of_length_eq_zero h0
      subst hl0
      have := hno (some ⟨g, 0, none⟩) cap
      rw [List.length_nil, opW_ok this]
      exact hk _ _ hp rfl (Off.refl _ _) (Below.refl _ _)
    · have hrow : RowAt w g 92 cur.toList := hgg
      have hcl : cur.toList.length = cap * 2 := by simpa using hcs
      obtain ⟨m, hm⟩ : ∃ m, l.length = m + 1 := ⟨l.length - 1, by omega⟩
      obtain ⟨zs, hzs⟩ : ∃ zs, flat fWr (List.replicate l.length ((0 : Int), (⟨#[]⟩ : ByteArray))) = zs := ⟨_, rfl⟩
      have hzl : zs.length = l.length * 2 := by rw [← hzs, flat_length, List.length_replicate, hsz]
      have hz1 : ∀ u ∈ zs, u.oneCell' = true := fun u hu => by
        rw [← hzs] at hu
        have : ∀ n : Nat, ∀ u ∈ flat fWr (List.replicate n ((0 : Int), (⟨#[]⟩ : ByteArray))), u.oneCell' = true := fun n => by
          induction n with
          | zero => intro u hu; cases hu
          | succ n ih =>
            intro u hu
            rw [List.replicate_succ] at hu
            rcases List.mem_append.1 (show u ∈ fWr.e (0, ⟨#[]⟩) ++ flat fWr (List.replicate n ((0 : Int), (⟨#[]⟩ : ByteArray))) from hu) with h | h
            · simp [fWr] at h; rcases h with rfl | rfl <;> rfl
            · exact ih u h
        exact this _ u hu
      have hst := run_storeCells (P := Tryz.prog) (b := g) (o := 0) zs 0 w hz1 (fun j hj => by
        obtain ⟨u, hu⟩ : ∃ u, cur.toList[0 + 0 + j]? = some u := ⟨_, List.getElem?_eq_getElem (by omega)⟩
        exact ⟨u, hrow.cell hu⟩) (fun j hj => hrow.free _)
      have hzz := zeroWr l.length
      rw [hzs] at hzz
      rw [opW_ok (show (Builtin.clear_ #[93] 0 #[.slice (some ⟨g, 0, none⟩) l.length cap]).run Tryz.prog w = .ok (.tuple #[]) (setCells w g (0 + 0) zs) by
        rw [hm] at hzz ⊢
        simp [Builtin.clear_, run_underlying sty93.u, run_zeroOf sty93, hzz, Sem.run_bind, Result.andThen] at hst ⊢
        rw [hst])]
      have hsplit : cur.toList = [] ++ cur.toList.take (l.length * 2) ++ cur.toList.drop (l.length * 2) := by rw [List.nil_append, List.take_append_drop]
      have hrow2 := hrow
      rw [hsplit] at hrow2
      have hr3 := rowAt_setMid zs [] _ _ w hrow2 (by rw [List.length_take, hzl]; omega)
      rw [List.nil_append] at hr3
      have hof := only_setCells (b := g) zs 0 w
      refine hk _ (List.replicate l.length ((0 : Int), (⟨#[]⟩ : ByteArray))) ?_ (by simp) (Off.only hof rfl) (hof.rest _ hB)
      refine ⟨by rw [flat_length], .inr ⟨g, cap, (zs ++ cur.toList.drop (l.length * 2)).toArray, by rw [List.length_replicate], hB, hr3, by rw [List.length_replicate]; exact hnc, hcm, ?_, ?_⟩⟩
      · simp only [List.size_toArray, List.length_append, List.length_drop, hsz]; omega
      · rw [hzs, List.length_replicate, hsz, List.take_append_of_le_length (by omega), List.take_of_length_le (by omega)]
end
end Go.Proofs.YtbojglaimdjagaaGreatDoor
/- The disk: settle, Sync. -/
set_option linter.unusedSimpArgs false
set_option linter.unusedVariables false
set_option maxRecDepth 4000
namespace Go.Proofs.YtbojglaimdjagaaGreatDoor
open Go Go.V Go.RowKit
/-- what is visible is durable -/
def syncD (D : DK) : DK := { D with dur := D.vis, pend := [] }
section
variable {k : Value → World → Prop} {w : World} {B b : Nat} {D : DK} {dv vv pv : Value}
theorem w_cut0 {l : List (Int × ByteArray)} (hp : Mine fWr 92 w B pv l) (hk : ∀ v', Mine fWr 92 w B v' [] → (∀ x, isOf v' x → isOf pv x) → k v' w) : opW Tryz.prog (Instr.sliceAt 93 pv none (some (I 0)) none) k w := by
  obtain ⟨a, c, hpe, hc, _⟩ := hp.sl
  have hsl0 := run_slice_h (P := Tryz.prog) w 93 a l.length c (by kernel_rfl) .i64 0 (by omega) (by omega)
  have hrun : (Instr.sliceAt 93 pv none (some (I 0)) none).run Tryz.prog w = .ok (sliced a 0 0 c (sizeT Tryz.prog (Tryz.prog.elem 93))) w := by
    rw [hpe, run_sliceAt_slice _ _ _ _ _ _ (by kernel_rfl), show (I 0 : Value) = .int .i64 (0 : Int) from rfl, hsl0, Go.V.run_sizeOf (by kernel_rfl)]
    simp [Result.andThen]
  rw [opW_ok hrun]
  rcases id hp.2 with ⟨h0, hl0⟩ | ⟨g, cap, cur, h0, hB, hgg, hnc, hcm, hcs, htk⟩
  · rw [h0] at hpe
    simp only [Value.slice.injEq] at hpe
    obtain ⟨rfl, _, rfl⟩ := hpe
    exact hk _ (Mine.nil _ _) fun x hx => by simp [sliced, isOf, Value.ownBlock] at hx
  · rw [h0] at hpe
    simp only [Value.slice.injEq] at hpe
    obtain ⟨rfl, _, rfl⟩ := hpe
    have he : sliced (some ⟨g, 0, none⟩) 0 0 cap (sizeT Tryz.prog (Tryz.prog.elem 93)) = .slice (some ⟨g, 0, none⟩) 0 cap := by
      unfold sliced
      simp [add_none]
    rw [he]
    refine hk _ ⟨rfl, .inr ⟨g, cap, cur, rfl, hB, hgg, Nat.zero_le _, hcm, hcs, by simp [flat]⟩⟩ fun x hx => ?_
    rw [h0]; exact hx
theorem c65 (h : DiskR B w b D dv vv pv) (hne : D.dur ≠ []) (hk : ∀ w' pv', DiskR B w' b (syncD D) dv vv pv' → Off (dBl b dv vv pv) w w' → Below B w w' → (∀ x, isOf pv' x → isOf pv x) → k (.tuple #[]) w') : callW Tryz.prog (.func (.func 65) #[] #[]) #[.pointer (some ⟨b, 0, none⟩), vv, dv] k w := C65 _ _ _ _ _ (by
  unfold S65
  refine copy_all h.dur h.vis.sl h.len hne fun w1 hm1 ho1 hb1 => ?_
  have hdb : ¬ isOf dv b := fun hh => by
    have := Tag.uniq (Mine.tag h.dur hh) (RowAt.tag h.row)
    cases this
  have hr1 := h.row.off ho1 hdb
  have hv1 := h.vis.off ho1 fun x hx hy => h.two x hy hx
  have hp1 := h.pend.apart ho1 (apMine h.dur (by decide))
  simp only [nilW_ptr]
  rw [rw97_3 (hr1.cell (i := 0 + 4) rfl)]
  refine w_clearWr hp1 fun w2 l' hp2 _ ho2 hb2 => ?_
  have hpb : ¬ isOf pv b := fun hh => by
    have := Tag.uniq (Mine.tag hp1 hh) (RowAt.tag hr1)
    cases this
  have hr2 := hr1.off ho2 hpb
  have hm2 := hm1.apart ho2 (apMine hp1 (by decide))
  have hv2 := hv1.apart ho2 (apMine hp1 (by decide))
  rw [rw97_3 (hr2.cell (i := 0 + 4) rfl)]
  refine w_cut0 hp2 fun pv' hp' hsub => ?_
  have hov : pv'.oneCell' = true := by obtain ⟨a9, c9, rfl, -⟩ := hp'.sl; rfl
  rw [fl97_3, st93 hov (hr2.cell (i := 0 + 4) rfl) (hr2.free _)]
  have hof : Off (fun x => x = b) w2 (w2.setCell ⟨b, 0 + 4, none⟩ pv') := Off.set (p := fun x => x = b) rfl
  refine hk _ pv' ⟨hr2.set 4 pv', h.base, hm2.apart hof (apRow hr2 (by decide)), hv2.apart hof (apRow hr2 (by decide)), hp'.apart hof (apRow hr2 (by decide)), rfl, h.two⟩ ?_ ((hb1.trans hb2).setCell h.base _) hsub
  exact (ho1.mono fun x _ hx => .inr (.inl hx)).trans ((ho2.mono fun x _ hx => .inr (.inr (.inr hx))).trans (hof.mono fun x _ hx => .inl hx)))
end
end Go.Proofs.YtbojglaimdjagaaGreatDoor
/- The disk: Sync. -/
set_option linter.unusedSimpArgs false
set_option linter.unusedVariables false
set_option maxRecDepth 4000
namespace Go.Proofs.YtbojglaimdjagaaGreatDoor
open Go Go.V Go.RowKit
section
variable {k : Value → World → Prop} {w : World} {B b : Nat} {D : DK} {dv vv pv : Value}
theorem c42 (h : DiskR B w b D dv vv pv) (hne : D.dur ≠ []) (hBw : B ≤ w.heap.size) (hk0 : D.off = true → k (I 331) w)
    (hk : D.off = false → ∀ w' pv', DiskR B w' b (syncD D) dv vv pv' → Off (dBl b dv vv pv) w w' → Below B w w' → (∀ x, isOf pv' x → isOf pv x) → k (I 0) w') : callW Tryz.prog (.func (.func 42) #[] #[]) #[.pointer (some ⟨b, 0, none⟩)] k w := C42 _ _ _ (by
  unfold S42
  refine c46 h ?_
  cases hoff : D.off with
  | true =>
    rw [if_pos rfl]
    simp only [joinW]
    rw [w_eql]
    simp only [show decide ((331 : Int) = 0) = false from rfl]
    rw [condW_false]
    exact hk0 hoff
  | false =>
    rw [if_neg (by simp)]
    simp only [joinW]
    rw [w_eql]
    simp only [decide_true]
    rw [condW_true, drewW_eq]
    have hd := below_drew w
    have h1 := h.below hd
    generalize w.drew = w1 at *
    simp only [nilT_ptr]
    rw [rt97_2 (h1.row.cell (i := 0 + 3) rfl), rt97_1 (h1.row.cell (i := 0 + 2) rfl)]
    refine c65 h1 hne fun w2 pv' h2 ho2 hb2 hs2 => ?_
    exact hk hoff _ _ h2 ((Off.below hd).trans ho2) ((hd.mono hBw).trans hb2) hs2)
end
end Go.Proofs.YtbojglaimdjagaaGreatDoor
/- The wire: a number read, plain. -/
set_option linter.unusedSimpArgs false
set_option linter.unusedVariables false
set_option maxRecDepth 4000
namespace Go.Proofs.YtbojglaimdjagaaGreatDoor
open Go Go.V Go.RowKit
/-- groups of seven bits read, the lowest first: the number, and how many -/
def rdV : Nat → List UInt8 → Option (Nat × Nat)
  | 0, _ => none
  | _ + 1, [] => none
  | f + 1, x :: l => if x.toNat < 128 then some (x.toNat, 1) else (rdV f l).map fun p => (x.toNat - 128 + 128 * p.1, p.2 + 1)
/-- the integer that a number stands for -/
def unz (z : Nat) : Int := if z % 2 = 1 then -((z / 2 : Nat) : Int) - 1 else ((z / 2 : Nat) : Int)
/-- an integer read: it, and how many bytes -/
def rdI (l : List UInt8) : Option (Int × Nat) :=
  match rdV 9 l with
  | none => none
  | some (z, c) => if (l.getD (c - 1) 0 = 0 ∧ 1 < c) ∨ unz z < -4611686018427387903 then none else some (unz z, c)
theorem rdV_some {f : Nat} : ∀ {l : List UInt8} {z c : Nat}, rdV f l = some (z, c) → 1 ≤ c ∧ c ≤ f ∧ c ≤ l.length ∧ z < 128 ^ c := by
  induction f with
  | zero => intro l z c h; simp [rdV] at h
  | succ f ih =>
    intro l z c h
    match l, h with
    | [], h => simp [rdV] at h
    | x :: l, h =>
      simp only [rdV] at h
      by_cases hx : x.toNat < 128
      · rw [if_pos hx] at h
        simp only [Option.some.injEq, Prod.mk.injEq] at h
        obtain ⟨rfl, rfl⟩ := h
        simp; omega
      · rw [if_neg hx] at h
        obtain ⟨⟨z', c'⟩, h1, h2⟩ := Option.map_eq_some_iff.mp h
        simp only [Prod.mk.injEq] at h2
        obtain ⟨rfl, rfl⟩ := h2
        obtain ⟨a1, a2, a3, a4⟩ := ih h1
        have : x.toNat < 256 := x.toNat_lt
        refine ⟨by omega, by omega, by simp; omega, ?_⟩
        rw [Nat.pow_succ]
        omega
/-- what is canonically written is read -/
theorem rdV_vb {z : Nat} : ∀ {f : Nat} {l : List UInt8}, (vb z).length ≤ f → rdV f (vb z ++ l) = some (z, (vb z).length) := by
  induction z using Nat.strongRecOn with
  | ind z ih =>
    intro f l hf
    by_cases h : z < 128
    · rw [vb_lt h] at hf ⊢
      obtain ⟨g, rfl⟩ : ∃ g, f = g + 1 := ⟨f - 1, by simp at hf; omega⟩
      have : (UInt8.ofNat z).toNat = z := by simp; omega
      simp only [List.singleton_append, rdV, this]
      rw [if_pos h]; rfl
    · rw [vb_ge (by omega)] at hf ⊢
      simp only [List.length_cons] at hf
      obtain ⟨g, rfl⟩ : ∃ g, f = g + 1 := ⟨f - 1, by omega⟩
      have : (UInt8.ofNat (z % 128 + 128)).toNat = z % 128 + 128 := by simp; omega
      simp only [List.cons_append, rdV, this]
      rw [if_neg (by omega), ih (z / 128) (by omega) (by omega)]
      simp only [Option.map_some, List.length_cons, Option.some.injEq, Prod.mk.injEq, and_true]
      omega
/-- what is read without a needless last group was canonically written -/
theorem rdV_canon {f : Nat} : ∀ {l : List UInt8} {z c : Nat}, rdV f l = some (z, c) → ¬ (l.getD (c - 1) 0 = 0 ∧ 1 < c) → l.take c = vb z := by
  induction f with
  | zero => intro l z c h; simp [rdV] at h
  | succ f ih =>
    intro l z c h hn
    match l, h with
    | [], h => simp [rdV] at h
    | x :: l, h =>
      simp only [rdV] at h
      by_cases hx : x.toNat < 128
      · rw [if_pos hx] at h
        simp only [Option.some.injEq, Prod.mk.injEq] at h
        obtain ⟨rfl, rfl⟩ := h
        rw [vb_lt hx]; simp
      · rw [if_neg hx] at h
        obtain ⟨⟨z', c'⟩, h1, h2⟩ := Option.map_eq_some_iff.mp h
        simp only [Prod.mk.injEq] at h2
        obtain ⟨rfl, rfl⟩ := h2
        obtain ⟨a1, a2, a3, a4⟩ := rdV_some h1
        have hx2 : x.toNat < 256 := x.toNat_lt
        obtain ⟨d, rfl⟩ : ∃ d, c' = d + 1 := ⟨c' - 1, by omega⟩
        have hlast : (x :: l).getD (d + 1 + 1 - 1) 0 = l.getD d 0 := by simp
        have hnz : l.getD d 0 ≠ 0 := fun hh => hn ⟨by rw [hlast, hh], by omega⟩
        have hz1 := ih h1 (fun hh => hnz (by simpa using hh.1))
        have hz0 : 1 ≤ z' := by
          rcases Nat.eq_zero_or_pos z' with rfl | h0
          · rw [vb_lt (by omega)] at hz1
            have hd : d = 0 := by
              have := congrArg List.length hz1
              simp at this; omega
            subst hd
            match l, a3 with
            | y :: l, _ =>
              simp at hz1 hnz
              exact absurd hz1 hnz
          · exact h0
        rw [vb_ge (by omega), List.take_succ_cons, hz1]
        congr 1
        · apply UInt8.toNat_inj.mp
          simp; omega
        · congr 1; omega
/-- lengths: what is read for a length that may be -/
theorem rdI_lenB {n : Nat} {l : List UInt8} (hn : n ≤ 1000000) : rdI (vb (2 * n) ++ l) = some ((n : Int), (vb (2 * n)).length) := by
  have hl : (vb (2 * n)).length ≤ 4 := by
    rcases Nat.lt_or_ge (2 * n) 128 with h | h
    · rw [vb_lt h]; simp
    rw [vb_ge h]
    rcases Nat.lt_or_ge (2 * n / 128) 128 with h | h
    · rw [vb_lt h]; simp
    rw [vb_ge h]
    rcases Nat.lt_or_ge (2 * n / 128 / 128) 128 with h | h
    · rw [vb_lt h]; simp
    rw [vb_ge h, vb_lt (by omega)]; simp
  unfold rdI
  rw [rdV_vb (by omega)]
  have hu : unz (2 * n) = n := by unfold unz; rw [if_neg (by omega)]; omega
  simp only [hu]
  rw [if_neg]
  rintro (⟨h1, h2⟩ | h1)
  · have hnz : ∀ z : Nat, 1 ≤ z → (vb z).getD ((vb z).length - 1) 0 ≠ 0 := by
      intro z
      induction z using Nat.strongRecOn with
      | ind z ih =>
        intro hz
        by_cases h : z < 128
        · rw [vb_lt h]
          simp
          intro hh
          have := congrArg UInt8.toNat hh
          simp at this; omega
        · rw [vb_ge (by omega)]
          have := ih (z / 128) (by omega) (by omega)
          have hlv := (vb_len (z / 128)).1
          simp only [List.length_cons, Nat.add_sub_cancel]
          rw [show (vb (z / 128)).length = (vb (z / 128)).length - 1 + 1 by omega, List.getD_cons_succ]
          exact this
    rcases Nat.eq_zero_or_pos n with rfl | h0
    · rw [vb_lt (by omega)] at h2; simp at h2
    · refine hnz (2 * n) (by omega) ?_
      have h3 := h1
      rw [List.getD_eq_getElem?_getD, List.getElem?_append_left (by have := (vb_len (2 * n)).1; omega)] at h3
      rw [List.getD_eq_getElem?_getD]; exact h3
  · omega
theorem rdI_canon {l : List UInt8} {n c : Nat} (h : rdI l = some ((n : Int), c)) : l.take c = vb (2 * n) ∧ 1 ≤ c ∧ c ≤ l.length := by
  unfold rdI at h
  split at h
  · cases h
  · next z c' hz =>
    split at h
    · cases h
    · next hn =>
      simp only [Option.some.injEq, Prod.mk.injEq] at h
      obtain ⟨h1, rfl⟩ := h
      obtain ⟨a1, a2, a3, a4⟩ := rdV_some hz
      refine ⟨?_, a1, a3⟩
      rw [rdV_canon hz (fun hh => hn (.inl hh))]
      congr 1
      unfold unz at h1
      split at h1 <;> omega
end Go.Proofs.YtbojglaimdjagaaGreatDoor
/- The wire: Int, the program's. -/
set_option linter.unusedSimpArgs false
set_option linter.unusedVariables false
set_option maxRecDepth 4000
namespace Go.Proofs.YtbojglaimdjagaaGreatDoor
open Go Go.V Go.RowKit
section
variable {P : Program} {k : Value → World → Prop} {w : World} {t : TypeId} {ox oy : Operand}
theorem w_and64 {n m : Nat} (hn : n < 18446744073709551616) (hm : m < 18446744073709551616) : opW P (binS .and t ox oy (.int .u64 n) (.int .u64 m)) k w = k (.int .u64 ((n &&& m : Nat) : Int)) w :=
  opW_ok (by
    rw [run_binS_int (by simp) (by simp)]
    have h3 : n &&& m ≤ n := Nat.and_le_left
    have hb : (BitVec.ofInt (IntKind.bits .u64) (n : Int) &&& BitVec.ofInt (IntKind.bits .u64) (m : Int)).toNat = n &&& m := by
      show (BitVec.ofInt 64 (n : Int) &&& BitVec.ofInt 64 (m : Int)).toNat = n &&& m
      rw [ofInt_small, ofInt_small, BitVec.toNat_and, BitVec.toNat_ofNat, BitVec.toNat_ofNat, Nat.mod_eq_of_lt (by omega), Nat.mod_eq_of_lt (by omega)]
    simp only [binOp, Op.intBits]
    rw [hb, wrapU (by omega)]
    rfl)
theorem w_or64 {n m : Nat} (hn : n < 18446744073709551616) (hm : m < 18446744073709551616) : opW P (binS .or t ox oy (.int .u64 n) (.int .u64 m)) k w = k (.int .u64 ((n ||| m : Nat) : Int)) w :=
  opW_ok (by
    rw [run_binS_int (by simp) (by simp)]
    have h3 : n ||| m < 2 ^ 64 := Nat.or_lt_two_pow (by omega) (by omega)
    have hb : (BitVec.ofInt (IntKind.bits .u64) (n : Int) ||| BitVec.ofInt (IntKind.bits .u64) (m : Int)).toNat = n ||| m := by
      show (BitVec.ofInt 64 (n : Int) ||| BitVec.ofInt 64 (m : Int)).toNat = n ||| m
      rw [ofInt_small, ofInt_small, BitVec.toNat_or, BitVec.toNat_ofNat, BitVec.toNat_ofNat, Nat.mod_eq_of_lt (by omega), Nat.mod_eq_of_lt (by omega)]
    simp only [binOp, Op.intBits]
    rw [hb, wrapU (by omega)]
    rfl)
theorem w_and127 {x : UInt8} : opW P (binS .and t ox oy (.int .u8 (x.toNat : Int)) (.int .u8 127)) k w = k (.int .u8 ((x.toNat % 128 : Nat) : Int)) w :=
  opW_ok (by
    rw [run_binS_int (by simp) (by simp)]
    have hx : x.toNat < 256 := x.toNat_lt
    have hb : (BitVec.ofInt (IntKind.bits .u8) (x.toNat : Int) &&& BitVec.ofInt (IntKind.bits .u8) (127 : Int)).toNat = x.toNat % 128 := by
      show (BitVec.ofInt 8 (x.toNat : Int) &&& BitVec.ofInt 8 ((127 : Nat) : Int)).toNat = x.toNat % 128
      rw [BitVec.ofInt_natCast, BitVec.ofInt_natCast, BitVec.toNat_and, BitVec.toNat_ofNat, BitVec.toNat_ofNat, Nat.mod_eq_of_lt (by omega), Nat.mod_eq_of_lt (by omega)]
      exact Nat.and_two_pow_sub_one_eq_mod _ 7
    simp only [binOp, Op.intBits]
    rw [hb]
    have : IntKind.u8.wrap ((x.toNat % 128 : Nat) : Int) = ((x.toNat % 128 : Nat) : Int) := by rw [wrap8]; omega
    rw [this]
    rfl)
theorem w_xorS {n b : Nat} (hn : n < 9223372036854775808) (hb : b ≤ 1) : opW P (binS .xor t ox oy (I n) (I (-(b : Int)))) k w = k (I (if b = 1 then -(n : Int) - 1 else n)) w :=
  opW_ok (by
    rw [run_binS_int (by simp) (by simp)]
    simp only [binOp, Op.intBits]
    have hw : ∀ m : Nat, m < 18446744073709551616 → IntKind.i64.wrap (m : Int) = if m < 9223372036854775808 then (m : Int) else (m : Int) - 18446744073709551616 := by
      intro m hm
      simp only [IntKind.wrap]
      have h2 : (2 : Int) ^ IntKind.bits .i64 = 18446744073709551616 := by decide
      have h3 : (2 : Int) ^ (IntKind.bits .i64 - 1) = 9223372036854775808 := by decide
      simp [IntKind.signed, h2, h3]
      omega
    match b, hb with
    | 0, _ =>
      have hx : (BitVec.ofInt (IntKind.bits .i64) (n : Int) ^^^ BitVec.ofInt (IntKind.bits .i64) (-((0 : Nat) : Int))).toNat = n := by
        show (BitVec.ofInt 64 (n : Int) ^^^ BitVec.ofInt 64 (((0 : Nat) : Int))).toNat = n
        rw [ofInt_small, ofInt_small, BitVec.toNat_xor, BitVec.toNat_ofNat, BitVec.toNat_ofNat, Nat.mod_eq_of_lt (by omega), Nat.mod_eq_of_lt (by omega), Nat.xor_zero]
      rw [hx, hw n (by omega), if_pos hn, if_neg (show ¬ (0 = 1) by omega)]
      rfl
    | 1, _ =>
      have hx : (BitVec.ofInt (IntKind.bits .i64) (n : Int) ^^^ BitVec.ofInt (IntKind.bits .i64) (-((1 : Nat) : Int))).toNat = 18446744073709551615 - n := by
        show (BitVec.ofInt 64 (n : Int) ^^^ BitVec.ofInt 64 (-1)).toNat = _
        rw [ofInt_small, show BitVec.ofInt 64 (-1) = BitVec.allOnes 64 from rfl, BitVec.xor_allOnes, BitVec.toNat_not, BitVec.toNat_ofNat, Nat.mod_eq_of_lt (by omega)]
      rw [hx, hw (18446744073709551615 - n) (by omega), if_neg (show ¬ (18446744073709551615 - n < 9223372036854775808) by omega), if_pos rfl]
      have : ((18446744073709551615 - n : Nat) : Int) - 18446744073709551616 = -(n : Int) - 1 := by omega
      rw [this]
      rfl)
end
section
variable {k : Value → World → Prop} {w : World}
/-- what is returned for a number read at a place -/
def intV (s : ByteArray) (i : Nat) : Value := match rdI (s.data.toList.drop i) with
  | none => .tuple #[I 0, I 0, I 10]
  | some (n, c) => .tuple #[I n, I ((i + c : Nat) : Int), I 0]
theorem pow128 (i : Nat) : 128 ^ i = 2 ^ (7 * i) := by rw [Nat.pow_mul]
theorem rdV_step {f i : Nat} {L : List UInt8} {x : UInt8} (hx : L[i]? = some x) : rdV (f + 1) (L.drop i) = if x.toNat < 128 then some (x.toNat, 1) else (rdV f (L.drop (i + 1))).map fun p => (x.toNat - 128 + 128 * p.1, p.2 + 1) := by
  rw [show L.drop i = x :: L.drop (i + 1) from by
    obtain ⟨h1, h2⟩ := List.getElem?_eq_some_iff.mp hx
    rw [List.drop_eq_getElem_cons h1, h2]]
  rfl
theorem c113 {s : ByteArray} {o : Nat} (hs : s.size ≤ 1000000000) (ho : o ≤ s.size) (hk : k (intV s o) w) : callW Tryz.prog (.func (.func 113) #[] #[]) #[.string s, I o] k w := C113 _ _ _ _ (by
  unfold S113
  have hsl : s.data.toList.length = s.size := Array.length_toList
  rw [w_lss, decide_eq_false (by omega)]
  simp only [guardW_ff, pickW_false]
  rw [w_lenStr (by kernel_rfl), w_gtr, decide_eq_false (by omega), condW_false]
  simp only [joinW]
  unfold intV rdI at hk
  generalize hL : s.data.toList.drop o = L at hk
  have hLl : L.length = s.size - o := by rw [← hL, List.length_drop, hsl]
  refine Loop2.intro (fun m a b w' => ∃ (i z : Nat), a = .int .u64 z ∧ b = I i ∧ i ≤ 9 ∧ m = 9 - i ∧ w' = w ∧ z < 128 ^ i ∧ rdV 9 L = (rdV (9 - i) (L.drop i)).map fun p => (z + 128 ^ i * p.1, p.2 + i)) _ ⟨0, 0, rfl, rfl, by omega, rfl, rfl, by simp, by simp⟩ ?_
  rintro m _ _ _ ⟨i, z, rfl, rfl, hi, rfl, rfl, hz, he⟩
  rw [w_lss]
  by_cases h9 : i < 9
  case' neg =>
    rw [decide_eq_false (by omega), condW_false]
    rw [show 9 - i = 0 by omega] at he
    rw [he] at hk
    exact hk
  rw [decide_eq_true (by omega), condW_true, w_add, wrap_id (by omega), w_lenStr (by kernel_rfl), w_geq]
  by_cases hin : o + i < s.size
  case' neg =>
    rw [decide_eq_true (by omega), condW_true]
    rw [List.drop_eq_nil_of_le (by omega), show 9 - i = (8 - i) + 1 by omega] at he
    rw [he] at hk
    exact hk
  rw [decide_eq_false (by omega), condW_false, w_add, wrap_id (by omega)]
  obtain ⟨x, hx⟩ : ∃ x, s.data.toList[o + i]? = some x := ⟨_, List.getElem?_eq_getElem (by omega)⟩
  have hx' : L[i]? = some x := by rw [← hL, List.getElem?_drop]; exact hx
  have hx2 : x.toNat < 256 := x.toNat_lt
  rw [show 9 - i = (8 - i) + 1 by omega, rdV_step hx'] at he
  rw [w_indexStr (b := x) (by kernel_rfl) (by omega) (by
    rw [show ((o : Int) + (i : Int)).toNat = o + i by omega]
    have h1 : o + i < s.size := hin
    rw [getElem?_pos s (o + i) h1]
    rw [List.getElem?_eq_getElem (by omega)] at hx
    have e2 : s[o + i] = s.data[o + i]'h1 := rfl
    rw [e2]; simpa using hx)]
  rw [w_and127, w_conv (q := .u64) (by kernel_rfl) (by kernel_rfl), wrapU (by omega), w_mul, wrap_id (by omega), w_shl (by omega)]
  have hp : (128 : Nat) ^ i ≤ 128 ^ 8 := Nat.pow_le_pow_right (by omega) (by omega)
  have hp8 : (128 : Nat) ^ 8 = 72057594037927936 := by decide
  have hmul : x.toNat % 128 * 128 ^ i ≤ 127 * 128 ^ i := Nat.mul_le_mul_right _ (by omega)
  have hsh : (((x.toNat % 128 : Nat) : Int)) * 2 ^ (min ((7 : Int) * (i : Int)).toNat (IntKind.bits .u64)) = ((x.toNat % 128 * 128 ^ i : Nat) : Int) := by
    rw [show min ((7 : Int) * (i : Int)).toNat (IntKind.bits .u64) = 7 * i by
      show min _ 64 = _
      omega, pow128]
    push_cast
    rfl
  rw [hsh, wrapU (by omega), w_or64 (by omega) (by omega)]
  have hor : z ||| (x.toNat % 128 * 128 ^ i) = z + x.toNat % 128 * 128 ^ i := by
    rw [Nat.or_comm, Nat.mul_comm, pow128] at *
    rw [← Nat.two_pow_add_eq_or_of_lt hz]
    omega
  rw [hor, w_geq]
  by_cases hc : x.toNat < 128
  · rw [decide_eq_false (by omega), condW_false]
    rw [Nat.mod_eq_of_lt hc] at *
    rw [if_pos hc] at he
    have hZ : z + x.toNat * 128 ^ i < 9223372036854775808 := by omega
    have hg : L.getD (1 + i - 1) 0 = x := by rw [show 1 + i - 1 = i by omega, List.getD_eq_getElem?_getD, hx']; rfl
    have he2 : rdV 9 L = some (z + x.toNat * 128 ^ i, 1 + i) := by rw [he, Option.map_some, Nat.mul_comm]
    rw [he2] at hk
    simp only [hg] at hk
    generalize z + x.toNat * 128 ^ i = Z at hZ hk ⊢
    have hs1 : ((Z : Int)).fdiv (2 ^ (min ((1 : Int).toNat) (IntKind.bits .u64))) = ((Z / 2 : Nat) : Int) := shr_nat Z 1
    rw [w_shr (by decide), hs1, w_conv (q := .i64) (by kernel_rfl) (by kernel_rfl), wrap_id (by omega), show ((1 : Int)) = ((1 : Nat) : Int) from rfl, w_and64 (by omega) (by omega)]
    have hand : Z &&& 1 = Z % 2 := Nat.and_one_is_mod Z
    rw [hand, w_conv (q := .i64) (by kernel_rfl) (by kernel_rfl), wrap_id (by omega), w_neg, wrap_id (by omega), w_xorS (by omega) (by omega)]
    have hu : (if Z % 2 = 1 then -((Z / 2 : Nat) : Int) - 1 else ((Z / 2 : Nat) : Int)) = unz Z := rfl
    rw [hu, w_eql]
    have hub : -9223372036854775808 ≤ unz Z ∧ unz Z ≤ 4611686018427387903 := by unfold unz; split <;> omega
    have hxe : decide ((x.toNat : Int) = 0) = decide (x = 0) := by
      rw [decide_eq_decide]
      refine ⟨fun h => UInt8.toNat_inj.mp (by show x.toNat = 0; omega), fun h => by rw [h]; rfl⟩
    rw [hxe]
    by_cases hx0 : x = 0 ∧ 1 < 1 + i
    · rw [if_pos (.inl hx0)] at hk
      rw [decide_eq_true hx0.1]
      simp only [guardW_tt]
      rw [w_gtr, decide_eq_true (by omega)]
      simp only [pickW_true, guardW_tf, guardW_u]
      rw [condW_true]
      exact hk
    · have h2 : x = 0 → i = 0 := fun h => by
        rcases Nat.eq_zero_or_pos i with h0 | h0
        · exact h0
        · exact absurd ⟨h, by omega⟩ hx0
      by_cases hx1 : x = 0
      · have hi0 := h2 hx1
        rw [decide_eq_true hx1]
        simp only [guardW_tt]
        rw [w_gtr, decide_eq_false (by omega)]
        simp only [pickW_true, guardW_ff]
        rw [w_lss]
        simp only [pickW_false]
        by_cases h : unz Z < -4611686018427387903
        · rw [decide_eq_true h, condW_true]
          rw [if_pos (.inr h)] at hk
          exact hk
        · rw [decide_eq_false h, condW_false]
          rw [if_neg (fun hh => hh.elim hx0 h)] at hk
          rw [w_add, wrap_id (by omega), w_add, wrap_id (by omega)]
          rw [show ((o : Int) + (i : Int) + ((1 : Nat) : Int)) = ((o + (1 + i) : Nat) : Int) by omega]
          exact hk
      · rw [decide_eq_false hx1]
        simp only [guardW_ft, guardW_u, pickW_false, guardW_ff]
        rw [w_lss]
        by_cases h : unz Z < -4611686018427387903
        · rw [decide_eq_true h, condW_true]
          rw [if_pos (.inr h)] at hk
          exact hk
        · rw [decide_eq_false h, condW_false]
          rw [if_neg (fun hh => hh.elim hx0 h)] at hk
          rw [w_add, wrap_id (by omega), w_add, wrap_id (by omega)]
          rw [show ((o : Int) + (i : Int) + ((1 : Nat) : Int)) = ((o + (1 + i) : Nat) : Int) by omega]
          exact hk
  · rw [decide_eq_true (by omega), condW_true, w_add, wrap_id (by omega), loopK_self]
    rw [if_neg hc, Option.map_map] at he
    refine ⟨9 - (i + 1), by omega, i + 1, z + x.toNat % 128 * 128 ^ i, rfl, rfl, by omega, rfl, rfl, ?_, ?_⟩
    · rw [Nat.pow_succ]; omega
    · rw [he, show 9 - (i + 1) = 8 - i by omega]
      congr 1
      funext p
      simp only [Function.comp, Prod.mk.injEq]
      refine ⟨?_, by omega⟩
      rw [show x.toNat % 128 = x.toNat - 128 by omega, Nat.pow_succ, Nat.mul_add, Nat.mul_comm (128 ^ i) (x.toNat - 128), ← Nat.mul_assoc, Nat.add_assoc])
end
end Go.Proofs.YtbojglaimdjagaaGreatDoor
/- The wire: String, the program's. -/
set_option linter.unusedSimpArgs false
set_option linter.unusedVariables false
set_option maxRecDepth 4000
namespace Go.Proofs.YtbojglaimdjagaaGreatDoor
open Go Go.V Go.RowKit
/-- a string read at a place: its length, and where it begins -/
def rdS (s : ByteArray) (o : Nat) : Option (Nat × Nat) := match rdI (s.data.toList.drop o) with
  | none => none
  | some (n, c) => if 0 ≤ n ∧ n ≤ 65536 ∧ n ≤ (s.size : Int) - ((o + c : Nat) : Int) then some (n.toNat, o + c) else none
def strV (s : ByteArray) (o : Nat) : Value := match rdS s o with
  | none => .tuple #[.string ⟨#[]⟩, I 0, I 10]
  | some (n, p) => .tuple #[.string (s.extract p (p + n)), I ((p + n : Nat) : Int), I 0]
theorem rdI_le {l : List UInt8} {n : Int} {c : Nat} (h : rdI l = some (n, c)) : 1 ≤ c ∧ c ≤ l.length ∧ -4611686018427387903 ≤ n ∧ n ≤ 4611686018427387903 := by
  unfold rdI at h
  split at h
  · cases h
  · next z c' hz =>
    split at h
    · cases h
    · next hn =>
      simp only [Option.some.injEq, Prod.mk.injEq] at h
      obtain ⟨rfl, rfl⟩ := h
      obtain ⟨a1, a2, a3, a4⟩ := rdV_some hz
      have h9 : (128 : Nat) ^ c' ≤ 128 ^ 9 := Nat.pow_le_pow_right (by omega) a2
      have h99 : (128 : Nat) ^ 9 = 9223372036854775808 := by decide
      refine ⟨a1, a3, by omega, ?_⟩
      unfold unz
      split <;> omega
section
variable {k : Value → World → Prop} {w : World}
theorem ex3_0 {a b c : Value} : opW Tryz.prog (Instr.extract (.tuple #[a, b, c]) 0) k w = k a w := w_extract rfl
theorem ex3_1 {a b c : Value} : opW Tryz.prog (Instr.extract (.tuple #[a, b, c]) 1) k w = k b w := w_extract rfl
theorem ex3_2 {a b c : Value} : opW Tryz.prog (Instr.extract (.tuple #[a, b, c]) 2) k w = k c w := w_extract rfl
theorem c101 {s : ByteArray} {o : Nat} (hs : s.size ≤ 1000000000) (ho : o ≤ s.size) (hk : k (strV s o) w) : callW Tryz.prog (.func (.func 101) #[] #[]) #[.string s, I o] k w := C101 _ _ _ _ (by
  unfold S101
  refine c113 hs ho ?_
  have hsl : s.data.toList.length = s.size := Array.length_toList
  unfold strV rdS at hk
  unfold intV
  cases hr : rdI (s.data.toList.drop o) with
  | none =>
    rw [hr] at hk
    simp only [ex3_0, ex3_1, ex3_2]
    rw [w_neq]
    simp only [show decide ((10 : Int) = 0) = false from rfl, Bool.not_false]
    rw [condW_true]
    exact hk
  | some p =>
    obtain ⟨n, c⟩ := p
    rw [hr] at hk
    obtain ⟨a1, a2, a3, a4⟩ := rdI_le hr
    rw [List.length_drop, hsl] at a2
    simp only [ex3_0, ex3_1, ex3_2]
    rw [w_neq]
    simp only [decide_true, Bool.not_true]
    rw [condW_false, w_lss]
    by_cases h1 : n < 0
    case' pos =>
      rw [decide_eq_true h1]
      simp only [guardW_tf, guardW_u, pickW_true]
      rw [condW_true]
      simp only at hk
      rw [if_neg (by omega)] at hk
      exact hk
    rw [decide_eq_false h1]
    simp only [guardW_ff, pickW_false]
    rw [w_gtr]
    by_cases h2 : n ≤ 65536
    case' neg =>
      rw [decide_eq_true (by omega)]
      simp only [guardW_tf, guardW_u, pickW_true]
      rw [condW_true]
      simp only at hk
      rw [if_neg (by omega)] at hk
      exact hk
    rw [decide_eq_false (by omega)]
    simp only [guardW_ff, pickW_false]
    rw [w_lenStr (by kernel_rfl), w_sub, wrap_id (by omega), w_gtr]
    by_cases h3 : n ≤ (s.size : Int) - ((o + c : Nat) : Int)
    case' neg =>
      rw [decide_eq_true (by omega), condW_true]
      simp only at hk
      rw [if_neg (by omega)] at hk
      exact hk
    rw [decide_eq_false (by omega), condW_false, w_add, wrap_id (by omega)]
    simp only at hk
    rw [if_pos ⟨by omega, h2, h3⟩] at hk
    obtain ⟨m, rfl⟩ : ∃ m : Nat, n = (m : Int) := ⟨n.toNat, by omega⟩
    rw [show (((o + c : Nat) : Int) + (m : Int)) = ((o + c + m : Nat) : Int) by omega]
    rw [w_sliceStr (by kernel_rfl) (by omega) (by omega) (by omega)]
    rw [Int.toNat_natCast, Int.toNat_natCast, w_add, wrap_id (by omega), show (((o + c : Nat) : Int) + (m : Int)) = ((o + c + m : Nat) : Int) by omega]
    rw [Int.toNat_natCast] at hk
    exact hk)
end
end Go.Proofs.YtbojglaimdjagaaGreatDoor
/- The journal, plain: how records are stored, and read again. -/
set_option linter.unusedSimpArgs false
set_option linter.unusedVariables false
set_option maxRecDepth 4000
namespace Go.Proofs.YtbojglaimdjagaaGreatDoor
open Go Go.V Go.RowKit
/-- 32 bytes of nothing -/
def z32 : ByteArray := ⟨(List.replicate 32 0).toArray⟩
/-- a record as it is stored, after others with a head -/
def recB (h r : ByteArray) : ByteArray := (⟨#[1]⟩ ++ (lenB r.size ++ r)) ++ chainF h r
/-- a tape: its records, its head, its size -/
structure TP where
  recs : List ByteArray
  head : ByteArray
  size : Nat
def addT (t : TP) (r : ByteArray) : TP := ⟨t.recs ++ [r], chainF t.head r, t.size + (recB t.head r).size⟩
def tp0 : TP := ⟨[], z32, 0⟩
/-- records as they are stored one after the other -/
def stL (h : ByteArray) : List ByteArray → List UInt8
  | [] => []
  | r :: l => (recB h r).data.toList ++ stL (chainF h r) l
/-- what is read: none if it is damaged -/
def ldF : Nat → TP → ByteArray → Option TP
  | 0, t, _ => some t
  | n + 1, t, s =>
    if t.size < s.size ∧ s.data.toList.getD t.size 0 ≠ 0 then
      if s.data.toList.getD t.size 0 = 1 then
        match rdS s (t.size + 1) with
        | none => none
        | some (m, p) => if p + m + 32 ≤ s.size ∧ recB t.head (s.extract p (p + m)) = s.extract t.size (p + m + 32) then ldF n (addT t (s.extract p (p + m))) s else none
      else none
    else some t
theorem ext_list (s : ByteArray) (a b : Nat) : (s.extract a b).data.toList = (s.data.toList.drop a).take (b - a) := by
  rw [ByteArray.data_extract, Array.toList_extract, List.extract_eq_take_drop]
theorem ba_ext {a b : ByteArray} (h : a.data.toList = b.data.toList) : a = b := by
  apply ByteArray.ext
  exact Array.ext' h
theorem ba_append (a b : ByteArray) : (a ++ b).data.toList = a.data.toList ++ b.data.toList := by
  rw [ByteArray.data_append]; simp
theorem ba_len (a : ByteArray) : a.data.toList.length = a.size := Array.length_toList
theorem lenB_list (n : Nat) : (lenB n).data.toList = vb (2 * n) := rfl
theorem recB_list (h r : ByteArray) : (recB h r).data.toList = 1 :: (vb (2 * r.size) ++ (r.data.toList ++ (chainF h r).data.toList)) := by
  unfold recB
  rw [ba_append, ba_append, ba_append, lenB_list]
  simp
theorem chain_size (h r : ByteArray) : (chainF h r).size = 32 := shaF_size _
theorem lenB_size (n : Nat) : (lenB n).size = (vb (2 * n)).length := by rw [← ba_len, lenB_list]
theorem recB_size (h r : ByteArray) : (recB h r).size = 33 + (vb (2 * r.size)).length + r.size := by
  rw [← ba_len, recB_list]
  simp only [List.length_cons, List.length_append, ba_len, chain_size]
  omega
theorem rdS_rec {s : ByteArray} {o : Nat} {r : ByteArray} {rest : List UInt8} (hr : r.size ≤ 65536) (ho : o ≤ s.size) (h : s.data.toList.drop o = vb (2 * r.size) ++ (r.data.toList ++ rest)) :
    rdS s o = some (r.size, o + (vb (2 * r.size)).length) ∧ s.extract (o + (vb (2 * r.size)).length) (o + (vb (2 * r.size)).length + r.size) = r := by
  have hl := congrArg List.length h
  simp only [List.length_drop, List.length_append, ba_len] at hl
  constructor
  · unfold rdS
    rw [h, rdI_lenB (by omega)]
    simp only
    rw [if_pos ⟨by omega, by omega, by omega⟩]
    simp
  · apply ba_ext
    rw [ext_list, ← List.drop_drop, h, List.drop_left]
    rw [show o + (vb (2 * r.size)).length + r.size - (o + (vb (2 * r.size)).length) = r.data.toList.length by rw [ba_len]; omega, List.take_left]
theorem ldF_st : ∀ (l : List ByteArray) (n : Nat) (t : TP) (s : ByteArray) (tail : List UInt8), (∀ r ∈ l, r.size ≤ 65536) → s.data.toList.drop t.size = stL t.head l ++ tail → tail.getD 0 0 = 0 → t.size ≤ s.size → s.size - t.size < n → ldF n t s = some (l.foldl addT t)
  | [], n, t, s, tail, _, hd, h0, hs, hn => by
    obtain ⟨n, rfl⟩ : ∃ m, n = m + 1 := ⟨n - 1, by omega⟩
    simp only [stL, List.nil_append] at hd
    have : s.data.toList.getD t.size 0 = 0 := by
      rw [← hd] at h0
      rw [List.getD_eq_getElem?_getD, List.getElem?_drop, Nat.add_zero, ← List.getD_eq_getElem?_getD] at h0
      exact h0
    simp only [ldF]
    rw [if_neg (fun hh => hh.2 this)]
    rfl
  | r :: l, n, t, s, tail, hr, hd, h0, hs, hn => by
    obtain ⟨n, rfl⟩ : ∃ m, n = m + 1 := ⟨n - 1, by omega⟩
    have hr1 := hr r (by simp)
    simp only [stL] at hd
    have hd' := hd
    rw [recB_list] at hd'
    simp only [List.cons_append, List.append_assoc] at hd'
    have hlen := congrArg List.length hd
    rw [List.length_drop, ba_len, List.length_append, List.length_append, ba_len, recB_size] at hlen
    have h1 : s.data.toList.getD t.size 0 = 1 := by
      have := congrArg (fun x => List.getD x 0 0) hd'
      simp only [List.getD_eq_getElem?_getD, List.getElem?_drop, Nat.add_zero] at this
      rw [List.getD_eq_getElem?_getD, this]; rfl
    have hd2 : s.data.toList.drop (t.size + 1) = vb (2 * r.size) ++ (r.data.toList ++ ((chainF t.head r).data.toList ++ (stL (chainF t.head r) l ++ tail))) := by
      rw [← List.drop_drop, hd']; rfl
    obtain ⟨e1, e2⟩ := rdS_rec hr1 (by omega) hd2
    simp only [ldF]
    rw [if_pos ⟨by omega, by rw [h1]; decide⟩, if_pos h1, e1]
    simp only
    rw [e2]
    have e3 : recB t.head r = s.extract t.size (t.size + 1 + (vb (2 * r.size)).length + r.size + 32) := by
      apply ba_ext
      rw [ext_list, hd, List.append_assoc]
      rw [show t.size + 1 + (vb (2 * r.size)).length + r.size + 32 - t.size = (recB t.head r).data.toList.length by rw [ba_len, recB_size]; omega, List.take_left]
    rw [if_pos ⟨by omega, e3⟩]
    have := ldF_st l n (addT t r) s tail (fun x hx => hr x (by simp [hx])) ?_ h0 ?_ ?_
    · rw [this]; rfl
    · show s.data.toList.drop (t.size + (recB t.head r).size) = _
      rw [← List.drop_drop, hd, List.append_assoc]
      rw [show (recB t.head r).size = (recB t.head r).data.toList.length from (ba_len _).symm, List.drop_left]
      rfl
    · show t.size + (recB t.head r).size ≤ s.size
      rw [recB_size]; omega
    · show s.size - (t.size + (recB t.head r).size) < n
      rw [recB_size]; omega
theorem foldl_addT : ∀ (l : List ByteArray) (t : TP), (l.foldl addT t).recs = t.recs ++ l ∧ (l.foldl addT t).size = t.size + (stL t.head l).length
  | [], t => by simp [stL]
  | r :: l, t => by
    obtain ⟨a, b⟩ := foldl_addT l (addT t r)
    simp only [List.foldl_cons, stL, List.length_append, ba_len]
    rw [a, b]
    simp [addT, Nat.add_assoc]
theorem stL_append : ∀ (l m : List ByteArray) (h : ByteArray), stL h (l ++ m) = stL h l ++ stL (l.foldl chainF h) m
  | [], m, h => rfl
  | r :: l, m, h => by simp only [List.cons_append, stL, List.foldl_cons, List.append_assoc]; rw [stL_append l m]
theorem foldl_head : ∀ (l : List ByteArray) (t : TP), (l.foldl addT t).head = l.foldl chainF t.head
  | [], t => rfl
  | r :: l, t => by simp only [List.foldl_cons]; rw [foldl_head l]; rfl
end Go.Proofs.YtbojglaimdjagaaGreatDoor
/- The tape: a record added; what must hold. -/
set_option linter.unusedSimpArgs false
set_option linter.unusedVariables false
set_option maxRecDepth 4000
namespace Go.Proofs.YtbojglaimdjagaaGreatDoor
open Go Go.V Go.RowKit
/-- a tape in memory: the first three cells of a row of type T -/
structure TapeR (B : Nat) (w : World) (b T : Nat) (rest : List Value) (rv : Value) (t : TP) : Prop where
  row : RowAt w b T (rv :: .string t.head :: I t.size :: rest)
  base : B ≤ b
  ne : T ≠ 9
  recs : Mine fT 9 w B rv t.recs
theorem TapeR.off {B b T : Nat} {w w' : World} {rest : List Value} {rv : Value} {t : TP} {p : Nat → Prop} (h : TapeR B w b T rest rv t) (ho : Off p w w') (hp : ∀ x, x = b ∨ isOf rv x → ¬ p x) : TapeR B w' b T rest rv t :=
  ⟨h.row.off ho (hp _ (.inl rfl)), h.base, h.ne, h.recs.off ho fun x hx => hp x (.inr hx)⟩
theorem TapeR.below {B b T : Nat} {w w' : World} {rest : List Value} {rv : Value} {t : TP} (h : TapeR B w b T rest rv t) (hb : Below w.heap.size w w') : TapeR B w' b T rest rv t :=
  ⟨h.row.below hb, h.base, h.ne, h.recs.below hb⟩
section
variable {k : Value → World → Prop} {kp : List PanicEntry → World → Prop} {w : World}
theorem c38 {B b T : Nat} {rest : List Value} {rv : Value} {t : TP} {r : ByteArray} (hg : Gl w) (h : TapeR B w b T rest rv t) (hB : 3 < B) (hh : t.head.size = 32) (hr : r.size ≤ 65536) (hn : t.recs.length ≤ 100000000) (hs : t.size ≤ 1000000000)
    (hk : ∀ w' rv', TapeR B w' b T rest rv' (addT t r) → Off (fun x => x = b ∨ isOf rv x) w w' → Below B w w' → (∀ x, isOf rv' x → isOf rv x ∨ w.heap.size ≤ x) → k (.string (recB t.head r)) w') :
    callW Tryz.prog (.func (.func 38) #[] #[]) #[.pointer (some ⟨b, 0, none⟩), .string r] k w := C38 _ _ _ _ (by
  unfold S38
  have hml : 1000000000 ≤ maxLen := by decide
  have hBw : B ≤ w.heap.size := Nat.le_trans h.base (Nat.le_of_lt h.row.lt)
  simp only [nilW_ptr]
  rw [fl72_1, ld9 (h.row.cell (i := 0 + 1) rfl)]
  refine c70 hg (by omega) fun w1 hb1 => ?_
  have h1 := h.below hb1
  rw [fl72_1, st9 rfl (h1.row.cell (i := 0 + 1) rfl) (h1.row.free _)]
  have ho2 : Off (fun x => x = b) w1 (w1.setCell ⟨b, 0 + 1, none⟩ (.string (chainF t.head r))) := Off.set (p := fun x => x = b) rfl
  have hr2 := h1.row.set (0 + 1) (.string (chainF t.head r))
  have hb2 : Below B w1 (w1.setCell ⟨b, 0 + 1, none⟩ (.string (chainF t.head r))) := (Below.refl _ _).setCell h.base _
  have hm2 := h1.recs.apart ho2 (apRow h1.row h.ne)
  generalize w1.setCell ⟨b, 0 + 1, none⟩ (.string (chainF t.head r)) = w2 at *
  replace hr2 : RowAt w2 b T (rv :: .string (chainF t.head r) :: I t.size :: rest) := hr2
  rw [fl72_0, ld22 (hr2.cell (i := 0) rfl)]
  refine Mine.push (F := fT) (x := r) sty22 (fun u hu => by simp [fT] at hu; subst hu; rfl) rfl (by decide) hm2 (Nat.le_trans hBw (Nat.le_trans hb1.size ho2.size)) (by omega) (by omega) fun rv3 w3 hm3 hb3 ho3 hu3 => ?_
  have hrb : ¬ isOf rv b := fun hx => by
    have := Tag.uniq (Mine.tag hm2 hx) (RowAt.tag hr2)
    exact h.ne this.symm
  have hr3 := hr2.off ho3 hrb
  have hov : rv3.oneCell' = true := by obtain ⟨a9, c9, rfl, -⟩ := hm3.sl; rfl
  rw [fl72_0, st22 hov (hr3.cell (i := 0) rfl) (hr3.free _)]
  have ho4 : Off (fun x => x = b) w3 (w3.setCell ⟨b, 0, none⟩ rv3) := Off.set (p := fun x => x = b) rfl
  have hr4 := hr3.set 0 rv3
  have hb4 : Below B w3 (w3.setCell ⟨b, 0, none⟩ rv3) := (Below.refl _ _).setCell h.base _
  have hm4 := hm3.apart ho4 (apRow hr3 h.ne)
  generalize w3.setCell ⟨b, 0, none⟩ rv3 = w4 at *
  replace hr4 : RowAt w4 b T (rv3 :: .string (chainF t.head r) :: I t.size :: rest) := hr4
  refine c71 hr fun w5 hb5 => ?_
  rw [ex0, ex1, drewW_eq]
  have hbd := below_trans hb5 (below_drew w5)
  have hr5 := hr4.below hbd
  have hm5 := hm4.below hbd
  generalize w5.drew = w6 at *
  have a6 : after w6 w6 := Below.refl _ _
  refine ⟨after w6, a6, ?_⟩
  simp only [nilT_ptr]
  rw [tfl72_1, r_loadA agg9 known9 (hr5.cell (i := 0 + 1) rfl) a6]
  refine w_parts (F := fB) (l := [1]) sty39 rfl (by decide) (by decide) (by kernel_rfl) rfl fun w7 hb7 _ hm7 => ?_
  rw [keepS_eq]
  refine ⟨hb7, ?_⟩
  rw [takeW_same (run_of_eq fun k => w_toStr (e := 5) (by kernel_rfl) (by kernel_rfl) (by kernel_rfl) hm7.sl (by simp))]
  have e1 : (lenB r.size ++ r).size = (vb (2 * r.size)).length + r.size := by rw [ByteArray.size_append, lenB_size]
  have e2 := (vb_len (2 * r.size)).2
  have e3 := chain_size t.head r
  have e4 : ((⟨#[1]⟩ : ByteArray)).size = 1 := rfl
  have e5 : ((⟨#[1]⟩ : ByteArray) ++ (lenB r.size ++ r)).size = 1 + ((vb (2 * r.size)).length + r.size) := by rw [ByteArray.size_append, e1, e4]
  rw [show (⟨([1] : List UInt8).toArray⟩ : ByteArray) = ⟨#[1]⟩ from rfl]
  rw [t_addStr (by omega), t_addStr (by omega)]
  have hr7 := hr5.below hb7
  have hm7' := hm5.below hb7
  rw [fl72_2, ld3 (hr7.cell (i := 0 + 2) rfl), w_lenStr (by kernel_rfl), w_add]
  have e6 : (((⟨#[1]⟩ : ByteArray) ++ (lenB r.size ++ r)) ++ chainF t.head r).size = (recB t.head r).size := rfl
  have e7 := recB_size t.head r
  rw [e6, wrap_id (by omega), show ((t.size : Int) + ((recB t.head r).size : Int)) = ((t.size + (recB t.head r).size : Nat) : Int) by omega]
  rw [fl72_2, st3 rfl (hr7.cell (i := 0 + 2) rfl) (hr7.free _)]
  have ho8 : Off (fun x => x = b) w7 (w7.setCell ⟨b, 0 + 2, none⟩ (I ((t.size + (recB t.head r).size : Nat) : Int))) := Off.set (p := fun x => x = b) rfl
  have hr8 := hr7.set (0 + 2) (I ((t.size + (recB t.head r).size : Nat) : Int))
  have hb8 : Below B w7 (w7.setCell ⟨b, 0 + 2, none⟩ (I ((t.size + (recB t.head r).size : Nat) : Int))) := (Below.refl _ _).setCell h.base _
  have hm8 := hm7'.apart ho8 (apRow hr7 h.ne)
  have hb57 := below_trans hbd hb7
  refine hk _ rv3 ⟨hr8, h.base, h.ne, hm8⟩ ?_ ?_ ?_
  · refine (Off.below hb1).trans ((ho2.mono fun x _ hx => .inl hx).trans ((ho3.mono fun x _ hx => .inr hx).trans ((ho4.mono fun x _ hx => .inl hx).trans ((Off.below hb57).trans (ho8.mono fun x _ hx => .inl hx)))))
  · have s1 := hb1.size
    have s2 := ho2.size
    have s3 := ho3.size
    have s4 := ho4.size
    exact (hb1.mono hBw).trans (hb2.trans (hb3.trans (hb4.trans ((hb57.mono (by omega)).trans hb8))))
  · intro x hx
    rcases hu3 x hx with hh | hh
    · exact .inl hh
    · exact .inr (Nat.le_trans (Nat.le_trans hb1.size ho2.size) hh))
theorem c100t (hk : k (.tuple #[]) w) : callP Tryz.prog (.func (.func 100) #[] #[]) #[.bool true] k kp w := C100 _ _ _ _ (by
  unfold S100
  rw [w_not, Bool.not_true, condW_false]
  exact hk)
theorem c100f {x : Value} (hc : w.cell? ⟨0, 0, none⟩ = some x) (hk : panicW x kp w) : callP Tryz.prog (.func (.func 100) #[] #[]) #[.bool false] k kp w := C100 _ _ _ _ (by
  unfold S100
  rw [w_not, Bool.not_false, condW_true, w_load (t := 80) (by kernel_rfl) (by kernel_rfl) hc]
  exact hk)
end
end Go.Proofs.YtbojglaimdjagaaGreatDoor
/- The tape: a content read. -/
set_option linter.unusedSimpArgs false
set_option linter.unusedVariables false
set_option maxRecDepth 4000
namespace Go.Proofs.YtbojglaimdjagaaGreatDoor
open Go Go.V Go.RowKit
theorem callP_of {P : Program} {f : Value} {args : Array Value} {k : Value → World → Prop} {kp : List PanicEntry → World → Prop} {w : World} (h : callW P f args k w) : callP P f args k kp w :=
  ⟨nextP_mono (fun _ _ h => h) (fun _ _ h => h.elim) h.out⟩
theorem Off.trans2 {p q : Nat → Prop} {a b c : World} (h : Off p a b) (h' : Off q b c) (hq : ∀ i, i < a.heap.size → q i → p i) : Off p a c :=
  ⟨Nat.le_trans h.size h'.size, fun i hi hp => (h'.block i (Nat.lt_of_lt_of_le hi h.size) (fun hh => hp (hq i hi hh))).trans (h.block i hi hp)⟩
theorem rdS_le {s : ByteArray} {o m p : Nat} (ho : o ≤ s.size) (h : rdS s o = some (m, p)) : m ≤ 65536 ∧ p + m ≤ s.size ∧ o < p := by
  unfold rdS at h
  split at h
  · cases h
  · next n c hc =>
    obtain ⟨a1, a2, a3, a4⟩ := rdI_le hc
    rw [List.length_drop, ba_len] at a2
    split at h
    · next hx =>
      simp only [Option.some.injEq, Prod.mk.injEq] at h
      obtain ⟨rfl, rfl⟩ := h
      omega
    · cases h
theorem ba_get {s : ByteArray} {i : Nat} (h : i < s.size) : s[i]? = some (s.data.toList.getD i 0) := by
  rw [getElem?_pos s i h, List.getD_eq_getElem?_getD, List.getElem?_eq_getElem (by rw [ba_len]; exact h)]
  rfl
section
variable {k : Value → World → Prop} {kp : List PanicEntry → World → Prop} {w : World}
theorem c78 {B b T : Nat} {rest : List Value} {rv : Value} {t : TP} {s : ByteArray} (hg : Gl w) (h : TapeR B w b T rest rv t) (hB : 3 < B) (hh : t.head.size = 32) (hs : s.size ≤ 1000000) (ht : t.size ≤ s.size) (hn : t.recs.length ≤ t.size)
    (hk : ∀ w' rv' t', ldF (s.size + 1) t s = some t' → TapeR B w' b T rest rv' t' → Off (fun x => x = b ∨ isOf rv x) w w' → Below B w w' → (∀ x, isOf rv' x → isOf rv x ∨ w.heap.size ≤ x) → t'.size ≤ s.size → t'.head.size = 32 → t'.recs.length ≤ t'.size → k (.tuple #[]) w')
    (hp : ∀ w' e, ldF (s.size + 1) t s = none → w'.cell? ⟨0, 0, none⟩ = some (.iface 222 (.pointer (some e))) → Off (fun x => x = b ∨ isOf rv x) w w' → Below B w w' → kp [{ v := .iface 222 (.pointer (some e)), recovered := false }] w') :
    callP Tryz.prog (.func (.func 78) #[] #[]) #[.pointer (some ⟨b, 0, none⟩), .string s] k kp w := C78 _ _ _ _ _ (by
  unfold S78
  have hBw : B ≤ w.heap.size := Nat.le_trans h.base (Nat.le_of_lt h.row.lt)
  refine Loop0.intro (fun m w' => ∃ t1 rv1 n, m = s.size - t1.size ∧ t1.size ≤ s.size ∧ s.size < n + t1.size ∧ ldF n t1 s = ldF (s.size + 1) t s ∧ TapeR B w' b T rest rv1 t1 ∧ t1.head.size = 32 ∧ t1.recs.length ≤ t1.size ∧ Off (fun x => x = b ∨ isOf rv x) w w' ∧ Below B w w' ∧ (∀ x, isOf rv1 x → isOf rv x ∨ w.heap.size ≤ x)) _ ⟨t, rv, s.size + 1, rfl, ht, by omega, rfl, h, hh, hn, Off.refl _ _, Below.refl _ _, fun x hx => .inl hx⟩ ?_
  rintro m w1 ⟨t1, rv1, n, rfl, ht1, hn1, he, h1, hh1, hr1, ho1, hb1, hu1⟩
  obtain ⟨n, rfl⟩ : ∃ m, n = m + 1 := ⟨n - 1, by omega⟩
  have hg1 : Gl w1 := hg.below hb1 hB
  obtain ⟨e0, he0⟩ := hg1.2.2
  have pan : ldF (n + 1) t1 s = none → ∀ w2 : World, Off (fun x => x = b ∨ isOf rv1 x) w1 w2 → Below B w1 w2 → w2.cell? ⟨0, 0, none⟩ = some (.iface 222 (.pointer (some e0))) → panicW (.iface 222 (.pointer (some e0))) kp w2 := fun hl w2 ho2 hb2 hc2 => by
    refine ⟨hp w2 e0 (by rw [← he]; exact hl) hc2 ?_ (hb1.trans hb2)⟩
    exact Off.trans2 ho1 ho2 (fun x hx hh => by
      rcases hh with rfl | hh
      · exact .inl rfl
      · rcases hu1 x hh with hh | hh
        · exact .inr hh
        · exact absurd hx (by omega))
  simp only [nilW_ptr]
  rw [fl72_2, ld3 (h1.row.cell (i := 0 + 2) rfl), w_lenStr (by kernel_rfl), w_lss]
  by_cases hlt : t1.size < s.size
  case' neg =>
    rw [decide_eq_false (by omega)]
    simp only [guardW_ft, guardW_u, pickW_false]
    rw [condW_false]
    have hl : ldF (n + 1) t1 s = some t1 := by simp only [ldF]; rw [if_neg (fun hx => hlt hx.1)]
    exact hk _ _ _ (by rw [← he]; exact hl) h1 ho1 hb1 hu1 ht1 hh1 hr1
  rw [decide_eq_true (by omega)]
  simp only [guardW_tt, pickW_true, nilW_ptr]
  rw [fl72_2, ld3 (h1.row.cell (i := 0 + 2) rfl), w_indexStr (by kernel_rfl) (by omega) (by rw [Int.toNat_natCast]; exact ba_get hlt), w_neq]
  obtain ⟨x, hx⟩ : ∃ x, s.data.toList.getD t1.size 0 = x := ⟨_, rfl⟩
  rw [hx]
  by_cases hx0 : x = 0
  case' pos =>
    subst hx0
    rw [show (!decide ((((0 : UInt8).toNat : Nat) : Int) = 0)) = false from rfl, condW_false]
    have hl : ldF (n + 1) t1 s = some t1 := by simp only [ldF]; rw [if_neg (fun hy => hy.2 hx)]
    exact hk _ _ _ (by rw [← he]; exact hl) h1 ho1 hb1 hu1 ht1 hh1 hr1
  have hx1 : x.toNat ≠ 0 := fun hy => hx0 (by
    have := UInt8.ofNat_toNat (x := x)
    rw [hy] at this; exact this.symm)
  rw [decide_eq_false (by omega), Bool.not_false, condW_true]
  rw [fl72_2, ld3 (h1.row.cell (i := 0 + 2) rfl), w_indexStr (by kernel_rfl) (by omega) (by rw [Int.toNat_natCast]; exact ba_get hlt), w_eql, hx]
  by_cases hx2 : x = 1
  case' neg =>
    have hx3 : x.toNat ≠ 1 := fun hy => hx2 (by
      have := UInt8.ofNat_toNat (x := x)
      rw [hy] at this; exact this.symm)
    rw [decide_eq_false (by omega)]
    refine c100f he0 (pan ?_ _ (Off.refl _ _) (Below.refl _ _) he0)
    simp only [ldF]
    rw [if_pos ⟨hlt, by rw [hx]; exact hx0⟩, if_neg (by rw [hx]; exact hx2)]
  subst hx2
  rw [show decide ((((1 : UInt8).toNat : Nat) : Int) = 1) = true from rfl]
  refine c100t ?_
  rw [w_add, wrap_id (by omega), show ((t1.size : Int) + 1) = ((t1.size + 1 : Nat) : Int) by omega]
  refine callP_of (c101 (by omega) (by omega) ?_)
  unfold strV
  cases hr : rdS s (t1.size + 1) with
  | none =>
    simp only [ex3_0, ex3_1, ex3_2]
    rw [w_eql]
    simp only [show decide ((10 : Int) = 0) = false from rfl]
    simp only [guardW_ft, guardW_u, pickW_false]
    refine c100f he0 (pan ?_ _ (Off.refl _ _) (Below.refl _ _) he0)
    simp only [ldF]
    rw [if_pos ⟨hlt, by rw [hx]; exact hx0⟩, if_pos hx, hr]
  | some mp =>
  obtain ⟨m, p⟩ := mp
  obtain ⟨a1, a2, a3⟩ := rdS_le (by omega) hr
  simp only [ex3_0, ex3_1, ex3_2]
  rw [w_eql]
  simp only [decide_true]
  simp only [guardW_tt, pickW_true]
  rw [w_add, wrap_id (by omega), w_lenStr (by kernel_rfl), w_leq]
  have hstep : ldF (n + 1) t1 s = if p + m + 32 ≤ s.size ∧ recB t1.head (s.extract p (p + m)) = s.extract t1.size (p + m + 32) then ldF n (addT t1 (s.extract p (p + m))) s else none := by
    simp only [ldF]
    rw [if_pos ⟨hlt, by rw [hx]; exact hx0⟩, if_pos hx, hr]
  by_cases h3 : p + m + 32 ≤ s.size
  case' neg =>
    rw [decide_eq_false (by omega)]
    refine c100f he0 (pan ?_ _ (Off.refl _ _) (Below.refl _ _) he0)
    rw [hstep, if_neg (fun hy => h3 hy.1)]
  rw [decide_eq_true (by omega)]
  refine c100t ?_
  rw [drewW_eq, t_add, wrap_id (by omega), t_sliceStr (by kernel_rfl) (by omega) (by omega) (by omega)]
  have hbd := below_drew w1
  have h2 := h1.below hbd
  have hg2 := gl_below hg1 hbd
  have hodr := Off.below (p := fun x => x = b ∨ isOf rv1 x) hbd
  have hBw1 : B ≤ w1.heap.size := Nat.le_trans hBw ho1.size
  have hbd2 : Below B w1 w1.drew := hbd.mono hBw1
  generalize w1.drew = w2 at *
  have hrs : (s.extract p (p + m)).size = m := by rw [ByteArray.size_extract]; omega
  refine callP_of (c38 hg2 h2 hB hh1 (by omega) (by omega) (by omega) fun w3 rv3 h3' ho3 hb3 hu3 => ?_)
  rw [t_eqlStr (by kernel_rfl)]
  have hb13 := hbd2.trans hb3
  have ho13 := hodr.trans ho3
  have he3 : w3.cell? ⟨0, 0, none⟩ = some (.iface 222 (.pointer (some e0))) := by
    rw [← he0]
    exact World.cell?_of_block (hb13.block 0 (by omega))
  have e1 : ((t1.size : Int)).toNat = t1.size := Int.toNat_natCast _
  have e2 : (((p + m : Nat) : Int) + 32).toNat = p + m + 32 := by omega
  rw [e1, e2]
  by_cases h4 : recB t1.head (s.extract p (p + m)) = s.extract t1.size (p + m + 32)
  case' neg =>
    rw [decide_eq_false h4]
    refine c100f he3 (pan ?_ _ ho13 hb13 he3)
    rw [hstep, if_neg (fun hy => h4 hy.2)]
  rw [decide_eq_true h4]
  refine c100t ?_
  rw [loopK_self]
  have e4 := congrArg ByteArray.size h4
  rw [recB_size, hrs, ByteArray.size_extract] at e4
  have e5 := recB_size t1.head (s.extract p (p + m))
  rw [hrs] at e5
  refine ⟨s.size - (t1.size + (recB t1.head (s.extract p (p + m))).size), by omega, addT t1 (s.extract p (p + m)), rv3, n, rfl, ?_, ?_, ?_, h3', chain_size _ _, ?_, ?_, hb1.trans hb13, ?_⟩
  · show t1.size + (recB t1.head (s.extract p (p + m))).size ≤ s.size
    omega
  · show s.size < n + (t1.size + (recB t1.head (s.extract p (p + m))).size)
    omega
  · rw [← he, hstep, if_pos ⟨h3, h4⟩]
  · show (t1.recs ++ [_]).length ≤ t1.size + (recB t1.head (s.extract p (p + m))).size
    rw [List.length_append, List.length_singleton]; omega
  · exact Off.trans2 ho1 ho13 (fun x hx hh => by
      rcases hh with rfl | hh
      · exact .inl rfl
      · rcases hu1 x hh with hh | hh
        · exact .inr hh
        · exact absurd hx (by omega))
  · intro x hx
    rcases hu3 x hx with hh | hh
    · exact hu1 x hh
    · exact .inr (Nat.le_trans ho1.size (Nat.le_trans hodr.size hh)))
end
end Go.Proofs.YtbojglaimdjagaaGreatDoor
/- The journal's calls of the disk: one after the other, up to the first error. -/
set_option linter.unusedSimpArgs false
set_option linter.unusedVariables false
set_option maxRecDepth 4000
namespace Go.Proofs.YtbojglaimdjagaaGreatDoor
open Go Go.V Go.RowKit
theorem callW_mono {P : Program} {f : Value} {args : Array Value} {k k' : Value → World → Prop} {w : World} (h : callW P f args k w) (hk : ∀ v w, k v w → k' v w) : callW P f args k' w :=
  ⟨nextP_mono hk (fun _ _ h => h) h.out⟩
def fFn : Fl Value := ⟨1, fun v => [v], fun _ => rfl⟩
/-- the call that writes, as a value: its three variables -/
def fnW (j a s : Nat) : Value := .func (.func 72) #[] #[.pointer (some ⟨j, 0, none⟩), .pointer (some ⟨a, 0, none⟩), .pointer (some ⟨s, 0, none⟩)]
def fnS (b : Nat) : Value := .func (.func 42) #[.pointer (some ⟨b, 0, none⟩)] #[]
section
variable {k : Value → World → Prop} {w : World}
theorem c40 {fs : List Value} {v : Value} {Inv : Nat → World → Prop} (hs : ∀ i w', Inv i w' → IsSl fFn w' v fs) (hl : fs.length ≤ 100) (h0 : Inv 0 w)
    (step : ∀ i f w', fs[i]? = some f → Inv i w' → callW Tryz.prog f #[] (fun r w'' => (∃ e : Int, e ≠ 0 ∧ r = I e ∧ k (I e) w'') ∨ (r = I 0 ∧ Inv (i + 1) w'')) w')
    (hk : ∀ w', Inv fs.length w' → k (I 0) w') : callW Tryz.prog (.func (.func 40) #[] #[]) #[v] k w := C40 _ _ _ (by
  unfold S40
  rw [w_lenS (by kernel_rfl) (hs 0 w h0)]
  refine Loop1.intro (fun n a w' => ∃ i : Nat, a = I i ∧ n = fs.length - i ∧ i ≤ fs.length ∧ Inv i w') _ ⟨0, rfl, rfl, Nat.zero_le _, h0⟩ ?_
  rintro n _ w1 ⟨i, rfl, rfl, hi, hI⟩
  rw [w_lss]
  by_cases hlt : i < fs.length
  case' neg =>
    rw [decide_eq_false (by omega), condW_false]
    have : i = fs.length := by omega
    subst this
    exact hk _ hI
  rw [decide_eq_true (by omega), condW_true]
  have hx : fs[((i : Int)).toNat]? = some fs[i] := by rw [Int.toNat_natCast]; exact List.getElem?_eq_getElem hlt
  refine ix127 (hs i w1 hI) rfl (by omega) hx fun b o hc => ?_
  rw [ld85 (show w1.cell? ⟨b, o, none⟩ = some fs[i] from hc 0 _ rfl)]
  refine callW_mono (step i _ w1 (List.getElem?_eq_getElem hlt) hI) ?_
  rintro r w2 (⟨e, he, rfl, hk2⟩ | ⟨rfl, hI2⟩)
  · rw [w_neq, decide_eq_false he, Bool.not_false, condW_true]
    exact hk2
  · rw [w_neq, decide_eq_true rfl, Bool.not_true, condW_false, w_add, wrap_id (by omega), loopK_self]
    exact ⟨fs.length - (i + 1), by omega, i + 1, by simp [I], rfl, by omega, hI2⟩)
theorem c41 {jv : Value} {o : Int} {s : ByteArray} (hj : jv.cells = #[jv]) (hk : ∀ ja a sb w', Below w.heap.size w w' → w.heap.size ≤ ja → w.heap.size ≤ a → w.heap.size ≤ sb → RowAt w' ja 28 [jv] → RowAt w' a 3 [I o] → RowAt w' sb 9 [.string s] → k (fnW ja a sb) w') :
    callW Tryz.prog (.func (.func 41) #[] #[]) #[jv, I o, .string s] k w := C41 _ _ _ _ _ (by
  unfold S41
  refine w_boxN fun w1 hb1 hs1 hr1 => ?_
  refine w_boxN fun w2 hb2 hs2 hr2 => ?_
  refine w_boxN fun w3 hb3 hs3 hr3 => ?_
  rw [w_makeFunc]
  rw [hj] at hr1
  exact hk _ _ _ _ (below_trans (below_trans hb1 hb2) hb3) (Nat.le_refl _) (by omega) (by omega) ((hr1.below hb2).below hb3) (hr2.below hb3) hr3)
theorem DiskR.apart {B b : Nat} {D : DK} {dv vv pv : Value} (h : DiskR B w b D dv vv pv) {t : Nat} (ht : 97 ≠ t ∧ 5 ≠ t ∧ 92 ≠ t) : Apart w (dBl b dv vv pv) t := by
  rintro x (rfl | hx | hx | hx)
  · exact ⟨97, h.row.tag, ht.1⟩
  · exact ⟨5, Mine.tag h.dur hx, ht.2.1⟩
  · exact ⟨5, Mine.tag h.vis hx, ht.2.1⟩
  · exact ⟨92, Mine.tag h.pend hx, ht.2.2⟩
variable {B b : Nat} {D : DK} {dv vv pv : Value}
theorem c13off {o : Int} {s : ByteArray} (h : DiskR B w b D dv vv pv) (hoff : D.off = true) (hk : k (I 331) w) : callW Tryz.prog (.func (.func 13) #[] #[]) #[.pointer (some ⟨b, 0, none⟩), I o, .string s] k w := C13 _ _ _ _ _ (by
  unfold S13
  refine c46 h ?_
  rw [hoff, if_pos rfl, w_neq]
  simp only [show decide ((331 : Int) = 0) = false from rfl, Bool.not_false]
  rw [condW_true]
  exact hk)
/-- writing, through its value -/
theorem c72 {ja a sb jb : Nat} {rv hd sz br : Value} {o : Nat} {s : ByteArray} (h : DiskR B w b D dv vv pv) (hne : D.dur ≠ []) (hin : o + s.size ≤ D.dur.length) (hlen : D.dur.length ≤ 1000000) (hleft : 0 ≤ D.left ∧ D.left ≤ 1000000) (hpl : D.pend.length ≤ 100000) (hBw : B ≤ w.heap.size)
    (hj : RowAt w jb 74 [rv, hd, sz, .pointer (some ⟨b, 0, none⟩), br]) (r1 : RowAt w ja 28 [.pointer (some ⟨jb, 0, none⟩)]) (r2 : RowAt w a 3 [I o]) (r3 : RowAt w sb 9 [.string s])
    (hk0 : D.off = true → ∀ w', Below w.heap.size w w' → k (I 331) w')
    (hk : D.off = false → ∀ w' pv', DiskR B w' b (wrD D o s) dv vv pv' → Off (dBl b dv vv pv) w w' → Below B w w' → (∀ x, isOf pv' x → isOf pv x ∨ w.heap.size ≤ x) → k (I 0) w') :
    callW Tryz.prog (fnW ja a sb) #[] k w := C72 _ _ _ _ _ (by
  unfold S72
  rw [drewW_eq]
  have hbd := below_drew w
  have hd := h.below hbd
  replace hj := hj.below hbd
  replace r1 := r1.below hbd
  replace r2 := r2.below hbd
  replace r3 := r3.below hbd
  have hodr := Off.below (p := dBl b dv vv pv) hbd
  have hbd2 : Below B w w.drew := hbd.mono hBw
  generalize w.drew = w1 at *
  have ho0 : Off (dBl b dv vv pv) w1 w1 := Off.refl _ _
  refine ⟨Off (dBl b dv vv pv) w1, ho0, ?_⟩
  have n1 : ¬ dBl b dv vv pv ja := fun hx => by
    obtain ⟨t', h1, h2⟩ := hd.apart (t := 28) (by decide) ja hx
    exact h2 (Tag.uniq h1 r1.tag)
  rw [r_loadO agg28 known28 (r1.cell (i := 0) rfl) n1 ho0]
  simp only [nilT_ptr]
  rw [tfl74_1, x_load agg27 known27 (hj.cell (i := 0 + 3) rfl), x_load agg3 known3 (r2.cell (i := 0) rfl), x_load agg9 known9 (r3.cell (i := 0) rfl)]
  cases hoff : D.off with
  | true =>
    refine c13off hd hoff ?_
    rw [keepS_eq]
    exact ⟨ho0, hk0 hoff _ hbd⟩
  | false =>
    refine c13 hd hne hoff hin hlen hleft hpl (Nat.le_trans hBw hbd.size) fun w2 pv2 h2 ho2 hb2 hu2 => ?_
    rw [keepS_eq]
    refine ⟨ho2, hk hoff w2 pv2 h2 (hodr.trans ho2) (hbd2.trans hb2) fun x hx => ?_⟩
    rcases hu2 x hx with hh | hh
    · exact .inl hh
    · exact .inr (Nat.le_trans hbd.size hh))
theorem c42S (h : DiskR B w b D dv vv pv) (hne : D.dur ≠ []) (hBw : B ≤ w.heap.size) (hk0 : D.off = true → k (I 331) w)
    (hk : D.off = false → ∀ w' pv', DiskR B w' b (syncD D) dv vv pv' → Off (dBl b dv vv pv) w w' → Below B w w' → (∀ x, isOf pv' x → isOf pv x) → k (I 0) w') : callW Tryz.prog (fnS b) #[] k w :=
  callW_calls ok42 (show Calls Tryz.prog 42 #[.pointer (some ⟨b, 0, none⟩)] w (retP k) from (c42 h hne hBw hk0 hk).out)
end
end Go.Proofs.YtbojglaimdjagaaGreatDoor
/- The journal's calls of the disk: two, and four. -/
set_option linter.unusedSimpArgs false
set_option linter.unusedVariables false
set_option maxRecDepth 4000
namespace Go.Proofs.YtbojglaimdjagaaGreatDoor
open Go Go.V Go.RowKit
/-- a disk that has been worked on since w0 -/
def StR (B : Nat) (w0 w : World) (b : Nat) (D : DK) (dv vv pv0 : Value) : Prop :=
  ∃ pv, DiskR B w b D dv vv pv ∧ Off (dBl b dv vv pv0) w0 w ∧ Below B w0 w ∧ ∀ x, isOf pv x → isOf pv0 x ∨ w0.heap.size ≤ x
theorem StR.refl {B b : Nat} {w : World} {D : DK} {dv vv pv : Value} (h : DiskR B w b D dv vv pv) : StR B w w b D dv vv pv := ⟨pv, h, Off.refl _ _, Below.refl _ _, fun _ h => .inl h⟩
theorem StR.row {B b r T : Nat} {w0 w : World} {D D0 : DK} {dv vv pv0 : Value} {vs : List Value} (hd : DiskR B w0 b D0 dv vv pv0) (h : StR B w0 w b D dv vv pv0) (hr : RowAt w0 r T vs) (ht : 97 ≠ T ∧ 5 ≠ T ∧ 92 ≠ T) : RowAt w r T vs := by
  obtain ⟨pv, _, ho, _, _⟩ := h
  exact hr.apart ho (hd.apart ht)
theorem StR.mine {α : Type} {F : Fl α} {B B' b e : Nat} {w0 w : World} {D D0 : DK} {dv vv pv0 v : Value} {l : List α} (hd : DiskR B w0 b D0 dv vv pv0) (h : StR B w0 w b D dv vv pv0) (hm : Mine F e w0 B' v l) (ht : 97 ≠ e ∧ 5 ≠ e ∧ 92 ≠ e) : Mine F e w B' v l := by
  obtain ⟨pv, _, ho, _, _⟩ := h
  exact hm.apart ho (hd.apart ht)
theorem StR.step {B b : Nat} {w0 w w' : World} {D' : DK} {dv vv pv0 pv pv' : Value} (h0 : Off (dBl b dv vv pv0) w0 w) (hb0 : Below B w0 w) (hu0 : ∀ x, isOf pv x → isOf pv0 x ∨ w0.heap.size ≤ x)
    (h : DiskR B w' b D' dv vv pv') (ho : Off (dBl b dv vv pv) w w') (hb : Below B w w') (hu : ∀ x, isOf pv' x → isOf pv x ∨ w.heap.size ≤ x) : StR B w0 w' b D' dv vv pv0 := by
  refine ⟨pv', h, Off.trans2 h0 ho ?_, hb0.trans hb, fun x hx => ?_⟩
  · rintro x hx (rfl | hh | hh | hh)
    · exact .inl rfl
    · exact .inr (.inl hh)
    · exact .inr (.inr (.inl hh))
    · rcases hu0 x hh with hh | hh
      · exact .inr (.inr (.inr hh))
      · omega
  · rcases hu x hx with hh | hh
    · exact hu0 x hh
    · exact .inr (Nat.le_trans h0.size hh)
/-- what a disk may hold -/
structure DOk (n : Nat) (D : DK) : Prop where
  n1 : 1 ≤ n
  n2 : n ≤ 1000000
  dur : D.dur.length = n
  vis : D.vis.length = n
  left : 0 ≤ D.left ∧ D.left ≤ 1000000
theorem DOk.ne {n : Nat} {D : DK} (h : DOk n D) : D.dur ≠ [] := fun hh => by
  have h1 := h.dur
  have h2 := h.n1
  rw [hh] at h1; simp at h1; omega
theorem DOk.sync {n : Nat} {D : DK} (h : DOk n D) : DOk n (syncD D) := ⟨h.n1, h.n2, h.vis, h.vis, h.left⟩
theorem DOk.wr {n : Nat} {D : DK} (h : DOk n D) {o : Nat} {s : ByteArray} (ho : o + s.size ≤ n) : DOk n (wrD D o s) := by
  have hl := h.left
  obtain ⟨a1, a2, a3⟩ := usedD_dur { D with vis := ontoL D.vis o s, pend := D.pend ++ [((o : Int), s)] }
  refine ⟨h.n1, h.n2, ?_, ?_, ?_⟩
  · unfold wrD; rw [a1]; exact h.dur
  · unfold wrD; rw [a2]
    show (ontoL D.vis o s).length = n
    rw [ontoL_len (by rw [h.vis]; exact ho)]; exact h.vis
  · unfold wrD usedD
    split
    · exact hl
    · rename_i hz
      have hz : ¬ D.left = 0 := hz
      show 0 ≤ D.left - 1 ∧ D.left - 1 ≤ 1000000
      omega
theorem wr_pend {D : DK} {o : Nat} {s : ByteArray} : (wrD D o s).pend = D.pend ++ [((o : Int), s)] := by
  obtain ⟨a1, a2, a3⟩ := usedD_dur { D with vis := ontoL D.vis o s, pend := D.pend ++ [((o : Int), s)] }
  unfold wrD; rw [a3]
theorem wr_vis {D : DK} {o : Nat} {s : ByteArray} : (wrD D o s).vis = ontoL D.vis o s := by
  obtain ⟨a1, a2, a3⟩ := usedD_dur { D with vis := ontoL D.vis o s, pend := D.pend ++ [((o : Int), s)] }
  unfold wrD; rw [a2]
theorem wr_dur {D : DK} {o : Nat} {s : ByteArray} : (wrD D o s).dur = D.dur := by
  obtain ⟨a1, a2, a3⟩ := usedD_dur { D with vis := ontoL D.vis o s, pend := D.pend ++ [((o : Int), s)] }
  unfold wrD; rw [a1]
/-- a write and a sync, up to the first error -/
def ap2 (D : DK) (o : Nat) (x : ByteArray) : Int × DK := if D.off = true then (331, D) else if (wrD D o x).off = true then (331, wrD D o x) else (0, syncD (wrD D o x))
/-- .. twice -/
def ap4 (D : DK) (o : Nat) (x : ByteArray) (p : Nat) (y : ByteArray) : Int × DK :=
  if D.off = true then (331, D) else if (wrD D o x).off = true then (331, wrD D o x) else ap2 (syncD (wrD D o x)) p y
section
variable {k : Value → World → Prop} {w : World} {B b : Nat} {D : DK} {dv vv pv : Value}
/-- the variables of a call that writes -/
structure WrR (w : World) (jb ja a sb : Nat) (o : Nat) (s : ByteArray) : Prop where
  r1 : RowAt w ja 28 [.pointer (some ⟨jb, 0, none⟩)]
  r2 : RowAt w a 3 [I o]
  r3 : RowAt w sb 9 [.string s]
theorem WrR.st {w' : World} {D0 : DK} {jb ja a sb o : Nat} {s : ByteArray} (hd : DiskR B w b D0 dv vv pv) (h : StR B w w' b D dv vv pv) (hw : WrR w jb ja a sb o s) : WrR w' jb ja a sb o s :=
  ⟨h.row hd hw.r1 (by decide), h.row hd hw.r2 (by decide), h.row hd hw.r3 (by decide)⟩
theorem stepW {w0 : World} {D0 : DK} {n jb ja a sb o : Nat} {s : ByteArray} {rv hd sz br : Value} (h0 : DiskR B w0 b D0 dv vv pv) (h : StR B w0 w b D dv vv pv) (hok : DOk n D) (hin : o + s.size ≤ n) (hpl : D.pend.length ≤ 100000) (hBw : B ≤ w0.heap.size)
    (hj : RowAt w0 jb 74 [rv, hd, sz, .pointer (some ⟨b, 0, none⟩), br]) (hw : WrR w0 jb ja a sb o s)
    (hk0 : D.off = true → ∀ w', StR B w0 w' b D dv vv pv → k (I 331) w') (hk : D.off = false → ∀ w', StR B w0 w' b (wrD D o s) dv vv pv → k (I 0) w') : callW Tryz.prog (fnW ja a sb) #[] k w := by
  have hj1 := h.row h0 hj (by decide)
  have hw1 := hw.st h0 h
  obtain ⟨pv1, h1, ho1, hb1, hu1⟩ := h
  refine c72 h1 hok.ne (by rw [hok.dur]; exact hin) (by rw [hok.dur]; exact hok.n2) hok.left hpl (Nat.le_trans hBw ho1.size) hj1 hw1.r1 hw1.r2 hw1.r3 (fun hoff w' hb' => hk0 hoff w' ?_) (fun hoff w' pv' h' ho' hb' hu' => hk hoff w' ?_)
  · exact StR.step ho1 hb1 hu1 (h1.below hb') (Off.below hb') (hb'.mono (Nat.le_trans hBw ho1.size)) fun x hx => .inl hx
  · exact StR.step ho1 hb1 hu1 h' ho' hb' hu'
theorem stepS {w0 : World} {D0 : DK} {n : Nat} (h0 : DiskR B w0 b D0 dv vv pv) (h : StR B w0 w b D dv vv pv) (hok : DOk n D) (hBw : B ≤ w0.heap.size)
    (hk0 : D.off = true → k (I 331) w) (hk : D.off = false → ∀ w', StR B w0 w' b (syncD D) dv vv pv → k (I 0) w') : callW Tryz.prog (fnS b) #[] k w := by
  obtain ⟨pv1, h1, ho1, hb1, hu1⟩ := h
  exact c42S h1 hok.ne (Nat.le_trans hBw ho1.size) hk0 fun hoff w' pv' h' ho' hb' hu' => hk hoff w' (StR.step ho1 hb1 hu1 h' ho' hb' fun x hx => .inl (hu' x hx))
theorem first2 {n jb ja a sb o B' : Nat} {s : ByteArray} {rv hd sz br v : Value} (h0 : DiskR B w b D dv vv pv) (hok : DOk n D) (hin : o + s.size ≤ n) (hpl : D.pend.length ≤ 100000) (hBw : B ≤ w.heap.size)
    (hj : RowAt w jb 74 [rv, hd, sz, .pointer (some ⟨b, 0, none⟩), br]) (hw : WrR w jb ja a sb o s) (hv : Mine fFn 85 w B' v [fnW ja a sb, fnS b])
    (hk : ∀ w', StR B w w' b (ap2 D o s).2 dv vv pv → k (I (ap2 D o s).1) w') : callW Tryz.prog (.func (.func 40) #[] #[]) #[v] k w := by
  refine c40 (fs := [fnW ja a sb, fnS b]) (Inv := fun i w' => match i with
    | 0 => StR B w w' b D dv vv pv
    | 1 => D.off = false ∧ StR B w w' b (wrD D o s) dv vv pv
    | _ => D.off = false ∧ (wrD D o s).off = false ∧ StR B w w' b (syncD (wrD D o s)) dv vv pv) (fun i w' hI => ?_) (by simp) (StR.refl h0) (fun i f w' hf hI => ?_) (fun w' hI => ?_)
  · match i, hI with
    | 0, hI => exact (StR.mine h0 hI hv (by decide)).sl
    | 1, hI => exact (StR.mine h0 hI.2 hv (by decide)).sl
    | _ + 2, hI => exact (StR.mine h0 hI.2.2 hv (by decide)).sl
  · match i, hf, hI with
    | 0, hf, hI =>
      cases hf
      refine stepW h0 hI hok hin hpl hBw hj hw (fun hoff w2 h2 => .inl ⟨331, by decide, rfl, ?_⟩) (fun hoff w2 h2 => .inr ⟨rfl, hoff, h2⟩)
      have := hk w2
      unfold ap2 at this
      rw [if_pos hoff] at this
      exact this h2
    | 1, hf, hI =>
      cases hf
      refine stepS h0 hI.2 (hok.wr hin) hBw (fun hoff => .inl ⟨331, by decide, rfl, ?_⟩) (fun hoff w2 h2 => .inr ⟨rfl, hI.1, hoff, h2⟩)
      have := hk w'
      unfold ap2 at this
      rw [if_neg (by rw [hI.1]; simp), if_pos hoff] at this
      exact this hI.2
    | i + 2, hf, hI => simp at hf
  · obtain ⟨e1, e2, h2⟩ := hI
    have := hk w'
    unfold ap2 at this
    rw [if_neg (by rw [e1]; simp), if_neg (by rw [e2]; simp)] at this
    exact this h2
theorem first4 {n jb ja a sb o ja' a' sb' o' B' : Nat} {s s' : ByteArray} {rv hd sz br v : Value} (h0 : DiskR B w b D dv vv pv) (hok : DOk n D) (hin : o + s.size ≤ n) (hin' : o' + s'.size ≤ n) (hpl : D.pend.length ≤ 100000) (hBw : B ≤ w.heap.size)
    (hj : RowAt w jb 74 [rv, hd, sz, .pointer (some ⟨b, 0, none⟩), br]) (hw : WrR w jb ja a sb o s) (hw' : WrR w jb ja' a' sb' o' s') (hv : Mine fFn 85 w B' v [fnW ja a sb, fnS b, fnW ja' a' sb', fnS b])
    (hk : ∀ w', StR B w w' b (ap4 D o s o' s').2 dv vv pv → k (I (ap4 D o s o' s').1) w') : callW Tryz.prog (.func (.func 40) #[] #[]) #[v] k w := by
  have ok1 : DOk n (wrD D o s) := hok.wr hin
  have ok2 : DOk n (syncD (wrD D o s)) := ok1.sync
  have ok3 : DOk n (wrD (syncD (wrD D o s)) o' s') := ok2.wr hin'
  refine c40 (fs := [fnW ja a sb, fnS b, fnW ja' a' sb', fnS b]) (Inv := fun i w' => match i with
    | 0 => StR B w w' b D dv vv pv
    | 1 => D.off = false ∧ StR B w w' b (wrD D o s) dv vv pv
    | 2 => D.off = false ∧ (wrD D o s).off = false ∧ StR B w w' b (syncD (wrD D o s)) dv vv pv
    | 3 => D.off = false ∧ (wrD D o s).off = false ∧ StR B w w' b (wrD (syncD (wrD D o s)) o' s') dv vv pv
    | _ => D.off = false ∧ (wrD D o s).off = false ∧ (wrD (syncD (wrD D o s)) o' s').off = false ∧ StR B w w' b (syncD (wrD (syncD (wrD D o s)) o' s')) dv vv pv) (fun i w' hI => ?_) (by simp) (StR.refl h0) (fun i f w' hf hI => ?_) (fun w' hI => ?_)
  · match i, hI with
    | 0, hI => exact (StR.mine h0 hI hv (by decide)).sl
    | 1, hI => exact (StR.mine h0 hI.2 hv (by decide)).sl
    | 2, hI => exact (StR.mine h0 hI.2.2 hv (by decide)).sl
    | 3, hI => exact (StR.mine h0 hI.2.2 hv (by decide)).sl
    | _ + 4, hI => exact (StR.mine h0 hI.2.2.2 hv (by decide)).sl
  · match i, hf, hI with
    | 0, hf, hI =>
      cases hf
      refine stepW h0 hI hok hin hpl hBw hj hw (fun hoff w2 h2 => .inl ⟨331, by decide, rfl, ?_⟩) (fun hoff w2 h2 => .inr ⟨rfl, hoff, h2⟩)
      have := hk w2
      unfold ap4 at this
      rw [if_pos hoff] at this
      exact this h2
    | 1, hf, hI =>
      cases hf
      refine stepS h0 hI.2 ok1 hBw (fun hoff => .inl ⟨331, by decide, rfl, ?_⟩) (fun hoff w2 h2 => .inr ⟨rfl, hI.1, hoff, h2⟩)
      have := hk w'
      unfold ap4 at this
      rw [if_neg (by rw [hI.1]; simp), if_pos hoff] at this
      exact this hI.2
    | 2, hf, hI =>
      cases hf
      obtain ⟨e1, e2, hI⟩ := hI
      refine stepW h0 hI ok2 hin' (Nat.zero_le _) hBw hj hw' (fun hoff w2 h2 => ?_) (fun hoff w2 h2 => .inr ⟨rfl, e1, e2, h2⟩)
      have hoff : (wrD D o s).off = true := hoff
      rw [e2] at hoff; cases hoff
    | 3, hf, hI =>
      cases hf
      obtain ⟨e1, e2, hI⟩ := hI
      refine stepS h0 hI ok3 hBw (fun hoff => .inl ⟨331, by decide, rfl, ?_⟩) (fun hoff w2 h2 => .inr ⟨rfl, e1, e2, hoff, h2⟩)
      have := hk w'
      have e3 : (syncD (wrD D o s)).off = false := e2
      unfold ap4 ap2 at this
      rw [if_neg (by rw [e1]; simp), if_neg (by rw [e2]; simp), if_neg (by rw [e3]; simp), if_pos hoff] at this
      exact this hI
    | i + 4, hf, hI => simp at hf
  · obtain ⟨e1, e2, e4, h2⟩ := hI
    have := hk w'
    have e3 : (syncD (wrD D o s)).off = false := e2
    unfold ap4 ap2 at this
    rw [if_neg (by rw [e1]; simp), if_neg (by rw [e2]; simp), if_neg (by rw [e3]; simp), if_neg (by rw [e4]; simp)] at this
    exact this h2
end
end Go.Proofs.YtbojglaimdjagaaGreatDoor
/- The journal: Records, Room; a builder. -/
set_option linter.unusedSimpArgs false
set_option linter.unusedVariables false
set_option maxRecDepth 4000
namespace Go.Proofs.YtbojglaimdjagaaGreatDoor
open Go Go.V Go.RowKit
section
variable {k : Value → World → Prop} {w : World}
theorem c36 {v : Value} {l : List ByteArray} (hs : IsSl fT w v l) (hl : l.length ≤ 1000000) (hk : ∀ v' w', Below w.heap.size w w' → Mine fT 9 w' w.heap.size v' l → k v' w') : callW Tryz.prog (.func (.func 36) #[] #[]) #[v] k w := by
  obtain ⟨a, c, rfl, hc, hx⟩ := hs
  cases a with
  | none =>
    have : l = [] := by
      cases l with
      | nil => rfl
      | cons x r => obtain ⟨b, o, h, _⟩ := hx 0 x rfl; cases h
    subst this
    refine callW_calls ok36 (Calls.mono (Tryz.slices_Clone_string_nil 0 c w) ?_)
    rintro e w' ⟨rfl, rfl⟩
    exact hk _ _ (Below.refl _ _) (Mine.nil _ _)
  | some ad =>
    cases l with
    | nil =>
      refine callW_calls ok36 (Calls.mono (Tryz.slices_Clone_string_zero ad c w) ?_)
      rintro e w' ⟨v', rfl, ho, _, hb⟩
      exact hk _ _ hb ho
    | cons x r =>
      obtain ⟨bk, o, he, _⟩ := hx 0 x rfl
      cases he
      refine callW_calls ok36 (Calls.mono (Tryz.slices_Clone_string bk o (x :: r).length c (x :: r) w (Nat.le_refl _) (by omega) fun j hj => ?_) ?_)
      · obtain ⟨b', o', he, hcl⟩ := hx j (x :: r)[j] (List.getElem?_eq_getElem hj)
        cases he
        have := hcl 0 (.string (x :: r)[j]) rfl
        rw [List.getD_eq_getElem?_getD, List.getElem?_eq_getElem hj]
        simpa [fT] using this
      · rintro e w' ⟨v', rfl, ho, _, hb⟩
        rw [List.take_length] at ho
        have e1 : flat fT (x :: r) = (x :: r).map Value.string := by
          have : ∀ l : List ByteArray, flat fT l = l.map Value.string := fun l => by
            induction l with
            | nil => rfl
            | cons y l ih => rw [List.map_cons, ← ih]; rfl
          exact this _
        refine hk _ _ hb ?_
        unfold Mine
        rw [e1]
        exact ho
theorem eqP28 {ox oy : Operand} {a : Addr} : opW Tryz.prog (binS .eql 28 ox oy (.pointer (some a)) (.pointer none)) k w = k (.bool false) w := opW_ok (by kernel_rfl)
theorem eqP28n {ox oy : Operand} : opW Tryz.prog (binS .eql 28 ox oy (.pointer none) (.pointer none)) k w = k (.bool true) w := opW_ok (by kernel_rfl)
variable {B b jb : Nat} {rest : List Value} {rv : Value} {t : TP}
theorem c19 (h : TapeR B w jb 74 rest rv t) (hl : t.recs.length ≤ 1000000) (hk : ∀ v' w', Below w.heap.size w w' → Mine fT 9 w' w.heap.size v' t.recs → k v' w') : callW Tryz.prog (.func (.func 19) #[] #[]) #[.pointer (some ⟨jb, 0, none⟩)] k w := C19 _ _ _ (by
  unfold S19
  rw [eqP28, condW_false]
  simp only [nilW_ptr]
  rw [fl74_0, fl72_0, ld22 (h.row.cell (i := 0) rfl)]
  exact c36 h.recs.sl hl hk)
theorem c20 {D : DK} {dv vv pv br : Value} {n : Nat} (hd : DiskR B w b D dv vv pv) (hn : D.dur.length = n) (hn2 : n ≤ 1000000) (h : TapeR B w jb 74 [.pointer (some ⟨b, 0, none⟩), br] rv t) (hs : t.size ≤ 1000000) (hk : ∀ w', Below w.heap.size w w' → k (I ((n : Int) - t.size)) w') :
    callW Tryz.prog (.func (.func 20) #[] #[]) #[.pointer (some ⟨jb, 0, none⟩)] k w := C20 _ _ _ (by
  unfold S20
  rw [eqP28, condW_false, drewW_eq]
  have hbd := below_drew w
  replace hd := hd.below hbd
  replace h := h.below hbd
  replace hk : ∀ w', Below w.drew.heap.size w.drew w' → k (I ((n : Int) - t.size)) w' := fun w' h => hk w' (below_trans hbd h)
  generalize w.drew = w1 at *
  have a1 : after w1 w1 := Below.refl _ _
  refine ⟨after w1, a1, ?_⟩
  simp only [nilT_ptr]
  rw [tfl74_1, x_load agg27 known27 (h.row.cell (i := 0 + 3) rfl), tfl74_0, tfl72_2, r_loadA agg3 known3 (h.row.cell (i := 0 + 2) rfl) a1]
  refine c51 hd ?_
  rw [keepS_eq]
  refine ⟨a1, ?_⟩
  rw [t_sub, wrap_id (by omega), hn]
  exact hk _ (Below.refl _ _))
/-- a builder that holds bytes -/
abbrev BuR (w : World) (ob : Nat) (l : List UInt8) : Prop := Lib.IsBuilderF 78 5 ob ob (Lib.byteCells l) w
theorem BuR.at_ {ob : Nat} {l : List UInt8} (h : BuR w ob l) : ∃ p, Lib.BuilderAtF 78 5 ob ob p (Lib.byteCells l) w := by
  rcases h with h | h
  · exact ⟨_, h⟩
  · exact ⟨_, h⟩
theorem BuR.lt {ob : Nat} {l : List UInt8} (h : BuR w ob l) : ob < w.heap.size := by
  obtain ⟨p, _, v, hb, _⟩ := BuR.at_ h
  rcases Nat.lt_or_ge ob w.heap.size with h' | h'
  · exact h'
  · simp [Array.getElem?_eq_none h'] at hb
theorem BuR.new (hr : RowAt w b 78 [.pointer none, nS]) : BuR w b [] := .inl ⟨Nat.le_refl _, nS, hr, ⟨by simp [Lib.byteCells], .inl ⟨rfl, rfl⟩⟩, by simp [Value.ownBlock]⟩
theorem BuilderAtF.offP {ob : Nat} {p : Value} {bs : List Value} {w' : World} {q : Nat → Prop} (h : Lib.BuilderAtF 78 5 ob ob p bs w) (ho : Off q w w') (hq : ∀ x, q x → x ≠ ob ∧ ∀ c fz, w.heap[x]? ≠ some (.cells c 5 fz)) : Lib.BuilderAtF 78 5 ob ob p bs w' := by
  obtain ⟨h1, v, hb, hown, hne⟩ := h
  have same : ∀ (x : Nat) o, w.heap[x]? = some o → ¬ q x → w'.heap[x]? = some o := fun x o hx hn => by
    have hlt : x < w.heap.size := by
      rcases Nat.lt_or_ge x w.heap.size with h' | h'
      · exact h'
      · simp [Array.getElem?_eq_none h'] at hx
    rw [ho.block x hlt hn]; exact hx
  refine ⟨h1, v, same _ _ hb (fun hx => (hq _ hx).1 rfl), ⟨hown.1, ?_⟩, hne⟩
  rcases hown.2 with h2 | ⟨g, cap, cur, fz, h2, h3, h4, h5⟩
  · exact .inl h2
  · exact .inr ⟨g, cap, cur, fz, h2, h3, same _ _ h4 (fun hx => (hq _ hx).2 _ _ h4), h5⟩
theorem BuR.off {ob : Nat} {l : List UInt8} {w' : World} {q : Nat → Prop} (h : BuR w ob l) (ho : Off q w w') (hq : ∀ x, q x → x ≠ ob ∧ ∀ c fz, w.heap[x]? ≠ some (.cells c 5 fz)) : BuR w' ob l := by
  rcases h with h | h
  · exact .inl (BuilderAtF.offP h ho hq)
  · exact .inr (BuilderAtF.offP h ho hq)
/-- what a builder's work may change -/
def buP (w : World) (ob : Nat) (x : Nat) : Prop := ob ≤ x ∧ (x = ob ∨ ∃ c fz, w.heap[x]? = some (.cells c 5 fz))
theorem off_bu {ob : Nat} {w' : World} (hb : Below ob w w') (hk : Lib.OthersKept 5 (some ob) w w') : Off (buP w ob) w w' := by
  refine ⟨hb.size, fun x hx hn => ?_⟩
  rcases Nat.lt_or_ge x ob with h | h
  · exact hb.block x h
  · have hne : x ≠ ob := fun hh => hn ⟨h, .inl hh⟩
    rw [Array.getElem?_eq_getElem hx]
    exact hk x _ (Array.getElem?_eq_getElem hx) (fun hh => hne (Option.some.inj hh)) fun c fz hh => hn ⟨h, .inr ⟨c, fz, by rw [Array.getElem?_eq_getElem hx, hh]⟩⟩
theorem c37 {ob : Nat} {l : List UInt8} {s : ByteArray} (h : BuR w ob l) (hl : l.length + s.size ≤ 1000000000) (hk : ∀ r w', BuR w' ob (l ++ s.data.toList) → Below ob w w' → Off (buP w ob) w w' → k r w') : callW Tryz.prog (.func (.func 37) #[] #[]) #[.pointer (some ⟨ob, 0, none⟩), .string s] k w := by
  have hlt := BuR.lt h
  refine callW_calls ok37 (Calls.mono (Any.Builder_WriteString_k { Tryz.lays156 with } Tryz.Builder_Extra_156 ob ob (Lib.byteCells l) s w h (by rw [Lib.byteCells_length]; omega) (Nat.le_of_lt hlt)) ?_)
  rintro e w' ⟨rfl, hA, hb, hkp⟩
  refine hk _ _ (.inr ?_) hb (off_bu hb hkp)
  have : Lib.byteCells (l ++ s.data.toList) = Lib.byteCells l ++ Lib.strCells s := by
    rw [Lib.strCells_eq]; simp [Lib.byteCells]
  rw [this]
  exact hA
theorem c39 {ob : Nat} {l : List UInt8} (h : BuR w ob l) (hk : ∀ w', Below ob w w' → Off (buP w ob) w w' → k (.string ⟨l.toArray⟩) w') : callW Tryz.prog (.func (.func 39) #[] #[]) #[.pointer (some ⟨ob, 0, none⟩)] k w := by
  refine callW_calls ok39 (Calls.mono (Any.Builder_String_any_k Tryz.lays169 Tryz.Builder_Extra_169 ob ob l w h (Nat.le_of_lt (BuR.lt h))) ?_)
  rintro e w' ⟨rfl, hA, hb, hkp⟩
  exact hk _ hb (off_bu hb hkp)
theorem row_bu {ob r T : Nat} {vs : List Value} {l : List UInt8} (hb : BuR w ob l) (hr : RowAt w r T vs) (ht : T ≠ 78 ∧ T ≠ 5) : ¬ buP w ob r := by
  rintro ⟨_, rfl | ⟨c, fz, hc⟩⟩
  · obtain ⟨p, _, v, hb2, _⟩ := BuR.at_ hb
    have : RowAt w r T vs := hr
    unfold RowAt at this
    rw [hb2] at this
    simp only [Option.some.injEq, Obj.cells.injEq] at this
    exact ht.1 this.2.1.symm
  · have : RowAt w r T vs := hr
    unfold RowAt at this
    rw [hc] at this
    simp only [Option.some.injEq, Obj.cells.injEq] at this
    exact ht.2 this.2.1.symm
theorem tag_bu {ob r T : Nat} {l : List UInt8} (hb : BuR w ob l) (hr : Tag w r T) (ht : T ≠ 78 ∧ T ≠ 5) : ¬ buP w ob r := by
  obtain ⟨cur, hr⟩ := hr
  rintro ⟨_, rfl | ⟨c, fz, hc⟩⟩
  · obtain ⟨p, _, v, hb2, _⟩ := BuR.at_ hb
    rw [hb2] at hr
    simp only [Option.some.injEq, Obj.cells.injEq] at hr
    exact ht.1 hr.2.1.symm
  · rw [hc] at hr
    simp only [Option.some.injEq, Obj.cells.injEq] at hr
    exact ht.2 hr.2.1.symm
end
end Go.Proofs.YtbojglaimdjagaaGreatDoor
/- The journal: what Append does, plain; parts of its walk. -/
set_option linter.unusedSimpArgs false
set_option linter.unusedVariables false
set_option maxRecDepth 4000
namespace Go.Proofs.YtbojglaimdjagaaGreatDoor
open Go Go.V Go.RowKit
/-- what is stored for a group -/
def grpB (t : TP) (l : List ByteArray) : ByteArray := ⟨(stL t.head l).toArray⟩
theorem grpB_size (t : TP) (l : List ByteArray) : (grpB t l).size = (stL t.head l).length := by
  show Array.size _ = _; simp [grpB]
/-- what Append does: the answer, the disk, the tape, whether the journal is broken -/
def apJ (n : Nat) (D : DK) (t : TP) (br : Bool) (l : List ByteArray) : Int × DK × TP × Bool :=
  if br = true ∨ ∃ s ∈ l, 65536 < s.size then (340, D, t, br)
  else if n < t.size + (grpB t l).size then (341, D, t, br)
  else if l = [] then (0, D, t, br)
  else if (ap4 D (t.size + 1) ((grpB t l).extract 1 (grpB t l).size) t.size ((grpB t l).extract 0 1)).1 = 0 then
    (0, (ap4 D (t.size + 1) ((grpB t l).extract 1 (grpB t l).size) t.size ((grpB t l).extract 0 1)).2, l.foldl addT t, br)
  else ((ap4 D (t.size + 1) ((grpB t l).extract 1 (grpB t l).size) t.size ((grpB t l).extract 0 1)).1, (ap4 D (t.size + 1) ((grpB t l).extract 1 (grpB t l).size) t.size ((grpB t l).extract 0 1)).2, t, true)
/-- a journal and its disk, worked on since w0 -/
def StJ (B : Nat) (w0 w : World) (b jb : Nat) (D : DK) (dv vv pv0 rv0 : Value) (t : TP) (br : Bool) : Prop :=
  ∃ pv rv, DiskR B w b D dv vv pv ∧ TapeR B w jb 74 [.pointer (some ⟨b, 0, none⟩), .bool br] rv t ∧ Off (fun x => dBl b dv vv pv0 x ∨ x = jb) w0 w ∧ Below B w0 w ∧
    (∀ x, isOf pv x → isOf pv0 x ∨ w0.heap.size ≤ x) ∧ (∀ x, isOf rv x → isOf rv0 x ∨ w0.heap.size ≤ x)
/-- a tape that is in order -/
structure TOk (n : Nat) (t : TP) : Prop where
  head : t.head.size = 32
  size : t.size ≤ n
  recs : t.recs.length ≤ t.size
section
variable {k : Value → World → Prop} {w : World}
theorem run_tail {t : TypeId} {s : ByteArray} {q : IntKind} {i : Int} (h : Tryz.prog.underlying t = some .string) (h0 : 0 ≤ i) (h1 : i ≤ s.size) (w : World) : (Instr.sliceAt t (.string s) (some (.int q i)) none none).run Tryz.prog w = .ok (.string (s.extract i.toNat s.size)) w := by
  rw [run_sliceAt_string _ _ _ _ _ _ h, run_slice_string_from_if w t s q i h, if_pos ⟨h0, h1⟩]
theorem t_tailStr {S : World → Prop} {K : Value → Prop} {t : TypeId} {s : ByteArray} {q : IntKind} {i : Int} (h : Tryz.prog.underlying t = some .string) (h0 : 0 ≤ i) (h1 : i ≤ s.size) : takeW Tryz.prog S (Instr.sliceAt t (.string s) (some (.int q i)) none none) K w = K (.string (s.extract i.toNat s.size)) := takeW_pure fun w => run_tail h h0 h1 w
theorem w_tailStr {t : TypeId} {s : ByteArray} {q : IntKind} {i : Int} (h : Tryz.prog.underlying t = some .string) (h0 : 0 ≤ i) (h1 : i ≤ s.size) : opW Tryz.prog (Instr.sliceAt t (.string s) (some (.int q i)) none none) k w = k (.string (s.extract i.toNat s.size)) w := opW_ok (run_tail h h0 h1 w)
theorem c34 {s : ByteArray} (hk : k (.bool (decide (65536 < s.size))) w) : callW Tryz.prog (.func (.func 34) #[] #[]) #[.string s] k w := C34 _ _ _ (by
  unfold S34
  rw [w_lenStr (by kernel_rfl), w_gtr]
  rw [show decide ((65536 : Int) < (s.size : Int)) = decide (65536 < s.size) from by
    by_cases h : 65536 < s.size
    · rw [decide_eq_true h, decide_eq_true (by omega)]
    · rw [decide_eq_false h, decide_eq_false (by omega)]]
  exact hk)
/-- does a group contain a record that is too long? -/
theorem c35 {v : Value} {l : List ByteArray} (hs : IsSl fT w v l) (hl : l.length ≤ 1000000) (hk : k (.bool (decide (∃ s ∈ l, 65536 < s.size))) w) : callW Tryz.prog (.func (.func 35) #[] #[]) #[v, .func (.func 34) #[] #[]] k w := C35 _ _ _ _ (by
  unfold S35
  refine C68 _ _ _ _ ?_
  unfold S68
  rw [len22 hs]
  refine Loop1.intro (fun n a w' => ∃ i : Nat, a = I i ∧ n = l.length - i ∧ i ≤ l.length ∧ w' = w ∧ ∀ j s, j < i → l[j]? = some s → s.size ≤ 65536) _ ⟨0, rfl, rfl, Nat.zero_le _, rfl, by omega⟩ ?_
  rintro n _ w1 ⟨i, rfl, rfl, hi, rfl, hP⟩
  rw [w_lss]
  by_cases hlt : i < l.length
  case' neg =>
    rw [decide_eq_false (by omega), condW_false]
    simp only []
    rw [w_geq, decide_eq_false (by decide)]
    rwa [decide_eq_false (by
      rintro ⟨s, hs, h2⟩
      obtain ⟨j, hj, rfl⟩ := List.getElem_of_mem hs
      have := hP j l[j] (by omega) (List.getElem?_eq_getElem hj)
      omega)] at hk
  rw [decide_eq_true (by omega), condW_true]
  have hx : l[((i : Int)).toNat]? = some l[i] := by rw [Int.toNat_natCast]; exact List.getElem?_eq_getElem hlt
  refine ix22 hs rfl (by omega) hx fun b o hc => ?_
  rw [ld9 (show w1.cell? ⟨b, o, none⟩ = some (.string l[i]) from hc 0 _ rfl)]
  refine c34 ?_
  by_cases h2 : 65536 < l[i].size
  · rw [decide_eq_true h2, condW_true]
    simp only []
    rw [w_geq, decide_eq_true (by omega)]
    rwa [decide_eq_true ⟨l[i], List.getElem_mem hlt, h2⟩] at hk
  · rw [decide_eq_false h2, condW_false, w_add, wrap_id (by omega), loopK_self]
    refine ⟨l.length - (i + 1), by omega, i + 1, by simp [I], rfl, by omega, rfl, fun j s hj hs' => ?_⟩
    by_cases hji : j = i
    · subst hji
      rw [List.getElem?_eq_getElem hlt] at hs'
      cases hs'; omega
    · exact hP j s (by omega) hs')
theorem foldl_ok : ∀ (l : List ByteArray) (t : TP), t.head.size = 32 → t.recs.length ≤ t.size → (l.foldl addT t).head.size = 32 ∧ (l.foldl addT t).recs.length ≤ (l.foldl addT t).size
  | [], t, h1, h2 => ⟨h1, h2⟩
  | r :: l, t, h1, h2 => by
    refine foldl_ok l (addT t r) (chain_size _ _) ?_
    show (t.recs ++ [r]).length ≤ t.size + (recB t.head r).size
    rw [List.length_append, recB_size, List.length_singleton]
    omega
theorem stL_len (l : List ByteArray) : ∀ h : ByteArray, (∀ s ∈ l, s.size ≤ 65536) → (stL h l).length ≤ l.length * 200000 := by
  induction l with
  | nil => intro h _; simp [stL]
  | cons r l ih =>
    intro h hs
    have h1 := ih (chainF h r) fun s hs' => hs s (by simp [hs'])
    have h2 := hs r (by simp)
    have h3 := (vb_len (2 * r.size)).2
    simp only [stL, List.length_append, ba_len, recB_size, List.length_cons]
    omega
theorem w_storeTape {jb : Nat} {a b c a' b' c' : Value} {rest : List Value} (hr : RowAt w jb 74 (a :: b :: c :: rest)) (h1 : a'.oneCell' = true) (h2 : b'.oneCell' = true) (h3 : c'.oneCell' = true)
    (hk : ∀ w', RowAt w' jb 74 (a' :: b' :: c' :: rest) → Off (fun x => x = jb) w w' → (∀ B, B ≤ jb → Below B w w') → k undef w') : opU Tryz.prog (Instr.storeAt 72 (.pointer (some ⟨jb, 0, none⟩)) (.agg ([a', b', c'] : List Value).toArray)) k w := by
  rw [w_storeAgg (vs := [a', b', c']) (by simp [h1, h2, h3]) (by rw [size72]; rfl) known72 (fun j hj => ?_) (fun j hj => hr.free _)]
  · have hr3 : RowAt (setCells w jb 0 [a', b', c']) jb 74 (a' :: b' :: c' :: rest) := ((hr.set 0 a').set 1 b').set 2 c'
    have ho : Off (fun x => x = jb) w (setCells w jb 0 [a', b', c']) := (Off.set (p := fun x => x = jb) rfl).trans ((Off.set (p := fun x => x = jb) rfl).trans (Off.set (p := fun x => x = jb) rfl))
    refine hk _ hr3 ho fun B hB => ?_
    exact (((Below.refl B w).setCell hB _).setCell hB _).setCell hB _
  · match j, hj with
    | 0, _ => exact ⟨_, hr.cell (i := 0) rfl⟩
    | 1, _ => exact ⟨_, hr.cell (i := 1) rfl⟩
    | 2, _ => exact ⟨_, hr.cell (i := 2) rfl⟩
end
end Go.Proofs.YtbojglaimdjagaaGreatDoor
/- The journal: Append. -/
set_option linter.unusedSimpArgs false
set_option linter.unusedVariables false
set_option maxRecDepth 4000
namespace Go.Proofs.YtbojglaimdjagaaGreatDoor
open Go Go.V Go.RowKit
theorem t_mf {S : World → Prop} {K : Value → Prop} {w : World} {fn : Fn} {a b : Array Value} : takeW Tryz.prog S (Instr.makeFunc fn a b) K w = K (.func fn a b) := takeW_pure fun w => by simp [Instr.makeFunc]
theorem StJ.same {B : Nat} {w w' : World} {b jb : Nat} {D : DK} {dv vv pv rv : Value} {t : TP} {br : Bool} (hd : DiskR B w b D dv vv pv) (hj : TapeR B w jb 74 [.pointer (some ⟨b, 0, none⟩), .bool br] rv t) (hBw : B ≤ w.heap.size) (hb : Below w.heap.size w w') : StJ B w w' b jb D dv vv pv rv t br :=
  ⟨pv, rv, hd.below hb, hj.below hb, Off.below hb, hb.mono hBw, fun _ h => .inl h, fun _ h => .inl h⟩
section
variable {k : Value → World → Prop} {w : World}
set_option maxHeartbeats 1000000 in
theorem c10 {B b jb n : Nat} {D : DK} {dv vv pv rv lv : Value} {t : TP} {br : Bool} {l : List ByteArray} (hg : Gl w) (hB : 3 < B) (hBw : B ≤ w.heap.size) (hd : DiskR B w b D dv vv pv) (hok : DOk n D) (hpl : D.pend.length ≤ 100000)
    (hj : TapeR B w jb 74 [.pointer (some ⟨b, 0, none⟩), .bool br] rv t) (ht : TOk n t) (hl : IsSl fT w lv l) (hll : l.length ≤ 100)
    (hk : ∀ w', StJ B w w' b jb (apJ n D t br l).2.1 dv vv pv rv (apJ n D t br l).2.2.1 (apJ n D t br l).2.2.2 → k (I (apJ n D t br l).1) w') : callW Tryz.prog (.func (.func 10) #[] #[]) #[.pointer (some ⟨jb, 0, none⟩), lv] k w := C10 _ _ _ _ (by
  unfold S10
  have hml : 1000000000 ≤ maxLen := by decide
  obtain ⟨hn1, hn2, -, -, -⟩ := id hok
  obtain ⟨ht1, ht2, ht3⟩ := id ht
  rw [eqP28, condW_false]
  simp only [nilW_ptr]
  rw [fl74_2, ld4 (hj.row.cell (i := 0 + 4) rfl)]
  have hk1 : (br = true ∨ ∃ s ∈ l, 65536 < s.size) → k (I 340) w := fun h => by
    have := hk w
    unfold apJ at this
    rw [if_pos h] at this
    exact this (StJ.same hd hj hBw (Below.refl _ _))
  cases hbr : br with
  | true =>
    simp only [guardW_tf, guardW_u, pickW_true]
    rw [condW_true]
    exact hk1 (.inl hbr)
  | false =>
  subst hbr
  simp only [guardW_ff, pickW_false]
  refine c35 hl (by omega) ?_
  by_cases hlong : ∃ s ∈ l, 65536 < s.size
  · rw [decide_eq_true hlong, condW_true]
    exact hk1 (.inr hlong)
  rw [decide_eq_false hlong, condW_false]
  have hsm : ∀ s ∈ l, s.size ≤ 65536 := fun s hs => by
    rcases Nat.lt_or_ge 65536 s.size with h | h
    · exact absurd ⟨s, hs, h⟩ hlong
    · exact h
  have hbig := stL_len l t.head hsm
  have hgs := grpB_size t l
  rw [fl74_0, ld72 (vs := [rv, .string t.head, I t.size]) rfl (fun j u hu => by
    match j, hu with
    | 0, hu => cases hu; exact hj.row.cell (i := 0) rfl
    | 1, hu => cases hu; exact hj.row.cell (i := 1) rfl
    | 2, hu => cases hu; exact hj.row.cell (i := 2) rfl)]
  refine al72 fun w1 hb1 hs1 hr1 => ?_
  obtain ⟨nb, hnb⟩ : ∃ b, w.heap.size = b := ⟨_, rfl⟩
  rw [hnb] at hr1 hs1 ⊢
  have hov : rv.oneCell' = true := by obtain ⟨a9, c9, rfl, -⟩ := hj.recs.sl; rfl
  refine w_storeRow (vs := [rv, .string t.head, I t.size]) hr1 rfl (by intro v hv; simp at hv; rcases hv with rfl | rfl | rfl <;> first | exact hov | rfl) (by rw [size72]; rfl) known72 fun w2 ho2 hr2 => ?_
  have hb2 : Below w.heap.size w w2 := hb1.trans (ho2.rest _ (by omega))
  rw [fl72_0, ld22 (hr2.cell (i := 0) rfl)]
  have hs2 := ho2.size
  refine c36 (hj.recs.below hb2).sl (by omega) fun rv3 w3 hb3 hm3 => ?_
  have hr3 := hr2.below hb3
  have hov3 : rv3.oneCell' = true := by obtain ⟨a9, c9, rfl, -⟩ := hm3.sl; rfl
  rw [fl72_0, st22 hov3 (hr3.cell (i := 0) rfl) (hr3.free _)]
  have ho4 : Off (fun x => x = nb) w3 (w3.setCell ⟨nb, 0, none⟩ rv3) := Off.set (p := fun x => x = nb) rfl
  have hr4 := hr3.set 0 rv3
  have hb4 : Below nb w3 (w3.setCell ⟨nb, 0, none⟩ rv3) := (Below.refl nb w3).setCell (p := ⟨nb, 0, none⟩) (Nat.le_refl nb) rv3
  have hm4 := hm3.apart ho4 (apRow hr3 (by decide))
  have hb04 : Below w.heap.size w (w3.setCell ⟨nb, 0, none⟩ rv3) := (below_trans hb2 hb3).trans (hnb ▸ hb4)
  generalize w3.setCell ⟨nb, 0, none⟩ rv3 = w4 at *
  have hnb2 : nb ≤ w2.heap.size := by omega
  have ht4 : TapeR nb w4 nb 72 [] rv3 t := ⟨hr4, Nat.le_refl _, by decide, hm4.base hnb2⟩
  refine al78 fun w5 hb5 hs5 hr5 => ?_
  obtain ⟨ob, hob⟩ : ∃ b, w4.heap.size = b := ⟨_, rfl⟩
  rw [hob] at hr5 hs5 ⊢
  have hnob : nb < ob := by have := hr4.lt; omega
  have ht5 := ht4.below hb5
  have hb05 := below_trans hb04 hb5
  have hl5 := hl.below hb05
  rw [len22 hl5]
  refine Loop1.intro (fun m a w' => ∃ (i : Nat) (rvi : Value), a = I i ∧ m = l.length - i ∧ i ≤ l.length ∧ TapeR nb w' nb 72 [] rvi ((l.take i).foldl addT t) ∧ BuR w' ob (stL t.head (l.take i)) ∧ Below nb w w') _ ⟨0, rv3, rfl, rfl, Nat.zero_le _, ht5, BuR.new hr5, hnb ▸ hb05⟩ ?_
  rintro m _ w6 ⟨i, rvi, rfl, rfl, hi, ht6, hbu6, hb06⟩
  have hl6 := hl.below (hnb ▸ hb06)
  rw [w_lss]
  by_cases hlt : i < l.length
  · rw [decide_eq_true (by omega), condW_true]
    have hx : l[((i : Int)).toNat]? = some l[i] := by rw [Int.toNat_natCast]; exact List.getElem?_eq_getElem hlt
    refine ix22 hl6 rfl (by omega) hx fun b0 o0 hc0 => ?_
    rw [ld9 (show w6.cell? ⟨b0, o0, none⟩ = some (.string l[i]) from hc0 0 _ rfl)]
    obtain ⟨fo1, fo2⟩ := foldl_ok (l.take i) t ht1 ht3
    obtain ⟨fa1, fa2⟩ := foldl_addT (l.take i) t
    have hbi := stL_len (l.take i) t.head fun s hs => hsm s (List.mem_of_mem_take hs)
    rw [List.length_take] at hbi
    have hmul : min i l.length * 200000 ≤ 100 * 200000 := Nat.mul_le_mul_right _ (by omega)
    refine c38 (hg.below hb06 (by omega)) ht6 (by omega) fo1 (hsm _ (List.getElem_mem hlt)) (by omega) (by omega) fun w7 rv7 ht7 ho7 hb7 hu7 => ?_
    have hq : ∀ x, (x = nb ∨ isOf rvi x) → x ≠ ob ∧ ∀ c fz, w6.heap[x]? ≠ some (.cells c 5 fz) := by
      rintro x (rfl | hx)
      · refine ⟨by omega, fun c fz hc => ?_⟩
        have := ht6.row
        unfold RowAt at this
        rw [hc] at this
        simp at this
      · obtain ⟨cur, hcur⟩ := Mine.tag ht6.recs hx
        refine ⟨fun hh => ?_, fun c fz hc => ?_⟩
        · obtain ⟨p, _, v, hb2, _⟩ := BuR.at_ hbu6
          rw [hh, hb2] at hcur
          simp at hcur
        · rw [hc] at hcur
          simp at hcur
    have hbu7 := BuR.off hbu6 ho7 hq
    have hrec := recB_size ((l.take i).foldl addT t).head l[i]
    have hl2 := (vb_len (2 * l[i].size)).2
    have hl3 := hsm _ (List.getElem_mem hlt)
    refine c37 hbu7 (by omega) fun r8 w8 hbu8 hb8 ho8 => ?_
    have ht8 := ht7.off ho8 (fun x hx => by
      rcases hx with rfl | hx
      · exact row_bu hbu7 ht7.row (by decide)
      · exact tag_bu hbu7 (Mine.tag ht7.recs hx) (by decide))
    rw [w_add, wrap_id (by omega), loopK_self]
    refine ⟨l.length - (i + 1), by omega, i + 1, rv7, by simp [I], rfl, by omega, ?_, ?_, hb06.trans (hb7.trans (hb8.mono (by omega)))⟩
    · have e1 : l.take (i + 1) = l.take i ++ [l[i]] := by
        rw [List.take_add_one, List.getElem?_eq_getElem hlt]; rfl
      rw [e1, List.foldl_append]
      exact ht8
    · have e1 : l.take (i + 1) = l.take i ++ [l[i]] := by
        rw [List.take_add_one, List.getElem?_eq_getElem hlt]; rfl
      rw [e1, stL_append, ← foldl_head (l.take i) t]
      have : stL ((l.take i).foldl addT t).head [l[i]] = (recB ((l.take i).foldl addT t).head l[i]).data.toList := by simp [stL]
      rw [this]
      exact hbu8
  rw [decide_eq_false (by omega), condW_false]
  have hil : i = l.length := by omega
  subst hil
  rw [List.take_length] at ht6 hbu6
  refine c39 hbu6 fun w7 hb7 ho7 => ?_
  have ht7 := ht6.off ho7 (fun x hx => by
    rcases hx with rfl | hx
    · exact row_bu hbu6 ht6.row (by decide)
    · exact tag_bu hbu6 (Mine.tag ht6.recs hx) (by decide))
  have hb07 : Below w.heap.size w w7 := (hnb ▸ hb06).trans (hb7.mono (by omega))
  clear ho7 hb7 hb06
  rw [show (⟨(stL t.head l).toArray⟩ : ByteArray) = grpB t l from rfl, w_lenStr (by kernel_rfl)]
  refine c20 (n := n) (hd.below hb07) hok.dur hn2 (hj.below hb07) (by omega) fun w8 hb8 => ?_
  have hb08 := below_trans hb07 hb8
  have ht8 := ht7.below hb8
  clear ht7
  rw [w_gtr]
  have hnl : ¬ (false = true ∨ ∃ s ∈ l, 65536 < s.size) := fun h => h.elim (fun h => by cases h) hlong
  by_cases hfull : n < t.size + (grpB t l).size
  · rw [decide_eq_true (by omega), condW_true]
    have := hk w8
    unfold apJ at this
    rw [if_neg hnl, if_pos hfull] at this
    exact this (StJ.same hd hj hBw hb08)
  rw [decide_eq_false (by omega), condW_false, w_eqlStr (by kernel_rfl)]
  by_cases hnil : l = []
  · have e0 : grpB t l = ⟨#[]⟩ := by subst hnil; rfl
    rw [decide_eq_true e0, condW_true]
    have := hk w8
    unfold apJ at this
    rw [if_neg hnl, if_neg hfull, if_pos hnil] at this
    exact this (StJ.same hd hj hBw hb08)
  have hpos : 33 ≤ (grpB t l).size := by
    rw [hgs]
    obtain ⟨r, l', rfl⟩ := List.exists_cons_of_ne_nil hnil
    simp only [stL, List.length_append, ba_len, recB_size]
    omega
  rw [decide_eq_false (fun h => by rw [h] at hpos; exact absurd hpos (by decide)), condW_false, drewW_eq]
  have hb09 := below_trans hb08 (below_drew w8)
  have ht9 := ht8.below (below_drew w8)
  clear ht8
  generalize w8.drew = w9 at *
  have hd9 := hd.below hb09
  have hj9 := hj.below hb09
  have ho9 : Off (dBl b dv vv pv) w9 w9 := Off.refl _ _
  have nj : ¬ dBl b dv vv pv jb := fun hx => by
    obtain ⟨t', h1, h2⟩ := hd9.apart (t := 74) (by decide) jb hx
    exact h2 (Tag.uniq h1 hj9.row.tag)
  refine ⟨Off (dBl b dv vv pv) w9, ho9, ?_⟩
  simp only [nilT_ptr]
  rw [tfl74_0, tfl72_2, r_loadO agg3 known3 (hj9.row.cell (i := 0 + 2) rfl) nj ho9, t_add, wrap_id (by omega), t_tailStr (by kernel_rfl) (by decide) (by omega), tfl74_1, r_loadO agg27 known27 (hj9.row.cell (i := 0 + 3) rfl) nj ho9, t_mf,
    tfl74_0, tfl72_2, r_loadO agg3 known3 (hj9.row.cell (i := 0 + 2) rfl) nj ho9, t_headStr (by kernel_rfl) (by decide) (by omega), tfl74_1, r_loadO agg27 known27 (hj9.row.cell (i := 0 + 3) rfl) nj ho9, t_mf]
  rw [show ((t.size : Int) + 1) = ((t.size + 1 : Nat) : Int) by omega, show ((1 : Int)).toNat = 1 from rfl]
  refine c41 rfl fun ja a sb w10 hb10 hja ha hsb r1 r2 r3 => ?_
  rw [keepS_eq]
  refine ⟨Off.below hb10, ?_⟩
  refine c41 rfl fun ja' a' sb' w11 hb11 hja' ha' hsb' r1' r2' r3' => ?_
  have hb911 := below_trans hb10 hb11
  rw [keepS_eq]
  refine ⟨Off.below hb911, ?_⟩
  refine w_parts (F := fFn) (l := [fnW ja a sb, fnS b, fnW ja' a' sb', fnS b]) sty127 rfl (by decide) (by decide) (by kernel_rfl) rfl fun w12 hb12 _ hm12 => ?_
  have hb912 := below_trans hb911 hb12
  rw [keepS_eq]
  refine ⟨Off.below hb912, ?_⟩
  have hb012 := below_trans hb09 hb912
  have hd12 := hd.below hb012
  have hj12 := hj.below hb012
  have ht12 := ht9.below hb912
  have hin1 : (t.size + 1) + ((grpB t l).extract 1 (grpB t l).size).size ≤ n := by rw [ByteArray.size_extract]; omega
  have hin2 : t.size + ((grpB t l).extract 0 1).size ≤ n := by rw [ByteArray.size_extract]; omega
  refine first4 hd12 hok hin1 hin2 hpl (Nat.le_trans hBw hb012.size) hj12.row ⟨(r1.below hb11).below hb12, (r2.below hb11).below hb12, (r3.below hb11).below hb12⟩ ⟨r1'.below hb12, r2'.below hb12, r3'.below hb12⟩ hm12 fun w13 hst => ?_
  have hjr13 := StR.row hd12 hst hj12.row (by decide)
  have hjm13 := StR.mine hd12 hst hj12.recs (by decide)
  have htr13 := StR.row hd12 hst ht12.row (by decide)
  have htm13 := StR.mine hd12 hst ht12.recs (by decide)
  obtain ⟨pv13, hd13, ho13, hb13, hu13⟩ := hst
  rw [keepS_eq]
  refine ⟨(Off.below hb912).trans ho13, ?_⟩
  have nj13 : ∀ x, dBl b dv vv pv13 x → x ≠ jb := fun x hx hh => by
    obtain ⟨t', h1, h2⟩ := hd13.apart (t := 74) (by decide) x hx
    subst hh
    exact h2 (Tag.uniq h1 hjr13.tag)
  have hpv : ∀ x, isOf pv13 x → isOf pv x ∨ w.heap.size ≤ x := fun x hx => (hu13 x hx).imp (fun h => h) fun h => Nat.le_trans hb012.size h
  have ho013 : Off (fun x => dBl b dv vv pv x ∨ x = jb) w w13 := (Off.below hb012).trans (ho13.mono fun x _ hx => .inl hx)
  have hb013 : Below B w w13 := (hb012.mono hBw).trans hb13
  rw [w_neq]
  by_cases he : (ap4 D (t.size + 1) ((grpB t l).extract 1 (grpB t l).size) t.size ((grpB t l).extract 0 1)).1 = 0
  case' neg =>
    rw [decide_eq_false he, Bool.not_false, condW_true]
    rw [fl74_2, st4 rfl (hjr13.cell (i := 0 + 4) rfl) (hjr13.free _)]
    have hof : Off (fun x => x = jb) w13 (w13.setCell ⟨jb, 0 + 4, none⟩ (.bool true)) := Off.set (p := fun x => x = jb) rfl
    have := hk (w13.setCell ⟨jb, 0 + 4, none⟩ (.bool true))
    unfold apJ at this
    rw [if_neg hnl, if_neg hfull, if_neg hnil, if_neg he] at this
    refine this ⟨pv13, rv, hd13.off hof fun x hx hh => nj13 x hx hh, ⟨hjr13.set (0 + 4) (.bool true), hj.base, by decide, hjm13.apart hof (apRow hjr13 (by decide))⟩, ho013.trans (hof.mono fun x _ hx => .inr hx), hb013.trans ((Below.refl _ _).setCell hj.base _), hpv, fun x hx => .inl hx⟩
  rw [decide_eq_true he, Bool.not_true, condW_false]
  rw [ld72 (vs := [rvi, .string (l.foldl addT t).head, I (l.foldl addT t).size]) rfl htr13.cells]
  rw [fl74_0]
  have hov7 : rvi.oneCell' = true := by obtain ⟨a9, c9, rfl, -⟩ := htm13.sl; rfl
  refine w_storeTape hjr13 hov7 rfl rfl fun w14 hr14 ho14 hb14 => ?_
  have := hk w14
  unfold apJ at this
  rw [if_neg hnl, if_neg hfull, if_neg hnil, if_pos he] at this
  refine this ⟨pv13, rvi, hd13.off ho14 fun x hx hh => nj13 x hx hh, ⟨hr14, hj.base, by decide, ?_⟩, ho013.trans (ho14.mono fun x _ hx => .inr hx), hb013.trans (hb14 B hj.base), hpv, fun x hx => ?_⟩
  · exact (htm13.apart ho14 (apRow hjr13 (by decide))).base (by omega)
  · exact .inr (by have := (htm13.ge hx).1; omega))
end
end Go.Proofs.YtbojglaimdjagaaGreatDoor
