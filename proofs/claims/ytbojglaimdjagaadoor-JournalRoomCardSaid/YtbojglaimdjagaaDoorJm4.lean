/- JournalRoom answers true for every input, and the input reads as it did; its card ties the four listed variables to the program's text: no condition of its own. -/
import Derived.Test.YtbojglaimdjagaaDoorJm3
import Derived.ProofKit
import Derived.OpenShut
import Derived.ShutString
import Derived.ChangeMaps5
import Derived.ChangeOld
import Derived.Deep.Slices
import Derived.Deep.DeepHandedRow
import Derived.LaidMore
import Derived.LaidHandle
import Derived.Test.YtbojglaimdjagaaDoorTie
import Derived.Test.YtbojglaimdjagaaDoorCards
import Derived.SevenTiedAt
import Derived.Deep.DeepWitnessRowRef
import Derived.LaidSub
import Derived.LaidLaws
import Derived.Lib.LaidTab
/- Arguments opened; the package's tables. -/
set_option linter.unusedSimpArgs false
set_option linter.unusedVariables false
namespace Go.Proofs.YtbojglaimdjagaaDoor
open Go Go.V Go.RowKit Go.ChangeShapes Go.WideShapes Go.ChangeAt Go.Deep
theorem own : ownKnob Tryd.prog.godebug = none := by kernel_rfl
theorem laidOut : laidOutB Tryd.prog = true := by kernel_rfl
theorem in64_of_wf {n : Int} (h : (Lit.int .i64 n).wf = true) : in64 n := bounds_i64 h
section
variable {H : Type} {enc : TypeId × Value → H} {P : Program} {w : World} {base : Nat} {spare : Nat → Bool} {held : Bool}
theorem spot_of_cell {x : Addr} {v : Value} (h : w.cell? x = some v) : x.spot = none := by
  unfold World.cell? at h
  cases hs : x.spot with
  | none => rfl
  | some s =>
    exfalso
    split at h
    · rw [hs] at h; simp at h
    · cases h
/-- a slice of flat elements that came in; Q i z: what is known of the i-th -/
theorem sl_of_trodI {α : Type} {F : Fl α} {Q : Nat → α → Prop} {t e : TypeId} {fuel : Nat} {v : Value} {x : DataW H × List MemPlace} (ht : P.underlying t = some (.slice e)) (hc : P.cellsOf e = F.sz) (hp : 0 < F.sz)
    (helem : ∀ i cs m (y : DataW H × List MemPlace), DataW.trod enc P w base spare held m e cs = some y → (∀ ds p, x = (.slice ds [], p) → ds[i]? = some y.1) → ∃ z, cs = F.e z ∧ Q i z) (h : DataW.trod enc P w base spare held fuel t [v] = some x) (hnn : held = held) :
    ∃ l : List α, IsSl F w v l ∧ l.length ≤ maxLen ∧ (∀ i z, l[i]? = some z → Q i z) ∧ ∀ ds p, x = (.slice ds [], p) → l.length = ds.length := by
  rcases open_slice ht h with ⟨hcs, hx0⟩ | ⟨a, len, cap, m, n, D, Pl, hcs, _, hl, hm, hmm, hxx, hel⟩
  · simp at hcs; subst hcs
    exact ⟨[], .nil _, by simp, by simp, fun ds p hh => by rw [hx0] at hh; cases hh⟩
  · simp at hcs; subst hcs
    have hlm : len ≤ m := by rw [hmm]; split <;> omega
    have each : ∀ i, i < len → ∃ z, Q i z ∧ ∀ j u, (F.e z)[j]? = some u → w.cell? ((a.add (i * F.sz)).add j) = some u := fun i hi => by
      obtain ⟨cs, h1, h2⟩ := hel i (by omega)
      obtain ⟨z, rfl, hq⟩ := helem i cs n _ h2 fun ds p hh => by
        rw [hxx] at hh
        simp only [Prod.mk.injEq, DataW.slice.injEq] at hh
        rw [← hh.1.1, List.getElem?_map, List.getElem?_range hi]; rfl
      rw [hc] at h1
      obtain ⟨_, hlen, hcell⟩ := World.cells?_some h1
      exact ⟨z, hq, fun j u hu => by rw [hcell j (by have := (List.getElem?_eq_some_iff.1 hu).1; rw [F.len] at this; exact this)]; exact hu⟩
    have mk : ∀ k, k ≤ len → ∃ l : List α, l.length = k ∧ (∀ i z, l[i]? = some z → Q i z) ∧ ∀ i z, l[i]? = some z → ∀ j u, (F.e z)[j]? = some u → w.cell? ((a.add (i * F.sz)).add j) = some u := by
      intro k
      induction k with
      | zero => intro _; exact ⟨[], rfl, by simp, by simp⟩
      | succ k ih =>
        intro hk
        obtain ⟨l, h1, h2, h3⟩ := ih (by omega)
        obtain ⟨z, hz, hzc⟩ := each k (by omega)
        refine ⟨l ++ [z], by simp [h1], fun i y hy => ?_, fun i y hy => ?_⟩
        · rcases Nat.lt_or_ge i l.length with h | h
          · rw [List.getElem?_append_left h] at hy; exact h2 i y hy
          · rw [List.getElem?_append_right h] at hy
            have := (List.getElem?_eq_some_iff.1 hy).1
            simp at this
            have h0 : i - l.length = 0 := by omega
            rw [h0] at hy; simp at hy; subst hy
            obtain rfl : i = k := by omega
            exact hz
        · rcases Nat.lt_or_ge i l.length with h | h
          · rw [List.getElem?_append_left h] at hy; exact h3 i y hy
          · rw [List.getElem?_append_right h] at hy
            have := (List.getElem?_eq_some_iff.1 hy).1
            simp at this
            have h0 : i - l.length = 0 := by omega
            rw [h0] at hy; simp at hy; subst hy
            obtain rfl : i = k := by omega
            exact hzc
    obtain ⟨l, h1, h2, h3⟩ := mk len (Nat.le_refl _)
    refine ⟨l, ⟨some a, cap, by rw [h1], by omega, fun i z hz => ?_⟩, by omega, h2, fun ds p hh => ?_⟩
    · obtain ⟨z0, hz0⟩ : ∃ z0, l[0]? = some z0 := ⟨l[0]'(by have := (List.getElem?_eq_some_iff.1 hz).1; omega), by simp⟩
      obtain ⟨u, hu⟩ : ∃ u, (F.e z0)[0]? = some u := ⟨(F.e z0)[0]'(by rw [F.len]; exact hp), by simp⟩
      have hsp := spot_of_cell (h3 0 z0 hz0 0 u hu)
      obtain ⟨b, o, sp⟩ := a
      have hsn : sp = none := by
        revert hsp
        simp [Addr.add]
      subst hsn
      refine ⟨b, o, rfl, fun j v hv => ?_⟩
      have := h3 i z hz j v hv
      rwa [add_none, add_none] at this
    · rw [hxx] at hh
      simp only [Prod.mk.injEq, DataW.slice.injEq] at hh
      rw [h1, ← hh.1.1]; simp
theorem sl_of_trod {α : Type} {F : Fl α} {Q : α → Prop} {t e : TypeId} {fuel : Nat} {v : Value} {x : DataW H × List MemPlace} (ht : P.underlying t = some (.slice e)) (hc : P.cellsOf e = F.sz) (hp : 0 < F.sz)
    (helem : ∀ cs m (y : DataW H × List MemPlace), DataW.trod enc P w base spare held m e cs = some y → ∃ z, cs = F.e z ∧ Q z) (h : DataW.trod enc P w base spare held fuel t [v] = some x) :
    ∃ l : List α, IsSl F w v l ∧ l.length ≤ maxLen ∧ ∀ z, z ∈ l → Q z := by
  obtain ⟨l, h1, h2, h3, _⟩ := sl_of_trodI (Q := fun _ z => Q z) ht hc hp (fun _ cs m y hy _ => helem cs m y hy) h rfl
  exact ⟨l, h1, h2, fun z hz => by obtain ⟨i, hi, rfl⟩ := List.getElem_of_mem hz; exact h3 i _ (List.getElem?_eq_getElem hi)⟩
end
end Go.Proofs.YtbojglaimdjagaaDoor
/- The witness of the rows that list the variables; the variables opened. -/
set_option linter.unusedSimpArgs false
set_option linter.unusedVariables false
namespace Go.Proofs.YtbojglaimdjagaaDoor
open Go Go.V Go.ChangeShapes Go.WideShapes Go.ChangeAt Go.RowKit Go.Deep
def laidL : List (String × DataW Unit) := [("unicode/utf8.acceptRanges", Rows.laid_unicode_utf8_acceptRanges), ("newswire/digest.round", Rows.laid_newswire_digest_round), ("newswire/journal.errDamaged", Rows.laid_newswire_journal_errDamaged), ("unicode/utf8.first", Rows.laid_unicode_utf8_first)]
theorem starNm : "*errors.errorString" = "*" ++ "errors.errorString" := by decide
theorem row222 (u : TypeId) (h : Tryd.prog.typeName? 3 u = some "*errors.errorString") : u = 155 :=
  typeName_ptr_named (nm := "errors.errorString") (by rw [← starNm]; kernel_rfl) (by kernel_rfl) (by decide) u (by rw [← starNm]; exact h)
theorem c244 : Tryd.prog.cellsOf 177 = 1 := by kernel_rfl
theorem cc9 : Tryd.prog.cellsOf 9 = 1 := by kernel_rfl
set_option maxRecDepth 100000 in
theorem err_of_laid {W : World} (h : laidMet Tryd.prog [("newswire/journal.errDamaged", Rows.laid_newswire_journal_errDamaged)] W) : ∃ e : Addr, W.cell? ⟨0, 0, none⟩ = some (.iface 155 (.pointer (some e))) := by
  obtain ⟨ps, ⟨g0', t0', cs0, f0, p0, q0, hg0', ht0', hv0, hd0, _, e0⟩, hnd, hrows⟩ := h
  have hg0 : Tryd.prog.globalNamed "newswire/journal.errDamaged" = some 0 := by kernel_rfl
  have ht0 : (Tryd.prog.globals[0]?).map (·.type) = some 69 := by kernel_rfl
  obtain rfl := Option.some.inj (hg0.symm.trans hg0')
  obtain rfl := Option.some.inj (ht0.symm.trans ht0')
  subst e0
  obtain ⟨l0⟩ := cs0
  have ok0 : ∀ u v, l0 = [.iface u v] → Value.okWide Tryd.prog W .any 0 u v := fun u v e => by
    subst e
    exact (hrows 0 0 (by simp [MemPlace.row])).2 u v (by simpa using World.var?_cell hg0' hv0 0)
  obtain ⟨a0, s0, rfl, hc0, hs0, hz0, rfl⟩ := errorString_of_trod Tryd.underlying69 row222 Tryd.underlying155 Tryd.underlying177 rfl rfl Tryd.underlying9 c244 cc9 hd0 ok0
  exact ⟨a0, by simpa using World.var?_cell hg0' hv0 0⟩
theorem dig_of_laid {w : World} (h0 : laidMet Tryd.prog [("newswire/digest.round", Lib.tabData .u32 (kL.map fun x => ((x.toNat : Nat) : Int)))] w) : Cells w 4 0 K64 ∧ 4 < w.heap.size := by
  have hT := Lib.tabIs_of_head (P := Tryd.prog) (g := 4) (t := 147) (e := 137) (n := 64) (by kernel_rfl) (by kernel_rfl) (by kernel_rfl) (by kernel_rfl) (by kernel_rfl) (by kernel_rfl) h0
  have hc : ∀ i, i < 64 → w.cell? ⟨4, i, none⟩ = some (uV (kL.getD i 0)) := fun i hi => by
    have := hT.cell (g := 4) (by kernel_rfl) i (by simpa [kL] using hi)
    rw [this]
    have hk : kL[i]? = some (kL.getD i 0) := by rw [List.getD_eq_getElem?_getD, List.getElem?_eq_getElem (show i < kL.length from hi)]; rfl
    rw [List.getD_eq_getElem?_getD, List.getElem?_map, hk]; rfl
  refine ⟨fun j v hv => ?_, World.block_lt_of_cell? w _ (hc 0 (by decide))⟩
  have hj : j < 64 := by
    have := (List.getElem?_eq_some_iff.1 hv).1
    simpa [K64, kL] using this
  rw [Nat.zero_add, hc j hj, ← hv]
  unfold K64
  have hk : kL[j]? = some (kL.getD j 0) := by rw [List.getD_eq_getElem?_getD, List.getElem?_eq_getElem (show j < kL.length from hj)]; rfl
  rw [List.getElem?_map, hk]; rfl
set_option maxRecDepth 100000 in
theorem gl_of_laid {l : List (String × DataW Unit)} {w : World} (hl : l = laidL) (h : laidMetH Tryd.prog l w) : Gl w := by
  subst hl
  have h1 : laidMet Tryd.prog [("newswire/digest.round", Rows.laid_newswire_digest_round)] w := laidMetH.filter (fun x => x.1 == "newswire/digest.round") h
  have h2 : laidMet Tryd.prog [("newswire/journal.errDamaged", Rows.laid_newswire_journal_errDamaged)] w := laidMetH.filter (fun x => x.1 == "newswire/journal.errDamaged") h
  obtain ⟨a, b⟩ := dig_of_laid h1
  exact ⟨a, b, err_of_laid h2⟩
/-- the heap that the door's run leaves, utf8's table laid besides -/
noncomputable def laidWorld (os : Os) : World :=
  { World.doorLaid Tryd.prog 600 os with heap := (World.doorLaid Tryd.prog 600 os).heap.modify 1 fun
      | .cells _ t frozen => .cells (Go.Pinned.utf8FirstZ.map fun (z : Nat) => Value.int .u8 (z : Int)).toArray t frozen
      | o => o }
theorem laid_met0 (os : Os) (args : Array Value) : laidMetH Tryd.prog laidL ((laidWorld os).forCall (fun _ _ => 0) ⟨#[], args, []⟩).memory :=
  laidMetH_of_parts3 (fuel := 8) (laidMet_of_run' 8 (by kernel_rfl) (by kernel_rfl)) (by kernel_rfl) (by kernel_rfl)
end Go.Proofs.YtbojglaimdjagaaDoor
/- Arguments of the laws, opened. -/
set_option linter.unusedSimpArgs false
set_option linter.unusedVariables false
namespace Go.Proofs.YtbojglaimdjagaaDoor
open Go Go.V Go.RowKit Go.ChangeShapes Go.WideShapes Go.ChangeAt Go.Deep
theorem und22 : Tryd.prog.underlying 22 = some (.slice 9) := by kernel_rfl
section
variable {H : Type} {enc : TypeId × Value → H} {w : World} {base : Nat} {spare : Nat → Bool} {held : Bool}
theorem str_of_trod {cs : List Value} {m : Nat} {y : DataW H × List MemPlace} (h : DataW.trod enc Tryd.prog w base spare held m 9 cs = some y) : ∃ s, cs = [.string s] ∧ s.size ≤ maxLen := by
  obtain ⟨s, h1, _, h2⟩ := DataW.trod_string Tryd.underlying9 h
  exact ⟨s, h1, h2⟩
theorem openT {fuel : Nat} {v : Value} {x : DataW H × List MemPlace} (h : DataW.trod enc Tryd.prog w base spare held fuel 22 [v] = some x) : ∃ l : List ByteArray, IsSl fT w v l ∧ l.length ≤ maxLen ∧ ∀ s ∈ l, s.size ≤ maxLen := by
  obtain ⟨l, h1, h2, h3⟩ := sl_of_trod (F := fT) (Q := fun s => s.size ≤ maxLen) und22 cc9 (by decide) (fun cs m y h => by
    obtain ⟨s, hs, hm⟩ := str_of_trod h
    exact ⟨s, hs, hm⟩) h
  exact ⟨l, h1, h2, h3⟩
end
end Go.Proofs.YtbojglaimdjagaaDoor
/- The walk of JournalRoom. -/
set_option linter.unusedSimpArgs false
set_option linter.unusedVariables false
set_option maxRecDepth 4000
namespace Go.Proofs.YtbojglaimdjagaaDoor
open Go Go.V Go.RowKit
def sX : ByteArray := ⟨#[120]⟩
theorem grp_x (t : TP) : (grpB t [sX]).size = 35 := by
  rw [grpB_size]
  simp only [stL, List.length_append, ba_len, recB_size, List.length_nil]
  have h1 : sX.size = 1 := rfl
  have h2 : (vb 2).length = 1 := by rw [vb_lt (by decide)]; rfl
  rw [h1]
  show 33 + (vb 2).length + 1 + 0 = 35
  omega
theorem stL_snoc (l : List ByteArray) (r : ByteArray) : (stL z32 (l ++ [r])).length = (stL z32 l).length + (33 + (vb (2 * r.size)).length + r.size) := by
  rw [stL_append, List.length_append]
  simp only [stL, List.length_append, ba_len, recB_size, List.length_nil, Nat.add_zero]
section
variable {k : Value → World → Prop} {w : World}
theorem getT22 {v : Value} {l : List ByteArray} {i : Nat} {s : ByteArray} {q : IntKind} (hs : IsSl fT w v l) (hx : l[i]? = some s) : opW Tryd.prog (Instr.indexAt 22 v (.int q (i : Int))) (fun p w => opW Tryd.prog (Instr.loadAt 9 p) k w) w = k (.string s) w := by
  obtain ⟨b, o, c, rfl, hlt, hcl⟩ := hs.at (i := (i : Int)) (by omega) (by simpa using hx)
  have hsz : sizeT Tryd.prog (elemT Tryd.prog 22) = 1 := by kernel_rfl
  have := hcl 0 (.string s) rfl
  rw [opW_ok (run_index (by kernel_rfl) (by kernel_rfl) (by omega) hlt w), hsz, ld9 (v := .string s)]
  simpa [fT] using this
set_option maxHeartbeats 2000000 in
theorem r3 {lv : Value} {l : List ByteArray} {n m : Int} (hg : Gl w) (hn : in64 n) (hl : IsSl fT w lv l) (hll : l.length ≤ maxLen) (hls : ∀ s ∈ l, s.size ≤ maxLen) (hm : in64 m) (hk : ∀ w', Below w.heap.size w w' → k (.bool true) w') :
    S3 (I n) lv (I m) k w := by
  unfold S3
  have hml : maxLen ≤ 9223372036854775807 := by decide
  have hml0 : 1000000000 ≤ maxLen := by decide
  have hB : 4 < w.heap.size := hg.2.1
  refine c5 hg fun w1 hb1 => ?_
  have hs1 := hb1.size
  refine c7 hn ?_
  obtain ⟨z1, z2, z3⟩ := szN_in (n := n)
  refine c6d (n := szN n) z1 (by omega) fun b dv vv w2 hb2 hd2 => ?_
  obtain ⟨pv2, hd2⟩ := hd2
  replace hd2 : DJ w.heap.size w2 b (newD (szN n)) dv vv := ⟨pv2, hd2.lower hs1⟩
  have hb02 := below_trans hb1 hb2
  rw [ex0, ex1]
  have hG0 := gd_new (n := szN n) z1 (by omega)
  refine c8g (hg.below hb02 hB) hb02.size hd2 hG0 fun w3 jb hd3 ho3 hb3 hj3 => ?_
  replace hj3 := hj3.lower hb02.size
  replace hb3 := hb02.trans hb3
  rw [ex0, ex1, w_neq]
  simp only [decide_true, Bool.not_true]
  rw [condW_false]
  refine c9 (hl.below hb3) hll fun fv w4 hb4 hm4 => ?_
  obtain ⟨f1, f2⟩ := fewL_ok (l := l)
  generalize fewL l = L at *
  have hd4 := hd3.below hb4
  have hj4 := hj3.below hb4
  have hb04 := hb3.trans (hb4.mono hb3.size)
  have hsmL : ∀ r ∈ L, r.size ≤ 65536 := fun r hr => by have := f2 r hr; omega
  refine Loop2.intro (fun mm x y w' => ∃ i : Nat, y = I i ∧ x = I ((stL z32 (L.take i)).length : Int) ∧ mm = L.length - i ∧ i ≤ L.length ∧ Below w4.heap.size w4 w') _ ⟨0, rfl, rfl, rfl, Nat.zero_le _, Below.refl _ _⟩ ?_
  rintro mm _ _ w5 ⟨i, rfl, rfl, rfl, hi, hb5⟩
  have hm5 := hm4.below hb5
  rw [len22 hm5.sl, w_lss]
  by_cases hlt : i < L.length
  · have hx : L[i]? = some L[i] := List.getElem?_eq_getElem hlt
    have hr := f2 _ (List.getElem_mem hlt)
    rw [decide_eq_true (by omega), condW_true, getT22 hm5.sl hx]
    refine c10 (by omega) fun w6 hb6 => ?_
    have hsn := stL_snoc (L.take i) L[i]
    have h3 := (vb_len (2 * L[i].size)).2
    have hst := stL_len (L.take i) z32 fun s hs => hsmL s (List.mem_of_mem_take hs)
    rw [List.length_take] at hst
    have hmul : min i L.length * 200000 ≤ 6 * 200000 := Nat.mul_le_mul_right _ (by omega)
    have hlb := lenB_size L[i].size
    rw [ex0, ex1, w_add, wrap_id (by omega), w_lenStr (by kernel_rfl), w_add, wrap_id (by rw [ByteArray.size_append]; omega), w_add, wrap_id (by omega), loopK_self]
    refine ⟨L.length - (i + 1), by omega, i + 1, by simp [I], ?_, rfl, by omega, below_trans hb5 hb6⟩
    rw [List.take_add_one, hx, Option.toList_some, hsn, ByteArray.size_append]
    simp only [I]
    congr 1
    omega
  rw [decide_eq_false (by omega), condW_false]
  have hil : i = L.length := by omega
  subst hil
  rw [List.take_length]
  have hd5 := hd4.below hb5
  have hj5 := hj4.below hb5
  have hb05 := hb04.trans (hb5.mono hb04.size)
  have hst := stL_len L z32 hsmL
  have hmul : L.length * 200000 ≤ 6 * 200000 := Nat.mul_le_mul_right _ f1
  by_cases hfit : (stL z32 L).length ≤ szN n
  case' pos =>
    refine c11g (l := []) (m := L) (hg.below hb05 hB) hB hb05.size hd5 hG0 hj5 hm5.sl (by omega) hsmL hfit fun w6 D6 hG6 hd6 hj6 ho6 hb6 => ?_
    rw [List.nil_append] at hG6 hj6
    have hm6 := ho6.mine hm5 (by decide)
    have hb06 := hb05.trans hb6
    have hok6 := hG6.rest.ok
    have hts : (tpOf L).size = (stL z32 L).length := tpOf_size L
    refine c7 hn ?_
    rw [w_leq, decide_eq_true (by omega), w_eql]
    simp only [decide_true]
    rw [w_neqB (by kernel_rfl)]
    simp only [decide_true, Bool.not_true, guardW_ff]
    rw [w_not]
    simp only [Bool.not_true, guardW_ft, guardW_u, pickW_false, guardW_ff, guardW_tt]
    refine c12d hd6 hok6 hj6 (by omega) fun w7 hb7 => ?_
    replace hd6 := hd6.below hb7
    replace hj6 := hj6.below hb7
    replace hm6 := hm6.below hb7
    replace hb06 := hb06.trans (hb7.mono hb06.size)
    refine c7 hn ?_
    rw [w_sub, wrap_id (by omega), hts, w_neq]
    simp only [decide_true, Bool.not_true, pickW_true, pickW_false, guardW_ff]
    rw [w_not]
    simp only [Bool.not_true, guardW_ft, guardW_u, pickW_false, guardW_ff]
    clear hm5 hd5 hj5 hb05 hd4 hj4 hm4 hj3 hd3 hd2
    obtain ⟨R6, hR⟩ : ∃ R6 : List ByteArray, R6 = L := ⟨_, rfl⟩
    rw [← hR] at hG6 hj6
    have hR6 : R6.length ≤ 6 := by rw [hR]; exact f1
  case' neg =>
    refine c11f (l := []) (m := L) (hg.below hb05 hB) hB hb05.size hd5 hG0 hj5 hm5.sl (by omega) hsmL (by rw [List.nil_append]; omega) fun w6 hd6 hj6 ho6 hb6 => ?_
    have hG6 := hG0
    have hm6 := ho6.mine hm5 (by decide)
    have hb06 := hb05.trans hb6
    have hok6 := hG6.rest.ok
    have hts : (tpOf []).size = 0 := rfl
    refine c7 hn ?_
    rw [w_leq, decide_eq_false (by omega), w_eql]
    simp only [show decide ((341 : Int) = 0) = false from rfl]
    rw [w_neqB (by kernel_rfl)]
    simp only [decide_true, Bool.not_true, guardW_ff]
    rw [w_not]
    simp only [Bool.not_false, guardW_tt]
    rw [w_neq]
    simp only [decide_true, Bool.not_true, guardW_ft, guardW_u, pickW_true, pickW_false, guardW_ff]
    rw [w_not]
    simp only [Bool.not_false, guardW_tt]
    refine c12d hd6 hok6 hj6 (by omega) fun w7 hb7 => ?_
    replace hd6 := hd6.below hb7
    replace hj6 := hj6.below hb7
    replace hm6 := hm6.below hb7
    replace hb06 := hb06.trans (hb7.mono hb06.size)
    refine c7 hn ?_
    rw [hts, w_neq, decide_eq_true (by omega)]
    simp only [Bool.not_true, pickW_true, pickW_false, guardW_ff]
    clear hm5 hd5 hj5 hb05 hd4 hj4 hm4 hj3 hd3 hd2
    obtain ⟨R6, hR⟩ : ∃ R6 : List ByteArray, R6 = [] := ⟨_, rfl⟩
    obtain ⟨D6, hD⟩ : ∃ D6 : DK, D6 = newD (szN n) := ⟨_, rfl⟩
    rw [← hR] at hG6 hj6
    rw [← hD] at hd6 hG6 hok6
    have hR6 : R6.length ≤ 6 := by rw [hR]; exact Nat.zero_le _
  all_goals
    rw [condW_false]
    clear hR
    have hts6 := tpOf_size R6
    have hroom6 := hG6.fits.room
    have hto6 : TOk (szN n) (tpOf R6) := tpOf_ok R6 (by omega)
    have hpe6 : D6.pend.length ≤ 100000 := by rw [hG6.rest.pend]; exact Nat.zero_le _
    refine c13d hj6 (by rw [tpOf_recs]; omega) fun wv w8 hb8 hwas => ?_
    rw [tpOf_recs] at hwas
    replace hd6 := hd6.below hb8
    replace hj6 := hj6.below hb8
    replace hm6 := hm6.below hb8
    replace hb06 := hb06.trans (hb8.mono hb06.size)
    have hs8 := hb06.size
    refine w_empty22 fun ev w9 hb9 hev => ?_
    have hb9' := hb9.size
    refine mine_cat (F := fT) sty22 (fun x u hu => by simp [fT] at hu; subst hu; rfl) hev (hm6.below hb9) hb9' (by simp; omega) (by simp; omega) fun cv w10 hcv hb10 _ _ => ?_
    have hb810 : Below w8.heap.size w8 w10 := hb9.trans hb10
    rw [List.nil_append] at hcv
    refine c14 hm (by decide) ?_
    have hpk := pkN_in (c := m) (n := 100) (by decide)
    obtain ⟨z, hz⟩ : ∃ z : Nat, 65537 + pkN m 100 = (z : Int) := ⟨(65537 + pkN m 100).toNat, by omega⟩
    rw [w_add, wrap_id (by omega), hz]
    refine w_zstr (m := z) (by omega) (by omega) fun w11 hb11 => ?_
    have hb811 := hb810.trans (hb11.mono hb810.size)
    refine Mine.push (F := fT) (x := zeroB z) sty22 (fun u hu => by simp [fT] at hu; subst hu; rfl) rfl (by decide) (hcv.below hb11) hb811.size (by omega) (by omega) fun gv w12 hgv hb12 _ _ => ?_
    have hb812 := hb811.trans hb12
    replace hd6 := hd6.below hb812
    replace hj6 := hj6.below hb812
    replace hm6 := hm6.below hb812
    replace hwas := hwas.below hb812
    replace hb06 := hb06.trans (hb812.mono hs8)
    refine c11d (hg.below hb06 hB) hB hb06.size hd6 hok6 hpe6 hj6 hto6 hgv.sl (by rw [List.length_append, List.length_singleton]; omega) fun w13 hd13 hj13 ho13 hb13 => ?_
    rw [apJ_long ⟨zeroB z, by simp, by rw [zeroB_size]; omega⟩] at hd13 hj13 ⊢
    dsimp only at hd13 hj13
    replace hm6 := ho13.mine hm6 (by decide)
    replace hwas := ho13.mine hwas (by decide)
    replace hb06 := hb06.trans hb13
    clear hd6 hj6 hgv hcv hev
    refine c11d (l := []) (hg.below hb06 hB) hB hb06.size hd13 hok6 hpe6 hj13 hto6 (Mine.nil (e := 9) _ 0).sl (by decide) fun w14 hd14 hj14 ho14 hb14 => ?_
    rw [apJ_nil hto6.size] at hd14 hj14 ⊢
    dsimp only at hd14 hj14
    replace hm6 := ho14.mine hm6 (by decide)
    replace hwas := ho14.mine hwas (by decide)
    replace hb06 := hb06.trans hb14
    clear hd13 hj13
    refine c15d (c := 0) hd14 (by decide) (fun h => by rw [hG6.rest.on] at h; cases h) fun _ w15 hd15 ho15 hb15 => ?_
    replace hj14 := hj14.off ho15
    replace hm6 := ho15.mine hm6 (by decide)
    replace hwas := ho15.mine hwas (by decide)
    replace hb06 := hb06.trans hb15
    have hok15 : DOk (szN n) (cutD D6 0) := hok6.cut (by decide)
    have hpe15 : (cutD D6 0).pend.length ≤ 100000 := hpe6
    have hoff15 : (cutD D6 0).off = true := show decide ((0 : Int) = 0) = true from rfl
    clear hd14
    refine w_parts (F := fT) (l := [sX]) sty22 rfl (by decide) (by decide) (by kernel_rfl) rfl fun w16 hb16 _ hm16 => ?_
    replace hd15 := hd15.below hb16
    replace hj14 := hj14.below hb16
    replace hm6 := hm6.below hb16
    replace hwas := hwas.below hb16
    replace hb06 := hb06.trans (hb16.mono hb06.size)
    have hgx := grp_x (tpOf R6)
    have hsx : ∀ r ∈ [sX], r.size ≤ 65536 := fun r hr => by simp only [List.mem_singleton] at hr; subst hr; decide
    refine c11d (l := [sX]) (hg.below hb06 hB) hB hb06.size hd15 hok15 hpe15 hj14 hto6 hm16.sl (by simp) fun w17 hd17 hj17 ho17 hb17 => ?_
    replace hm6 := ho17.mine hm6 (by decide)
    replace hwas := ho17.mine hwas (by decide)
    replace hb06 := hb06.trans hb17
    by_cases hsmall : szN n < (tpOf R6).size + 35
    case' pos =>
      rw [apJ_full' hsx (by omega)] at hd17 hj17 ⊢
      dsimp only at hd17 hj17
      refine c12d hd17 hok15 hj17 (by omega) fun w18 hb18 => ?_
      replace hd17 := hd17.below hb18
      replace hj17 := hj17.below hb18
      replace hm6 := hm6.below hb18
      replace hwas := hwas.below hb18
      replace hb06 := hb06.trans (hb18.mono hb06.size)
      rw [w_lss, decide_eq_true (by omega)]
      refine c11d (l := []) (hg.below hb06 hB) hB hb06.size hd17 hok15 hpe15 hj17 hto6 (Mine.nil (e := 9) _ 0).sl (by decide) fun w19 hd19 hj19 ho19 hb19 => ?_
      rw [apJ_nil hto6.size] at hd19 hj19 ⊢
      dsimp only at hd19 hj19
      replace hm6 := ho19.mine hm6 (by decide)
      replace hwas := ho19.mine hwas (by decide)
      replace hb06 := hb06.trans hb19
      simp only [guardW_tt]
      rw [w_eql]
      simp only [decide_true, guardW_tt, pickW_true]
      rw [w_eql]
      simp only [decide_true, guardW_tf, guardW_u, pickW_true, guardW_tt]
    case' neg =>
      rw [apJ_off hoff15 hsx (by simp) (by omega)] at hd17 hj17 ⊢
      dsimp only at hd17 hj17
      refine c12d hd17 hok15 hj17 (by omega) fun w18 hb18 => ?_
      replace hd17 := hd17.below hb18
      replace hj17 := hj17.below hb18
      replace hm6 := hm6.below hb18
      replace hwas := hwas.below hb18
      replace hb06 := hb06.trans (hb18.mono hb06.size)
      rw [w_lss, decide_eq_false (by omega)]
      refine c11d (l := []) (hg.below hb06 hB) hB hb06.size hd17 hok15 hpe15 hj17 hto6 (Mine.nil (e := 9) _ 0).sl (by decide) fun w19 hd19 hj19 ho19 hb19 => ?_
      rw [apJ_broken] at hd19 hj19 ⊢
      dsimp only at hd19 hj19
      replace hm6 := ho19.mine hm6 (by decide)
      replace hwas := ho19.mine hwas (by decide)
      replace hb06 := hb06.trans hb19
      simp only [guardW_ft, guardW_u, pickW_false, guardW_ff]
      rw [w_not]
      simp only [Bool.not_false, guardW_tt]
      rw [w_eql]
      simp only [decide_true, guardW_tt, pickW_true]
      rw [w_eql]
      simp only [decide_true, guardW_tt, pickW_true, pickW_false]
    all_goals
      rw [w_eql]
      simp only [decide_true, guardW_tt, pickW_true]
      rw [w_eql]
      simp only [decide_true, guardW_tt, pickW_true]
      refine c13d hj19 (by rw [tpOf_recs]; omega) fun v20 w20 hb20 hm20 => ?_
      rw [tpOf_recs] at hm20
      replace hm6 := hm6.below hb20
      replace hwas := hwas.below hb20
      replace hb06 := hb06.trans (hb20.mono hb06.size)
      refine c16 hm20.sl hwas.sl (by omega) fun w21 hb21 => ?_
      replace hb06 := hb06.trans (hb21.mono hb06.size)
      rw [decide_eq_true rfl]
      simp only [guardW_tt, pickW_true]
      refine c11n ?_
      rw [w_eql]
      simp only [decide_true, guardW_tt, pickW_true]
      refine c13n ?_
      rw [len22 (Mine.nil (F := fT) (e := 9) w21 0).sl, w_eql, decide_eq_true (by rfl)]
      simp only [guardW_tt, pickW_true]
      refine c12n ?_
      rw [w_eql]
      simp only [decide_true, guardW_tt, pickW_true]
      exact hk _ hb06
end
end Go.Proofs.YtbojglaimdjagaaDoor
/- JournalRoom answers true for every input, and the input reads as it did; its card ties the four listed variables to the program's text: no condition of its own. -/
namespace Go.Proofs.YtbojglaimdjagaaDoor.journalRoom
open Go Go.V Go.ChangeShapes Go.WideShapes Go.ChangeAt Go.RowKit Go.Deep
set_option linter.unusedVariables false
theorem laid_met (os : Os) (args : Array Value) : laidMetH Tryd.prog Rows.journalRoomRow.laid ((laidWorld os).forCall (fun _ _ => 0) ⟨#[], args, []⟩).memory := laid_met0 os args
theorem witness_row (os : Os) {H : Type} (enc : TypeId × Value → H) :
    (OpenSpec.ofChange Rows.journalRoomSpec).preRow enc Tryd.prog Tryd.f3 Rows.journalRoomRow.domain false Rows.journalRoomRow.laid ((laidWorld os).forCall (fun _ _ => 0) ⟨#[], #[.int .i64 0, .slice none 0 0, .int .i64 0], []⟩).memory #[.int .i64 0, .slice none 0 0, .int .i64 0] := by
  have hw : (DataW.whole enc Tryd.prog ((laidWorld os).forCall (fun _ _ => 0) ⟨#[], #[.int .i64 0, .slice none 0 0, .int .i64 0], []⟩).memory Tryd.f3.params.toList (OpenSpec.ofChange Rows.journalRoomSpec).vars false (#[.int .i64 0, .slice none 0 0, .int .i64 0] : Array Value).toList 8).map (fun x => (x.1, x.2.1)) =
      some ([.lit (.int .i64 0), .nil, .lit (.int .i64 0)], []) := by kernel_rfl
  obtain ⟨⟨x1, x2, x3⟩, hx, hx1⟩ := Option.map_eq_some_iff.1 hw
  simp only [Prod.mk.injEq] at hx1
  obtain ⟨rfl, rfl⟩ := hx1
  exact OpenSpec.preRow_of_cond 8 hx (by kernel_rfl) (fun k hk => by cases hk) (by kernel_rfl) (laid_met os _)
set_option maxRecDepth 100000 in
theorem lifted (os : Os) (started : os.Started) (H : Type) (enc : TypeId × Value → H) (F : Stop.Interp) :
    ReturnsInHanded {} Tryd.checked os 3 .any ((OpenSpec.ofChange Rows.journalRoomSpec).preRow enc Tryd.prog Tryd.f3 Rows.journalRoomRow.domain false Rows.journalRoomRow.laid) (((OpenSpec.ofChange Rows.journalRoomSpec).at F).post enc Tryd.prog Tryd.f3 false true false false) := by
  refine returnsInHanded_of_row (C := Tryd.checked) (s := OpenSpec.ofChange Rows.journalRoomSpec) own started (by kernel_rfl) Tryd.func3
    (witness_row_atRef (enc := enc) (C := Tryd.checked) false (laidWorld os) #[.int .i64 0, .slice none 0 0, .int .i64 0] rfl (by kernel_rfl) (by kernel_rfl) (by kernel_rfl) (witness_row os enc)) ?_
  intro W base args ds gs before hval0 hW _ _ _ hL _ _
  have hgl : Gl W := gl_of_laid rfl hL
  have hval : ∀ (j : Nat) t v, Tryd.f3.params[j]? = some t → args[j]? = some v → Value.okWide Tryd.prog W .any base t v := hval0
  have hW' := hW
  obtain ⟨p, q, hA0, hV, rfl, hfz, hnd⟩ := hW
  have hA : DataW.TrodAll enc Tryd.prog W 0 (fun _ => true) true Tryd.f3.params.toList args.toList ds p := hA0
  rw [Tryd.params3] at hA hval
  obtain ⟨v0, vs0, d0, ds0, p0, q0, hargs, rfl, rfl, h0, r0⟩ := trodAll_cons hA
  obtain ⟨v1, vs1, d1, ds1, p1, q1, rfl, rfl, rfl, h1, r1⟩ := trodAll_cons r0
  obtain ⟨v2, vs2, d2, ds2, p2, q2, rfl, rfl, rfl, h2, r2⟩ := trodAll_cons r1
  obtain ⟨rfl, rfl, rfl⟩ := trodAll_nil r2
  obtain rfl : args = #[v0, v1, v2] := by cases args; simp_all
  obtain ⟨rfl, rfl⟩ := trodVars_none hV
  obtain ⟨a0, rfl, rfl, rfl, wa0⟩ := open_int Tryd.underlying3 (hval 0 3 v0 rfl rfl) h0
  obtain ⟨a1, len1, cap1, rfl⟩ := okWide_slice und22 (hval 1 22 v1 rfl rfl)
  obtain ⟨a2, rfl, rfl, rfl, wa2⟩ := open_int Tryd.underlying3 (hval 2 3 v2 rfl rfl) h2
  have k1 := h1
  have lt1 : ∀ x ∈ p1, x.block < W.heap.size := by obtain ⟨m, hm⟩ := k1; exact DataW.trod_lt m _ _ _ hm
  obtain ⟨l1, s1, o1, u1⟩ : ∃ l : List ByteArray, IsSl fT W (.slice a1 len1 cap1) l ∧ l.length ≤ maxLen ∧ ∀ s ∈ l, s.size ≤ maxLen := by
    obtain ⟨fuel, hf⟩ := h1
    exact openT hf
  clear hA0 hval0
  have walk : Calls Tryd.prog 3 #[I a0, .slice a1 len1 cap1, I a2] W fun e w' => e = .returned (.bool true) ∧ Below W.heap.size W w' :=
    (S3_calls _ _ _ _ W (r3 (k := fun v w' => v = .bool true ∧ Below W.heap.size W w') hgl (in64_of_wf wa0) s1 o1 u1 (in64_of_wf wa2) fun w' hb => ⟨rfl, hb⟩)).mono fun e w' h => by
      cases e <;> first | exact h.elim | exact ⟨by rw [h.1], h.2⟩
  refine walk.mono fun e W' ⟨he, bel⟩ => ?_
  subst he
  exact ⟨_, rfl, _, _, _, [], _, [], hW', trodAll_mk1 (shut_bool Tryd.underlying4 _), (trodAll_cons_mk (shut_int Tryd.underlying3 wa0) (trodAll_cons_mk (Below.trod laidOut (by kernel_rfl) (of_decide_eq_true (by kernel_rfl)) k1 bel lt1) (trodAll_cons_mk (shut_int Tryd.underlying3 wa2) trodAll_mk0))), rfl, bel.frame _, fun h => by cases h⟩
theorem row_holds : Rows.JournalRoomSaid :=
  OpenClaim.holds_of_cond 3 Tryd.f3 rfl rfl rfl rfl rfl rfl rfl ⟨rfl, rfl, rfl, rfl, rfl⟩ rfl rfl rfl rfl rfl (by kernel_rfl) Tryd.func3 (by kernel_rfl)
    (of_decide_eq_true (by kernel_rfl)) (by unfold Func.isWrapper; first | (rw [if_pos (by decide +kernel)]; kernel_rfl) | (rw [if_neg (by decide +kernel)]; exact ⟨rfl, rfl⟩))
    (fun os started H enc _ F0 => by rw [OpenClaim.pre_eq_preRow]; exact lifted os started H enc F0)
theorem wants (t : TypeId) (ht : t ∈ [3, 22, 3]) : Tryd.prog.wantsStandIn t = false := by
  simp only [List.mem_cons, List.not_mem_nil, or_false] at ht
  rcases ht with rfl | rfl | rfl <;> kernel_rfl
theorem proved : Rows.JournalRoomCardSaid :=
  Claim7.holds_tied_plain_at .later [] [.data, .data, .sentinel, .pinned] true (true, "ccaabf0f9eb154955690a68d46d5bd6d203564a63727e25f5458abf94d70aa24") true
    row_holds (fun _ h => by cases h) (by kernel_rfl) (fun _ h => by cases h) journalRoom_row_tie rfl ⟨rfl, rfl⟩ (by kernel_rfl) rfl
    (fun f fn hf hfn => by
      obtain rfl : f = 3 := Option.some.inj ((show Tryd.prog.funcNamed "newswire/newswirelaw34.JournalRoom" = some 3 by kernel_rfl).symm.trans hf) |>.symm
      obtain rfl : fn = Tryd.f3 := (Option.some.inj (Tryd.func3.symm.trans hfn)).symm
      exact ⟨by kernel_rfl, fun j t ht => wants t (by
        rw [Tryd.params3] at ht
        exact List.mem_of_getElem? (by simpa using ht))⟩)
    (by kernel_rfl)
end Go.Proofs.YtbojglaimdjagaaDoor.journalRoom
