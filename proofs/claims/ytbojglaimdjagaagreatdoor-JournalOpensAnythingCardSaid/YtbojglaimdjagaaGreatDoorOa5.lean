/- JournalOpensAnything answers true for every input, and the input reads as it did; its card ties the four listed variables to the program's text: no condition of its own. -/
import Derived.Test.YtbojglaimdjagaaGreatDoorOa4
import Derived.ProofKit
import Derived.OpenShut
import Derived.ShutString
import Derived.ChangeMaps5
import Derived.ChangeOld
import Derived.Deep.Slices
import Derived.Deep.DeepHandedRow
import Derived.LaidMore
import Derived.LaidHandle
import Derived.Test.YtbojglaimdjagaaGreatDoorTie
import Derived.Test.YtbojglaimdjagaaGreatDoorCards
import Derived.SevenTiedAt
import Derived.Deep.DeepWitnessRowRef
import Derived.LaidSub
import Derived.LaidLaws
import Derived.Lib.LaidTab
import Derived.Shelf.Sort.Plain
import Derived.Shelf.Slices.CompactI
import Derived.Shelf.Slices.In.SortNone
import Derived.Sort.OwnSortedInts
/- Arguments opened; the package's tables. -/
set_option linter.unusedSimpArgs false
set_option linter.unusedVariables false
namespace Go.Proofs.YtbojglaimdjagaaGreatDoor
open Go Go.V Go.RowKit Go.ChangeShapes Go.WideShapes Go.ChangeAt Go.Deep
theorem own : ownKnob Tryz.prog.godebug = none := by kernel_rfl
theorem laidOut : laidOutB Tryz.prog = true := by kernel_rfl
theorem in64_of_wf {n : Int} (h : (Lit.int .i64 n).wf = true) : in64 n := bounds_i64 h
section
variable {H : Type} {enc : TypeId × Value → H} {P : Program} {w : World} {base : Nat} {spare : Nat → Bool} {held : Bool}
theorem spot_of_cell {x : Addr} {v : Value} (h : w.cell? x = some v) : x.spot = none := by
  unfold World.cell? at h
  cases hs : x.spot with
  | none => rfl
  | some s =>
    exfalso
    split at h
    · rw [hs] at h; simp at h
    · cases h
/-- a slice of flat elements that came in; Q i z: what is known of the i-th -/
theorem sl_of_trodI {α : Type} {F : Fl α} {Q : Nat → α → Prop} {t e : TypeId} {fuel : Nat} {v : Value} {x : DataW H × List MemPlace} (ht : P.underlying t = some (.slice e)) (hc : P.cellsOf e = F.sz) (hp : 0 < F.sz)
    (helem : ∀ i cs m (y : DataW H × List MemPlace), DataW.trod enc P w base spare held m e cs = some y → (∀ ds p, x = (.slice ds [], p) → ds[i]? = some y.1) → ∃ z, cs = F.e z ∧ Q i z) (h : DataW.trod enc P w base spare held fuel t [v] = some x) (hnn : held = held) :
    ∃ l : List α, IsSl F w v l ∧ l.length ≤ maxLen ∧ (∀ i z, l[i]? = some z → Q i z) ∧ ∀ ds p, x = (.slice ds [], p) → l.length = ds.length := by
  rcases open_slice ht h with ⟨hcs, hx0⟩ | ⟨a, len, cap, m, n, D, Pl, hcs, _, hl, hm, hmm, hxx, hel⟩
  · simp at hcs; subst hcs
    exact ⟨[], .nil _, by simp, by simp, fun ds p hh => by rw [hx0] at hh; cases hh⟩
  · simp at hcs; subst hcs
    have hlm : len ≤ m := by rw [hmm]; split <;> omega
    have each : ∀ i, i < len → ∃ z, Q i z ∧ ∀ j u, (F.e z)[j]? = some u → w.cell? ((a.add (i * F.sz)).add j) = some u := fun i hi => by
      obtain ⟨cs, h1, h2⟩ := hel i (by omega)
      obtain ⟨z, rfl, hq⟩ := helem i cs n _ h2 fun ds p hh => by
        rw [hxx] at hh
        simp only [Prod.mk.injEq, DataW.slice.injEq] at hh
        rw [← hh.1.1, List.getElem?_map, List.getElem?_range hi]; rfl
      rw [hc] at h1
      obtain ⟨_, hlen, hcell⟩ := World.cells?_some h1
      exact ⟨z, hq, fun j u hu => by rw [hcell j (by have := (List.getElem?_eq_some_iff.1 hu).1; rw [F.len] at this; exact this)]; exact hu⟩
    have mk : ∀ k, k ≤ len → ∃ l : List α, l.length = k ∧ (∀ i z, l[i]? = some z → Q i z) ∧ ∀ i z, l[i]? = some z → ∀ j u, (F.e z)[j]? = some u → w.cell? ((a.add (i * F.sz)).add j) = some u := by
      intro k
      induction k with
      | zero => intro _; exact ⟨[], rfl, by simp, by simp⟩
      | succ k ih =>
        intro hk
        obtain ⟨l, h1, h2, h3⟩ := ih (by omega)
        obtain ⟨z, hz, hzc⟩ := each k (by omega)
        refine ⟨l ++ [z], by simp [h1], fun i y hy => ?_, fun i y hy => ?_⟩
        · rcases Nat.lt_or_ge i l.length with h | h
          · rw [List.getElem?_append_left h] at hy; exact h2 i y hy
          · rw [List.getElem?_append_right h] at hy
            have := (List.getElem?_eq_some_iff.1 hy).1
            simp at this
            have h0 : i - l.length = 0 := by omega
            rw [h0] at hy; simp at hy; subst hy
            obtain rfl : i = k := by omega
            exact hz
        · rcases Nat.lt_or_ge i l.length with h | h
          · rw [List.getElem?_append_left h] at hy; exact h3 i y hy
          · rw [List.getElem?_append_right h] at hy
            have := (List.getElem?_eq_some_iff.1 hy).1
            simp at this
            have h0 : i - l.length = 0 := by omega
            rw [h0] at hy; simp at hy; subst hy
            obtain rfl : i = k := by omega
            exact hzc
    obtain ⟨l, h1, h2, h3⟩ := mk len (Nat.le_refl _)
    refine ⟨l, ⟨some a, cap, by rw [h1], by omega, fun i z hz => ?_⟩, by omega, h2, fun ds p hh => ?_⟩
    · obtain ⟨z0, hz0⟩ : ∃ z0, l[0]? = some z0 := ⟨l[0]'(by have := (List.getElem?_eq_some_iff.1 hz).1; omega), by simp⟩
      obtain ⟨u, hu⟩ : ∃ u, (F.e z0)[0]? = some u := ⟨(F.e z0)[0]'(by rw [F.len]; exact hp), by simp⟩
      have hsp := spot_of_cell (h3 0 z0 hz0 0 u hu)
      obtain ⟨b, o, sp⟩ := a
      have hsn : sp = none := by
        revert hsp
        simp [Addr.add]
      subst hsn
      refine ⟨b, o, rfl, fun j v hv => ?_⟩
      have := h3 i z hz j v hv
      rwa [add_none, add_none] at this
    · rw [hxx] at hh
      simp only [Prod.mk.injEq, DataW.slice.injEq] at hh
      rw [h1, ← hh.1.1]; simp
theorem sl_of_trod {α : Type} {F : Fl α} {Q : α → Prop} {t e : TypeId} {fuel : Nat} {v : Value} {x : DataW H × List MemPlace} (ht : P.underlying t = some (.slice e)) (hc : P.cellsOf e = F.sz) (hp : 0 < F.sz)
    (helem : ∀ cs m (y : DataW H × List MemPlace), DataW.trod enc P w base spare held m e cs = some y → ∃ z, cs = F.e z ∧ Q z) (h : DataW.trod enc P w base spare held fuel t [v] = some x) :
    ∃ l : List α, IsSl F w v l ∧ l.length ≤ maxLen ∧ ∀ z, z ∈ l → Q z := by
  obtain ⟨l, h1, h2, h3, _⟩ := sl_of_trodI (Q := fun _ z => Q z) ht hc hp (fun _ cs m y hy _ => helem cs m y hy) h rfl
  exact ⟨l, h1, h2, fun z hz => by obtain ⟨i, hi, rfl⟩ := List.getElem_of_mem hz; exact h3 i _ (List.getElem?_eq_getElem hi)⟩
end
end Go.Proofs.YtbojglaimdjagaaGreatDoor
/- The witness of the rows that list the variables; the variables opened. -/
set_option linter.unusedSimpArgs false
set_option linter.unusedVariables false
namespace Go.Proofs.YtbojglaimdjagaaGreatDoor
open Go Go.V Go.ChangeShapes Go.WideShapes Go.ChangeAt Go.RowKit Go.Deep
def laidL : List (String × DataW Unit) := [("unicode/utf8.acceptRanges", Rows.laid_unicode_utf8_acceptRanges), ("newswire/digest.round", Rows.laid_newswire_digest_round), ("newswire/journal.errDamaged", Rows.laid_newswire_journal_errDamaged), ("unicode/utf8.first", Rows.laid_unicode_utf8_first)]
theorem starNm : "*errors.errorString" = "*" ++ "errors.errorString" := by decide
theorem row222 (u : TypeId) (h : Tryz.prog.typeName? 3 u = some "*errors.errorString") : u = 222 :=
  typeName_ptr_named (nm := "errors.errorString") (by rw [← starNm]; kernel_rfl) (by kernel_rfl) (by decide) u (by rw [← starNm]; exact h)
theorem c244 : Tryz.prog.cellsOf 244 = 1 := by kernel_rfl
theorem c9 : Tryz.prog.cellsOf 9 = 1 := by kernel_rfl
set_option maxRecDepth 100000 in
theorem err_of_laid {W : World} (h : laidMet Tryz.prog [("newswire/journal.errDamaged", Rows.laid_newswire_journal_errDamaged)] W) : ∃ e : Addr, W.cell? ⟨0, 0, none⟩ = some (.iface 222 (.pointer (some e))) := by
  obtain ⟨ps, ⟨g0', t0', cs0, f0, p0, q0, hg0', ht0', hv0, hd0, _, e0⟩, hnd, hrows⟩ := h
  have hg0 : Tryz.prog.globalNamed "newswire/journal.errDamaged" = some 0 := by kernel_rfl
  have ht0 : (Tryz.prog.globals[0]?).map (·.type) = some 80 := by kernel_rfl
  obtain rfl := Option.some.inj (hg0.symm.trans hg0')
  obtain rfl := Option.some.inj (ht0.symm.trans ht0')
  subst e0
  obtain ⟨l0⟩ := cs0
  have ok0 : ∀ u v, l0 = [.iface u v] → Value.okWide Tryz.prog W .any 0 u v := fun u v e => by
    subst e
    exact (hrows 0 0 (by simp [MemPlace.row])).2 u v (by simpa using World.var?_cell hg0' hv0 0)
  obtain ⟨a0, s0, rfl, hc0, hs0, hz0, rfl⟩ := errorString_of_trod Tryz.underlying80 row222 Tryz.underlying222 Tryz.underlying244 rfl rfl Tryz.underlying9 c244 c9 hd0 ok0
  exact ⟨a0, by simpa using World.var?_cell hg0' hv0 0⟩
theorem dig_of_laid {w : World} (h0 : laidMet Tryz.prog [("newswire/digest.round", Lib.tabData .u32 (kL.map fun x => ((x.toNat : Nat) : Int)))] w) : Cells w 3 0 K64 ∧ 3 < w.heap.size := by
  have hT := Lib.tabIs_of_head (P := Tryz.prog) (g := 3) (t := 214) (e := 109) (n := 64) (by kernel_rfl) (by kernel_rfl) (by kernel_rfl) (by kernel_rfl) (by kernel_rfl) (by kernel_rfl) h0
  have hc : ∀ i, i < 64 → w.cell? ⟨3, i, none⟩ = some (uV (kL.getD i 0)) := fun i hi => by
    have := hT.cell (g := 3) (by kernel_rfl) i (by simpa [kL] using hi)
    rw [this]
    have hk : kL[i]? = some (kL.getD i 0) := by rw [List.getD_eq_getElem?_getD, List.getElem?_eq_getElem (show i < kL.length from hi)]; rfl
    rw [List.getD_eq_getElem?_getD, List.getElem?_map, hk]; rfl
  refine ⟨fun j v hv => ?_, World.block_lt_of_cell? w _ (hc 0 (by decide))⟩
  have hj : j < 64 := by
    have := (List.getElem?_eq_some_iff.1 hv).1
    simpa [K64, kL] using this
  rw [Nat.zero_add, hc j hj, ← hv]
  unfold K64
  have hk : kL[j]? = some (kL.getD j 0) := by rw [List.getD_eq_getElem?_getD, List.getElem?_eq_getElem (show j < kL.length from hj)]; rfl
  rw [List.getElem?_map, hk]; rfl
set_option maxRecDepth 100000 in
theorem gl_of_laid {l : List (String × DataW Unit)} {w : World} (hl : l = laidL) (h : laidMetH Tryz.prog l w) : Gl w := by
  subst hl
  have h1 : laidMet Tryz.prog [("newswire/digest.round", Rows.laid_newswire_digest_round)] w := laidMetH.filter (fun x => x.1 == "newswire/digest.round") h
  have h2 : laidMet Tryz.prog [("newswire/journal.errDamaged", Rows.laid_newswire_journal_errDamaged)] w := laidMetH.filter (fun x => x.1 == "newswire/journal.errDamaged") h
  obtain ⟨a, b⟩ := dig_of_laid h1
  exact ⟨a, b, err_of_laid h2⟩
/-- the heap that the door's run leaves, utf8's table laid besides -/
noncomputable def laidWorld (os : Os) : World :=
  { World.doorLaid Tryz.prog 600 os with heap := (World.doorLaid Tryz.prog 600 os).heap.modify 1 fun
      | .cells _ t frozen => .cells (Go.Pinned.utf8FirstZ.map fun (z : Nat) => Value.int .u8 (z : Int)).toArray t frozen
      | o => o }
theorem laid_met0 (os : Os) (args : Array Value) : laidMetH Tryz.prog laidL ((laidWorld os).forCall (fun _ _ => 0) ⟨#[], args, []⟩).memory :=
  laidMetH_of_parts3 (fuel := 8) (laidMet_of_run' 8 (by kernel_rfl) (by kernel_rfl)) (by kernel_rfl) (by kernel_rfl)
end Go.Proofs.YtbojglaimdjagaaGreatDoor
/- Arguments of the laws, opened. -/
set_option linter.unusedSimpArgs false
set_option linter.unusedVariables false
namespace Go.Proofs.YtbojglaimdjagaaGreatDoor
open Go Go.V Go.RowKit Go.ChangeShapes Go.WideShapes Go.ChangeAt Go.Deep
theorem und22 : Tryz.prog.underlying 22 = some (.slice 9) := by kernel_rfl
theorem u8_of_wf {n : Int} (h : (Lit.int .u8 n).wf = true) : ∃ c : UInt8, n = (c.toNat : Int) := by
  have hmin : IntKind.u8.min = 0 := rfl
  have hmax : IntKind.u8.max = 255 := rfl
  simp only [Lit.wf, Bool.and_eq_true, decide_eq_true_eq] at h
  refine ⟨UInt8.ofNat n.toNat, ?_⟩
  rw [UInt8.toNat_ofNat']
  omega
section
variable {H : Type} {enc : TypeId × Value → H} {w : World} {base : Nat} {spare : Nat → Bool} {held : Bool}
theorem str_of_trod {cs : List Value} {m : Nat} {y : DataW H × List MemPlace} (h : DataW.trod enc Tryz.prog w base spare held m 9 cs = some y) : ∃ s, cs = [.string s] ∧ s.size ≤ maxLen := by
  obtain ⟨s, h1, _, h2⟩ := DataW.trod_string Tryz.underlying9 h
  exact ⟨s, h1, h2⟩
theorem openT {fuel : Nat} {v : Value} {x : DataW H × List MemPlace} (h : DataW.trod enc Tryz.prog w base spare held fuel 22 [v] = some x) : ∃ l : List ByteArray, IsSl fT w v l ∧ l.length ≤ maxLen ∧ ∀ s ∈ l, s.size ≤ maxLen := by
  obtain ⟨l, h1, h2, h3⟩ := sl_of_trod (F := fT) (Q := fun s => s.size ≤ maxLen) und22 c9 (by decide) (fun cs m y h => by
    obtain ⟨s, hs, hm⟩ := str_of_trod h
    exact ⟨s, hs, hm⟩) h
  exact ⟨l, h1, h2, h3⟩
end
end Go.Proofs.YtbojglaimdjagaaGreatDoor
/- More of Append, plain; a slice appended to one's own. -/
set_option linter.unusedSimpArgs false
set_option linter.unusedVariables false
set_option maxRecDepth 4000
namespace Go.Proofs.YtbojglaimdjagaaGreatDoor
open Go Go.V Go.RowKit
theorem apJ_broken {n : Nat} {D : DK} {t : TP} {l : List ByteArray} : apJ n D t true l = (340, D, t, true) := by
  unfold apJ; rw [if_pos (.inl rfl)]
theorem not_long {l : List ByteArray} (h : ∀ s ∈ l, s.size ≤ 65536) : ¬ (false = true ∨ ∃ s ∈ l, 65536 < s.size) := fun hh => hh.elim (fun h => by cases h) fun ⟨s, h1, h2⟩ => by have := h s h1; omega
theorem apJ_nil {n : Nat} {D : DK} {t : TP} (h : t.size ≤ n) : apJ n D t false [] = (0, D, t, false) := by
  unfold apJ
  have h0 : (grpB t []).size = 0 := by rw [grpB_size]; rfl
  rw [if_neg (not_long (by simp)), if_neg (by omega), if_pos rfl]
theorem apJ_full' {n : Nat} {D : DK} {t : TP} {l : List ByteArray} (hs : ∀ r ∈ l, r.size ≤ 65536) (hr : n < t.size + (grpB t l).size) : apJ n D t false l = (341, D, t, false) := by
  unfold apJ
  rw [if_neg (not_long hs), if_pos hr]
section
variable {P : Program} {k : Value → World → Prop} {w w' : World} {α : Type} {F : Fl α} {v v2 : Value} {l0 l : List α} {t e : TypeId} {B B2 : Nat}
theorem flat_cells (hone : ∀ x, ∀ u ∈ F.e x, u.oneCell' = true) : ∀ (l : List α), ∀ u ∈ flat F l, u.oneCell' = true
  | [], u, hu => by simp [flat] at hu
  | x :: r, u, hu => by
    simp only [flat, List.mem_append] at hu
    rcases hu with hu | hu
    · exact hone x u hu
    · exact flat_cells hone r u hu
/-- a slice appended to one's own -/
theorem mine_cat {ty : TypeId} {bytes : Nat} {z : Value} (h : STy P t e F.sz bytes z) (hone : ∀ x, ∀ u ∈ F.e x, u.oneCell' = true) (hown : Mine F e w B v l0) (hs : Mine F e w B2 v2 l) (hB : B ≤ w.heap.size) (hl : l0.length + l.length ≤ maxLen) (hbytes : (l0.length + l.length) * bytes ≤ 140737488355328)
    (hk : ∀ v' w', Mine F e w' B v' (l0 ++ l) → Below B w w' → Off (isOf v) w w' → (∀ b, isOf v' b → isOf v b ∨ w.heap.size ≤ b) → k v' w') : opW P (Builtin.append_ #[t, t] ty #[v, v2]) k w := by
  rcases id hs.2 with ⟨rfl, hn⟩ | ⟨g, cap, cur, rfl, _⟩
  · have : l = [] := List.eq_nil_of_length_eq_zero hn
    subst this
    rw [w_append_nil h hown]
    exact hk v w (by rw [List.append_nil]; exact hown) (Below.refl _ _) (Off.refl _ _) fun b hb => .inl hb
  · have hone' := flat_cells (F := F) hone l
    obtain ⟨v', w', hr, ho, hg, hnew, _⟩ := run_append_own2 (P := P) (ty := ty) h hown ⟨g, 0, none⟩ l.length cap (flat F l) (flat_length l) (fun j u hu => hs.cells (g := g) rfl j u hu) hone' hl hbytes hB
    rw [opW_ok hr]
    refine hk v' w' ?_ ?_ ?_ hnew
    · unfold Mine
      rw [List.length_append, flat_append]; exact ho
    · exact (Below.refl B w).grown hg hB fun b hb => (hown.ge hb).1
    · exact Off.grown hg fun b hb => hb
end
section
variable {k : Value → World → Prop} {w : World} {B b jb n : Nat} {D : DK} {dv vv : Value}
end
end Go.Proofs.YtbojglaimdjagaaGreatDoor
/- The conditions of the functions, printed by program out of the loaded code, each with the contract that follows from it. -/
set_option linter.unusedVariables false
set_option maxRecDepth 100000
namespace Go.Proofs.YtbojglaimdjagaaGreatDoor
open Go Go.V
noncomputable section

end
end Go.Proofs.YtbojglaimdjagaaGreatDoor
/- The disk: Crash. -/
set_option linter.unusedSimpArgs false
set_option linter.unusedVariables false
set_option maxRecDepth 4000
namespace Go.Proofs.YtbojglaimdjagaaGreatDoor
open Go Go.V Go.RowKit
/-- writes that lie on the disk -/
def PdOk (n : Nat) (l : List (Int × ByteArray)) : Prop := ∀ p ∈ l, 0 ≤ p.1 ∧ p.1.toNat + p.2.size ≤ n
section
variable {k : Value → World → Prop} {w : World} {B b : Nat} {D : DK} {dv vv pv : Value}
end
end Go.Proofs.YtbojglaimdjagaaGreatDoor
/- The journal, plain: the power fails while a group is appended. -/
set_option linter.unusedSimpArgs false
set_option linter.unusedVariables false
set_option maxRecDepth 4000
namespace Go.Proofs.YtbojglaimdjagaaGreatDoor
open Go Go.V Go.RowKit
/-- a journal in order on its disk; the power may be about to fail -/
structure Hl (n : Nat) (D : DK) (l : List ByteArray) : Prop where
  ok : DOk n D
  on : D.off = false
  pend : D.pend = []
  fits : Fits n l
  dur : D.dur = cont n l
  vis : D.vis = cont n l
/-- the power has failed while a group was appended -/
structure Bk (n : Nat) (D : DK) (l m : List ByteArray) : Prop where
  ok : DOk n D
  off : D.off = true
  fits : Fits n (l ++ m)
  ne : m ≠ []
  st : (D.dur = cont n l ∧ D.pend = [((((tpOf l).size + 1 : Nat) : Int), (grpB (tpOf l) m).extract 1 (grpB (tpOf l) m).size)]) ∨
    (D.dur = ontoL (cont n l) ((tpOf l).size + 1) ((grpB (tpOf l) m).extract 1 (grpB (tpOf l) m).size) ∧ D.pend = [(((tpOf l).size : Int), (grpB (tpOf l) m).extract 0 1)])
theorem Gd.hl {n : Nat} {D : DK} {l : List ByteArray} (h : Gd n D l) : Hl n D l := ⟨h.rest.ok, h.rest.on, h.rest.pend, h.fits, by rw [h.rest.same]; exact h.vis, h.vis⟩
theorem wr_off0 {D : DK} {o : Nat} {s : ByteArray} (h : D.off = false) (h1 : (wrD D o s).off = true) : D.left ≠ 0 := fun h0 => by
  rw [wrD_zero h0] at h1
  rw [show D.off = true from h1] at h; cases h
theorem wr_left0 {D : DK} {o : Nat} {s : ByteArray} (h : D.left = 0) : (wrD D o s).left = 0 := by rw [wrD_zero h]; exact h
/-- what Append does to a journal in order -/
theorem hl_append {n : Nat} {D : DK} {l m : List ByteArray} (h : Hl n D l) (hs : ∀ r ∈ m, r.size ≤ 65536) :
    (∃ D', apJ n D (tpOf l) false m = (0, D', tpOf (l ++ m), false) ∧ Hl n D' (l ++ m) ∧ (D.left = 0 → D'.left = 0)) ∨ apJ n D (tpOf l) false m = (341, D, tpOf l, false) ∨
    (D.left ≠ 0 ∧ ∃ D', apJ n D (tpOf l) false m = (331, D', tpOf l, true) ∧ Bk n D' l m) := by
  by_cases hr : (stL z32 (l ++ m)).length ≤ n
  case' neg => exact .inr (.inl (apJ_full hs (by omega)))
  have hsz := grp_size l m
  have hts := tpOf_size l
  have hnl := not_long hs
  have hall : Fits n (l ++ m) := ⟨fun r hr' => (List.mem_append.1 hr').elim (h.fits.small r) (hs r), hr⟩
  unfold apJ
  rw [if_neg hnl, if_neg (by omega)]
  by_cases hm : m = []
  · subst hm
    rw [if_pos rfl]
    exact .inl ⟨D, by rw [List.append_nil], by rw [List.append_nil]; exact h, fun h => h⟩
  rw [if_neg hm]
  have hp := grpB_pos (t := tpOf l) hm
  obtain ⟨g, hg⟩ : ∃ g, grpB (tpOf l) m = g := ⟨_, rfl⟩
  obtain ⟨z, hz⟩ : ∃ z, (tpOf l).size = z := ⟨_, rfl⟩
  have hbk : ∀ D', DOk n D' → D'.off = true → ((D'.dur = cont n l ∧ D'.pend = [(((z + 1 : Nat) : Int), g.extract 1 g.size)]) ∨ (D'.dur = ontoL (cont n l) (z + 1) (g.extract 1 g.size) ∧ D'.pend = [((z : Int), g.extract 0 1)])) → Bk n D' l m := fun D' a b c => by
    subst hg hz
    exact ⟨a, b, hall, hm, c⟩
  rw [hg, hz] at hsz ⊢
  rw [hg] at hp
  have s1 : (g.extract 1 g.size).size = g.size - 1 := by rw [ByteArray.size_extract]; omega
  have s2 : (g.extract 0 1).size = 1 := by rw [ByteArray.size_extract]; omega
  have ok1 := h.ok.wr (o := z + 1) (s := g.extract 1 g.size) (by omega)
  cases h1 : (wrD D (z + 1) (g.extract 1 g.size)).off with
  | true =>
    have e4 : ap4 D (z + 1) (g.extract 1 g.size) z (g.extract 0 1) = (331, wrD D (z + 1) (g.extract 1 g.size)) := by
      unfold ap4
      rw [if_neg (by rw [h.on]; simp), if_pos h1]
    rw [e4, if_neg (show ¬ ((331 : Int) = 0) by decide)]
    refine .inr (.inr ⟨wr_off0 h.on h1, _, rfl, hbk _ ok1 h1 (.inl ⟨?_, ?_⟩)⟩)
    · rw [wr_dur]; exact h.dur
    · rw [wr_pend, h.pend]; rfl
  | false =>
    have e1 : (syncD (wrD D (z + 1) (g.extract 1 g.size))).off = false := h1
    have e3 : ap4 D (z + 1) (g.extract 1 g.size) z (g.extract 0 1) = ap2 (syncD (wrD D (z + 1) (g.extract 1 g.size))) z (g.extract 0 1) := by
      unfold ap4
      rw [if_neg (by rw [h.on]; simp), if_neg (by rw [h1]; simp)]
    have ok2 := ok1.sync.wr (o := z) (s := g.extract 0 1) (by omega)
    cases h2 : (wrD (syncD (wrD D (z + 1) (g.extract 1 g.size))) z (g.extract 0 1)).off with
    | true =>
      have e4 : ap2 (syncD (wrD D (z + 1) (g.extract 1 g.size))) z (g.extract 0 1) = (331, wrD (syncD (wrD D (z + 1) (g.extract 1 g.size))) z (g.extract 0 1)) := by
        unfold ap2
        rw [if_neg (by rw [e1]; simp), if_pos h2]
      rw [e3, e4, if_neg (show ¬ ((331 : Int) = 0) by decide)]
      refine .inr (.inr ⟨fun h0 => ?_, _, rfl, hbk _ ok2 h2 (.inr ⟨?_, ?_⟩)⟩)
      · exact wr_off0 (D := syncD (wrD D (z + 1) (g.extract 1 g.size))) e1 h2 (wr_left0 h0)
      · rw [wr_dur]
        show (wrD D (z + 1) (g.extract 1 g.size)).vis = _
        rw [wr_vis, h.vis]
      · rw [wr_pend]; rfl
    | false =>
      have e4 : ap2 (syncD (wrD D (z + 1) (g.extract 1 g.size))) z (g.extract 0 1) = (0, syncD (wrD (syncD (wrD D (z + 1) (g.extract 1 g.size))) z (g.extract 0 1))) := by
        unfold ap2
        rw [if_neg (by rw [e1]; simp), if_neg (by rw [h2]; simp)]
      rw [e3, e4, if_pos rfl]
      have hv : (wrD (syncD (wrD D (z + 1) (g.extract 1 g.size))) z (g.extract 0 1)).vis = cont n (l ++ m) := by
        rw [wr_vis]
        show ontoL (wrD D (z + 1) (g.extract 1 g.size)).vis _ _ = _
        rw [wr_vis, h.vis]
        unfold cont
        rw [← hz, hts, onto_group (by omega) (by omega), stL_tpOf, List.length_append, hg, ba_len, ← List.append_assoc]
        congr 2; omega
      refine .inl ⟨_, by rw [tpOf_append], ⟨ok2.sync, h2, rfl, hall, hv, hv⟩, fun h0 => ?_⟩
      show (wrD (syncD (wrD D (z + 1) (g.extract 1 g.size))) z (g.extract 0 1)).left = 0
      exact wr_left0 (D := syncD (wrD D (z + 1) (g.extract 1 g.size))) (wr_left0 h0)
theorem ontoL_none {l : List UInt8} {o : Nat} {s : ByteArray} (h : s.size = 0) : ontoL l o s = l := by
  unfold ontoL
  have : s.data.toList = [] := List.eq_nil_of_length_eq_zero (by rw [ba_len]; exact h)
  rw [this, h, List.append_nil, Nat.add_zero, List.take_append_drop]
theorem Hl.pdOk {n : Nat} {D : DK} {l : List ByteArray} (h : Hl n D l) : PdOk n D.pend := by rw [h.pend]; intro p hp; cases hp
end Go.Proofs.YtbojglaimdjagaaGreatDoor
/- Crash, by frames; the laws' small steps. -/
set_option linter.unusedSimpArgs false
set_option linter.unusedVariables false
set_option maxRecDepth 4000
namespace Go.Proofs.YtbojglaimdjagaaGreatDoor
open Go Go.V Go.RowKit
section
variable {k : Value → World → Prop} {w : World} {B b jb n : Nat} {D : DK} {dv vv : Value}
theorem w_cat22 {v v2 : Value} {l0 l : List ByteArray} {B2 : Nat} (hown : Mine fT 9 w B v l0) (hs : Mine fT 9 w B2 v2 l) (hB : B ≤ w.heap.size) (hl : l0.length + l.length ≤ 1000000)
    (hk : ∀ v' w', Mine fT 9 w' B v' (l0 ++ l) → Below B w w' → k v' w') : opW Tryz.prog (Builtin.append_ #[22, 22] 22 #[v, v2]) k w := by
  have hml0 : 1000000000 ≤ maxLen := by decide
  exact mine_cat sty22 (by intro x u hu; simp [fT] at hu; subst hu; rfl) hown hs hB (by omega) (by omega) fun v' w' h1 h2 _ _ => hk v' w' h1 h2
end
end Go.Proofs.YtbojglaimdjagaaGreatDoor
/- The wire: the reference's PutInt of any number. -/
set_option linter.unusedSimpArgs false
set_option linter.unusedVariables false
set_option maxRecDepth 4000
namespace Go.Proofs.YtbojglaimdjagaaGreatDoor
open Go Go.V Go.RowKit
/-- the number that stands for an integer -/
def zg (n : Int) : Nat := if n < 0 then (2 * (-n) - 1).toNat else (2 * n).toNat
theorem zg_unz (z : Nat) : zg (unz z) = z := by unfold zg unz; split <;> split <;> omega
theorem vb_lenP : ∀ (f : Nat) {z : Nat}, z < 128 ^ (f + 1) → (vb z).length ≤ f + 1 := by
  intro f
  induction f with
  | zero => intro z h; rw [vb_lt (by omega)]; simp
  | succ f ih =>
    intro z h
    by_cases h1 : z < 128
    · rw [vb_lt h1]; simp
    · rw [vb_ge (by omega)]
      have := @ih (z / 128) (by rw [Nat.pow_succ] at h; omega)
      simp only [List.length_cons]
      omega
section
variable {k : Value → World → Prop} {w : World}
theorem c86g {n : Int} (h : -4611686018427387903 ≤ n ∧ n ≤ 4611686018427387903) (hk : k (.int .u64 ((zg n : Nat) : Int)) w) : callW Tryz.prog (.func (.func 86) #[] #[]) #[I n] k w := C86 _ _ _ (by
  unfold S86
  unfold zg at hk
  rw [w_lss]
  by_cases h0 : n < 0
  · rw [if_pos h0] at hk
    rw [decide_eq_true h0, condW_true, w_neg, wrap_id (by omega), w_conv (q := .u64) (by kernel_rfl) (by kernel_rfl), wrapU (by omega), w_mul, wrapU (by omega), w_sub, wrapU (by omega)]
    rw [show (-n * 2 - 1) = (((2 * (-n) - 1).toNat : Nat) : Int) by omega]
    exact hk
  · rw [if_neg h0] at hk
    rw [decide_eq_false h0, condW_false, w_conv (q := .u64) (by kernel_rfl) (by kernel_rfl), wrapU (by omega), w_mul, wrapU (by omega)]
    rw [show (n * 2) = (((2 * n).toNat : Nat) : Int) by omega]
    exact hk)
theorem c56g {n : Int} (h : -4611686018427387903 ≤ n ∧ n ≤ 4611686018427387903) (hk : ∀ w', Below w.heap.size w w' → k (.tuple #[.string ⟨(vb (zg n)).toArray⟩, I 0]) w') : callW Tryz.prog (.func (.func 56) #[] #[]) #[I n] k w := C56 _ _ _ (by
  unfold S56
  have hml : 100000000 ≤ maxLen := by decide
  rw [w_lss, decide_eq_false (by omega)]
  simp only [guardW_ff, pickW_false]
  rw [w_gtr, decide_eq_false (by omega), condW_false]
  refine c86g h ?_
  have hzn : zg n < 128 ^ (8 + 1) := by
    rw [show (128 : Nat) ^ (8 + 1) = 9223372036854775808 by decide]
    unfold zg; split <;> omega
  have h1 := vb_lenP 8 hzn
  rw [show (128 : Nat) ^ (8 + 1) = 9223372036854775808 by decide] at hzn
  generalize zg n = zn at hk h1 hzn ⊢
  refine Loop2.intro (fun m a b w' => ∃ (z : Nat) (l : List UInt8), a = .int .u64 z ∧ m = z ∧ z ≤ zn ∧ Below w.heap.size w w' ∧ Mine fB 5 w' w.heap.size b l ∧ l ++ vb z = vb zn) _ ⟨zn, [], rfl, rfl, by omega, Below.refl _ _, Mine.nil _ _, rfl⟩ ?_
  rintro m _ b w1 ⟨z, l, rfl, rfl, hz, hb1, hm1, he⟩
  have hlen := congrArg List.length he
  rw [List.length_append] at hlen
  have h2 := (vb_len m).1
  rw [w_geq]
  by_cases hge : 128 ≤ m
  · rw [decide_eq_true (by omega), condW_true, w_rem (by decide), Int.tmod_eq_emod_of_nonneg (by omega), w_add, wrapU (by omega), w_conv (q := .u8) (by kernel_rfl) (by kernel_rfl), conv_bI]
    refine Mine.push (F := fB) (x := bI ((m : Int) % 128 + 128)) sty39 (fun u hu => by simp [fB] at hu; subst hu; rfl) rfl (by decide) hm1 hb1.size (by omega) (by omega) fun v2 w2 hm2 hb2 _ _ => ?_
    rw [w_quo (by decide), loopK_self]
    rw [Int.tdiv_eq_ediv_of_nonneg (by omega), wrapU (by omega), show ((m : Int) / 128) = ((m / 128 : Nat) : Int) by omega]
    refine ⟨m / 128, by omega, m / 128, l ++ [bI ((m : Int) % 128 + 128)], rfl, rfl, by omega, hb1.trans hb2, hm2, ?_⟩
    rw [← he, vb_ge hge]
    have : bI ((m : Int) % 128 + 128) = UInt8.ofNat (m % 128 + 128) := by
      unfold bI
      rw [show (((m : Int) % 128 + 128) % 256).toNat = m % 128 + 128 by omega]
    rw [this]; simp
  · rw [decide_eq_false (by omega), condW_false, w_conv (q := .u8) (by kernel_rfl) (by kernel_rfl), conv_bI]
    refine Mine.push (F := fB) (x := bI (m : Int)) sty39 (fun u hu => by simp [fB] at hu; subst hu; rfl) rfl (by decide) hm1 hb1.size (by omega) (by omega) fun v2 w2 hm2 hb2 _ _ => ?_
    rw [w_toStr (e := 5) (by kernel_rfl) (by kernel_rfl) (by kernel_rfl) hm2.sl (by simp)]
    have hb : bI (m : Int) = UInt8.ofNat m := by
      unfold bI
      rw [show ((m : Int) % 256).toNat = m by omega]
    have : l ++ [bI (m : Int)] = vb zn := by rw [← he, vb_lt (by omega), hb]
    rw [this]
    exact hk _ (hb1.trans hb2))
theorem c56x {n : Int} (h : ¬ (-4611686018427387903 ≤ n)) (hk : k (.tuple #[.string ⟨#[]⟩, I 10]) w) : callW Tryz.prog (.func (.func 56) #[] #[]) #[I n] k w := C56 _ _ _ (by
  unfold S56
  rw [w_lss, decide_eq_true (by omega)]
  simp only [guardW_tf, guardW_u, pickW_true]
  rw [condW_true]
  exact hk)
end
end Go.Proofs.YtbojglaimdjagaaGreatDoor
/- The wire: the reference's Int and String. -/
set_option linter.unusedSimpArgs false
set_option linter.unusedVariables false
set_option maxRecDepth 4000
namespace Go.Proofs.YtbojglaimdjagaaGreatDoor
open Go Go.V Go.RowKit
theorem vb_last : ∀ z : Nat, 1 ≤ z → (vb z).getD ((vb z).length - 1) 0 ≠ 0 := by
  intro z
  induction z using Nat.strongRecOn with
  | ind z ih =>
    intro hz
    by_cases h : z < 128
    · rw [vb_lt h]
      simp
      intro hh
      have := congrArg UInt8.toNat hh
      simp at this; omega
    · rw [vb_ge (by omega)]
      have := ih (z / 128) (by omega) (by omega)
      have hlv := (vb_len (z / 128)).1
      simp only [List.length_cons, Nat.add_sub_cancel]
      rw [show (vb (z / 128)).length = (vb (z / 128)).length - 1 + 1 by omega, List.getD_cons_succ]
      exact this
/-- written again, it is what was read, unless there is a needless last group -/
theorem canon_iff {f : Nat} {l : List UInt8} {z c : Nat} (h : rdV f l = some (z, c)) : l.take c = vb z ↔ ¬ (l.getD (c - 1) 0 = 0 ∧ 1 < c) := by
  refine ⟨fun he hn => ?_, rdV_canon h⟩
  obtain ⟨a1, a2, a3, a4⟩ := rdV_some h
  have hlen : (vb z).length = c := by rw [← he, List.length_take]; omega
  rcases Nat.eq_zero_or_pos z with rfl | h0
  · rw [vb_lt (by omega)] at hlen
    simp at hlen; omega
  · apply vb_last z h0
    rw [hlen, ← he]
    rw [List.getD_eq_getElem?_getD, List.getElem?_take, if_pos (by omega), ← List.getD_eq_getElem?_getD]
    exact hn.1
section
variable {k : Value → World → Prop} {w : World}
theorem c97 {s : ByteArray} {o : Nat} (hs : s.size ≤ 1000000000) (ho : o ≤ s.size) (hk : ∀ w', Below w.heap.size w w' → k (intV s o) w') : callW Tryz.prog (.func (.func 97) #[] #[]) #[.string s, I o] k w := C97 _ _ _ _ (by
  unfold S97
  have hsl : s.data.toList.length = s.size := Array.length_toList
  rw [w_lss, decide_eq_false (by omega)]
  simp only [guardW_ff, pickW_false]
  rw [w_lenStr (by kernel_rfl), w_gtr, decide_eq_false (by omega), condW_false]
  unfold intV rdI at hk
  obtain ⟨L, hL⟩ : ∃ L, s.data.toList.drop o = L := ⟨_, rfl⟩
  rw [hL] at hk
  have hLl : L.length = s.size - o := by rw [← hL, List.length_drop, hsl]
  refine Loop2.intro (fun m a b w' => ∃ (i z : Nat), a = .int .u64 z ∧ b = I i ∧ i ≤ 9 ∧ m = 9 - i ∧ w = w' ∧ z < 128 ^ i ∧ rdV 9 L = (rdV (9 - i) (L.drop i)).map fun p => (z + 128 ^ i * p.1, p.2 + i)) _ ⟨0, 0, rfl, rfl, by omega, rfl, rfl, by simp, by simp⟩ ?_
  rintro m _ _ _ ⟨i, z, rfl, rfl, hi, rfl, rfl, hz, he⟩
  rw [w_lss]
  by_cases h9 : i < 9
  case' neg =>
    rw [decide_eq_false (by omega)]
    simp only [guardW_ft, guardW_u, pickW_false]
    rw [condW_false]
    rw [show 9 - i = 0 by omega] at he
    rw [he] at hk
    exact hk _ (Below.refl _ _)
  rw [decide_eq_true (by omega)]
  simp only [guardW_tt, pickW_true]
  rw [w_add, wrap_id (by omega), w_lenStr (by kernel_rfl), w_lss]
  by_cases hin : o + i < s.size
  case' neg =>
    rw [decide_eq_false (by omega), condW_false]
    rw [List.drop_eq_nil_of_le (by omega), show 9 - i = (8 - i) + 1 by omega] at he
    rw [he] at hk
    exact hk _ (Below.refl _ _)
  rw [decide_eq_true (by omega), condW_true, w_add, wrap_id (by omega)]
  obtain ⟨x, hx⟩ : ∃ x, s.data.toList[o + i]? = some x := ⟨_, List.getElem?_eq_getElem (by omega)⟩
  have hx' : L[i]? = some x := by rw [← hL, List.getElem?_drop]; exact hx
  have hx2 : x.toNat < 256 := x.toNat_lt
  rw [show 9 - i = (8 - i) + 1 by omega, rdV_step hx'] at he
  rw [w_indexStr (b := x) (by kernel_rfl) (by omega) (by
    rw [show ((o : Int) + (i : Int)).toNat = o + i by omega]
    have h1 : o + i < s.size := hin
    rw [getElem?_pos s (o + i) h1]
    rw [List.getElem?_eq_getElem (by omega)] at hx
    have e2 : s[o + i] = s.data[o + i]'h1 := rfl
    rw [e2]; simpa using hx)]
  rw [w_conv (q := .u64) (by kernel_rfl) (by kernel_rfl), wrapU (by omega), w_rem (by decide), Int.tmod_eq_emod_of_nonneg (by omega), show ((x.toNat : Int) % 128) = ((x.toNat % 128 : Nat) : Int) by omega, w_mul, wrap_id (by omega), w_shl (by omega)]
  have hp : (128 : Nat) ^ i ≤ 128 ^ 8 := Nat.pow_le_pow_right (by omega) (by omega)
  have hp8 : (128 : Nat) ^ 8 = 72057594037927936 := by decide
  have hmul : x.toNat % 128 * 128 ^ i ≤ 127 * 128 ^ i := Nat.mul_le_mul_right _ (by omega)
  have hsh : (((x.toNat % 128 : Nat) : Int)) * 2 ^ (min ((7 : Int) * (i : Int)).toNat (IntKind.bits .u64)) = ((x.toNat % 128 * 128 ^ i : Nat) : Int) := by
    rw [show min ((7 : Int) * (i : Int)).toNat (IntKind.bits .u64) = 7 * i by
      show min _ 64 = _
      omega, pow128]
    push_cast
    rfl
  rw [hsh, wrapU (by omega), w_add, wrapU (by omega), show ((z : Int) + ((x.toNat % 128 * 128 ^ i : Nat) : Int)) = ((z + x.toNat % 128 * 128 ^ i : Nat) : Int) by omega, w_geq]
  by_cases hc : x.toNat < 128
  · rw [decide_eq_false (by omega), condW_false]
    rw [Nat.mod_eq_of_lt hc] at *
    rw [if_pos hc] at he
    have hZ : z + x.toNat * 128 ^ i < 9223372036854775808 := by omega
    have he2 : rdV 9 L = some (z + x.toNat * 128 ^ i, 1 + i) := by rw [he, Option.map_some, Nat.mul_comm]
    rw [he2] at hk
    simp only at hk
    have hcan := canon_iff he2
    obtain ⟨a1, a2, a3, a4⟩ := rdV_some he2
    generalize z + x.toNat * 128 ^ i = Z at *
    rw [w_quo (by decide), Int.tdiv_eq_ediv_of_nonneg (by omega), wrapU (by omega), w_conv (q := .i64) (by kernel_rfl) (by kernel_rfl), wrap_id (by omega)]
    have hub : -4611686018427387904 ≤ unz Z ∧ unz Z ≤ 4611686018427387903 := by unfold unz; split <;> omega
    refine joinW_use1 (fun v w' => w = w' ∧ v = I (unz Z)) ?_ ?_
    · rintro _ _ ⟨rfl, rfl⟩
      by_cases hlow : -4611686018427387903 ≤ unz Z
      case' neg =>
        refine c56x hlow ?_
        rw [ex0, ex1, w_neq, decide_eq_false (show ¬ ((10 : Int) = 0) by decide)]
        simp only [Bool.not_false, guardW_tf, guardW_u, pickW_true]
        rw [condW_true]
        rw [if_pos (.inr (by omega))] at hk
        exact hk _ (Below.refl _ _)
      refine c56g ⟨hlow, hub.2⟩ fun w1 hb1 => ?_
      rw [zg_unz, ex0, ex1, w_neq]
      simp only [decide_true, Bool.not_true, guardW_ff, pickW_false]
      rw [w_add, wrap_id (by omega), w_add, wrap_id (by omega), show ((o : Int) + (i : Int) + 1) = ((o + (1 + i) : Nat) : Int) by omega, w_sliceStr (by kernel_rfl) (by omega) (by omega) (by omega), w_neqStr (by kernel_rfl), Int.toNat_natCast, Int.toNat_natCast]
      have hext : (s.extract o (o + (1 + i))).data.toList = L.take (1 + i) := by
        rw [ext_list, hL]; congr 1; omega
      have hiff : (⟨(vb Z).toArray⟩ : ByteArray) = s.extract o (o + (1 + i)) ↔ L.take (1 + i) = vb Z := by
        rw [← hext]
        refine ⟨fun h => by rw [← h], fun h => ?_⟩
        apply ByteArray.ext
        apply Array.toList_inj.mp
        rw [h]
      by_cases hcn : L.getD (1 + i - 1) 0 = 0 ∧ 1 < 1 + i
      · rw [decide_eq_false (fun h => hcan.1 (hiff.1 h) hcn)]
        simp only [Bool.not_false, pickW_true]
        rw [condW_true]
        rw [if_pos (.inl hcn)] at hk
        exact hk _ hb1
      · rw [decide_eq_true (hiff.2 (hcan.2 hcn))]
        simp only [Bool.not_true, pickW_false]
        rw [condW_false, w_add, wrap_id (by omega), w_add, wrap_id (by omega), show ((o : Int) + (i : Int) + 1) = ((o + (1 + i) : Nat) : Int) by omega]
        rw [if_neg (fun h => h.elim hcn (fun h => by omega))] at hk
        exact hk _ hb1
    intro J hJ
    rw [w_rem (by decide), Int.tmod_eq_emod_of_nonneg (by omega), w_eql]
    by_cases hodd : Z % 2 = 1
    · rw [decide_eq_true (by omega), condW_true, w_neg, wrap_id (by omega), w_sub, wrap_id (by omega)]
      exact hJ _ _ ⟨rfl, by unfold unz; rw [if_pos hodd]; rfl⟩
    · rw [decide_eq_false (by omega), condW_false]
      exact hJ _ _ ⟨rfl, by unfold unz; rw [if_neg hodd]; rfl⟩
  · rw [decide_eq_true (by omega), condW_true, w_add, wrap_id (by omega), loopK_self]
    rw [if_neg hc] at he
    refine ⟨9 - (i + 1), by omega, i + 1, _, rfl, by simp [I], by omega, rfl, rfl, ?_, ?_⟩
    · rw [Nat.pow_succ]
      have : z + x.toNat % 128 * 128 ^ i < 128 ^ i + 127 * 128 ^ i := by omega
      omega
    · rw [he, Option.map_map, show 9 - (i + 1) = 8 - i by omega]
      congr 1
      funext p
      simp only [Function.comp, Prod.mk.injEq]
      have hxm : x.toNat % 128 = x.toNat - 128 := by omega
      rw [hxm, Nat.pow_succ]
      refine ⟨?_, by omega⟩
      rw [Nat.mul_add, ← Nat.mul_assoc, Nat.mul_comm (128 ^ i) (x.toNat - 128)]
      omega)
theorem c75 {s : ByteArray} {o : Nat} (hs : s.size ≤ 1000000000) (ho : o ≤ s.size) (hk : ∀ w', Below w.heap.size w w' → k (strV s o) w') : callW Tryz.prog (.func (.func 75) #[] #[]) #[.string s, I o] k w := C75 _ _ _ _ (by
  unfold S75
  refine c97 hs ho fun w1 hb1 => ?_
  replace hk := hk w1 hb1
  have hsl : s.data.toList.length = s.size := Array.length_toList
  unfold strV rdS at hk
  unfold intV
  cases hr : rdI (s.data.toList.drop o) with
  | none =>
    rw [hr] at hk
    simp only [ex3_0, ex3_1, ex3_2]
    rw [w_neq]
    simp only [show decide ((10 : Int) = 0) = false from rfl, Bool.not_false]
    rw [condW_true]
    exact hk
  | some p =>
    obtain ⟨n, c⟩ := p
    rw [hr] at hk
    obtain ⟨a1, a2, a3, a4⟩ := rdI_le hr
    rw [List.length_drop, hsl] at a2
    simp only [ex3_0, ex3_1, ex3_2]
    rw [w_neq]
    simp only [decide_true, Bool.not_true]
    rw [condW_false, w_lss]
    by_cases h1 : n < 0
    case' pos =>
      rw [decide_eq_true h1]
      simp only [guardW_tf, guardW_u, pickW_true]
      rw [condW_true]
      simp only at hk
      rw [if_neg (by omega)] at hk
      exact hk
    rw [decide_eq_false h1]
    simp only [guardW_ff, pickW_false]
    rw [w_gtr]
    by_cases h2 : n ≤ 65536
    case' neg =>
      rw [decide_eq_true (by omega)]
      simp only [guardW_tf, guardW_u, pickW_true]
      rw [condW_true]
      simp only at hk
      rw [if_neg (by omega)] at hk
      exact hk
    rw [decide_eq_false (by omega)]
    simp only [guardW_ff, pickW_false]
    rw [w_lenStr (by kernel_rfl), w_sub, wrap_id (by omega), w_gtr]
    by_cases h3 : n ≤ (s.size : Int) - ((o + c : Nat) : Int)
    case' neg =>
      rw [decide_eq_true (by omega), condW_true]
      simp only at hk
      rw [if_neg (by omega)] at hk
      exact hk
    rw [decide_eq_false (by omega), condW_false, w_add, wrap_id (by omega)]
    simp only at hk
    rw [if_pos ⟨by omega, h2, h3⟩] at hk
    obtain ⟨m, rfl⟩ : ∃ m : Nat, n = (m : Int) := ⟨n.toNat, by omega⟩
    rw [show (((o + c : Nat) : Int) + (m : Int)) = ((o + c + m : Nat) : Int) by omega]
    rw [w_sliceStr (by kernel_rfl) (by omega) (by omega) (by omega)]
    rw [Int.toNat_natCast, Int.toNat_natCast, w_add, wrap_id (by omega), show (((o + c : Nat) : Int) + (m : Int)) = ((o + c + m : Nat) : Int) by omega]
    rw [Int.toNat_natCast] at hk
    exact hk)
end
end Go.Proofs.YtbojglaimdjagaaGreatDoor
/- The reference's disk: what it holds; Visible, New, Write, Sync, Read, Cut. -/
set_option linter.unusedSimpArgs false
set_option linter.unusedVariables false
set_option maxRecDepth 4000
namespace Go.Proofs.YtbojglaimdjagaaGreatDoor
open Go Go.V Go.RowKit
/-- writes, one after the other -/
def appL (l : List UInt8) (p : List (Int × ByteArray)) : List UInt8 := p.foldl (fun L x => ontoL L x.1.toNat x.2) l
/-- a disk whose visible content is what is durable, and the writes after it -/
structure Coh (n : Nat) (D : DK) : Prop where
  ok : DOk n D
  po : PdOk n D.pend
  vis : D.vis = appL D.dur D.pend
theorem appL_snoc {l : List UInt8} {p : List (Int × ByteArray)} {x : Int × ByteArray} : appL l (p ++ [x]) = ontoL (appL l p) x.1.toNat x.2 := by unfold appL; rw [List.foldl_append]; rfl
theorem appL_len {n : Nat} : ∀ {p : List (Int × ByteArray)} {l : List UInt8}, PdOk n p → l.length = n → (appL l p).length = n
  | [], l, _, hl => hl
  | x :: p, l, hp, hl => appL_len (p := p) (l := ontoL l x.1.toNat x.2) (fun y hy => hp y (List.mem_cons_of_mem _ hy)) (by rw [ontoL_len (by rw [hl]; exact (hp x (by simp)).2)]; exact hl)
theorem Coh.new {n : Nat} (h1 : 1 ≤ n) (h2 : n ≤ 1000000) : Coh n (newD n) := ⟨(rest_new h1 h2).ok, (gd_new h1 h2).hl.pdOk, rfl⟩
theorem Coh.wr {n : Nat} {D : DK} (h : Coh n D) {o : Nat} {s : ByteArray} (ho : o + s.size ≤ n) : Coh n (wrD D o s) := by
  refine ⟨h.ok.wr ho, ?_, ?_⟩
  · rw [wr_pend]
    intro p hp
    rcases List.mem_append.1 hp with hp | hp
    · exact h.po p hp
    · simp only [List.mem_singleton] at hp; subst hp
      exact ⟨by simp only; omega, by simp only [Int.toNat_natCast]; exact ho⟩
  · rw [wr_vis, wr_pend, wr_dur, appL_snoc, ← h.vis, Int.toNat_natCast]
theorem Coh.sync {n : Nat} {D : DK} (h : Coh n D) : Coh n (syncD D) := ⟨h.ok.sync, fun p hp => (by cases hp), rfl⟩
theorem ontoL_get? {l : List UInt8} {o : Nat} {s : ByteArray} (h : o + s.size ≤ l.length) (j : Nat) : (ontoL l o s)[j]? = if j < o then l[j]? else if j < o + s.size then s.data.toList[j - o]? else l[j]? := by
  have h1 : (l.take o).length = o := by rw [List.length_take]; omega
  have h2 : (l.take o ++ s.data.toList).length = o + s.size := by rw [List.length_append, h1, ba_len]
  unfold ontoL
  split
  · rw [List.append_assoc, List.getElem?_append_left (by omega), List.getElem?_take, if_pos (by assumption)]
  · split
    · rw [List.getElem?_append_left (by omega), List.getElem?_append_right (by omega), h1]
    · rw [List.getElem?_append_right (by omega), h2, List.getElem?_drop]
      congr 1; omega
theorem ontoL_set {l : List UInt8} {o i : Nat} {s : ByteArray} {x : UInt8} (h : o + s.size ≤ l.length) (hx : s.data.toList[i]? = some x) : (ontoL l o (s.extract 0 i)).set (o + i) x = ontoL l o (s.extract 0 (i + 1)) := by
  have hi : i < s.size := by have := (List.getElem?_eq_some_iff.1 hx).1; rw [ba_len] at this; exact this
  have z1 : (s.extract 0 i).size = i := by rw [ByteArray.size_extract]; omega
  have z2 : (s.extract 0 (i + 1)).size = i + 1 := by rw [ByteArray.size_extract]; omega
  have l1 := ontoL_len (l := l) (o := o) (s := s.extract 0 i) (by omega)
  apply List.ext_getElem?
  intro j
  rw [ontoL_get? (by omega), List.getElem?_set, ontoL_get? (by omega), z1, z2, l1, ext_list, ext_list, List.drop_zero]
  by_cases h1 : o + i = j
  · subst h1
    rw [if_pos rfl, if_pos (by omega), if_neg (by omega), if_pos (by omega), List.getElem?_take, if_pos (by omega), show o + i - o = i by omega, hx]
  · rw [if_neg h1]
    by_cases h2 : j < o
    · rw [if_pos h2, if_pos h2]
    · rw [if_neg h2, if_neg h2]
      by_cases h3 : j < o + i
      · rw [if_pos h3, if_pos (by omega), List.getElem?_take, if_pos (by omega), List.getElem?_take, if_pos (by omega)]
      · rw [if_neg h3, if_neg (by omega)]
/-- the reference's disk in memory -/
structure RefR (B : Nat) (w : World) (b : Nat) (D : DK) (sv lv : Value) : Prop where
  row : RowAt w b 67 [sv, lv, .bool D.off, I D.left]
  base : B ≤ b
  sure : Mine fB 5 w B sv D.dur
  l : Mine fWr 100 w B lv D.pend
def RJ (B : Nat) (w : World) (b : Nat) (D : DK) : Prop := ∃ sv lv, RefR B w b D sv lv
abbrev rT : List Nat := [67, 5, 100]
theorem RefR.below {B b : Nat} {w w' : World} {D : DK} {sv lv : Value} (h : RefR B w b D sv lv) (hb : Below w.heap.size w w') : RefR B w' b D sv lv := ⟨h.row.below hb, h.base, h.sure.below hb, h.l.below hb⟩
theorem RJ.below {B b : Nat} {w w' : World} {D : DK} (h : RJ B w b D) (hb : Below w.heap.size w w') : RJ B w' b D := by
  obtain ⟨sv, lv, h⟩ := h; exact ⟨sv, lv, h.below hb⟩
theorem RefR.offG {B b : Nat} {w w' : World} {D : DK} {sv lv : Value} (h : RefR B w b D sv lv) {p : Nat → Prop} (ho : Off p w w') (hp : ∀ x, p x → x = b ∨ isOf sv x ∨ isOf lv x) : OffG rT B w w' :=
  ho.mono fun x _ hx => by
    rcases hp x hx with rfl | hx | hx
    · exact ⟨h.base, 67, h.row.tag, by decide⟩
    · exact ⟨(h.sure.ge hx).1, 5, Mine.tag h.sure hx, by decide⟩
    · exact ⟨(h.l.ge hx).1, 100, Mine.tag h.l hx, by decide⟩
section
variable {k : Value → World → Prop} {w : World} {B b n : Nat} {D : DK} {sv lv : Value}
theorem c53 {bv : Value} {l : List UInt8} {o : Nat} {s : ByteArray} (hm : Mine fB 5 w B bv l) (hl : o + s.size ≤ l.length) (hll : l.length ≤ 1000000)
    (hk : ∀ w', Mine fB 5 w' B bv (ontoL l o s) → Off (isOf bv) w w' → Below B w w' → k (.tuple #[]) w') : callW Tryz.prog (.func (.func 53) #[] #[]) #[bv, I o, .string s] k w := C53 _ _ _ _ _ (by
  unfold S53
  refine Loop1.intro (fun m a w' => ∃ i : Nat, a = I i ∧ m = s.size - i ∧ i ≤ s.size ∧ Mine fB 5 w' B bv (ontoL l o (s.extract 0 i)) ∧ Off (isOf bv) w w' ∧ Below B w w') _ ⟨0, rfl, rfl, Nat.zero_le _, by rw [ontoL_none (by rw [ByteArray.size_extract]; omega)]; exact hm, Off.refl _ _, Below.refl _ _⟩ ?_
  rintro m _ w1 ⟨i, rfl, rfl, hi, hm1, ho1, hb1⟩
  rw [w_lenStr (by kernel_rfl), w_lss]
  have z1 : (s.extract 0 i).size = i := by rw [ByteArray.size_extract]; omega
  have l1 := ontoL_len (l := l) (o := o) (s := s.extract 0 i) (by omega)
  by_cases hlt : i < s.size
  · obtain ⟨x, hx⟩ : ∃ x, s.data.toList[i]? = some x := ⟨_, List.getElem?_eq_getElem (by rw [ba_len]; exact hlt)⟩
    have hgx : s[i]? = some x := by
      rw [getElem?_pos s i hlt]
      rw [List.getElem?_eq_getElem (by rw [ba_len]; exact hlt)] at hx
      have e2 : s[i] = s.data[i]'hlt := rfl
      rw [e2]; simpa using hx
    rw [decide_eq_true (by omega), condW_true, w_add, wrap_id (by omega), w_indexStr (b := x) (by kernel_rfl) (by omega) (by rw [Int.toNat_natCast]; exact hgx)]
    obtain ⟨y, hy⟩ : ∃ y, (ontoL l o (s.extract 0 i))[o + i]? = some y := ⟨_, List.getElem?_eq_getElem (by omega)⟩
    refine Mine.setE (F := fB) (y := x) isl39 (by kernel_rfl) (by kernel_rfl) rfl (by kernel_rfl) (by kernel_rfl) hm1 (by omega) (x := y) (by rw [show ((o : Int) + (i : Int)).toNat = o + i by omega]; exact hy) rfl rfl fun w2 hm2 hb2 ho2 => ?_
    rw [show ((o : Int) + (i : Int)).toNat = o + i by omega, ontoL_set hl hx] at hm2
    rw [w_add, wrap_id (by omega), loopK_self]
    exact ⟨s.size - (i + 1), by omega, i + 1, by simp [I], rfl, by omega, hm2, ho1.trans ho2, hb1.trans hb2⟩
  · rw [decide_eq_false (by omega), condW_false]
    have : i = s.size := by omega
    subst this
    rw [ByteArray.extract_zero_size] at hm1
    exact hk _ hm1 ho1 hb1)
theorem w_empty39 (hk : ∀ v w', Below w.heap.size w w' → Mine fB 5 w' w.heap.size v [] → k v w') : opW Tryz.prog (Instr.buildSlice 39 0 #[]) k w := by
  rw [w_build0 sty39]
  refine hk _ _ ((Below.refl _ _).alloc (Nat.le_refl _) _) ⟨rfl, .inr ⟨w.heap.size, 0, #[], rfl, Nat.le_refl _, by rw [World.alloc_heap_new], Nat.le_refl _, Nat.zero_le _, by simp, by simp [flat]⟩⟩
theorem c23 (h : RefR B w b D sv lv) (hok : DOk n D) (hpo : PdOk n D.pend) (hpl : D.pend.length ≤ 100000) (hBw : B ≤ w.heap.size)
    (hk : ∀ v w', Below w.heap.size w w' → Mine fB 5 w' w.heap.size v (appL D.dur D.pend) → k v w') : callW Tryz.prog (.func (.func 23) #[] #[]) #[.pointer (some ⟨b, 0, none⟩)] k w := C23 _ _ _ (by
  unfold S23
  have hml0 : 1000000000 ≤ maxLen := by decide
  have hn2 := hok.n2
  have hdl := hok.dur
  refine w_empty39 fun v1 w1 hb1 hm1 => ?_
  have h1 := h.below hb1
  simp only [nilW_ptr]
  rw [rw67_0 (h1.row.cell (i := 0) rfl)]
  refine mine_cat (F := fB) sty39 (by intro x u hu; simp [fB] at hu; subst hu; rfl) hm1 h1.sure hb1.size (by simp; omega) (by simp; omega) fun v2 w2 hm2 hb2 _ _ => ?_
  rw [List.nil_append] at hm2
  replace hb2 : Below w.heap.size w w2 := hb1.trans hb2
  refine Loop1.intro (fun m a w' => ∃ i : Nat, a = I i ∧ m = D.pend.length - i ∧ i ≤ D.pend.length ∧ Below w.heap.size w w' ∧ Mine fB 5 w' w.heap.size v2 (appL D.dur (D.pend.take i))) _ ⟨0, rfl, rfl, Nat.zero_le _, hb2, hm2⟩ ?_
  rintro m _ w3 ⟨i, rfl, rfl, hi, hb3, hm3⟩
  have h3 := h.below hb3
  rw [rw67_1 (h3.row.cell (i := 0 + 1) rfl), w_lenS (by kernel_rfl) h3.l.sl, w_lss]
  by_cases hlt : i < D.pend.length
  · rw [decide_eq_true (by omega), condW_true, drewW_eq]
    replace hb3 := hb3.trans ((below_drew w3).mono hb3.size)
    replace hm3 := hm3.below (below_drew w3)
    clear h3
    generalize w3.drew = w4 at *
    have h4 := h.below hb3
    have ho : Off (isOf v2) w4 w4 := Off.refl _ _
    have nx : ¬ isOf v2 b := fun hh => by
      have := Tag.uniq (Mine.tag hm3 hh) h4.row.tag
      cases this
    refine ⟨Off (isOf v2) w4, ho, ?_⟩
    have hx : D.pend[i]? = some D.pend[i] := List.getElem?_eq_getElem hlt
    have hpp := hpo _ (List.getElem_mem hlt)
    obtain ⟨o, hoo⟩ : ∃ o : Nat, (D.pend[i]).1 = (o : Int) := ⟨(D.pend[i]).1.toNat, by omega⟩
    have hal := appL_len (n := n) (p := D.pend.take i) (l := D.dur) (fun y hy => hpo y (List.mem_of_mem_take hy)) hdl
    simp only [nilT_ptr]
    rw [tfl67_1, r_loadO agg65 known65 (h4.row.cell (i := 0 + 1) rfl) nx ho, nt65_0 (F := fWr) rfl h4.l.sl hx (u := I (D.pend[i]).1) rfl, tfl67_1, r_loadO agg65 known65 (h4.row.cell (i := 0 + 1) rfl) nx ho, nt65_1 (F := fWr) rfl h4.l.sl hx (u := .string (D.pend[i]).2) rfl, hoo]
    have hps := hpp.2
    rw [hoo, Int.toNat_natCast] at hps
    refine c53 hm3 (by rw [hal]; exact hps) (by omega) fun w5 hm5 ho5 hb5 => ?_
    rw [keepS_eq]
    refine ⟨ho5, ?_⟩
    rw [w_add, wrap_id (by omega), loopK_self]
    refine ⟨D.pend.length - (i + 1), by omega, i + 1, by simp [I], rfl, by omega, hb3.trans hb5, ?_⟩
    rw [List.take_add_one, hx, Option.toList_some, appL_snoc, hoo, Int.toNat_natCast]
    exact hm5
  · rw [decide_eq_false (by omega), condW_false]
    have : i = D.pend.length := by omega
    subst this
    rw [List.take_length] at hm3
    exact hk _ _ hb3 hm3)
theorem b67 {a1 : Option Addr} {n1 c1 : Nat} : opW Tryz.prog (Instr.build 67 #[(0, .slice a1 n1 c1)]) k w = k (.agg ([.slice a1 n1 c1, nS, .bool false, I 0] : List Value).toArray) w := opW_ok (by kernel_rfl)
theorem c33 {n : Nat} (h1 : 1 ≤ n) (h2 : n ≤ 100000) (hk : ∀ b w', Below w.heap.size w w' → RJ w.heap.size w' b (newD n) → k (.tuple #[.pointer (some ⟨b, 0, none⟩), I 0]) w') : callW Tryz.prog (.func (.func 33) #[] #[]) #[I n] k w := C33 _ _ _ (by
  unfold S33
  rw [w_lss, decide_eq_false (by omega)]
  simp only [guardW_ff, pickW_false]
  rw [w_gtr, decide_eq_false (by omega), condW_false]
  refine w_zerosM (by omega) fun w1 hb1 hm1 => ?_
  rw [b67]
  refine w_boxN fun w2 hb2 _ hr2 => ?_
  exact hk _ _ (below_trans hb1 hb2) ⟨_, _, hr2, hb1.size, hm1.below hb2, Mine.nil _ _⟩)
end
end Go.Proofs.YtbojglaimdjagaaGreatDoor
/- The reference's disk: Write, Sync, Read, Cut. -/
set_option linter.unusedSimpArgs false
set_option linter.unusedVariables false
set_option maxRecDepth 4000
namespace Go.Proofs.YtbojglaimdjagaaGreatDoor
open Go Go.V Go.RowKit
section
variable {k : Value → World → Prop} {w : World} {B b n : Nat} {D : DK}
theorem b100 {o : Int} {s : ByteArray} : opW Tryz.prog (Instr.build 100 #[(0, I o), (1, .string s)]) k w = k (.agg ([I o, .string s] : List Value).toArray) w := opW_ok (by kernel_rfl)
theorem RJ.coff {w' : World} (h : RJ B w b D) {p : Nat → Prop} (ho : Off p w w') (hp : ∀ x t, Tag w x t → B ≤ x → t ∈ rT → ¬ p x) : RJ B w' b D := by
  obtain ⟨sv, lv, h⟩ := h
  exact ⟨sv, lv, h.row.off ho (hp _ _ h.row.tag h.base (by decide)), h.base, Go.V.Mine.off h.sure ho fun x hx => hp x _ (Mine.tag h.sure hx) (h.sure.ge hx).1 (by decide), Go.V.Mine.off h.l ho fun x hx => hp x _ (Mine.tag h.l hx) (h.l.ge hx).1 (by decide)⟩
theorem c16 {o : Nat} {s : ByteArray} (h : RJ B w b D) (hok : DOk n D) (hpl : D.pend.length ≤ 100000) (hin : o + s.size ≤ n) (hBw : B ≤ w.heap.size)
    (hk0 : D.off = true → k (I 331) w) (hk : D.off = false → ∀ w', RJ B w' b (wrD D o s) → OffG rT B w w' → Below B w w' → k (I 0) w') : callW Tryz.prog (.func (.func 16) #[] #[]) #[.pointer (some ⟨b, 0, none⟩), I o, .string s] k w := C16 _ _ _ _ _ (by
  unfold S16
  obtain ⟨sv, lv, h⟩ := h
  have hml0 : 1000000000 ≤ maxLen := by decide
  have hn2 := hok.n2
  have hdl := hok.dur
  have hleft := hok.left
  simp only [nilW_ptr]
  rw [rw67_2 (h.row.cell (i := 0 + 2) rfl)]
  cases hoff : D.off with
  | true => rw [condW_true]; exact hk0 hoff
  | false =>
  rw [condW_false, w_lss, decide_eq_false (by omega)]
  simp only [guardW_ff, pickW_false, nilW_ptr]
  rw [rw67_0 (h.row.cell (i := 0) rfl), w_lenS (by kernel_rfl) h.sure.sl, w_gtr, decide_eq_false (by omega)]
  simp only [guardW_ff, pickW_false, nilW_ptr]
  rw [w_lenStr (by kernel_rfl), rw67_0 (h.row.cell (i := 0) rfl), w_lenS (by kernel_rfl) h.sure.sl, w_sub, wrap_id (by omega), w_gtr, decide_eq_false (by omega), condW_false]
  rw [rw67_1 (h.row.cell (i := 0 + 1) rfl), b100]
  refine Mine.push (F := fWr) (x := ((o : Int), s)) sty65 (fun u hu => by simp [fWr] at hu; rcases hu with rfl | rfl <;> rfl) rfl (by decide) h.l hBw (by omega) (by omega) fun v2 w2 hm2 hb2 ho2 hu2 => ?_
  have nlb : ¬ isOf lv b := fun hh => by
    have := Tag.uniq (Mine.tag h.l hh) h.row.tag
    cases this
  have hr2 := h.row.off ho2 nlb
  have hs2 := h.sure.apart ho2 (apMine h.l (by decide))
  have hov : v2.oneCell' = true := by obtain ⟨a9, c9, rfl, -⟩ := hm2.sl; rfl
  rw [fl67_1, st65 hov (hr2.cell (i := 0 + 1) rfl) (hr2.free _)]
  have hof : Off (fun x => x = b) w2 (w2.setCell ⟨b, 0 + 1, none⟩ v2) := Off.set (p := fun x => x = b) rfl
  have hr3 := hr2.set 1 v2
  have hs3 := hs2.apart hof (apRow hr2 (by decide))
  have hm3 := hm2.apart hof (apRow hr2 (by decide))
  have hb3 : Below B w (w2.setCell ⟨b, 0 + 1, none⟩ v2) := hb2.setCell h.base _
  have ho3 : Off (fun x => x = b ∨ isOf lv x) w (w2.setCell ⟨b, 0 + 1, none⟩ v2) := (ho2.mono fun x _ hx => .inr hx).trans (hof.mono fun x _ hx => .inl hx)
  replace hr3 : RowAt (w2.setCell ⟨b, 0 + 1, none⟩ v2) b 67 [sv, v2, .bool D.off, I D.left] := hr3
  clear hof hm2 hs2 hr2 ho2 hb2
  generalize w2.setCell ⟨b, 0 + 1, none⟩ v2 = w3 at *
  obtain ⟨u1, u2, u3⟩ := usedD_dur { D with vis := ontoL D.vis o s, pend := D.pend ++ [((o : Int), s)] }
  refine joinW_use0 (fun w' => RJ B w' b (wrD D o s) ∧ OffG rT B w w' ∧ Below B w w') ?_ ?_
  · rintro w4 ⟨a1, a2, a3⟩
    exact hk hoff w4 a1 a2 a3
  intro J hJ
  have fin : ∀ w', RowAt w' b 67 [sv, v2, .bool (wrD D o s).off, I (wrD D o s).left] → Off (fun x => x = b) w3 w' → Below B w3 w' → J w' := fun w' q1 q2 q3 => by
    refine hJ _ ⟨⟨sv, v2, q1, h.base, ?_, ?_⟩, h.offG (ho3.trans (q2.mono fun x _ hx => .inl hx)) ?_, hb3.trans q3⟩
    · unfold wrD; rw [u1]; exact hs3.apart q2 (apRow hr3 (by decide))
    · unfold wrD; rw [u3]; exact hm3.apart q2 (apRow hr3 (by decide))
    · rintro x (hx | hx)
      · exact .inl hx
      · exact .inr (.inr hx)
  rw [rw67_3 (hr3.cell (i := 0 + 3) rfl), w_gtr]
  by_cases hl : 0 < D.left
  · rw [decide_eq_true (by omega), condW_true, rw67_3 (hr3.cell (i := 0 + 3) rfl), w_sub, wrap_id (by omega), fl67_3, st3 rfl (hr3.cell (i := 0 + 3) rfl) (hr3.free _)]
    have hr4 := hr3.set 3 (I (D.left - 1))
    have hof4 : Off (fun x => x = b) w3 (w3.setCell ⟨b, 0 + 3, none⟩ (I (D.left - 1))) := Off.set (p := fun x => x = b) rfl
    have hb4 : Below B w3 (w3.setCell ⟨b, 0 + 3, none⟩ (I (D.left - 1))) := (Below.refl _ _).setCell h.base _
    replace hr4 : RowAt (w3.setCell ⟨b, 0 + 3, none⟩ (I (D.left - 1))) b 67 [sv, v2, .bool D.off, I (D.left - 1)] := hr4
    rw [rw67_3 (hr4.cell (i := 0 + 3) rfl), w_eql]
    have e1 : (wrD D o s).left = D.left - 1 := by unfold wrD usedD; rw [if_neg (show ¬ D.left = 0 by omega)]
    have e2 : (wrD D o s).off = decide (D.left - 1 = 0) := by unfold wrD usedD; rw [if_neg (show ¬ D.left = 0 by omega)]
    by_cases hz : D.left - 1 = 0
    · rw [decide_eq_true hz, condW_true, fl67_2, st4 rfl (hr4.cell (i := 0 + 2) rfl) (hr4.free _)]
      refine fin _ ?_ (hof4.trans (Off.set (p := fun x => x = b) rfl)) (hb4.setCell h.base _)
      rw [e1, e2, decide_eq_true hz]
      exact hr4.set 2 (.bool true)
    · rw [decide_eq_false hz, condW_false]
      refine fin _ ?_ hof4 hb4
      rw [e1, e2, decide_eq_false hz, ← hoff]
      exact hr4
  · rw [decide_eq_false (by omega), condW_false]
    have e0 : D.left = 0 := by omega
    have e : (wrD D o s).left = D.left ∧ (wrD D o s).off = D.off := by unfold wrD usedD; rw [if_pos (show D.left = 0 from e0)]; exact ⟨rfl, rfl⟩
    refine fin _ ?_ (Off.refl _ _) (Below.refl _ _)
    rw [e.1, e.2]
    exact hr3)
theorem c45 (h : RJ B w b D) (hc : Coh n D) (hpl : D.pend.length ≤ 100000) (hBw : B ≤ w.heap.size)
    (hk0 : D.off = true → k (I 331) w) (hk : D.off = false → ∀ w', RJ B w' b (syncD D) → OffG rT B w w' → Below B w w' → k (I 0) w') : callW Tryz.prog (.func (.func 45) #[] #[]) #[.pointer (some ⟨b, 0, none⟩)] k w := C45 _ _ _ (by
  unfold S45
  obtain ⟨sv, lv, h⟩ := h
  simp only [nilW_ptr]
  rw [rw67_2 (h.row.cell (i := 0 + 2) rfl)]
  cases hoff : D.off with
  | true => rw [condW_true]; exact hk0 hoff
  | false =>
  rw [condW_false]
  refine c23 h hc.ok hc.po hpl hBw fun v w1 hb1 hm1 => ?_
  rw [← hc.vis] at hm1
  have h1 := h.below hb1
  have hov : v.oneCell' = true := by obtain ⟨a9, c9, rfl, -⟩ := hm1.sl; rfl
  rw [fl67_0, st39 hov (h1.row.cell (i := 0) rfl) (h1.row.free _)]
  have hr2 := h1.row.set 0 v
  have hof2 : Off (fun x => x = b) w1 (w1.setCell ⟨b, 0, none⟩ v) := Off.set (p := fun x => x = b) rfl
  replace hr2 : RowAt (w1.setCell ⟨b, 0, none⟩ v) b 67 [v, lv, .bool D.off, I D.left] := hr2
  have hm2 := hm1.apart hof2 (apRow h1.row (by decide))
  rw [fl67_1, st65 rfl (hr2.cell (i := 0 + 1) rfl) (hr2.free _)]
  have hof3 : Off (fun x => x = b) (w1.setCell ⟨b, 0, none⟩ v) ((w1.setCell ⟨b, 0, none⟩ v).setCell ⟨b, 0 + 1, none⟩ nS) := Off.set (p := fun x => x = b) rfl
  refine hk hoff _ ⟨v, nS, hr2.set 1 nS, h.base, (hm2.apart hof3 (apRow hr2 (by decide))).base hBw, Mine.nil _ _⟩ (h.offG (Off.below hb1 |>.trans (hof2.trans hof3)) fun x hx => .inl hx) (((hb1.mono hBw).setCell h.base _).setCell h.base _))
theorem c74 (h : RJ B w b D) (hc : Coh n D) (hpl : D.pend.length ≤ 100000) (hBw : B ≤ w.heap.size)
    (hk0 : D.off = true → k (.tuple #[.string ⟨#[]⟩, I 331]) w) (hk : D.off = false → ∀ w', Below w.heap.size w w' → k (.tuple #[.string ⟨D.vis.toArray⟩, I 0]) w') : callW Tryz.prog (.func (.func 74) #[] #[]) #[.pointer (some ⟨b, 0, none⟩), I 0, I n] k w := C74 _ _ _ _ _ (by
  unfold S74
  obtain ⟨sv, lv, h⟩ := h
  have hn1 := hc.ok.n1
  have hn2 := hc.ok.n2
  have hdl := hc.ok.dur
  have hvl := hc.ok.vis
  simp only [nilW_ptr]
  rw [rw67_2 (h.row.cell (i := 0 + 2) rfl)]
  cases hoff : D.off with
  | true => rw [condW_true]; exact hk0 hoff
  | false =>
  rw [condW_false, w_lss, decide_eq_false (by omega)]
  simp only [guardW_ff, pickW_false, nilW_ptr]
  rw [w_lss, decide_eq_false (by omega)]
  simp only [guardW_ff, pickW_false, nilW_ptr]
  rw [rw67_0 (h.row.cell (i := 0) rfl), w_lenS (by kernel_rfl) h.sure.sl, w_gtr, decide_eq_false (by omega)]
  simp only [guardW_ff, pickW_false, nilW_ptr]
  rw [rw67_0 (h.row.cell (i := 0) rfl), w_lenS (by kernel_rfl) h.sure.sl, w_sub, wrap_id (by omega), w_gtr, decide_eq_false (by omega), condW_false]
  refine c23 h hc.ok hc.po hpl hBw fun v w1 hb1 hm1 => ?_
  rw [← hc.vis] at hm1
  rw [w_add, wrap_id (by omega)]
  refine w_mid (lo := 0) (hi := n) rfl (by omega) (by kernel_rfl) (by kernel_rfl) (by kernel_rfl) hm1.sl (Nat.zero_le _) (by omega) fun v2 hs2 => ?_
  rw [List.drop_zero, Nat.sub_zero, List.take_of_length_le (by omega)] at hs2
  rw [w_toStr (e := 5) (by kernel_rfl) (by kernel_rfl) (by kernel_rfl) hs2 (fun hh => by rw [hh] at hvl; simp at hvl; omega)]
  exact hk hoff _ hb1)
end
end Go.Proofs.YtbojglaimdjagaaGreatDoor
/- The reference's journal: Open. -/
set_option linter.unusedSimpArgs false
set_option linter.unusedVariables false
set_option maxRecDepth 4000
namespace Go.Proofs.YtbojglaimdjagaaGreatDoor
open Go Go.V Go.RowKit
theorem drop_cons {l : List UInt8} {i : Nat} (h : i < l.length) : l.drop i = l.getD i 0 :: l.drop (i + 1) := by
  rw [List.getD_eq_getElem?_getD, List.getElem?_eq_getElem h]
  exact List.drop_eq_getElem_cons h
/-- a stored record is right exactly if its head is -/
theorem rec_iff {h s : ByteArray} {t m p : Nat} (h1 : s.data.toList.getD t 0 = 1) (ht : t < s.size) (hr : rdS s (t + 1) = some (m, p)) (hp : p + m + 32 ≤ s.size) :
    recB h (s.extract p (p + m)) = s.extract t (p + m + 32) ↔ chainF h (s.extract p (p + m)) = s.extract (p + m) (p + m + 32) := by
  unfold rdS at hr
  split at hr
  · cases hr
  · next n c hi =>
    split at hr
    · next hc =>
      simp only [Option.some.injEq, Prod.mk.injEq] at hr
      obtain ⟨rfl, rfl⟩ := hr
      obtain ⟨m, rfl⟩ : ∃ m : Nat, n = (m : Int) := ⟨n.toNat, by omega⟩
      rw [Int.toNat_natCast] at hp ⊢
      obtain ⟨b1, b2, b3⟩ := rdI_canon hi
      rw [List.length_drop, ba_len] at b3
      have hsz : (s.extract (t + 1 + c) (t + 1 + c + m)).size = m := by rw [ByteArray.size_extract]; omega
      have e1 : s.data.toList.drop t = 1 :: (vb (2 * m) ++ s.data.toList.drop (t + 1 + c)) := by
        rw [drop_cons (by rw [ba_len]; exact ht), h1, ← b1, ← List.drop_drop (i := c), List.take_append_drop]
      have e2 : s.data.toList.drop (t + 1 + c) = (s.extract (t + 1 + c) (t + 1 + c + m)).data.toList ++ s.data.toList.drop (t + 1 + c + m) := by
        rw [ext_list, Nat.add_sub_cancel_left, ← List.drop_drop (i := m), List.take_append_drop]
      have e3 : (s.extract t (t + 1 + c + m + 32)).data.toList = 1 :: (vb (2 * m) ++ ((s.extract (t + 1 + c) (t + 1 + c + m)).data.toList ++ (s.extract (t + 1 + c + m) (t + 1 + c + m + 32)).data.toList)) := by
        have hv : (vb (2 * m)).length = c := by rw [← b1, List.length_take, List.length_drop, ba_len]; omega
        rw [ext_list s t, e1, e2, show t + 1 + c + m + 32 - t = (c + (m + 32)) + 1 by omega, List.take_succ_cons, ← hv, List.take_length_add_append]
        rw [show m + 32 = (s.extract (t + 1 + (vb (2 * m)).length) (t + 1 + (vb (2 * m)).length + m)).data.toList.length + 32 by rw [ba_len, hv, hsz], List.take_length_add_append]
        rw [ext_list s (t + 1 + (vb (2 * m)).length + m), Nat.add_sub_cancel_left]
      constructor
      · intro he
        have : (recB h (s.extract (t + 1 + c) (t + 1 + c + m))).data.toList = (s.extract t (t + 1 + c + m + 32)).data.toList := by rw [he]
        rw [e3, recB_list, hsz] at this
        apply ba_ext
        simpa using this
      · intro he
        apply ba_ext
        rw [e3, recB_list, hsz, he]
    · cases hr
/-- the reference's journal in memory -/
structure KapR (B : Nat) (w : World) (kb b : Nat) (br : Bool) (t : TP) (lv : Value) : Prop where
  row : RowAt w kb 43 [.pointer (some ⟨b, 0, none⟩), lv, I t.size, .bool br]
  base : B ≤ kb
  recs : Mine fT 9 w B lv t.recs
def KJ (B : Nat) (w : World) (kb b : Nat) (br : Bool) (t : TP) : Prop := ∃ lv, KapR B w kb b br t lv
theorem KJ.below {B b kb : Nat} {w w' : World} {br : Bool} {t : TP} (h : KJ B w kb b br t) (hb : Below w.heap.size w w') : KJ B w' kb b br t := by
  obtain ⟨lv, h⟩ := h; exact ⟨lv, h.row.below hb, h.base, h.recs.below hb⟩
theorem KJ.lower {B B' b kb : Nat} {w : World} {br : Bool} {t : TP} (h : KJ B w kb b br t) (hb : B' ≤ B) : KJ B' w kb b br t := by
  obtain ⟨lv, h⟩ := h; exact ⟨lv, h.row, Nat.le_trans hb h.base, h.recs.base hb⟩
theorem KJ.off {B b kb : Nat} {ts : List Nat} {w w' : World} {br : Bool} {t : TP} {B' : Nat} (h : KJ B w kb b br t) (ho : OffG ts B' w w') (h1 : 43 ∉ ts) (h2 : 9 ∉ ts) : KJ B w' kb b br t := by
  obtain ⟨lv, h⟩ := h; exact ⟨lv, ho.row h.row h1, h.base, ho.mine h.recs h2⟩
section
variable {k : Value → World → Prop} {w : World} {B b n : Nat} {D : DK}
theorem w_zstr0 {m : Nat} (h2 : m ≤ 1000000) (hk : ∀ w', Below w.heap.size w w' → k (.string (zeroB m)) w') : opW Tryz.prog (Instr.makeSlice 39 (I m) (I m)) (fun v w => opW Tryz.prog (convert 39 9 v) k w) w := by
  rcases Nat.eq_zero_or_pos m with rfl | h1
  · refine w_zerosM h2 fun w' hb hm => ?_
    rw [opW_ok (show (convert 39 9 (.slice (some ⟨w.heap.size, 0, none⟩) 0 0)).run Tryz.prog w' = .ok (.string ⟨([] : List UInt8).toArray⟩) w' from run_convert_bytes_back w' 39 9 5 ⟨w.heap.size, 0, none⟩ 0 [] (by kernel_rfl) (by kernel_rfl) (by kernel_rfl) fun j hj => by simp at hj)]
    exact hk _ hb
  · exact w_zstr h1 h2 hk
theorem b43 {a : Addr} : opW Tryz.prog (Instr.build 43 #[(0, .pointer (some a))]) k w = k (.agg ([.pointer (some a), nS, I 0, .bool false] : List Value).toArray) w := opW_ok (by kernel_rfl)
theorem zero_iff {s : ByteArray} {t n : Nat} (hs : s.size = n) (ht : t ≤ n) : s.extract t n = zeroB (n - t) ↔ ∀ x ∈ s.data.toList.drop t, x = 0 := by
  have e1 : (s.extract t n).data.toList = s.data.toList.drop t := by rw [ext_list, List.take_of_length_le (by rw [List.length_drop, ba_len]; omega)]
  constructor
  · intro h x hx
    rw [← e1, h] at hx
    exact List.eq_of_mem_replicate hx
  · intro h
    apply ba_ext
    rw [e1]
    show _ = List.replicate (n - t) 0
    rw [List.eq_replicate_iff]
    exact ⟨by rw [List.length_drop, ba_len, hs], h⟩
set_option maxHeartbeats 1000000 in
theorem c50 (h : RJ B w b D) (hc : Coh n D) (hpl : D.pend.length ≤ 1000) (hBw : B ≤ w.heap.size)
    (hk : ∀ w' r, RJ B w' b (opJ n D).2.1 → OffG rT B w w' → Below B w w' → (match (opJ n D).2.2 with
      | none => r = .tuple #[.pointer none, I (opJ n D).1]
      | some t => (opJ n D).1 = 0 ∧ ∃ kb, r = .tuple #[.pointer (some ⟨kb, 0, none⟩), I 0] ∧ KJ w.heap.size w' kb b false t) → k r w') :
    callW Tryz.prog (.func (.func 50) #[] #[]) #[.pointer (some ⟨b, 0, none⟩)] k w := C50 _ _ _ (by
  unfold S50
  obtain ⟨sv, lv, h0⟩ := id h
  have hn1 := hc.ok.n1
  have hn2 := hc.ok.n2
  have hdl := hc.ok.dur
  have hvl := hc.ok.vis
  have hml0 : 1000000000 ≤ maxLen := by decide
  simp only [nilW_ptr]
  rw [rw67_0 (h0.row.cell (i := 0) rfl), w_lenS (by kernel_rfl) h0.sure.sl, hdl]
  refine c74 h hc (by omega) hBw (fun hoff => ?_) fun hoff w1 hb1 => ?_
  · rw [ex0, ex1, w_neq, decide_eq_false (show ¬ ((331 : Int) = 0) by decide), Bool.not_false, condW_true]
    have e : opJ n D = (331, D, none) := by unfold opJ; rw [if_pos hoff]
    refine hk _ _ (by rw [e]; exact h) (OffG.refl _ _ _) (Below.refl _ _) (by rw [e])
  rw [ex0, ex1, w_neq]
  simp only [decide_true, Bool.not_true]
  rw [condW_false, b43]
  obtain ⟨s, hs⟩ : ∃ s : ByteArray, s = ⟨D.vis.toArray⟩ := ⟨_, rfl⟩
  have hsz : s.size = n := by rw [hs]; exact vis_size hc.ok
  have hsl : s.data.toList = D.vis := by rw [hs]
  have hopN : ldF (n + 1) tp0 s = none → opJ n D = (342, D, none) := fun e => opJ_none hoff (by rw [← hs]; exact e)
  have hopS : ∀ t, ldF (n + 1) tp0 s = some t → opJ n D = if ∀ x ∈ D.vis.drop t.size, x = 0 then (0, D, some t)
      else if (ap2 D t.size (zeroB (n - t.size))).1 = 0 then (0, (ap2 D t.size (zeroB (n - t.size))).2, some t) else ((ap2 D t.size (zeroB (n - t.size))).1, (ap2 D t.size (zeroB (n - t.size))).2, none) := fun t e => by
    unfold opJ
    rw [if_neg (by rw [hoff]; simp), ← hs, e]
  rw [← hs]
  refine w_boxN fun w2 hb2 _ hr2 => ?_
  obtain ⟨kb, hkb⟩ : ∃ kb, w1.heap.size = kb := ⟨_, rfl⟩
  rw [hkb] at hr2 ⊢
  have hb02 := below_trans hb1 hb2
  have hkw : w.heap.size ≤ kb := by rw [← hkb]; exact hb1.size
  replace hr2 : RowAt w2 kb 43 [.pointer (some ⟨b, 0, none⟩), nS, I (0 : Nat), .bool false] := hr2
  refine c43 (l := []) (IsSl.nil _) (Nat.zero_le _) (by simp) fun w3 hb3 => ?_
  have hb03 := below_trans hb02 hb3
  have hb23 : Below w.heap.size w w3 := hb03
  refine Loop1.intro (fun m x w' => ∃ t j, m = n - t.size ∧ x = .string t.head ∧ t.size ≤ n ∧ n < j + t.size ∧ ldF j t s = ldF (n + 1) tp0 s ∧ KJ w.heap.size w' kb b false t ∧ t.head.size = 32 ∧ t.recs.length ≤ t.size ∧ Below w.heap.size w w') _
    ⟨tp0, n + 1, rfl, rfl, Nat.zero_le _, by show n < n + 1 + 0; omega, rfl, ⟨nS, hr2.below hb3, hkw, Mine.nil _ _⟩, rfl, Nat.le_refl _, hb03⟩ ?_
  rintro m _ w4 ⟨t, j, rfl, rfl, ht, hj, he, hK, hh, hrl, hb4⟩
  obtain ⟨j, rfl⟩ : ∃ i, j = i + 1 := ⟨j - 1, by omega⟩
  obtain ⟨lv4, hK⟩ := hK
  simp only [nilW_ptr]
  rw [rw43_2 (hK.row.cell (i := 0 + 2) rfl), w_lss]
  by_cases hlt : t.size < n
  case' neg =>
    rw [decide_eq_false (by omega)]
    simp only [guardW_ft, guardW_u, pickW_false]
    have hld : ldF (n + 1) tp0 s = some t := by
      rw [← he]; simp only [ldF]
      rw [if_neg (fun hx => hlt (by rw [← hsz]; exact hx.1))]
  case' pos =>
    have hlts : t.size < s.size := by rw [hsz]; exact hlt
    rw [decide_eq_true (by omega)]
    simp only [guardW_tt, pickW_true, nilW_ptr]
    rw [fl43_2, ld3 (hK.row.cell (i := 0 + 2) rfl), w_indexStr (by kernel_rfl) (by omega) (by rw [Int.toNat_natCast]; exact ba_get hlts), w_neq]
    obtain ⟨x, hx⟩ : ∃ x, s.data.toList.getD t.size 0 = x := ⟨_, rfl⟩
    rw [hx]
    by_cases hx0 : x = 0
    case' pos =>
      subst hx0
      rw [show (!decide ((((0 : UInt8).toNat : Nat) : Int) = 0)) = false from rfl]
      have hld : ldF (n + 1) tp0 s = some t := by
        rw [← he]; simp only [ldF]
        rw [if_neg (fun hy => hy.2 hx)]
    case' neg =>
      have hx1 : x.toNat ≠ 0 := fun hy => hx0 (by
        have := UInt8.ofNat_toNat (x := x)
        rw [hy] at this; exact this.symm)
      rw [decide_eq_false (by omega), Bool.not_false, condW_true, rw43_2 (hK.row.cell (i := 0 + 2) rfl), w_add, wrap_id (by omega), show ((t.size : Int) + 1) = ((t.size + 1 : Nat) : Int) by omega]
      refine c75 (by omega) (by omega) fun w5 hb5 => ?_
      have hK5 : KapR w.heap.size w5 kb b false t lv4 := ⟨hK.row.below hb5, hK.base, hK.recs.below hb5⟩
      have hb05 := hb4.trans (hb5.mono hb4.size)
      have hbad : ldF (n + 1) tp0 s = none → ∀ w', Below w.heap.size w w' → k (.tuple #[.pointer none, I 342]) w' := fun hl w' hb' => by
        refine hk _ _ (by rw [hopN hl]; exact h.below hb') (OffG.below hb') (hb'.mono hBw) (by rw [hopN hl])
      unfold strV
      cases hr : rdS s (t.size + 1) with
      | none =>
        have hl : ldF (n + 1) tp0 s = none := by
          rw [← he]; simp only [ldF]
          rw [if_pos ⟨hlts, by rw [hx]; exact hx0⟩]
          split
          · rw [hr]
          · rfl
        simp only [ex3_0, ex3_1, ex3_2]
        rw [rw43_2 (hK5.row.cell (i := 0 + 2) rfl), w_indexStr (by kernel_rfl) (by omega) (by rw [Int.toNat_natCast]; exact ba_get hlts), w_neq]
        cases decide ((((s.data.toList.getD t.size 0).toNat : Nat) : Int) = 1)
        · simp only [Bool.not_false, guardW_tf, guardW_u, pickW_true]
          rw [condW_true]
          exact hbad hl _ hb05
        · simp only [Bool.not_true, guardW_ff, pickW_false]
          rw [w_neq, decide_eq_false (show ¬ ((10 : Int) = 0) by decide), Bool.not_false, condW_true]
          exact hbad hl _ hb05
      | some mp =>
      obtain ⟨m, p⟩ := mp
      obtain ⟨a1, a2, a3⟩ := rdS_le (by omega) hr
      simp only [ex3_0, ex3_1, ex3_2]
      rw [rw43_2 (hK5.row.cell (i := 0 + 2) rfl), w_indexStr (by kernel_rfl) (by omega) (by rw [Int.toNat_natCast]; exact ba_get hlts), w_neq, hx]
      by_cases hx2 : x = 1
      case' neg =>
        have hx3 : x.toNat ≠ 1 := fun hy => hx2 (by
          have := UInt8.ofNat_toNat (x := x)
          rw [hy] at this; exact this.symm)
        have hl : ldF (n + 1) tp0 s = none := by
          rw [← he]; simp only [ldF]
          rw [if_pos ⟨hlts, by rw [hx]; exact hx0⟩, if_neg (by rw [hx]; exact hx2)]
        rw [decide_eq_false (by omega)]
        simp only [Bool.not_false, guardW_tf, guardW_u, pickW_true]
        rw [condW_true]
        exact hbad hl _ hb05
      case' pos =>
        have hstep : ldF (j + 1) t s = if p + m + 32 ≤ s.size ∧ recB t.head (s.extract p (p + m)) = s.extract t.size (p + m + 32) then ldF j (addT t (s.extract p (p + m))) s else none := by
          simp only [ldF]
          rw [if_pos ⟨hlts, by rw [hx]; exact hx0⟩, if_pos (by rw [hx]; exact hx2), hr]
        rw [hx2, show decide ((((1 : UInt8).toNat : Nat) : Int) = 1) = true from rfl]
        simp only [Bool.not_true, guardW_ff, pickW_false]
        rw [w_neq]
        simp only [decide_true, Bool.not_true]
        rw [condW_false]
        have hrs : (s.extract p (p + m)).size = m := by rw [ByteArray.size_extract]; omega
        refine c57 (by omega) fun w6 hb6 => ?_
        have hK6 : KapR w.heap.size w6 kb b false t lv4 := ⟨hK5.row.below hb6, hK.base, hK5.recs.below hb6⟩
        have hb06 := hb05.trans (hb6.mono hb05.size)
        rw [w_add, wrap_id (by omega), w_gtr]
        by_cases h3 : p + m + 32 ≤ n
        case' neg =>
          have hl : ldF (n + 1) tp0 s = none := by
            rw [← he, hstep, if_neg (fun hy => h3 (by omega))]
          rw [decide_eq_true (by omega)]
          simp only [guardW_tf, guardW_u, pickW_true]
          rw [condW_true]
          exact hbad hl _ hb06
        case' pos =>
          rw [decide_eq_false (by omega)]
          simp only [guardW_ff, pickW_false]
          rw [w_add, wrap_id (by omega), w_sliceStr (by kernel_rfl) (by omega) (by omega) (by omega), w_neqStr (by kernel_rfl)]
          have hri := rec_iff (h := t.head) (by rw [hx]; exact hx2) hlts hr (by omega)
          rw [show (((p + m : Nat) : Int)).toNat = p + m by omega, show (((p + m : Nat) : Int) + 32).toNat = p + m + 32 by omega]
          by_cases hch : chainF t.head (s.extract p (p + m)) = s.extract (p + m) (p + m + 32)
          case' neg =>
            have hl : ldF (n + 1) tp0 s = none := by
              rw [← he, hstep, if_neg (fun hy => hch (hri.1 hy.2))]
            rw [decide_eq_false (fun h => hch h.symm), Bool.not_false, condW_true]
            exact hbad hl _ hb06
          case' pos =>
            rw [decide_eq_true hch.symm, Bool.not_true, condW_false, rw43_1 (hK6.row.cell (i := 0 + 1) rfl)]
            refine Mine.push (F := fT) (x := s.extract p (p + m)) sty22 (fun u hu => by simp [fT] at hu; subst hu; rfl) rfl (by decide) hK6.recs hb06.size (by omega) (by omega) fun v7 w7 hm7 hb7 ho7 _ => ?_
            have nlb : ¬ isOf lv4 kb := fun hh => by
              have := Tag.uniq (Mine.tag hK6.recs hh) hK6.row.tag
              cases this
            have hr7 := hK6.row.off ho7 nlb
            have hov : v7.oneCell' = true := by obtain ⟨a9, c9, rfl, -⟩ := hm7.sl; rfl
            rw [fl43_1, st22 hov (hr7.cell (i := 0 + 1) rfl) (hr7.free _)]
            have hof8 : Off (fun x => x = kb) w7 (w7.setCell ⟨kb, 0 + 1, none⟩ v7) := Off.set (p := fun x => x = kb) rfl
            have hr8 := hr7.set 1 v7
            replace hr8 : RowAt (w7.setCell ⟨kb, 0 + 1, none⟩ v7) kb 43 [.pointer (some ⟨b, 0, none⟩), v7, I t.size, .bool false] := hr8
            have hm8 := hm7.apart hof8 (apRow hr7 (by decide))
            rw [w_add, wrap_id (by omega), fl43_2, st3 rfl (hr8.cell (i := 0 + 2) rfl) (hr8.free _), loopK_self]
            have hsz2 : (addT t (s.extract p (p + m))).size = p + m + 32 := by
              show t.size + (recB t.head (s.extract p (p + m))).size = _
              rw [hri.2 hch, ByteArray.size_extract]; omega
            refine ⟨n - (p + m + 32), by omega, addT t (s.extract p (p + m)), j, by rw [hsz2], rfl, by omega, by omega, ?_, ?_, chain_size _ _, ?_, ?_⟩
            · rw [← he, hstep, if_pos ⟨by omega, hri.2 hch⟩]
            · refine ⟨v7, ?_, hkw, hm8.apart (Off.set (p := fun x => x = kb) rfl) (apRow hr8 (by decide))⟩
              rw [hsz2]
              have := hr8.set 2 (I ((p + m + 32 : Nat) : Int))
              exact this
            · show (t.recs ++ [s.extract p (p + m)]).length ≤ _
              rw [List.length_append, hsz2]; simp; omega
            · exact ((hb06.trans hb7).setCell hkw _).setCell hkw _
  all_goals
    rw [condW_false, rw43_2 (hK.row.cell (i := 0 + 2) rfl), w_sub, wrap_id (by omega), show ((n : Int) - (t.size : Int)) = ((n - t.size : Nat) : Int) by omega]
    refine w_zstr0 (by omega) fun w5 hb5 => ?_
    have hK5 : KapR w.heap.size w5 kb b false t lv4 := ⟨hK.row.below hb5, hK.base, hK.recs.below hb5⟩
    have hb05 := hb4.trans (hb5.mono hb4.size)
    have hop := hopS t hld
    refine joinW_use0 (fun w' => RJ B w' b (opJ n D).2.1 ∧ OffG rT B w w' ∧ Below B w w' ∧ KJ w.heap.size w' kb b false t ∧ (opJ n D).1 = 0 ∧ (opJ n D).2.2 = some t) ?_ ?_
    · rintro w' ⟨q1, q2, q3, q4, q5, q6⟩
      refine hk _ _ q1 q2 q3 ?_
      rw [q6]
      exact ⟨q5, kb, rfl, q4⟩
    intro J hJ
    rw [rw43_2 (hK5.row.cell (i := 0 + 2) rfl), w_tailStr (by kernel_rfl) (by omega) (by omega), w_neqStr (by kernel_rfl), Int.toNat_natCast, hsz]
    have hzi := zero_iff hsz ht
    rw [hsl] at hzi
    by_cases hz : ∀ x ∈ D.vis.drop t.size, x = 0
    · rw [if_pos hz] at hop
      rw [decide_eq_true (hzi.2 hz), Bool.not_true, condW_false]
      exact hJ _ ⟨by rw [hop]; exact h.below hb05, OffG.below hb05, hb05.mono hBw, ⟨lv4, hK5⟩, by rw [hop], by rw [hop]⟩
    · rw [if_neg hz] at hop
      rw [decide_eq_false (fun hh => hz (hzi.1 hh)), Bool.not_false, condW_true, rw43_2 (hK5.row.cell (i := 0 + 2) rfl)]
      have hzs := zeroB_size (n - t.size)
      refine c16 (h.below hb05) hc.ok (by omega) (by omega) (Nat.le_trans hBw hb05.size) (fun hh => by rw [hoff] at hh; cases hh) fun _ w6 hR6 ho6 hb6 => ?_
      have hc6 := hc.wr (o := t.size) (s := zeroB (n - t.size)) (by omega)
      have hp6 : (wrD D t.size (zeroB (n - t.size))).pend.length ≤ 100000 := by rw [wr_pend, List.length_append]; simp; omega
      have ho06 := (OffG.below hb05).trans ho6
      have hb06 := (hb05.mono hBw).trans hb6
      have hK6 := KJ.off ⟨lv4, hK5⟩ ho6 (by decide) (by decide)
      have ha2 : ap2 D t.size (zeroB (n - t.size)) = if (wrD D t.size (zeroB (n - t.size))).off = true then (331, wrD D t.size (zeroB (n - t.size))) else (0, syncD (wrD D t.size (zeroB (n - t.size)))) := by
        unfold ap2
        rw [if_neg (by rw [hoff]; simp)]
      generalize wrD D t.size (zeroB (n - t.size)) = D6 at *
      refine joinW_use1 (fun e w' => (D6.off = true ∧ e = I 331 ∧ RJ B w' b D6 ∧ OffG rT B w w' ∧ Below B w w') ∨ (D6.off = false ∧ e = I 0 ∧ RJ B w' b (syncD D6) ∧ OffG rT B w w' ∧ Below B w w' ∧ KJ w.heap.size w' kb b false t)) ?_ ?_
      · rintro _ w' (⟨q0, rfl, q1, q2, q3⟩ | ⟨q0, rfl, q1, q2, q3, q4⟩)
        · rw [w_neq, decide_eq_false (show ¬ ((331 : Int) = 0) by decide), Bool.not_false, condW_true]
          rw [if_pos q0] at ha2
          rw [ha2, if_neg (show ¬ ((331 : Int) = 0) by decide)] at hop
          exact hk _ _ (by rw [hop]; exact q1) q2 q3 (by rw [hop])
        · rw [w_neq]
          simp only [decide_true, Bool.not_true]
          rw [condW_false]
          rw [if_neg (by rw [q0]; simp)] at ha2
          rw [ha2, if_pos rfl] at hop
          exact hJ _ ⟨by rw [hop]; exact q1, q2, q3, q4, by rw [hop], by rw [hop]⟩
      intro J2 hJ2
      rw [w_eql, decide_eq_true rfl, condW_true]
      refine c45 hR6 hc6 hp6 (Nat.le_trans hBw (Nat.le_trans hb05.size ho6.size)) (fun hh => ?_) fun hh w7 hR7 ho7 hb7 => ?_
      · exact hJ2 _ _ (.inl ⟨hh, rfl, hR6, ho06, hb06⟩)
      · exact hJ2 _ _ (.inr ⟨hh, rfl, hR7, ho06.trans ho7, hb06.trans hb7, hK6.off ho7 (by decide) (by decide)⟩))
end
end Go.Proofs.YtbojglaimdjagaaGreatDoor
/- The reference's journal: Room, Append. -/
set_option linter.unusedSimpArgs false
set_option linter.unusedVariables false
set_option maxRecDepth 4000
namespace Go.Proofs.YtbojglaimdjagaaGreatDoor
open Go Go.V Go.RowKit
abbrev kT : List Nat := [67, 5, 100, 43]
theorem OffG.kj {B : Nat} {a b : World} (h : OffG rT B a b) : OffG kT B a b := h.mono (by decide)
theorem OffG.one {ts : List Nat} {B b T : Nat} {w w' : World} {vs : List Value} (h : RowAt w b T vs) (hB : B ≤ b) (hT : T ∈ ts) (ho : Off (fun x => x = b) w w') : OffG ts B w w' :=
  ho.mono fun x _ hx => by subst hx; exact ⟨hB, T, h.tag, hT⟩
theorem grp_snoc (t : TP) (l : List ByteArray) (r : ByteArray) : grpB t (l ++ [r]) = grpB t l ++ recB (l.foldl chainF t.head) r := by
  apply ba_ext
  rw [ba_append]
  show stL t.head (l ++ [r]) = stL t.head l ++ _
  rw [stL_append]
  simp [stL]
section
variable {k : Value → World → Prop} {w : World} {B b kb n : Nat} {D : DK}
theorem c44 {h r : ByteArray} (hh : h.size = 32) (hr : r.size ≤ 65536) (hk : ∀ w', Below w.heap.size w w' → k (.tuple #[.string (recB h r), .string (chainF h r)]) w') : callW Tryz.prog (.func (.func 44) #[] #[]) #[.string h, .string r] k w := C44 _ _ _ _ (by
  unfold S44
  refine c57 (by omega) fun w1 hb1 => ?_
  refine c73 hr fun w2 hb2 => ?_
  have e1 : (lenB r.size ++ r).size = (vb (2 * r.size)).length + r.size := by rw [ByteArray.size_append, lenB_size]
  have e2 := (vb_len (2 * r.size)).2
  have e3 := chain_size h r
  have e4 : ((⟨#[1]⟩ : ByteArray)).size = 1 := rfl
  have e5 : ((⟨#[1]⟩ : ByteArray) ++ (lenB r.size ++ r)).size = 1 + ((vb (2 * r.size)).length + r.size) := by rw [ByteArray.size_append, e1, e4]
  rw [ex0, ex1, w_addStr (by omega), w_addStr (by omega)]
  exact hk _ (below_trans hb1 hb2))
theorem c21 {t : TP} {br : Bool} (h : RJ B w b D) (hd : D.dur.length = n) (hn : n ≤ 1000000) (hK : KJ B w kb b br t) (ht : t.size ≤ 1000000) (hk : ∀ w', Below w.heap.size w w' → k (I ((n : Int) - t.size)) w') : callW Tryz.prog (.func (.func 21) #[] #[]) #[.pointer (some ⟨kb, 0, none⟩)] k w := C21 _ _ _ (by
  unfold S21
  rw [drewW_eq]
  have hb := below_drew w
  obtain ⟨sv, lv, h⟩ := h.below hb
  obtain ⟨kv, hK⟩ := hK.below hb
  generalize w.drew = w1 at *
  simp only [nilT_ptr]
  rw [rt43_0 (hK.row.cell (i := 0) rfl)]
  simp only [nilT_ptr]
  rw [rt67_0 (h.row.cell (i := 0) rfl), tlen39 h.sure.sl, rt43_2 (hK.row.cell (i := 0 + 2) rfl), t_sub, wrap_id (by omega), hd]
  exact hk _ hb)
set_option maxHeartbeats 1000000 in
theorem c12 {lv : Value} {l0 l : List ByteArray} {br : Bool} {B2 : Nat} (h : RJ B w b D) (hc : Coh n D) (hpl : D.pend.length ≤ 1000) (hBw : B ≤ w.heap.size) (hK : KJ B w kb b br (tpOf l0)) (h0 : ∀ r ∈ l0, r.size ≤ 65536) (hl0 : l0.length ≤ 100000) (ht : (tpOf l0).size ≤ n)
    (hl : Mine fT 9 w B2 lv l) (hll : l.length ≤ 100) (hsm : ∀ r ∈ l, r.size ≤ 100)
    (hk : ∀ w', RJ B w' b (apJ n D (tpOf l0) br l).2.1 → KJ B w' kb b (apJ n D (tpOf l0) br l).2.2.2 (apJ n D (tpOf l0) br l).2.2.1 → OffG kT B w w' → Below B w w' → k (I (apJ n D (tpOf l0) br l).1) w') :
    callW Tryz.prog (.func (.func 12) #[] #[]) #[.pointer (some ⟨kb, 0, none⟩), lv] k w := C12 _ _ _ _ (by
  unfold S12
  have hml0 : 1000000000 ≤ maxLen := by decide
  obtain ⟨kv, hK0⟩ := id hK
  have hn2 := hc.ok.n2
  simp only [nilW_ptr]
  rw [rw43_3 (hK0.row.cell (i := 0 + 3) rfl)]
  cases hbr : br with
  | true =>
    subst hbr
    rw [condW_true]
    rw [apJ_broken] at hk
    exact hk _ h hK (OffG.refl _ _ _) (Below.refl _ _)
  | false =>
  subst hbr
  rw [condW_false, rw43_1 (hK0.row.cell (i := 0 + 1) rfl), ]
  have hrec := tpOf_recs l0
  have hrs : IsSl fT w kv l0 := by rw [← hrec]; exact hK0.recs.sl
  have hhead := tpOf_head l0
  refine c43 hrs (by omega) h0 fun w1 hb1 => ?_
  rw [← hhead]
  have hhs : (tpOf l0).head.size = 32 := by rw [hhead]; exact headF_size _ _ rfl
  generalize tpOf l0 = t at *
  have hs65 : ∀ r ∈ l, r.size ≤ 65536 := fun r hr => by have := hsm r hr; omega
  refine Loop3.intro (fun m x y z w' => ∃ i : Nat, z = I i ∧ x = .string (grpB t (l.take i)) ∧ y = .string ((l.take i).foldl chainF t.head) ∧ m = l.length - i ∧ i ≤ l.length ∧ Below w.heap.size w w') _ ⟨0, rfl, rfl, rfl, rfl, Nat.zero_le _, hb1⟩ ?_
  rintro m _ _ _ w2 ⟨i, rfl, rfl, rfl, rfl, hi, hb2⟩
  have hl2 := hl.below hb2
  rw [len22 hl2.sl, w_lss]
  by_cases hlt : i < l.length
  · have hx : l[i]? = some l[i] := List.getElem?_eq_getElem hlt
    have hri := hsm _ (List.getElem_mem hlt)
    have hst := stL_small (l.take i) t.head fun s hs => hsm s (List.mem_of_mem_take hs)
    rw [List.length_take] at hst
    have hmul : min i l.length * 135 ≤ 100 * 135 := Nat.mul_le_mul_right _ (by omega)
    rw [decide_eq_true (by omega), condW_true, getT22 hl2.sl hx, w_lenStr (by kernel_rfl), w_gtr, decide_eq_false (by omega), condW_false, getT22 hl2.sl hx]
    refine c44 (headF_size _ _ hhs) (by omega) fun w3 hb3 => ?_
    have hrz := recB_size ((l.take i).foldl chainF t.head) l[i]
    have hvl := (vb_len (2 * l[i].size)).2
    rw [ex0, ex1, w_addStr (by rw [grpB_size]; omega), w_add, wrap_id (by omega), loopK_self]
    refine ⟨l.length - (i + 1), by omega, i + 1, by simp [I], ?_, ?_, rfl, by omega, hb2.trans (hb3.mono hb2.size)⟩
    · rw [List.take_add_one, hx, Option.toList_some, grp_snoc]
    · rw [List.take_add_one, hx, Option.toList_some, List.foldl_append]; rfl
  rw [decide_eq_false (by omega), condW_false]
  have : i = l.length := by omega
  subst this
  rw [List.take_length]
  have hst := stL_small l t.head hsm
  have hmul : l.length * 135 ≤ 100 * 135 := Nat.mul_le_mul_right _ (by omega)
  have hgz : (grpB t l).size = (stL t.head l).length := grpB_size t l
  rw [w_lenStr (by kernel_rfl)]
  refine c21 (h.below hb2) hc.ok.dur hn2 (hK.below hb2) (by omega) fun w3 hb3 => ?_
  replace hb3 := hb2.trans (hb3.mono hb2.size)
  rw [w_gtr]
  by_cases hfull : n < t.size + (grpB t l).size
  · rw [decide_eq_true (by omega), condW_true]
    rw [apJ_full' hs65 hfull] at hk
    exact hk _ (h.below hb3) (hK.below hb3) (OffG.below hb3) (hb3.mono hBw)
  rw [decide_eq_false (by omega), condW_false, w_eqlStr (by kernel_rfl)]
  by_cases hnil : l = []
  · subst hnil
    rw [decide_eq_true (show grpB t [] = ⟨#[]⟩ from rfl), condW_true]
    rw [apJ_nil ht] at hk
    exact hk _ (h.below hb3) (hK.below hb3) (OffG.below hb3) (hb3.mono hBw)
  have hpos := grpB_pos (t := t) hnil
  rw [decide_eq_false (fun hh => by rw [hh] at hpos; exact absurd hpos (by decide)), condW_false, drewW_eq]
  replace hb3 := hb3.trans ((below_drew w3).mono hb3.size)
  generalize w3.drew = w4 at *
  have hapJ : apJ n D t false l = if (ap4 D (t.size + 1) ((grpB t l).extract 1 (grpB t l).size) t.size ((grpB t l).extract 0 1)).1 = 0 then
    (0, (ap4 D (t.size + 1) ((grpB t l).extract 1 (grpB t l).size) t.size ((grpB t l).extract 0 1)).2, l.foldl addT t, false)
    else ((ap4 D (t.size + 1) ((grpB t l).extract 1 (grpB t l).size) t.size ((grpB t l).extract 0 1)).1, (ap4 D (t.size + 1) ((grpB t l).extract 1 (grpB t l).size) t.size ((grpB t l).extract 0 1)).2, t, true) := by
    unfold apJ
    rw [if_neg (not_long hs65), if_neg hfull, if_neg hnil]
  have hfold := foldl_addT l t
  rw [← hgz] at hfold
  generalize grpB t l = g at *
  obtain ⟨x, hx⟩ : ∃ x, g.extract 1 g.size = x := ⟨_, rfl⟩
  obtain ⟨y, hy⟩ : ∃ y, g.extract 0 1 = y := ⟨_, rfl⟩
  have hxs : x.size = g.size - 1 := by rw [← hx, ByteArray.size_extract]; omega
  have hys : y.size = 1 := by rw [← hy, ByteArray.size_extract]; omega
  rw [hx, hy] at hapJ
  have hc1 := hc.wr (o := t.size + 1) (s := x) (by omega)
  have hp1 : (wrD D (t.size + 1) x).pend.length ≤ 10000 := by rw [wr_pend, List.length_append]; simp; omega
  have hc2 := hc1.sync
  have hc3 := hc2.wr (o := t.size) (s := y) (by omega)
  have hp3 : (wrD (syncD (wrD D (t.size + 1) x)) t.size y).pend.length ≤ 10000 := by rw [wr_pend]; simp [syncD]
  have e4 : ap4 D (t.size + 1) x t.size y = if D.off = true then (331, D) else if (wrD D (t.size + 1) x).off = true then (331, wrD D (t.size + 1) x) else
      if (wrD (syncD (wrD D (t.size + 1) x)) t.size y).off = true then (331, wrD (syncD (wrD D (t.size + 1) x)) t.size y) else (0, syncD (wrD (syncD (wrD D (t.size + 1) x)) t.size y)) := by
    unfold ap4 ap2
    split
    · rfl
    · split
      · rfl
      · next hoff => rw [if_neg (show ¬ (syncD (wrD D (t.size + 1) x)).off = true from hoff)]
  generalize ap4 D (t.size + 1) x t.size y = R at *
  obtain ⟨kvx, hK4⟩ := hK.below hb3
  have hR4 := h.below hb3
  have hBw4 : B ≤ w4.heap.size := Nat.le_trans hBw hb3.size
  have ho : Off (tgP rT B w4) w4 w4 := Off.refl _ _
  have nx : ¬ tgP rT B w4 kb := fun ⟨_, t', q1, q2⟩ => by
    have := Tag.uniq q1 hK4.row.tag
    subst this; revert q2; decide
  refine ⟨Off (tgP rT B w4) w4, ho, ?_⟩
  simp only [nilT_ptr]
  rw [rt43_0 (hK4.row.cell (i := 0) rfl), tfl43_2, r_loadO agg3 known3 (hK4.row.cell (i := 0 + 2) rfl) nx ho, t_add, wrap_id (by omega), t_tailStr (by kernel_rfl) (by omega) (by omega), show ((t.size : Int) + 1) = ((t.size + 1 : Nat) : Int) by omega, show (1 : Int).toNat = 1 from rfl, hx]
  have hKf : ∀ w', OffG rT B w4 w' → KJ B w' kb b false t := fun w' hh => KJ.off ⟨kvx, hK4⟩ hh (by decide) (by decide)
  refine callW_mono (k := fun v w' => (v = I 331 ∧ D.off = true ∧ RJ B w' b D ∨ v = I 0 ∧ D.off = false ∧ RJ B w' b (wrD D (t.size + 1) x)) ∧ OffG rT B w4 w' ∧ Below B w4 w') ?_ ?_
  · exact c16 hR4 hc.ok (by omega) (by omega) hBw4 (fun hoff => ⟨.inl ⟨rfl, hoff, hR4⟩, OffG.refl _ _ _, Below.refl _ _⟩) fun hoff w5 hR5 ho5 hb5 => ⟨.inr ⟨rfl, hoff, hR5⟩, ho5, hb5⟩
  rintro e1 w5 ⟨hcase1, ho5, hb5⟩
  rw [keepS_eq]
  refine ⟨ho5, ?_⟩
  refine joinW_use1 (fun e w' => ((e = I 331 ∧ R.1 = 331 ∧ RJ B w' b R.2) ∨ (e = I 0 ∧ D.off = false ∧ (wrD D (t.size + 1) x).off = false ∧ RJ B w' b (syncD (wrD D (t.size + 1) x)))) ∧ OffG rT B w4 w' ∧ Below B w4 w') ?_ ?_
  case' refine_2 =>
    intro J1 hJ1
    rcases hcase1 with ⟨rfl, hoff, hR5⟩ | ⟨rfl, hoff, hR5⟩
    · rw [if_pos hoff] at e4
      rw [w_eql, decide_eq_false (show ¬ ((331 : Int) = 0) by decide), condW_false]
      exact hJ1 _ _ ⟨.inl ⟨rfl, by rw [e4], by rw [e4]; exact hR5⟩, ho5, hb5⟩
    · rw [if_neg (by rw [hoff]; simp)] at e4
      obtain ⟨kv5, hK5⟩ := hKf _ ho5
      rw [w_eql, decide_eq_true rfl, condW_true, rw43_0 (hK5.row.cell (i := 0) rfl)]
      refine c45 hR5 hc1 (by omega) (Nat.le_trans hBw4 ho5.size) (fun hoff1 => ?_) fun hoff1 w6 hR6 ho6 hb6 => ?_
      · rw [if_pos hoff1] at e4
        exact hJ1 _ _ ⟨.inl ⟨rfl, by rw [e4], by rw [e4]; exact hR5⟩, ho5, hb5⟩
      · exact hJ1 _ _ ⟨.inr ⟨rfl, hoff, hoff1, hR6⟩, ho5.trans ho6, hb5.trans hb6⟩
  clear hcase1 ho5 hb5
  clear e1 w5
  rintro e1 w5 ⟨hcase1, ho5, hb5⟩
  refine joinW_use1 (fun e w' => ((e = I 331 ∧ R.1 = 331 ∧ RJ B w' b R.2) ∨ (e = I 0 ∧ D.off = false ∧ (wrD D (t.size + 1) x).off = false ∧ RJ B w' b (wrD (syncD (wrD D (t.size + 1) x)) t.size y))) ∧ OffG rT B w4 w' ∧ Below B w4 w') ?_ ?_
  case' refine_2 =>
    intro J1 hJ1
    rcases hcase1 with ⟨rfl, q1, hR5⟩ | ⟨rfl, hoff, hoff1, hR5⟩
    · rw [w_eql, decide_eq_false (show ¬ ((331 : Int) = 0) by decide), condW_false]
      exact hJ1 _ _ ⟨.inl ⟨rfl, q1, hR5⟩, ho5, hb5⟩
    · rw [w_eql, decide_eq_true rfl, condW_true, drewW_eq]
      have hbd := below_drew w5
      have ho6 := ho5.trans (OffG.below hbd)
      have hb6 := hb5.trans (hbd.mono (Nat.le_trans hBw4 ho5.size))
      replace hR5 := hR5.below hbd
      generalize w5.drew = w6 at *
      obtain ⟨kv6, hK6⟩ := hKf _ ho6
      try simp only [nilT_ptr]
      rw [rt43_0 (hK6.row.cell (i := 0) rfl), rt43_2 (hK6.row.cell (i := 0 + 2) rfl), t_headStr (by kernel_rfl) (by omega) (by omega), show (1 : Int).toNat = 1 from rfl, hy]
      refine c16 hR5 hc2.ok (by simp [syncD]) (by omega) (Nat.le_trans hBw4 ho6.size) (fun hh => ?_) fun hh w7 hR7 ho7 hb7 => ?_
      · rw [show (syncD (wrD D (t.size + 1) x)).off = (wrD D (t.size + 1) x).off from rfl, hoff1] at hh; cases hh
      · exact hJ1 _ _ ⟨.inr ⟨rfl, hoff, hoff1, hR7⟩, ho6.trans ho7, hb6.trans hb7⟩
  clear hcase1 ho5 hb5
  clear e1 w5
  rintro e1 w5 ⟨hcase1, ho5, hb5⟩
  refine joinW_use1 (fun e w' => ((e = I 331 ∧ R.1 = 331 ∧ RJ B w' b R.2) ∨ (e = I 0 ∧ R.1 = 0 ∧ RJ B w' b R.2)) ∧ OffG rT B w4 w' ∧ Below B w4 w') ?_ ?_
  case' refine_2 =>
    intro J1 hJ1
    rcases hcase1 with ⟨rfl, q1, hR5⟩ | ⟨rfl, hoff, hoff1, hR5⟩
    · rw [w_eql, decide_eq_false (show ¬ ((331 : Int) = 0) by decide), condW_false]
      exact hJ1 _ _ ⟨.inl ⟨rfl, q1, hR5⟩, ho5, hb5⟩
    · rw [if_neg (by rw [hoff]; simp), if_neg (by rw [hoff1]; simp)] at e4
      obtain ⟨kv5, hK5⟩ := hKf _ ho5
      rw [w_eql, decide_eq_true rfl, condW_true, rw43_0 (hK5.row.cell (i := 0) rfl)]
      refine c45 hR5 hc3 (by omega) (Nat.le_trans hBw4 ho5.size) (fun hoff3 => ?_) fun hoff3 w6 hR6 ho6 hb6 => ?_
      · rw [if_pos hoff3] at e4
        exact hJ1 _ _ ⟨.inl ⟨rfl, by rw [e4], by rw [e4]; exact hR5⟩, ho5, hb5⟩
      · rw [if_neg (by rw [hoff3]; simp)] at e4
        exact hJ1 _ _ ⟨.inr ⟨rfl, by rw [e4], by rw [e4]; exact hR6⟩, ho5.trans ho6, hb5.trans hb6⟩
  clear hcase1 ho5 hb5
  clear e1 w5
  rintro _ w5 ⟨⟨rfl, q1, hR5⟩ | ⟨rfl, q1, hR5⟩, ho5, hb5⟩
  · obtain ⟨kv5, hK5⟩ := hKf _ ho5
    rw [w_neq, decide_eq_false (show ¬ ((331 : Int) = 0) by decide), Bool.not_false, condW_true, fl43_3, st4 rfl (hK5.row.cell (i := 0 + 3) rfl) (hK5.row.free _)]
    rw [q1, if_neg (show ¬ ((331 : Int) = 0) by decide)] at hapJ
    have hof : Off (fun x => x = kb) w5 (w5.setCell ⟨kb, 0 + 3, none⟩ (.bool true)) := Off.set (p := fun x => x = kb) rfl
    rw [hapJ] at hk
    refine hk _ (hR5.coff hof ?_) ⟨kv5, hK5.row.set 3 (.bool true), hK5.base, hK5.recs.apart hof (apRow hK5.row (by decide))⟩ (((OffG.below hb3).trans ho5.kj).trans (OffG.one hK5.row hK5.base (by decide) hof)) (((hb3.mono hBw).trans hb5).setCell hK5.base _)
    rintro x' t' g1 g2 g3 rfl
    have := Tag.uniq g1 hK5.row.tag
    subst this; revert g3; decide
  · obtain ⟨kv5, hK5⟩ := hKf _ ho5
    rw [w_neq]
    simp only [decide_true, Bool.not_true]
    rw [condW_false, rw43_1 (hK5.row.cell (i := 0 + 1) rfl)]
    rw [q1, if_pos rfl] at hapJ
    rw [hapJ] at hk
    have hBw5 : B ≤ w5.heap.size := Nat.le_trans hBw4 ho5.size
    have hm5 := hK5.recs
    rw [hrec] at hm5
    have hl5 : Mine fT 9 w5 B2 lv l := ho5.mine (hl.below hb3) (by decide)
    refine w_cat22 (B := w5.heap.size) (Mine.nil _ _) hm5 (Nat.le_refl _) (by simp; omega) fun v6 w6 hm6 hb6 => ?_
    rw [List.nil_append] at hm6
    refine w_cat22 hm6 (hl5.below hb6) hb6.size (by omega) fun v7 w7 hm7 hb7 => ?_
    replace hb7 : Below w5.heap.size w5 w7 := hb6.trans hb7
    have hr7 := hK5.row.below hb7
    have hov : v7.oneCell' = true := by obtain ⟨a9, c9, rfl, -⟩ := hm7.sl; rfl
    rw [fl43_1, st22 hov (hr7.cell (i := 0 + 1) rfl) (hr7.free _)]
    have hof8 : Off (fun x => x = kb) w7 (w7.setCell ⟨kb, 0 + 1, none⟩ v7) := Off.set (p := fun x => x = kb) rfl
    have hr8 := hr7.set 1 v7
    replace hr8 : RowAt (w7.setCell ⟨kb, 0 + 1, none⟩ v7) kb 43 [.pointer (some ⟨b, 0, none⟩), v7, I t.size, .bool false] := hr8
    have hm8 := hm7.apart hof8 (apRow hr7 (by decide))
    have hb8 : Below B w5 (w7.setCell ⟨kb, 0 + 1, none⟩ v7) := (hb7.mono hBw5).setCell hK5.base _
    have hg8 : OffG kT B w5 (w7.setCell ⟨kb, 0 + 1, none⟩ v7) := (OffG.below hb7).trans (OffG.one hr7 hK5.base (by decide) hof8)
    have hR8 : RJ B (w7.setCell ⟨kb, 0 + 1, none⟩ v7) b R.2 := (hR5.below hb7).coff hof8 (by
      rintro x' t' g1 g2 g3 rfl
      have := Tag.uniq g1 hr7.tag
      subst this; revert g3; decide)
    generalize w7.setCell ⟨kb, 0 + 1, none⟩ v7 = w8 at *
    rw [rw43_2 (hr8.cell (i := 0 + 2) rfl), w_lenStr (by kernel_rfl), w_add, wrap_id (by omega), fl43_2, st3 rfl (hr8.cell (i := 0 + 2) rfl) (hr8.free _)]
    have hof9 : Off (fun x => x = kb) w8 (w8.setCell ⟨kb, 0 + 2, none⟩ (I ((t.size : Int) + (g.size : Int)))) := Off.set (p := fun x => x = kb) rfl
    refine hk _ (hR8.coff hof9 ?_) ⟨v7, ?_, hK5.base, ?_⟩ ((((OffG.below hb3).trans ho5.kj).trans hg8).trans (OffG.one hr8 hK5.base (by decide) hof9)) (((hb3.mono hBw).trans (hb5.trans hb8)).setCell hK5.base _)
    · rintro x' t' g1 g2 g3 rfl
      have := Tag.uniq g1 hr8.tag
      subst this; revert g3; decide
    · have e := hr8.set 2 (I ((t.size : Int) + (g.size : Int)))
      rw [hfold.2]
      rw [show (((t.size + g.size : Nat) : Int)) = (t.size : Int) + (g.size : Int) by omega]
      exact e
    · rw [hfold.1, hrec]
      exact (hm8.apart hof9 (apRow hr8 (by decide))).base hBw5)
end
end Go.Proofs.YtbojglaimdjagaaGreatDoor
/- The disk and its reference side by side: frames that do not meet. -/
set_option linter.unusedSimpArgs false
set_option linter.unusedVariables false
set_option maxRecDepth 4000
namespace Go.Proofs.YtbojglaimdjagaaGreatDoor
open Go Go.V Go.RowKit
/-- blocks of the disk and the journal: its bytes lie below B1 -/
def qP (B0 B1 : Nat) (w : World) (x : Nat) : Prop := ∃ t, Tag w x t ∧ B0 ≤ x ∧ (t ∈ [97, 92, 74] ∨ t = 5 ∧ x < B1)
def OffQ (B0 B1 : Nat) (w w' : World) : Prop := Off (qP B0 B1 w) w w'
theorem OffQ.row {B0 B1 r T : Nat} {w w' : World} {vs : List Value} (ho : OffQ B0 B1 w w') (h : RowAt w r T vs) (ht : T ∉ [97, 92, 74, 5]) : RowAt w' r T vs :=
  h.off ho fun ⟨t, h1, _, h2⟩ => by
    have := Tag.uniq h1 h.tag
    subst this
    rcases h2 with h2 | ⟨rfl, _⟩
    · exact ht (List.mem_append_left [5] h2)
    · exact ht (by decide)
theorem OffQ.mine {α : Type} {F : Fl α} {B0 B1 B' e : Nat} {w w' : World} {v : Value} {l : List α} (ho : OffQ B0 B1 w w') (h : Mine F e w B' v l) (ht : e ∉ [97, 92, 74, 5]) : Mine F e w' B' v l :=
  Go.V.Mine.off h ho fun x hx ⟨t, h1, _, h2⟩ => by
    have := Tag.uniq h1 (Mine.tag h hx)
    subst this
    rcases h2 with h2 | ⟨rfl, _⟩
    · exact ht (List.mem_append_left [5] h2)
    · exact ht (by decide)
/-- the disk; its bytes lie below B1 -/
def DQ (B0 B1 : Nat) (w : World) (b : Nat) (D : DK) : Prop := ∃ dv vv, DJ B0 w b D dv vv ∧ ∀ x, isOf dv x ∨ isOf vv x → x < B1
theorem DQ.below {B0 B1 b : Nat} {w w' : World} {D : DK} (h : DQ B0 B1 w b D) (hb : Below w.heap.size w w') : DQ B0 B1 w' b D := by
  obtain ⟨dv, vv, h, h2⟩ := h; exact ⟨dv, vv, h.below hb, h2⟩
theorem offQ_disk {B0 B1 b : Nat} {w w' : World} {D : DK} {dv vv pv : Value} (hd : DiskR B0 w b D dv vv pv) (h2 : ∀ x, isOf dv x ∨ isOf vv x → x < B1) (ho : Off (dBl b dv vv pv) w w') : OffQ B0 B1 w w' :=
  ho.mono fun x _ hx => by
    have hl := (hd.lt hx).1
    rcases hx with rfl | hx | hx | hx
    · exact ⟨97, hd.row.tag, hl, .inl (by decide)⟩
    · exact ⟨5, Mine.tag hd.dur hx, hl, .inr ⟨rfl, h2 x (.inl hx)⟩⟩
    · exact ⟨5, Mine.tag hd.vis hx, hl, .inr ⟨rfl, h2 x (.inr hx)⟩⟩
    · exact ⟨92, Mine.tag hd.pend hx, hl, .inl (by decide)⟩
theorem offQ_jour {B0 B1 b jb : Nat} {w w' : World} {D : DK} {dv vv pv rv : Value} {rest : List Value} {t : TP} (hd : DiskR B0 w b D dv vv pv) (h2 : ∀ x, isOf dv x ∨ isOf vv x → x < B1) (hj : TapeR B0 w jb 74 rest rv t) (ho : Off (fun x => dBl b dv vv pv x ∨ x = jb) w w') : OffQ B0 B1 w w' :=
  ho.mono fun x _ hx => by
    rcases hx with hx | rfl
    · have hl := (hd.lt hx).1
      rcases hx with rfl | hx | hx | hx
      · exact ⟨97, hd.row.tag, hl, .inl (by decide)⟩
      · exact ⟨5, Mine.tag hd.dur hx, hl, .inr ⟨rfl, h2 x (.inl hx)⟩⟩
      · exact ⟨5, Mine.tag hd.vis hx, hl, .inr ⟨rfl, h2 x (.inr hx)⟩⟩
      · exact ⟨92, Mine.tag hd.pend hx, hl, .inl (by decide)⟩
    · exact ⟨74, hj.row.tag, hj.base, .inl (by decide)⟩
/-- what the reference changes is not the disk's -/
theorem DQ.ref {B0 B1 b : Nat} {w w' : World} {D : DK} (h : DQ B0 B1 w b D) {ts : List Nat} (ho : OffG ts B1 w w') (h1 : 97 ∉ ts) (h3 : 92 ∉ ts) : DQ B0 B1 w' b D := by
  obtain ⟨dv, vv, ⟨pv, h⟩, h2⟩ := h
  refine ⟨dv, vv, ⟨pv, h.off ho ?_⟩, h2⟩
  rintro x hx ⟨hB, t, q1, q2⟩
  rcases hx with rfl | hx | hx | hx
  · exact h1 (Tag.uniq q1 h.row.tag ▸ q2)
  · have := h2 x (.inl hx); omega
  · have := h2 x (.inr hx); omega
  · exact h3 (Tag.uniq q1 (Mine.tag h.pend hx) ▸ q2)
theorem TJ.ref {B0 b jb : Nat} {w w' : World} {br : Bool} {t : TP} (h : TJ B0 w jb b br t) {ts : List Nat} {B1 : Nat} (ho : OffG ts B1 w w') (h1 : 74 ∉ ts) (h2 : 9 ∉ ts) : TJ B0 w' jb b br t := by
  obtain ⟨rv, h⟩ := h
  exact ⟨rv, ho.row h.row h1, h.base, h.ne, ho.mine h.recs h2⟩
theorem RJ.q {B0 B1 b : Nat} {w w' : World} {D : DK} (h : RJ B1 w b D) (ho : OffQ B0 B1 w w') : RJ B1 w' b D :=
  h.coff ho fun x t h1 h2 h3 ⟨t', q1, _, q2⟩ => by
    have := Tag.uniq q1 h1
    subst this
    rcases q2 with q2 | ⟨_, q2⟩
    · revert q2 h3
      simp [rT]
      omega
    · omega
theorem KJ.q {B0 B1 b kb : Nat} {w w' : World} {br : Bool} {t : TP} (h : KJ B1 w kb b br t) (ho : OffQ B0 B1 w w') : KJ B1 w' kb b br t := by
  obtain ⟨lv, h⟩ := h
  exact ⟨lv, ho.row h.row (by decide), h.base, ho.mine h.recs (by decide)⟩
theorem TJ.q {B0 b jb : Nat} {w w' : World} {br : Bool} {t : TP} (h : TJ B0 w jb b br t) {D : DK} {dv vv pv : Value} (hd : DiskR B0 w b D dv vv pv) (ho : Off (dBl b dv vv pv) w w') : TJ B0 w' jb b br t :=
  h.off (offG_disk hd ho)
section
variable {k : Value → World → Prop} {w : World} {B0 B1 b jb n : Nat} {D : DK}
theorem c25q (hg : Gl w) (hBw : B0 ≤ w.heap.size) (hd : DQ B0 B1 w b D) (hok : DOk n D) (hpl : D.pend.length ≤ 100000)
    (hk : ∀ w' r, DQ B0 B1 w' b (opJ n D).2.1 → OffQ B0 B1 w w' → Below B0 w w' → (match (opJ n D).2.2 with
      | none => r = .tuple #[.pointer none, I (opJ n D).1] ∧ (opJ n D).1 ≠ 0
      | some t => (opJ n D).1 = 0 ∧ TOk n t ∧ ∃ jb, r = .tuple #[.pointer (some ⟨jb, 0, none⟩), I 0] ∧ TJ w.heap.size w' jb b false t) → k r w') :
    callW Tryz.prog (.func (.func 25) #[] #[]) #[.pointer (some ⟨b, 0, none⟩)] k w := by
  obtain ⟨dv, vv, ⟨pv, hd⟩, h2⟩ := hd
  refine c25 hg hBw hd hok hpl fun w' r ⟨pv', h', ho, hb, _⟩ hm => hk w' r ⟨dv, vv, ⟨pv', h'⟩, h2⟩ (offQ_disk hd h2 ho) hb ?_
  cases ho : (opJ n D).2.2 with
  | none => rw [ho] at hm; exact hm
  | some t =>
    rw [ho] at hm
    obtain ⟨h1, h2, jb, rv, h3, h4⟩ := hm
    exact ⟨h1, h2, jb, h3, rv, h4⟩
theorem c10q {lv : Value} {t : TP} {br : Bool} {l : List ByteArray} (hg : Gl w) (hB : 3 < B0) (hBw : B0 ≤ w.heap.size) (hd : DQ B0 B1 w b D) (hok : DOk n D) (hpl : D.pend.length ≤ 100000)
    (hj : TJ B0 w jb b br t) (ht : TOk n t) (hl : IsSl fT w lv l) (hll : l.length ≤ 100)
    (hk : ∀ w', DQ B0 B1 w' b (apJ n D t br l).2.1 → TJ B0 w' jb b (apJ n D t br l).2.2.2 (apJ n D t br l).2.2.1 → OffQ B0 B1 w w' → Below B0 w w' → k (I (apJ n D t br l).1) w') : callW Tryz.prog (.func (.func 10) #[] #[]) #[.pointer (some ⟨jb, 0, none⟩), lv] k w := by
  obtain ⟨dv, vv, ⟨pv, hd⟩, h2⟩ := hd
  obtain ⟨rv, hj⟩ := hj
  refine c10 hg hB hBw hd hok hpl hj ht hl hll fun w' ⟨pv', rv', h1, h3, h4, h5, _, _⟩ => ?_
  exact hk w' ⟨dv, vv, ⟨pv', h1⟩, h2⟩ ⟨rv', h3⟩ (offQ_jour hd h2 hj h4) h5
theorem c13q {o : Nat} {s : ByteArray} (hBw : B0 ≤ w.heap.size) (hd : DQ B0 B1 w b D) (hok : DOk n D) (hon : D.off = false) (hin : o + s.size ≤ n) (hpl : D.pend.length ≤ 100000)
    (hk : ∀ w', DQ B0 B1 w' b (wrD D o s) → (∀ jb br t, TJ B0 w jb b br t → TJ B0 w' jb b br t) → OffQ B0 B1 w w' → Below B0 w w' → k (I 0) w') : callW Tryz.prog (.func (.func 13) #[] #[]) #[.pointer (some ⟨b, 0, none⟩), I o, .string s] k w := by
  obtain ⟨dv, vv, ⟨pv, hd⟩, h2⟩ := hd
  exact c13 hd hok.ne hon (by rw [hok.dur]; exact hin) (by rw [hok.dur]; exact hok.n2) hok.left hpl hBw fun w' pv' h1 h3 h4 _ => hk w' ⟨dv, vv, ⟨pv', h1⟩, h2⟩ (fun jb br t h => h.q hd h3) (offQ_disk hd h2 h3) h4
theorem c22q (hd : DQ B0 B1 w b D) (hok : DOk n D) (hon : D.off = false) (hk : k (.string ⟨D.vis.toArray⟩) w) : callW Tryz.prog (.func (.func 22) #[] #[]) #[.pointer (some ⟨b, 0, none⟩)] k w := by
  obtain ⟨dv, vv, hd, _⟩ := hd
  exact c22d hd hok hon hk
theorem c20q {t : TP} {br : Bool} (hd : DQ B0 B1 w b D) (hok : DOk n D) (h : TJ B0 w jb b br t) (hs : t.size ≤ 1000000) (hk : ∀ w', Below w.heap.size w w' → k (I ((n : Int) - t.size)) w') : callW Tryz.prog (.func (.func 20) #[] #[]) #[.pointer (some ⟨jb, 0, none⟩)] k w := by
  obtain ⟨dv, vv, hd, _⟩ := hd
  exact c20d hd hok h hs hk
end
/-- a tape that was read, or appended to -/
def TpOk (n : Nat) (t : TP) : Prop := ∃ l, t = tpOf l ∧ (∀ r ∈ l, r.size ≤ 65536) ∧ t.size ≤ n
theorem TpOk.tok {n : Nat} {t : TP} (h : TpOk n t) : TOk n t := by
  obtain ⟨l, rfl, _, h⟩ := h; exact tpOf_ok l h
theorem op_tape {n : Nat} {D : DK} {t : TP} (hok : DOk n D) (ht : TOk n t) (h : (opJ n D).2.2 = some t) : TpOk n t := by
  unfold opJ at h
  split at h
  · cases h
  · split at h
    · cases h
    · next t' hl =>
      obtain ⟨l, h1, h2⟩ := ldF_more _ _ _ _ hl
      have : t' = t := by
        split at h
        · cases h; rfl
        · split at h <;> cases h
          rfl
      subst this
      exact ⟨l, h1, h2, ht.size⟩
theorem coh_ap2 {n : Nat} {D : DK} (h : Coh n D) {o : Nat} {s : ByteArray} (ho : o + s.size ≤ n) : Coh n (ap2 D o s).2 ∧ (ap2 D o s).2.pend.length ≤ D.pend.length + 1 := by
  have h1 := h.wr ho
  unfold ap2
  split
  · exact ⟨h, by simp⟩
  · split
    · exact ⟨h1, by show (wrD D o s).pend.length ≤ _; rw [wr_pend, List.length_append]; simp⟩
    · exact ⟨h1.sync, by simp [syncD]⟩
theorem coh_op {n : Nat} {D : DK} (h : Coh n D) : Coh n (opJ n D).2.1 ∧ (opJ n D).2.1.pend.length ≤ D.pend.length + 1 := by
  unfold opJ
  split
  · exact ⟨h, by simp⟩
  · split
    · exact ⟨h, by simp⟩
    · next t hl =>
      have hts : n < t.size ∨ t.size ≤ n := Nat.lt_or_ge _ _
      split
      · exact ⟨h, by simp⟩
      · next hz =>
        have hsz : t.size ≤ n := by
          rcases hts.symm with h1 | h1
          · exact h1
          · exfalso; apply hz
            intro x hx
            rw [List.drop_of_length_le (by rw [h.ok.vis]; omega)] at hx
            cases hx
        have := coh_ap2 h (o := t.size) (s := zeroB (n - t.size)) (by rw [zeroB_size]; omega)
        split
        · exact this
        · exact this
theorem coh_ap {n : Nat} {D : DK} {t : TP} {br : Bool} {l : List ByteArray} (h : Coh n D) : Coh n (apJ n D t br l).2.1 ∧ (apJ n D t br l).2.1.pend.length ≤ D.pend.length + 1 := by
  unfold apJ
  split
  · exact ⟨h, by simp⟩
  · split
    · exact ⟨h, by simp⟩
    · next hf =>
      split
      · exact ⟨h, by simp⟩
      · next hl =>
        have hp := grpB_pos (t := t) hl
        have s1 : ((grpB t l).extract 1 (grpB t l).size).size = (grpB t l).size - 1 := by rw [ByteArray.size_extract]; omega
        have s2 : ((grpB t l).extract 0 1).size = 1 := by rw [ByteArray.size_extract]; omega
        have key : Coh n (ap4 D (t.size + 1) ((grpB t l).extract 1 (grpB t l).size) t.size ((grpB t l).extract 0 1)).2 ∧ (ap4 D (t.size + 1) ((grpB t l).extract 1 (grpB t l).size) t.size ((grpB t l).extract 0 1)).2.pend.length ≤ D.pend.length + 1 := by
          have h1 := h.wr (o := t.size + 1) (s := (grpB t l).extract 1 (grpB t l).size) (by omega)
          unfold ap4
          split
          · exact ⟨h, by simp⟩
          · split
            · exact ⟨h1, by show (wrD D _ _).pend.length ≤ _; rw [wr_pend, List.length_append]; simp⟩
            · obtain ⟨a, b⟩ := coh_ap2 h1.sync (o := t.size) (s := (grpB t l).extract 0 1) (by omega)
              exact ⟨a, by refine Nat.le_trans b ?_; simp [syncD]⟩
        split
        · exact key
        · exact key
end Go.Proofs.YtbojglaimdjagaaGreatDoor
/- Both journals: open, begin. -/
set_option linter.unusedSimpArgs false
set_option linter.unusedVariables false
set_option maxRecDepth 4000
namespace Go.Proofs.YtbojglaimdjagaaGreatDoor
open Go Go.V Go.RowKit
theorem RJ.g {B B' b : Nat} {w w' : World} {D : DK} (h : RJ B w b D) {ts : List Nat} (ho : OffG ts B' w w') (h1 : 67 ∉ ts) (h2 : 5 ∉ ts) (h3 : 100 ∉ ts) : RJ B w' b D :=
  h.coff ho fun x t q1 q2 q3 ⟨_, t', r1, r2⟩ => by
    have := Tag.uniq q1 r1
    subst this
    simp only [rT, List.mem_cons, List.not_mem_nil, or_false] at q3
    rcases q3 with rfl | rfl | rfl
    · exact h1 r2
    · exact h2 r2
    · exact h3 r2
/-- both disks -/
structure PW (B0 B1 n : Nat) (w : World) (wb b rb : Nat) (D : DK) (jv kv : Value) : Prop where
  row : RowAt w wb 32 [.pointer (some ⟨b, 0, none⟩), jv, .pointer (some ⟨rb, 0, none⟩), kv]
  base : B1 ≤ wb
  dq : DQ B0 B1 w b D
  rj : RJ B1 w rb D
  coh : Coh n D
/-- both journals -/
def JP (B0 B1 n : Nat) (w : World) (b rb : Nat) (jv kv : Value) : Option (TP × Bool) → Prop
  | none => jv = .pointer none ∧ kv = .pointer none
  | some (t, br) => ∃ jb kb, jv = .pointer (some ⟨jb, 0, none⟩) ∧ kv = .pointer (some ⟨kb, 0, none⟩) ∧ TJ B0 w jb b br t ∧ KJ B1 w kb rb br t ∧ TpOk n t
theorem JP.below {B0 B1 n b rb : Nat} {w w' : World} {jv kv : Value} {o : Option (TP × Bool)} (h : JP B0 B1 n w b rb jv kv o) (hb : Below w.heap.size w w') : JP B0 B1 n w' b rb jv kv o := by
  match o, h with
  | none, h => exact h
  | some (t, br), ⟨jb, kb, h1, h2, h3, h4, h5⟩ => exact ⟨jb, kb, h1, h2, h3.below hb, h4.below hb, h5⟩
theorem PW.below {B0 B1 n wb b rb : Nat} {w w' : World} {D : DK} {jv kv : Value} (h : PW B0 B1 n w wb b rb D jv kv) (hb : Below w.heap.size w w') : PW B0 B1 n w' wb b rb D jv kv := ⟨h.row.below hb, h.base, h.dq.below hb, h.rj.below hb, h.coh⟩
section
variable {k : Value → World → Prop} {w : World} {B0 B1 n wb b rb : Nat} {D : DK} {jv kv : Value}
theorem w_eqlB {t : TypeId} {ox oy : Operand} {a b : Bool} (h : Tryz.prog.underlying t = some .bool) : opW Tryz.prog (binS .eql t ox oy (.bool a) (.bool b)) k w = k (.bool (decide (a = b))) w := opW_ok (by
  have hd : Op.maxDepth = 9999 + 1 := rfl
  have h1 : (Op.equal t (.bool a) (.bool b)).run Tryz.prog w = .ok (decide (a = b)) w := by
    unfold Op.equal
    rw [hd]
    unfold Op.equalIn
    rw [Sem.run_bind, run_underlying h]
    cases a <;> cases b <;> rfl
  simp [binS, eqGuard, binOp, h1, Sem.run_bind, Result.andThen])
set_option maxHeartbeats 1000000 in
theorem c17 (hg : Gl w) (hB0 : 3 < B0) (h01 : B0 ≤ B1) (hBw : B1 ≤ w.heap.size) (h : PW B0 B1 n w wb b rb D jv kv) (hpl : D.pend.length ≤ 1000)
    (hk : ∀ w' jv' kv', PW B0 B1 n w' wb b rb (opJ n D).2.1 jv' kv' → JP B0 B1 n w' b rb jv' kv' ((opJ n D).2.2.map fun t => (t, false)) → Below B0 w w' → k (.bool true) w') : callW Tryz.prog (.func (.func 17) #[] #[]) #[.pointer (some ⟨wb, 0, none⟩)] k w := C17 _ _ _ (by
  unfold S17
  have hBw0 := Nat.le_trans h01 hBw
  simp only [nilW_ptr]
  rw [rw32_0 (h.row.cell (i := 0) rfl)]
  refine c25q hg hBw0 h.dq h.coh.ok (by omega) fun w1 r1 hd1 ho1 hb1 hm1 => ?_
  have hr1 := ho1.row h.row (by decide)
  have hR1 := h.rj.q ho1
  obtain ⟨hc', hp'⟩ := coh_op h.coh
  have fin : ∀ w3 jv' kv' o, RowAt w3 wb 32 [.pointer (some ⟨b, 0, none⟩), jv, .pointer (some ⟨rb, 0, none⟩), kv] → DQ B0 B1 w3 b (opJ n D).2.1 → RJ B1 w3 rb (opJ n D).2.1 → JP B0 B1 n w3 b rb jv' kv' o → Below B0 w w3 → jv'.oneCell' = true → kv'.oneCell' = true →
      ∀ K : World → Prop, (∀ w', PW B0 B1 n w' wb b rb (opJ n D).2.1 jv' kv' → JP B0 B1 n w' b rb jv' kv' o → Below B0 w w' → K w') →
      opW Tryz.prog (Instr.fieldAt 32 (.pointer (some ⟨wb, 0, none⟩)) 1) (fun p w => opU Tryz.prog (Instr.storeAt 28 p jv') (fun _ w => opW Tryz.prog (Instr.fieldAt 32 (.pointer (some ⟨wb, 0, none⟩)) 3) (fun p w => opU Tryz.prog (Instr.storeAt 30 p kv') (fun _ w => K w) w) w) w) w3 := fun w3 jv' kv' o g1 g2 g3 g4 g5 g6 g7 K hK => by
    rw [fl32_1, st28 g6 (g1.cell (i := 0 + 1) rfl) (g1.free _)]
    have hof4 : OffG [32] B1 w3 (w3.setCell ⟨wb, 0 + 1, none⟩ jv') := OffG.one g1 h.base (by decide) (Off.set (p := fun x => x = wb) rfl)
    have hr4 := g1.set 1 jv'
    replace hr4 : RowAt (w3.setCell ⟨wb, 0 + 1, none⟩ jv') wb 32 [.pointer (some ⟨b, 0, none⟩), jv', .pointer (some ⟨rb, 0, none⟩), kv] := hr4
    have hb4 : Below B0 w (w3.setCell ⟨wb, 0 + 1, none⟩ jv') := g5.setCell (Nat.le_trans h01 h.base) _
    rw [fl32_3, st30 g7 (hr4.cell (i := 0 + 3) rfl) (hr4.free _)]
    have hof5 : OffG [32] B1 (w3.setCell ⟨wb, 0 + 1, none⟩ jv') ((w3.setCell ⟨wb, 0 + 1, none⟩ jv').setCell ⟨wb, 0 + 3, none⟩ kv') := OffG.one hr4 h.base (by decide) (Off.set (p := fun x => x = wb) rfl)
    have hr5 := hr4.set 3 kv'
    have ho := hof4.trans hof5
    refine hK _ ⟨hr5, h.base, g2.ref ho (by decide) (by decide), g3.g ho (by decide) (by decide) (by decide), hc'⟩ ?_ (hb4.setCell (Nat.le_trans h01 h.base) _)
    match o, g4 with
    | none, q => exact q
    | some (t, br), ⟨jb, kb, q1, q2, q3, q4, q5⟩ => exact ⟨jb, kb, q1, q2, q3.ref ho (by decide) (by decide), q4.off ho (by decide) (by decide), q5⟩
  cases hop : (opJ n D).2.2 with
  | none =>
    rw [hop] at hm1
    obtain ⟨rfl, hne⟩ := hm1
    rw [ex0, ex1, rw32_2 (hr1.cell (i := 0 + 2) rfl)]
    refine c50 hR1 h.coh hpl (Nat.le_trans hBw ho1.size) fun w2 r2 hR2 ho2 hb2 hm2 => ?_
    rw [hop] at hm2
    subst hm2
    rw [ex0, ex1]
    refine fin w2 (.pointer none) (.pointer none) none (ho2.row hr1 (by decide)) (hd1.ref ho2 (by decide) (by decide)) hR2 ⟨rfl, rfl⟩ (hb1.trans (hb2.mono h01)) rfl rfl _ fun w3 g1 g2 g3 => ?_
    rw [w_eql, decide_eq_true rfl]
    simp only [guardW_tt, pickW_true]
    rw [w_neq, decide_eq_false hne, eqP28n]
    simp only [guardW_tt, pickW_true, Bool.not_false]
    rw [w_eqlB (by kernel_rfl)]
    exact hk _ _ _ g1 (by rw [hop]; exact g2) g3
  | some t =>
    rw [hop] at hm1
    obtain ⟨h0, htok, jb, rfl, hj1⟩ := hm1
    rw [ex0, ex1, rw32_2 (hr1.cell (i := 0 + 2) rfl)]
    refine c50 hR1 h.coh hpl (Nat.le_trans hBw ho1.size) fun w2 r2 hR2 ho2 hb2 hm2 => ?_
    rw [hop] at hm2
    obtain ⟨_, kb, rfl, hk2⟩ := hm2
    rw [ex0, ex1]
    refine fin w2 (.pointer (some ⟨jb, 0, none⟩)) (.pointer (some ⟨kb, 0, none⟩)) (some (t, false)) (ho2.row hr1 (by decide)) (hd1.ref ho2 (by decide) (by decide)) hR2 ⟨jb, kb, rfl, rfl, (hj1.lower hBw0).ref ho2 (by decide) (by decide), hk2.lower (Nat.le_trans hBw ho1.size), op_tape h.coh.ok htok hop⟩ (hb1.trans (hb2.mono h01)) rfl rfl _ fun w3 g1 g2 g3 => ?_
    rw [w_eql, decide_eq_true rfl]
    simp only [guardW_tt, pickW_true]
    rw [w_neq, decide_eq_true rfl, eqP28]
    simp only [guardW_tt, pickW_true, Bool.not_true]
    rw [w_eqlB (by kernel_rfl)]
    exact hk _ _ _ g1 (by rw [hop]; exact g2) g3)
theorem b32 {a1 a2 : Addr} : opW Tryz.prog (Instr.build 32 #[(0, .pointer (some a1)), (2, .pointer (some a2))]) k w = k (.agg ([.pointer (some a1), .pointer none, .pointer (some a2), .pointer none] : List Value).toArray) w := opW_ok (by kernel_rfl)
theorem c9b {m : Int} (hg : Gl w) (hm : in64 m) (hB0 : 3 < B0) (hBw : B0 ≤ w.heap.size)
    (hk : ∀ w' wb b rb B1 jv kv, B0 ≤ B1 → B1 ≤ w'.heap.size → PW B0 B1 (szN m) w' wb b rb (newD (szN m)) jv kv → JP B0 B1 (szN m) w' b rb jv kv (some (tpOf [], false)) → Below B0 w w' → k (.tuple #[.pointer (some ⟨wb, 0, none⟩), .bool true]) w') : callW Tryz.prog (.func (.func 9) #[] #[]) #[I m] k w := C9 _ _ _ (by
  unfold S9
  obtain ⟨z1, z2, z3⟩ := szN_in (n := m)
  refine c15 hm ?_
  refine c24d (n := szN m) z1 (by omega) fun b dv vv w1 hb1 hd1 => ?_
  rw [ex0, ex1]
  refine c15 hm ?_
  have hs1 := hb1.size
  obtain ⟨pv, hdd⟩ := id hd1
  have hq1 : DQ B0 w1.heap.size w1 b (newD (szN m)) := ⟨dv, vv, ⟨pv, hdd.lower hBw⟩, fun x hx => by
    rcases hx with hx | hx
    · exact (hdd.lt (.inr (.inl hx))).2
    · exact (hdd.lt (.inr (.inr (.inl hx)))).2⟩
  refine c33 (n := szN m) z1 (by omega) fun rb w2 hb2 hr2 => ?_
  rw [ex0, ex1, b32]
  refine w_boxN fun w3 hb3 _ hr3 => ?_
  have hG := gd_open (gd_new (n := szN m) z1 (by omega))
  have hb13 := below_trans hb2 hb3
  have hb03 : Below B0 w w3 := (hb1.mono hBw).trans (hb13.mono (Nat.le_trans hBw hs1))
  have hPW : PW B0 w1.heap.size (szN m) w3 w2.heap.size b rb (newD (szN m)) (.pointer none) (.pointer none) := ⟨hr3, hb2.size, hq1.below hb13, hr2.below hb3, Coh.new z1 (by omega)⟩
  refine c17 (hg.below hb03 hB0) hB0 (Nat.le_trans hBw hs1) hb13.size hPW (by simp [newD]) fun w4 jv kv hp4 hj4 hb4 => ?_
  rw [hG] at hp4 hj4
  exact hk _ _ _ _ _ _ _ (Nat.le_trans hBw hs1) (Nat.le_trans hb13.size hb4.size) hp4 hj4 (hb03.trans hb4))
end
end Go.Proofs.YtbojglaimdjagaaGreatDoor
/- The walk of JournalOpensAnything. -/
set_option linter.unusedSimpArgs false
set_option linter.unusedVariables false
set_option maxRecDepth 4000
namespace Go.Proofs.YtbojglaimdjagaaGreatDoor
open Go Go.V Go.RowKit
/-- power for ever -/
def Pw (D : DK) : Prop := D.off = false ∧ D.left = 0
theorem pw_wr {D : DK} {o : Nat} {s : ByteArray} (h : Pw D) : Pw (wrD D o s) := by
  rw [wrD_zero h.2]; exact h
theorem pw_op {n : Nat} {D : DK} (h : Pw D) : Pw (opJ n D).2.1 := by
  have h2 : ∀ o s, Pw (ap2 D o s).2 := fun o s => by
    unfold ap2
    have h1 := pw_wr (o := o) (s := s) h
    rw [if_neg (by rw [h.1]; simp), if_neg (by rw [h1.1]; simp)]
    exact h1
  unfold opJ
  split
  · exact h
  · split
    · exact h
    · split
      · exact h
      · split
        · exact h2 _ _
        · exact h2 _ _
theorem pw_ap {n : Nat} {D : DK} {l m : List ByteArray} (h : Gd n D l) (hs : ∀ r ∈ m, r.size ≤ 65536) : Pw (apJ n D (tpOf l) false m).2.1 := by
  rcases hl_append h.hl hs with ⟨D', he, hH, hz⟩ | he | ⟨hne, _⟩
  · rw [he]; exact ⟨hH.on, hz h.rest.left⟩
  · rw [he]; exact ⟨h.rest.on, h.rest.left⟩
  · exact absurd h.rest.left hne
abbrev uT : List Nat := [97, 92, 74, 5, 67, 100, 43]
theorem OffQ.u {B0 B1 : Nat} {w w' : World} (h : OffQ B0 B1 w w') : OffG uT B0 w w' := Off.mono h fun x _ ⟨t, h1, h2, h3⟩ => ⟨h2, t, h1, by
  rcases h3 with h3 | ⟨rfl, _⟩
  · simp only [List.mem_cons, List.not_mem_nil, or_false] at h3 ⊢
    omega
  · decide⟩
theorem OffG.u {ts : List Nat} {B0 B1 : Nat} {w w' : World} (h : OffG ts B1 w w') (hB : B0 ≤ B1) (hs : ∀ t ∈ ts, t ∈ uT) : OffG uT B0 w w' := Off.mono h fun x _ ⟨h1, t, h2, h3⟩ => ⟨Nat.le_trans hB h1, t, h2, hs t h3⟩
section
variable {k : Value → World → Prop} {w : World} {K : Value → Prop} {S : World → Prop}
theorem t_eqP28 {ox oy : Operand} {a : Addr} : takeW Tryz.prog S (binS .eql 28 ox oy (.pointer (some a)) (.pointer none)) K w = K (.bool false) := takeW_pure fun w => run_of_eq fun k => eqP28
theorem t_eqP28n {ox oy : Operand} : takeW Tryz.prog S (binS .eql 28 ox oy (.pointer none) (.pointer none)) K w = K (.bool true) := takeW_pure fun w => run_of_eq fun k => eqP28n
set_option maxHeartbeats 4000000 in
theorem c3 {lv : Value} {s : ByteArray} {l : List ByteArray} {n a : Int} {c : UInt8} (hg : Gl w) (hn : in64 n) (hs : s.size ≤ maxLen) (hl : IsSl fT w lv l) (hll : l.length ≤ maxLen) (hls : ∀ s ∈ l, s.size ≤ maxLen) (ha : in64 a) (hk : ∀ w', Below w.heap.size w w' → k (.bool true) w') :
    S3 (I n) (.string s) lv (I a) (.int .u8 (c.toNat : Int)) k w := by
  unfold S3
  have hml : maxLen ≤ 9223372036854775807 := by decide
  have hml0 : 1000000000 ≤ maxLen := by decide
  have hB : 3 < w.heap.size := hg.2.1
  refine c8 hg fun w1 hb1 => ?_
  refine c9b (hg.below hb1 hB) hn hB hb1.size fun w2 wb b rb B1 jv kv h01 hB1 hPW hJP hb2 => ?_
  replace hb2 := hb1.trans hb2
  obtain ⟨z1, z2, z3⟩ := szN_in (n := n)
  rw [ex0, ex1, w_not]
  simp only [Bool.not_true]
  rw [condW_false]
  refine joinW_use0 (fun w' => ∃ D jv kv, PW w.heap.size B1 (szN n) w' wb b rb D jv kv ∧ Pw D ∧ D.pend.length ≤ 10 ∧ B1 ≤ w'.heap.size ∧ Below w.heap.size w w') ?_ ?_
  · clear hPW hJP hb2 hB1 hb1
    clear jv kv w2 w1
    rintro w3 ⟨D, jv, kv, hPW, hpw, hpl, hB1, hb3⟩
    refine c17 (hg.below hb3 hB) hB h01 hB1 hPW (by omega) fun w4 jv' kv' hPW4 hJP4 hb4 => ?_
    have hB15 : B1 ≤ w4.heap.size := Nat.le_trans hB1 hb4.size
    replace hb4 := hb3.trans hb4
    have hpw4 := pw_op (n := szN n) hpw
    have hpl4 := (coh_op hPW.coh).2
    generalize (opJ (szN n) D).2.1 = D4 at *
    generalize (opJ (szN n) D).2.2 = o4 at *
    rw [drewW_eq]
    replace hPW4 := hPW4.below (below_drew w4)
    replace hJP4 := hJP4.below (below_drew w4)
    replace hb4 := hb4.trans ((below_drew w4).mono hb4.size)
    replace hB15 := Nat.le_trans hB15 (below_drew w4).size
    generalize w4.drew = w5 at *
    have ho : Off (fun _ => False) w5 w5 := Off.refl _ _
    refine ⟨Off (fun _ => False) w5, ho, ?_⟩

    simp only [guardT_tt, pickT_true, nilT_ptr]
    rw [tfl32_1, r_loadO agg28 known28 (hPW4.row.cell (i := 0 + 1) rfl) (fun h => h) ho]
    match o4, hJP4 with
    | none, ⟨e1, e2⟩ =>
      subst e1 e2
      rw [t_eqP28n]
      simp only [guardT_tf, guardT_u, guardT_ft, pickT_true, pickT_false, guardW_tf, guardW_u, guardW_ft, keepS_eq, guardT_tt, guardW_tt]
      exact ⟨ho, ho, ho, ho, ho, ho, hk _ hb4⟩
    | some t4, ⟨jb, kb, e1, e2, hj4, hk4, htp⟩ =>
      subst e1 e2
      rw [t_eqP28]
      simp only [guardT_tf, guardT_ff, guardT_tt, guardT_u, pickT_true, pickT_false, guardW_ff, guardW_tt, nilT_ptr]
      obtain ⟨lv4, hkR⟩ := id hk4
      have htok := htp.tok
      have hts := htok.size
      have htr := htok.recs
      rw [tfl32_1, r_loadO agg28 known28 (hPW4.row.cell (i := 0 + 1) rfl) (fun h => h) ho, tfl32_3, r_loadO agg30 known30 (hPW4.row.cell (i := 0 + 3) rfl) (fun h => h) ho]
      simp only [nilT_ptr]
      rw [tfl43_1, r_loadO agg22 known22 (hkR.row.cell (i := 0 + 1) rfl) (fun h => h) ho]
      refine c19d hj4 (by omega) fun v6 w6 hb6 hm6 => ?_
      rw [keepS_eq]
      refine ⟨Off.below hb6, ?_⟩
      refine c18 hm6.sl (hkR.recs.below hb6).sl (by omega) fun w7 hb7 => ?_
      replace hb7 := below_trans hb6 hb7
      have ho7 : Off (fun _ => False) w5 w7 := Off.below hb7
      rw [decide_eq_true rfl, keepS_eq]
      refine ⟨ho7, ?_⟩
      simp only [guardT_tt, guardW_tt, nilT_ptr]
      rw [tfl32_1, r_loadO agg28 known28 (hPW4.row.cell (i := 0 + 1) rfl) (fun h => h) ho7, tfl32_3, r_loadO agg30 known30 (hPW4.row.cell (i := 0 + 3) rfl) (fun h => h) ho7]
      refine c20q (hPW4.dq.below hb7) hPW4.coh.ok (hj4.below hb7) (by omega) fun w8 hb8 => ?_
      replace hb8 := below_trans hb7 hb8
      rw [keepS_eq]
      refine ⟨Off.below hb8, ?_⟩
      refine c21 (hPW4.rj.below hb8) hPW4.coh.ok.dur (by omega) (hk4.below hb8) (by omega) fun w9 hb9 => ?_
      replace hb9 := below_trans hb8 hb9
      have ho9 : Off (fun _ => False) w5 w9 := Off.below hb9
      rw [keepS_eq]
      refine ⟨ho9, ?_⟩
      rw [takeW_pure fun w => run_of_eq fun k => w_eql, decide_eq_true rfl]
      simp only [guardT_tt, guardW_tt, nilT_ptr, pickT_true]
      rw [tfl32_0, r_loadO agg27 known27 (hPW4.row.cell (i := 0) rfl) (fun h => h) ho9, tfl32_2, r_loadO agg29 known29 (hPW4.row.cell (i := 0 + 2) rfl) (fun h => h) ho9]
      refine c22q (hPW4.dq.below hb9) hPW4.coh.ok hpw4.1 ?_
      rw [keepS_eq]
      refine ⟨ho9, ?_⟩
      obtain ⟨rsv, rlv, hRR⟩ := hPW4.rj.below hb9
      refine c23 hRR hPW4.coh.ok hPW4.coh.po (by omega) (Nat.le_trans hB15 hb9.size) fun v10 w10 hb10 hm10 => ?_
      rw [keepS_eq]
      refine ⟨Off.below (below_trans hb9 hb10), ?_⟩
      rw [← hPW4.coh.vis] at hm10
      have hvl := hPW4.coh.ok.vis
      rw [takeW_same (run_of_eq fun k => w_toStr (e := 5) (by kernel_rfl) (by kernel_rfl) (by kernel_rfl) hm10.sl (fun hh => by rw [hh] at hvl; simp at hvl; omega)), t_eqlStr (by kernel_rfl), decide_eq_true rfl]
      try simp only [pickT_true, pickT_false, guardT_tt, guardT_ff]
      exact hk _ (hb4.trans ((below_trans hb9 hb10).mono hb4.size))
  intro J hJ
  obtain ⟨jb, kb, rfl, rfl, hj2, hk2, htp2⟩ := hJP
  obtain ⟨hbase, hbb⟩ : w.heap.size ≤ B1 ∧ B1 ≤ w2.heap.size := ⟨h01, hB1⟩
  rw [len22 (hl.below hb2), w_gtr]
  have hG0 := gd_new (n := szN n) z1 (by omega)
  by_cases h0 : 0 < l.length
  · rw [decide_eq_true (by omega), condW_true, drewW_eq]
    have hdr := below_drew w2
    replace hPW := hPW.below hdr
    replace hj2 := hj2.below hdr
    replace hk2 := hk2.below hdr
    replace hb2 := hb2.trans (hdr.mono hb2.size)
    replace hB1 := Nat.le_trans hB1 hdr.size
    clear hbb
    generalize w2.drew = w3 at *
    have ho : OffG uT w.heap.size w3 w3 := OffG.refl _ _ _
    have nx : ∀ w', OffG uT w.heap.size w3 w' → ¬ tgP uT w.heap.size w3 wb := fun _ _ ⟨_, t', q1, q2⟩ => by
      have := Tag.uniq q1 hPW.row.tag
      subst this; revert q2; decide
    refine ⟨Off (tgP uT w.heap.size w3) w3, ho, ?_⟩
    simp only [nilT_ptr]
    rw [tfl32_1, r_loadO (p := tgP uT w.heap.size w3) agg28 known28 (hPW.row.cell (i := 0 + 1) rfl) (nx _ ho) ho, t_eqP28]
    simp only [guardT_ff, guardW_ff, pickT_false, nilT_ptr]
    rw [tfl32_1, r_loadO (p := tgP uT w.heap.size w3) agg28 known28 (hPW.row.cell (i := 0 + 1) rfl) (nx _ ho) ho, tfl32_3, r_loadO (p := tgP uT w.heap.size w3) agg30 known30 (hPW.row.cell (i := 0 + 3) rfl) (nx _ ho) ho]
    obtain ⟨f1, f2⟩ := fewL_ok (l := l)
    have f3 : ∀ r ∈ fewL l, r.size ≤ 65536 := fun r hr => by have := f2 r hr; omega
    refine c11 (hl.below hb2) hll fun v4 w4 hb4 hm4 => ?_
    rw [keepS_eq]
    refine ⟨OffG.below hb4, ?_⟩
    have hb04 := hb2.trans (hb4.mono hb2.size)
    refine c10q (hg.below hb04 hB) hB hb04.size (hPW.dq.below hb4) hPW.coh.ok (by simp [newD]) (hj2.below hb4) htp2.tok hm4.sl (by omega) fun w5 hd5 hj5 ho5 hb5 => ?_
    have hu5 : OffG uT w.heap.size w3 w5 := (OffG.below hb4).trans ho5.u
    have hb05 := hb04.trans hb5
    rw [keepS_eq]
    refine ⟨hu5, ?_⟩
    have hR5 := (hPW.rj.below hb4).q ho5
    have hk5 := (hk2.below hb4).q ho5
    refine c11 (hl.below hb05) hll fun v6 w6 hb6 hm6 => ?_
    rw [keepS_eq]
    refine ⟨hu5.trans (OffG.below hb6), ?_⟩
    have hb06 := hb05.trans (hb6.mono hb05.size)
    have hB16 : B1 ≤ w6.heap.size := Nat.le_trans hB1 (Nat.le_trans hb4.size (Nat.le_trans ho5.size hb6.size))
    refine c12 (l0 := []) (hR5.below hb6) hPW.coh (by simp [newD]) hB16 (hk5.below hb6) (by simp) (by simp) htp2.tok.size hm6 (by omega) f2 fun w7 hR7 hk7 ho7 hb7 => ?_
    have hb07 := hb06.trans (hb7.mono h01)
    have hu7 : OffG uT w.heap.size w3 w7 := (hu5.trans (OffG.below hb6)).trans (ho7.u h01 (by decide))
    have hd7 := (hd5.below hb6).ref ho7 (by decide) (by decide)
    have hrow7 := hu7.row hPW.row (by decide)
    rw [keepS_eq]
    refine ⟨hu7, ?_⟩
    rw [takeW_pure fun w => run_of_eq fun k => w_neq, decide_eq_true rfl]
    simp only [Bool.not_true, pickT_false]
    rw [condW_false]
    have hc1 := coh_ap (t := tpOf []) (br := false) (l := fewL l) hPW.coh
    have hpw1 := pw_ap hG0 f3
    have hB17 := Nat.le_trans hB16 ho7.size
    have hpl1 : (apJ (szN n) (newD (szN n)) (tpOf []) false (fewL l)).2.1.pend.length ≤ 1 := by
      have := hc1.2
      simp [newD] at this ⊢
      exact this
    generalize (apJ (szN n) (newD (szN n)) (tpOf []) false (fewL l)).2.1 = D1 at *
    have hbw := hPW.base
    clear hj2 hk2 hj5 hk5 hk7 hPW hd5 hR5
    obtain ⟨hc1, _⟩ := hc1
    have hpk := pkN_in (c := a) (n := (szN n : Int)) (by omega)
    obtain ⟨kk, hkk⟩ : ∃ kk : Nat, pkN a (szN n : Int) = (kk : Int) := ⟨(pkN a (szN n : Int)).toNat, by omega⟩
    have h1s : (⟨[c].toArray⟩ : ByteArray).size = 1 := rfl
    have hc2 := hc1.wr (o := kk) (s := ⟨[c].toArray⟩) (by omega)
    refine joinW_use0 (fun w' => DQ w.heap.size B1 w' b (wrD D1 kk ⟨[c].toArray⟩) ∧ RJ B1 w' rb D1 ∧ RowAt w' wb 32 [.pointer (some ⟨b, 0, none⟩), .pointer (some ⟨jb, 0, none⟩), .pointer (some ⟨rb, 0, none⟩), .pointer (some ⟨kb, 0, none⟩)] ∧ B1 ≤ wb ∧ B1 ≤ w'.heap.size ∧ Below w.heap.size w w') ?_ ?_
    · rintro w8 ⟨q1, q2, q3, qb, q4, q5⟩
      refine joinW_use0 _ (fun w h => hJ w h) ?_
      intro J2 hJ2
      rw [drewW_eq]
      have hdr := below_drew w8
      replace q1 := q1.below hdr
      replace q2 := q2.below hdr
      replace q3 := q3.below hdr
      replace q5 := q5.trans (hdr.mono q5.size)
      replace q4 := Nat.le_trans q4 hdr.size
      generalize w8.drew = w9 at *
      have ho9 : Off (fun _ => False) w9 w9 := Off.refl _ _
      refine ⟨Off (fun _ => False) w9, ho9, ?_⟩
      try simp only [nilT_ptr]
      rw [tfl32_2, r_loadO agg29 known29 (q3.cell (i := 0 + 2) rfl) (fun h => h) ho9]
      have fin : ∀ w' : World, Below w9.heap.size w9 w' → callW Tryz.prog (.func (.func 16) #[] #[]) #[.pointer (some ⟨rb, 0, none⟩), I kk, .string ⟨[c].toArray⟩] (fun _ w => J2 w) w' := fun w' hb' => by
        refine c16 (q2.below hb') hc1.ok (by omega) (by omega) (Nat.le_trans q4 hb'.size) (fun h => by rw [hpw1.1] at h; cases h) fun _ w10 hR10 ho10 hb10 => ?_
        exact hJ2 _ ⟨_, _, _, ⟨ho10.row (q3.below hb') (by decide), qb, (q1.below hb').ref ho10 (by decide) (by decide), hR10, hc2⟩, pw_wr hpw1, by rw [wr_pend, List.length_append]; simp; omega, Nat.le_trans q4 (Nat.le_trans hb'.size ho10.size), (q5.trans (hb'.mono q5.size)).trans (hb10.mono h01)⟩
      repeat' first
        | (rw [keepS_eq]; refine ⟨Off.refl _ _, ?_⟩)
        | (rw [keepS_eq]; refine ⟨Off.below (by assumption), ?_⟩)
        | refine c15 hn ?_
        | refine c14 ha (by omega) ?_
        | refine w_parts (F := fB) (l := [c]) sty39 rfl (by decide) (by decide) (by kernel_rfl) rfl fun wq hbq _ hmq => ?_
        | rw [takeW_same (run_of_eq fun k => w_toStr (e := 5) (by kernel_rfl) (by kernel_rfl) (by kernel_rfl) (Mine.sl (by assumption)) (by simp))]
        | (rw [hkk]; exact fin _ (by assumption))
        | refine ⟨?_, ?_⟩
    intro J2 hJ2
    rw [drewW_eq]
    have hdr := below_drew w7
    replace hd7 := hd7.below hdr
    replace hR7 := hR7.below hdr
    replace hrow7 := hrow7.below hdr
    replace hb07 := hb07.trans (hdr.mono hb07.size)
    replace hB17 := Nat.le_trans hB17 hdr.size
    generalize w7.drew = w8 at *
    have ho8 : Off (fun _ => False) w8 w8 := Off.refl _ _
    refine ⟨Off (fun _ => False) w8, ho8, ?_⟩
    try simp only [nilT_ptr]
    rw [tfl32_0, r_loadO agg27 known27 (hrow7.cell (i := 0) rfl) (fun h => h) ho8]
    have fin : ∀ w' : World, Below w8.heap.size w8 w' → callW Tryz.prog (.func (.func 13) #[] #[]) #[.pointer (some ⟨b, 0, none⟩), I kk, .string ⟨[c].toArray⟩] (fun _ w => J2 w) w' := fun w' hb' => by
      refine c13q (Nat.le_trans hb07.size hb'.size) (hd7.below hb') hc1.ok hpw1.1 (by omega) (by omega) fun w10 hd10 _ ho10 hb10 => ?_
      exact hJ2 _ ⟨hd10, (hR7.below hb').q ho10, ho10.row (hrow7.below hb') (by decide), hbw, Nat.le_trans hB17 (Nat.le_trans hb'.size ho10.size), (hb07.trans (hb'.mono hb07.size)).trans hb10⟩
    repeat' first
      | (rw [keepS_eq]; refine ⟨Off.refl _ _, ?_⟩)
      | (rw [keepS_eq]; refine ⟨Off.below (by assumption), ?_⟩)
      | refine c15 hn ?_
      | refine c14 ha (by omega) ?_
      | refine w_parts (F := fB) (l := [c]) sty39 rfl (by decide) (by decide) (by kernel_rfl) rfl fun wq hbq _ hmq => ?_
      | rw [takeW_same (run_of_eq fun k => w_toStr (e := 5) (by kernel_rfl) (by kernel_rfl) (by kernel_rfl) (Mine.sl (by assumption)) (by simp))]
      | (rw [hkk]; exact fin _ (by assumption))
      | refine ⟨?_, ?_⟩
  · rw [decide_eq_false (by omega), condW_false, drewW_eq]
    have hdr := below_drew w2
    replace hPW := hPW.below hdr
    replace hb2 := hb2.trans (hdr.mono hb2.size)
    replace hB1 := Nat.le_trans hB1 hdr.size
    clear hbb hj2 hk2
    generalize w2.drew = w3 at *
    have hpw0 : Pw (newD (szN n)) := ⟨rfl, rfl⟩
    have hc0 := hPW.coh
    have ho3 : Off (fun _ => False) w3 w3 := Off.refl _ _
    refine ⟨Off (fun _ => False) w3, ho3, ?_⟩
    simp only [nilT_ptr]
    rw [tfl32_0, r_loadO agg27 known27 (hPW.row.cell (i := 0) rfl) (fun h => h) ho3, t_lenStr (by kernel_rfl)]
    refine c15 hn ?_
    rw [keepS_eq]
    refine ⟨ho3, ?_⟩
    have hmn : (if ((szN n : Nat) : Int) < (s.size : Int) then ((szN n : Nat) : Int) else (s.size : Int)) = ((min s.size (szN n) : Nat) : Int) := by split <;> omega
    rw [t_min, hmn, t_headStr (by kernel_rfl) (by omega) (by omega), Int.toNat_natCast]
    have hsz : (s.extract 0 (min s.size (szN n))).size ≤ szN n := by rw [ByteArray.size_extract]; omega
    obtain ⟨x, hx⟩ : ∃ x, s.extract 0 (min s.size (szN n)) = x := ⟨_, rfl⟩
    rw [hx] at hsz ⊢
    have hc2 := hc0.wr (o := 0) (s := x) (by omega)
    have hpl0 : (newD (szN n)).pend.length ≤ 0 := Nat.le_refl _
    have hpl2 : (wrD (newD (szN n)) 0 x).pend.length ≤ 10 := by rw [wr_pend, List.length_append]; simp; omega
    have hpw2 := pw_wr (o := 0) (s := x) hpw0
    refine c13q (o := 0) hb2.size hPW.dq hc0.ok hpw0.1 (by omega) (by omega) fun w4 hd4 _ ho4 hb4 => ?_
    have hR4 := hPW.rj.q ho4
    have hrow4 := ho4.row hPW.row (by decide)
    replace hb4 := hb2.trans hb4
    have hB4 := Nat.le_trans hB1 ho4.size
    have hbase := hPW.base
    rw [drewW_eq]
    have hdr4 := below_drew w4
    replace hd4 := hd4.below hdr4
    replace hR4 := hR4.below hdr4
    replace hrow4 := hrow4.below hdr4
    replace hb4 := hb4.trans (hdr4.mono hb4.size)
    replace hB4 := Nat.le_trans hB4 hdr4.size
    clear ho4 hPW
    generalize w4.drew = w5 at *
    have ho5 : Off (fun _ => False) w5 w5 := Off.refl _ _
    refine ⟨Off (fun _ => False) w5, ho5, ?_⟩
    try simp only [nilT_ptr]
    rw [tfl32_2, r_loadO agg29 known29 (hrow4.cell (i := 0 + 2) rfl) (fun h => h) ho5, t_lenStr (by kernel_rfl)]
    refine c15 hn ?_
    rw [keepS_eq]
    refine ⟨ho5, ?_⟩
    rw [t_min, hmn, t_headStr (by kernel_rfl) (by omega) (by omega), Int.toNat_natCast, hx]
    refine c16 (o := 0) hR4 hc0.ok (by omega) (by omega) hB4 (fun h => by rw [hpw0.1] at h; cases h) fun _ w6 hR6 ho6 hb6 => ?_
    exact hJ _ ⟨_, _, _, ⟨ho6.row hrow4 (by decide), hbase, hd4.ref ho6 (by decide) (by decide), hR6, hc2⟩, hpw2, hpl2, Nat.le_trans hB4 ho6.size, hb4.trans (hb6.mono h01)⟩
end
end Go.Proofs.YtbojglaimdjagaaGreatDoor
/- JournalOpensAnything answers true for every input, and the input reads as it did; its card ties the four listed variables to the program's text: no condition of its own. -/
namespace Go.Proofs.YtbojglaimdjagaaGreatDoor.journalOpensAnything
open Go Go.V Go.ChangeShapes Go.WideShapes Go.ChangeAt Go.RowKit Go.Deep
set_option linter.unusedVariables false
theorem laid_met (os : Os) (args : Array Value) : laidMetH Tryz.prog Rows.journalOpensAnythingRow.laid ((laidWorld os).forCall (fun _ _ => 0) ⟨#[], args, []⟩).memory := laid_met0 os args
theorem witness_row (os : Os) {H : Type} (enc : TypeId × Value → H) :
    (OpenSpec.ofChange Rows.journalOpensAnythingSpec).preRow enc Tryz.prog Tryz.f3 Rows.journalOpensAnythingRow.domain false Rows.journalOpensAnythingRow.laid ((laidWorld os).forCall (fun _ _ => 0) ⟨#[], #[.int .i64 0, .string ⟨#[]⟩, .slice none 0 0, .int .i64 0, .int .u8 0], []⟩).memory #[.int .i64 0, .string ⟨#[]⟩, .slice none 0 0, .int .i64 0, .int .u8 0] := by
  have hw : (DataW.whole enc Tryz.prog ((laidWorld os).forCall (fun _ _ => 0) ⟨#[], #[.int .i64 0, .string ⟨#[]⟩, .slice none 0 0, .int .i64 0, .int .u8 0], []⟩).memory Tryz.f3.params.toList (OpenSpec.ofChange Rows.journalOpensAnythingSpec).vars false (#[.int .i64 0, .string ⟨#[]⟩, .slice none 0 0, .int .i64 0, .int .u8 0] : Array Value).toList 8).map (fun x => (x.1, x.2.1)) =
      some ([.lit (.int .i64 0), .lit (.string []), .nil, .lit (.int .i64 0), .lit (.int .u8 0)], []) := by kernel_rfl
  obtain ⟨⟨x1, x2, x3⟩, hx, hx1⟩ := Option.map_eq_some_iff.1 hw
  simp only [Prod.mk.injEq] at hx1
  obtain ⟨rfl, rfl⟩ := hx1
  exact OpenSpec.preRow_of_cond 8 hx (by kernel_rfl) (fun k hk => by cases hk) (by kernel_rfl) (laid_met os _)
set_option maxRecDepth 100000 in
theorem lifted (os : Os) (started : os.Started) (H : Type) (enc : TypeId × Value → H) (F : Stop.Interp) :
    ReturnsInHanded {} Tryz.checked os 3 .any ((OpenSpec.ofChange Rows.journalOpensAnythingSpec).preRow enc Tryz.prog Tryz.f3 Rows.journalOpensAnythingRow.domain false Rows.journalOpensAnythingRow.laid) (((OpenSpec.ofChange Rows.journalOpensAnythingSpec).at F).post enc Tryz.prog Tryz.f3 false true false false) := by
  refine returnsInHanded_of_row (C := Tryz.checked) (s := OpenSpec.ofChange Rows.journalOpensAnythingSpec) own started (by kernel_rfl) Tryz.func3
    (witness_row_atRef (enc := enc) (C := Tryz.checked) false (laidWorld os) #[.int .i64 0, .string ⟨#[]⟩, .slice none 0 0, .int .i64 0, .int .u8 0] rfl (by kernel_rfl) (by kernel_rfl) (by kernel_rfl) (witness_row os enc)) ?_
  intro W base args ds gs before hval0 hW _ _ _ hL _ _
  have hgl : Gl W := gl_of_laid rfl hL
  have hval : ∀ (j : Nat) t v, Tryz.f3.params[j]? = some t → args[j]? = some v → Value.okWide Tryz.prog W .any base t v := hval0
  have hW' := hW
  obtain ⟨p, q, hA0, hV, rfl, hfz, hnd⟩ := hW
  have hA : DataW.TrodAll enc Tryz.prog W 0 (fun _ => true) true Tryz.f3.params.toList args.toList ds p := hA0
  rw [Tryz.params3] at hA hval
  obtain ⟨v0, vs0, d0, ds0, p0, q0, hargs, rfl, rfl, h0, r0⟩ := trodAll_cons hA
  obtain ⟨v1, vs1, d1, ds1, p1, q1, rfl, rfl, rfl, h1, r1⟩ := trodAll_cons r0
  obtain ⟨v2, vs2, d2, ds2, p2, q2, rfl, rfl, rfl, h2, r2⟩ := trodAll_cons r1
  obtain ⟨v3, vs3, d3, ds3, p3, q3, rfl, rfl, rfl, h3, r3⟩ := trodAll_cons r2
  obtain ⟨v4, vs4, d4, ds4, p4, q4, rfl, rfl, rfl, h4, r4⟩ := trodAll_cons r3
  obtain ⟨rfl, rfl, rfl⟩ := trodAll_nil r4
  obtain rfl : args = #[v0, v1, v2, v3, v4] := by cases args; simp_all
  obtain ⟨rfl, rfl⟩ := trodVars_none hV
  obtain ⟨a0, rfl, rfl, rfl, wa0⟩ := open_int Tryz.underlying3 (hval 0 3 v0 rfl rfl) h0
  obtain ⟨a1, rfl, rfl, rfl, wa1⟩ := Go.ChangeMaps.open_string Tryz.underlying9 (hval 1 9 v1 rfl rfl) h1
  obtain ⟨a2, len2, cap2, rfl⟩ := okWide_slice und22 (hval 2 22 v2 rfl rfl)
  obtain ⟨a3, rfl, rfl, rfl, wa3⟩ := open_int Tryz.underlying3 (hval 3 3 v3 rfl rfl) h3
  obtain ⟨a4, rfl, rfl, rfl, wa4⟩ := open_int Tryz.underlying5 (hval 4 5 v4 rfl rfl) h4
  obtain ⟨c4, hc4⟩ := u8_of_wf wa4
  subst hc4
  have k2 := h2
  have lt2 : ∀ x ∈ p2, x.block < W.heap.size := by obtain ⟨m, hm⟩ := k2; exact DataW.trod_lt m _ _ _ hm
  obtain ⟨l2, s2, o2, u2⟩ : ∃ l : List ByteArray, IsSl fT W (.slice a2 len2 cap2) l ∧ l.length ≤ maxLen ∧ ∀ s ∈ l, s.size ≤ maxLen := by
    obtain ⟨fuel, hf⟩ := h2
    exact openT hf
  clear hA0 hval0
  have walk : Calls Tryz.prog 3 #[I a0, .string a1, .slice a2 len2 cap2, I a3, .int .u8 (c4.toNat : Int)] W fun e w' => e = .returned (.bool true) ∧ Below W.heap.size W w' :=
    (S3_calls _ _ _ _ _ _ W (c3 (k := fun v w' => v = .bool true ∧ Below W.heap.size W w') hgl (in64_of_wf wa0) wa1 s2 o2 u2 (in64_of_wf wa3) fun w' hb => ⟨rfl, hb⟩)).mono fun e w' h => by
      cases e <;> first | exact h.elim | exact ⟨by rw [h.1], h.2⟩
  refine walk.mono fun e W' ⟨he, bel⟩ => ?_
  subst he
  exact ⟨_, rfl, _, _, _, [], _, [], hW', trodAll_mk1 (shut_bool Tryz.underlying4 _), (trodAll_cons_mk (shut_int Tryz.underlying3 wa0) (trodAll_cons_mk (Go.ChangeMaps.shut_string Tryz.underlying9 wa1) (trodAll_cons_mk (Below.trod laidOut (by kernel_rfl) (of_decide_eq_true (by kernel_rfl)) k2 bel lt2) (trodAll_cons_mk (shut_int Tryz.underlying3 wa3) (trodAll_cons_mk (shut_int Tryz.underlying5 wa4) trodAll_mk0))))), rfl, bel.frame _, fun h => by cases h⟩
theorem row_holds : Rows.JournalOpensAnythingSaid :=
  OpenClaim.holds_of_cond 3 Tryz.f3 rfl rfl rfl rfl rfl rfl rfl ⟨rfl, rfl, rfl, rfl, rfl⟩ rfl rfl rfl rfl rfl (by kernel_rfl) Tryz.func3 (by kernel_rfl)
    (of_decide_eq_true (by kernel_rfl)) (by unfold Func.isWrapper; first | (rw [if_pos (by decide +kernel)]; kernel_rfl) | (rw [if_neg (by decide +kernel)]; exact ⟨rfl, rfl⟩))
    (fun os started H enc _ F0 => by rw [OpenClaim.pre_eq_preRow]; exact lifted os started H enc F0)
theorem wants (t : TypeId) (ht : t ∈ [3, 9, 22, 3, 5]) : Tryz.prog.wantsStandIn t = false := by
  simp only [List.mem_cons, List.not_mem_nil, or_false] at ht
  rcases ht with rfl | rfl | rfl | rfl | rfl <;> kernel_rfl
theorem proved : Rows.JournalOpensAnythingCardSaid :=
  Claim7.holds_tied_plain_at .later [] [.data, .data, .sentinel, .pinned] true (true, "69da697e1fae71e390920ac6a76ede8b26c391e873478dcb88b18d537b313e2a") true
    row_holds (fun _ h => by cases h) (by kernel_rfl) (fun _ h => by cases h) journalOpensAnything_row_tie rfl ⟨rfl, rfl⟩ (by kernel_rfl) rfl
    (fun f fn hf hfn => by
      obtain rfl : f = 3 := Option.some.inj ((show Tryz.prog.funcNamed "newswire/newswirelaw34.JournalOpensAnything" = some 3 by kernel_rfl).symm.trans hf) |>.symm
      obtain rfl : fn = Tryz.f3 := (Option.some.inj (Tryz.func3.symm.trans hfn)).symm
      exact ⟨by kernel_rfl, fun j t ht => wants t (by
        rw [Tryz.params3] at ht
        exact List.mem_of_getElem? (by simpa using ht))⟩)
    (by kernel_rfl)
end Go.Proofs.YtbojglaimdjagaaGreatDoor.journalOpensAnything
