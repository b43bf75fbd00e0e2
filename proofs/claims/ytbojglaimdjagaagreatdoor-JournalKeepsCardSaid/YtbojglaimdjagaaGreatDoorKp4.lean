/- JournalKeeps answers true for every input, and the input reads as it did; its card ties the four listed variables to the program's text: no condition of its own. -/
import Derived.Test.YtbojglaimdjagaaGreatDoorKp3
import Derived.ProofKit
import Derived.OpenShut
import Derived.ShutString
import Derived.ChangeMaps5
import Derived.ChangeOld
import Derived.Deep.Slices
import Derived.Deep.DeepHandedRow
import Derived.LaidMore
import Derived.LaidHandle
import Derived.Test.YtbojglaimdjagaaGreatDoorTie
import Derived.Test.YtbojglaimdjagaaGreatDoorCards
import Derived.SevenTiedAt
import Derived.Deep.DeepWitnessRowRef
import Derived.LaidSub
import Derived.LaidLaws
import Derived.Lib.LaidTab
import Derived.Shelf.Sort.Plain
import Derived.Shelf.Slices.CompactI
import Derived.Shelf.Slices.In.SortNone
import Derived.Sort.OwnSortedInts
/- Arguments opened; the package's tables. -/
set_option linter.unusedSimpArgs false
set_option linter.unusedVariables false
namespace Go.Proofs.YtbojglaimdjagaaGreatDoor
open Go Go.V Go.RowKit Go.ChangeShapes Go.WideShapes Go.ChangeAt Go.Deep
theorem own : ownKnob Tryz.prog.godebug = none := by kernel_rfl
theorem laidOut : laidOutB Tryz.prog = true := by kernel_rfl
theorem in64_of_wf {n : Int} (h : (Lit.int .i64 n).wf = true) : in64 n := bounds_i64 h
section
variable {H : Type} {enc : TypeId × Value → H} {P : Program} {w : World} {base : Nat} {spare : Nat → Bool} {held : Bool}
theorem spot_of_cell {x : Addr} {v : Value} (h : w.cell? x = some v) : x.spot = none := by
  unfold World.cell? at h
  cases hs : x.spot with
  | none => rfl
  | some s =>
    exfalso
    split at h
    · rw [hs] at h; simp at h
    · cases h
/-- a slice of flat elements that came in; Q i z: what is known of the i-th -/
theorem sl_of_trodI {α : Type} {F : Fl α} {Q : Nat → α → Prop} {t e : TypeId} {fuel : Nat} {v : Value} {x : DataW H × List MemPlace} (ht : P.underlying t = some (.slice e)) (hc : P.cellsOf e = F.sz) (hp : 0 < F.sz)
    (helem : ∀ i cs m (y : DataW H × List MemPlace), DataW.trod enc P w base spare held m e cs = some y → (∀ ds p, x = (.slice ds [], p) → ds[i]? = some y.1) → ∃ z, cs = F.e z ∧ Q i z) (h : DataW.trod enc P w base spare held fuel t [v] = some x) (hnn : held = held) :
    ∃ l : List α, IsSl F w v l ∧ l.length ≤ maxLen ∧ (∀ i z, l[i]? = some z → Q i z) ∧ ∀ ds p, x = (.slice ds [], p) → l.length = ds.length := by
  rcases open_slice ht h with ⟨hcs, hx0⟩ | ⟨a, len, cap, m, n, D, Pl, hcs, _, hl, hm, hmm, hxx, hel⟩
  · simp at hcs; subst hcs
    exact ⟨[], .nil _, by simp, by simp, fun ds p hh => by rw [hx0] at hh; cases hh⟩
  · simp at hcs; subst hcs
    have hlm : len ≤ m := by rw [hmm]; split <;> omega
    have each : ∀ i, i < len → ∃ z, Q i z ∧ ∀ j u, (F.e z)[j]? = some u → w.cell? ((a.add (i * F.sz)).add j) = some u := fun i hi => by
      obtain ⟨cs, h1, h2⟩ := hel i (by omega)
      obtain ⟨z, rfl, hq⟩ := helem i cs n _ h2 fun ds p hh => by
        rw [hxx] at hh
        simp only [Prod.mk.injEq, DataW.slice.injEq] at hh
        rw [← hh.1.1, List.getElem?_map, List.getElem?_range hi]; rfl
      rw [hc] at h1
      obtain ⟨_, hlen, hcell⟩ := World.cells?_some h1
      exact ⟨z, hq, fun j u hu => by rw [hcell j (by have := (List.getElem?_eq_some_iff.1 hu).1; rw [F.len] at this; exact this)]; exact hu⟩
    have mk : ∀ k, k ≤ len → ∃ l : List α, l.length = k ∧ (∀ i z, l[i]? = some z → Q i z) ∧ ∀ i z, l[i]? = some z → ∀ j u, (F.e z)[j]? = some u → w.cell? ((a.add (i * F.sz)).add j) = some u := by
      intro k
      induction k with
      | zero => intro _; exact ⟨[], rfl, by simp, by simp⟩
      | succ k ih =>
        intro hk
        obtain ⟨l, h1, h2, h3⟩ := ih (by omega)
        obtain ⟨z, hz, hzc⟩ := each k (by omega)
        refine ⟨l ++ [z], by simp [h1], fun i y hy => ?_, fun i y hy => ?_⟩
        · rcases Nat.lt_or_ge i l.length with h | h
          · rw [List.getElem?_append_left h] at hy; exact h2 i y hy
          · rw [List.getElem?_append_right h] at hy
            have := (List.getElem?_eq_some_iff.1 hy).1
            simp at this
            have h0 : i - l.length = 0 := by omega
            rw [h0] at hy; simp at hy; subst hy
            obtain rfl : i = k := by omega
            exact hz
        · rcases Nat.lt_or_ge i l.length with h | h
          · rw [List.getElem?_append_left h] at hy; exact h3 i y hy
          · rw [List.getElem?_append_right h] at hy
            have := (List.getElem?_eq_some_iff.1 hy).1
            simp at this
            have h0 : i - l.length = 0 := by omega
            rw [h0] at hy; simp at hy; subst hy
            obtain rfl : i = k := by omega
            exact hzc
    obtain ⟨l, h1, h2, h3⟩ := mk len (Nat.le_refl _)
    refine ⟨l, ⟨some a, cap, by rw [h1], by omega, fun i z hz => ?_⟩, by omega, h2, fun ds p hh => ?_⟩
    · obtain ⟨z0, hz0⟩ : ∃ z0, l[0]? = some z0 := ⟨l[0]'(by have := (List.getElem?_eq_some_iff.1 hz).1; omega), by simp⟩
      obtain ⟨u, hu⟩ : ∃ u, (F.e z0)[0]? = some u := ⟨(F.e z0)[0]'(by rw [F.len]; exact hp), by simp⟩
      have hsp := spot_of_cell (h3 0 z0 hz0 0 u hu)
      obtain ⟨b, o, sp⟩ := a
      have hsn : sp = none := by
        revert hsp
        simp [Addr.add]
      subst hsn
      refine ⟨b, o, rfl, fun j v hv => ?_⟩
      have := h3 i z hz j v hv
      rwa [add_none, add_none] at this
    · rw [hxx] at hh
      simp only [Prod.mk.injEq, DataW.slice.injEq] at hh
      rw [h1, ← hh.1.1]; simp
theorem sl_of_trod {α : Type} {F : Fl α} {Q : α → Prop} {t e : TypeId} {fuel : Nat} {v : Value} {x : DataW H × List MemPlace} (ht : P.underlying t = some (.slice e)) (hc : P.cellsOf e = F.sz) (hp : 0 < F.sz)
    (helem : ∀ cs m (y : DataW H × List MemPlace), DataW.trod enc P w base spare held m e cs = some y → ∃ z, cs = F.e z ∧ Q z) (h : DataW.trod enc P w base spare held fuel t [v] = some x) :
    ∃ l : List α, IsSl F w v l ∧ l.length ≤ maxLen ∧ ∀ z, z ∈ l → Q z := by
  obtain ⟨l, h1, h2, h3, _⟩ := sl_of_trodI (Q := fun _ z => Q z) ht hc hp (fun _ cs m y hy _ => helem cs m y hy) h rfl
  exact ⟨l, h1, h2, fun z hz => by obtain ⟨i, hi, rfl⟩ := List.getElem_of_mem hz; exact h3 i _ (List.getElem?_eq_getElem hi)⟩
theorem cells3' : Tryz.prog.cellsOf 3 = 1 := by kernel_rfl
def structAt (P : Program) (t : TypeId) : Option (List (Nat × Nat)) := match P.underlying t with
  | some (.struct fs) => some (mapL (fun f => (f.type, f.offset)) fs.toList)
  | _ => none
theorem structAt_spec {t : TypeId} {l : List (Nat × Nat)} (h : structAt P t = some l) : ∃ fs : Array Field, P.underlying t = some (.struct fs) ∧ fs.toList.map (fun f => (f.type, f.offset)) = l := by
  unfold structAt at h
  split at h
  · rename_i fs hfs
    cases h
    exact ⟨fs, hfs, (mapL_eq _ _).symm⟩
  · cases h
/-- the fields of a struct that came in, with their data -/
theorem trod_at {fuel : Nat} {t : TypeId} {cs : List Value} {l : List (Nat × Nat)} {x : DataW H × List MemPlace} (hl : structAt P t = some l) (h : DataW.trod enc P w base spare held fuel t cs = some x) :
    cs.length = P.cellsOf t ∧ ∃ (m : Nat) (ys : List (DataW H × List MemPlace)), x.1 = .agg (ys.map Prod.fst) ∧ ∀ (i : Nat) f, l[i]? = some f → ∃ y, ys[i]? = some y ∧ DataW.trod enc P w base spare held m f.1 ((cs.drop f.2).take (P.cellsOf f.1)) = some y := by
  obtain ⟨fs, hfs, hm⟩ := structAt_spec hl
  obtain ⟨xs, n, _, rfl, hcl, hxl, hf⟩ := DataW.trod_struct hfs h
  refine ⟨hcl, n, xs, rfl, fun i f hif => ?_⟩
  rw [← hm, List.getElem?_map] at hif
  cases hg : fs.toList[i]? with
  | none => rw [hg] at hif; cases hif
  | some g =>
    rw [hg] at hif
    simp only [Option.map_some, Option.some.injEq] at hif
    subst hif
    have hg' : fs[i]? = some g := by simpa using hg
    have := hf i g hg'
    have hlt : i < xs.length := by
      have := (Array.getElem?_eq_some_iff.1 hg').1
      omega
    rw [List.getElem?_eq_getElem hlt] at this
    exact ⟨_, List.getElem?_eq_getElem hlt, this⟩
end
end Go.Proofs.YtbojglaimdjagaaGreatDoor
/- The witness of the rows that list the variables; the variables opened. -/
set_option linter.unusedSimpArgs false
set_option linter.unusedVariables false
namespace Go.Proofs.YtbojglaimdjagaaGreatDoor
open Go Go.V Go.ChangeShapes Go.WideShapes Go.ChangeAt Go.RowKit Go.Deep
def laidL : List (String × DataW Unit) := [("unicode/utf8.acceptRanges", Rows.laid_unicode_utf8_acceptRanges), ("newswire/digest.round", Rows.laid_newswire_digest_round), ("newswire/journal.errDamaged", Rows.laid_newswire_journal_errDamaged), ("unicode/utf8.first", Rows.laid_unicode_utf8_first)]
theorem starNm : "*errors.errorString" = "*" ++ "errors.errorString" := by decide
theorem row222 (u : TypeId) (h : Tryz.prog.typeName? 3 u = some "*errors.errorString") : u = 222 :=
  typeName_ptr_named (nm := "errors.errorString") (by rw [← starNm]; kernel_rfl) (by kernel_rfl) (by decide) u (by rw [← starNm]; exact h)
theorem c244 : Tryz.prog.cellsOf 244 = 1 := by kernel_rfl
theorem c9 : Tryz.prog.cellsOf 9 = 1 := by kernel_rfl
set_option maxRecDepth 100000 in
theorem err_of_laid {W : World} (h : laidMet Tryz.prog [("newswire/journal.errDamaged", Rows.laid_newswire_journal_errDamaged)] W) : ∃ e : Addr, W.cell? ⟨0, 0, none⟩ = some (.iface 222 (.pointer (some e))) := by
  obtain ⟨ps, ⟨g0', t0', cs0, f0, p0, q0, hg0', ht0', hv0, hd0, _, e0⟩, hnd, hrows⟩ := h
  have hg0 : Tryz.prog.globalNamed "newswire/journal.errDamaged" = some 0 := by kernel_rfl
  have ht0 : (Tryz.prog.globals[0]?).map (·.type) = some 80 := by kernel_rfl
  obtain rfl := Option.some.inj (hg0.symm.trans hg0')
  obtain rfl := Option.some.inj (ht0.symm.trans ht0')
  subst e0
  obtain ⟨l0⟩ := cs0
  have ok0 : ∀ u v, l0 = [.iface u v] → Value.okWide Tryz.prog W .any 0 u v := fun u v e => by
    subst e
    exact (hrows 0 0 (by simp [MemPlace.row])).2 u v (by simpa using World.var?_cell hg0' hv0 0)
  obtain ⟨a0, s0, rfl, hc0, hs0, hz0, rfl⟩ := errorString_of_trod Tryz.underlying80 row222 Tryz.underlying222 Tryz.underlying244 rfl rfl Tryz.underlying9 c244 c9 hd0 ok0
  exact ⟨a0, by simpa using World.var?_cell hg0' hv0 0⟩
theorem dig_of_laid {w : World} (h0 : laidMet Tryz.prog [("newswire/digest.round", Lib.tabData .u32 (kL.map fun x => ((x.toNat : Nat) : Int)))] w) : Cells w 3 0 K64 ∧ 3 < w.heap.size := by
  have hT := Lib.tabIs_of_head (P := Tryz.prog) (g := 3) (t := 214) (e := 109) (n := 64) (by kernel_rfl) (by kernel_rfl) (by kernel_rfl) (by kernel_rfl) (by kernel_rfl) (by kernel_rfl) h0
  have hc : ∀ i, i < 64 → w.cell? ⟨3, i, none⟩ = some (uV (kL.getD i 0)) := fun i hi => by
    have := hT.cell (g := 3) (by kernel_rfl) i (by simpa [kL] using hi)
    rw [this]
    have hk : kL[i]? = some (kL.getD i 0) := by rw [List.getD_eq_getElem?_getD, List.getElem?_eq_getElem (show i < kL.length from hi)]; rfl
    rw [List.getD_eq_getElem?_getD, List.getElem?_map, hk]; rfl
  refine ⟨fun j v hv => ?_, World.block_lt_of_cell? w _ (hc 0 (by decide))⟩
  have hj : j < 64 := by
    have := (List.getElem?_eq_some_iff.1 hv).1
    simpa [K64, kL] using this
  rw [Nat.zero_add, hc j hj, ← hv]
  unfold K64
  have hk : kL[j]? = some (kL.getD j 0) := by rw [List.getD_eq_getElem?_getD, List.getElem?_eq_getElem (show j < kL.length from hj)]; rfl
  rw [List.getElem?_map, hk]; rfl
set_option maxRecDepth 100000 in
theorem gl_of_laid {l : List (String × DataW Unit)} {w : World} (hl : l = laidL) (h : laidMetH Tryz.prog l w) : Gl w := by
  subst hl
  have h1 : laidMet Tryz.prog [("newswire/digest.round", Rows.laid_newswire_digest_round)] w := laidMetH.filter (fun x => x.1 == "newswire/digest.round") h
  have h2 : laidMet Tryz.prog [("newswire/journal.errDamaged", Rows.laid_newswire_journal_errDamaged)] w := laidMetH.filter (fun x => x.1 == "newswire/journal.errDamaged") h
  obtain ⟨a, b⟩ := dig_of_laid h1
  exact ⟨a, b, err_of_laid h2⟩
/-- the heap that the door's run leaves, utf8's table laid besides -/
noncomputable def laidWorld (os : Os) : World :=
  { World.doorLaid Tryz.prog 600 os with heap := (World.doorLaid Tryz.prog 600 os).heap.modify 1 fun
      | .cells _ t frozen => .cells (Go.Pinned.utf8FirstZ.map fun (z : Nat) => Value.int .u8 (z : Int)).toArray t frozen
      | o => o }
theorem laid_met0 (os : Os) (args : Array Value) : laidMetH Tryz.prog laidL ((laidWorld os).forCall (fun _ _ => 0) ⟨#[], args, []⟩).memory :=
  laidMetH_of_parts3 (fuel := 8) (laidMet_of_run' 8 (by kernel_rfl) (by kernel_rfl)) (by kernel_rfl) (by kernel_rfl)
end Go.Proofs.YtbojglaimdjagaaGreatDoor
/- Arguments of the laws, opened. -/
set_option linter.unusedSimpArgs false
set_option linter.unusedVariables false
namespace Go.Proofs.YtbojglaimdjagaaGreatDoor
open Go Go.V Go.RowKit Go.ChangeShapes Go.WideShapes Go.ChangeAt Go.Deep
theorem und22 : Tryz.prog.underlying 22 = some (.slice 9) := by kernel_rfl
theorem cells22 : Tryz.prog.cellsOf 22 = 1 := by kernel_rfl
theorem choose_list {α β : Type} {R : α → β → Prop} : ∀ {l : List α}, (∀ x ∈ l, ∃ y, R x y) → ∃ m : List β, l.length = m.length ∧ (∀ (i : Nat) x y, l[i]? = some x → m[i]? = some y → R x y)
  | [], _ => ⟨[], rfl, fun i x y h => by simp at h⟩
  | a :: l, h => by
    obtain ⟨b, hb⟩ := h a (by simp)
    obtain ⟨m, hm, hR⟩ := choose_list (l := l) (R := R) fun x hx => h x (by simp [hx])
    refine ⟨b :: m, by simp [hm], fun i x y h1 h2 => ?_⟩
    cases i with
    | zero => simp at h1 h2; subst h1; subst h2; exact hb
    | succ i => exact hR i x y (by simpa using h1) (by simpa using h2)
section
variable {H : Type} {enc : TypeId × Value → H} {w : World} {base : Nat} {spare : Nat → Bool} {held : Bool}
theorem str_of_trod {cs : List Value} {m : Nat} {y : DataW H × List MemPlace} (h : DataW.trod enc Tryz.prog w base spare held m 9 cs = some y) : ∃ s, cs = [.string s] ∧ s.size ≤ maxLen := by
  obtain ⟨s, h1, _, h2⟩ := DataW.trod_string Tryz.underlying9 h
  exact ⟨s, h1, h2⟩
theorem openT {fuel : Nat} {v : Value} {x : DataW H × List MemPlace} (h : DataW.trod enc Tryz.prog w base spare held fuel 22 [v] = some x) : ∃ l : List ByteArray, IsSl fT w v l ∧ l.length ≤ maxLen ∧ ∀ s ∈ l, s.size ≤ maxLen := by
  obtain ⟨l, h1, h2, h3⟩ := sl_of_trod (F := fT) (Q := fun s => s.size ≤ maxLen) und22 c9 (by decide) (fun cs m y h => by
    obtain ⟨s, hs, hm⟩ := str_of_trod h
    exact ⟨s, hs, hm⟩) h
  exact ⟨l, h1, h2, h3⟩
end
end Go.Proofs.YtbojglaimdjagaaGreatDoor
/- More of Append, plain; a slice appended to one's own. -/
set_option linter.unusedSimpArgs false
set_option linter.unusedVariables false
set_option maxRecDepth 4000
namespace Go.Proofs.YtbojglaimdjagaaGreatDoor
open Go Go.V Go.RowKit
theorem apJ_broken {n : Nat} {D : DK} {t : TP} {l : List ByteArray} : apJ n D t true l = (340, D, t, true) := by
  unfold apJ; rw [if_pos (.inl rfl)]
theorem not_long {l : List ByteArray} (h : ∀ s ∈ l, s.size ≤ 65536) : ¬ (false = true ∨ ∃ s ∈ l, 65536 < s.size) := fun hh => hh.elim (fun h => by cases h) fun ⟨s, h1, h2⟩ => by have := h s h1; omega
theorem DOk.cut {n : Nat} {D : DK} (h : DOk n D) {c : Int} (hc : 0 ≤ c ∧ c ≤ 1000000) : DOk n (cutD D c) := ⟨h.n1, h.n2, h.dur, h.vis, hc⟩
section
variable {P : Program} {k : Value → World → Prop} {w w' : World} {α : Type} {F : Fl α} {v v2 : Value} {l0 l : List α} {t e : TypeId} {B B2 : Nat}
theorem flat_cells (hone : ∀ x, ∀ u ∈ F.e x, u.oneCell' = true) : ∀ (l : List α), ∀ u ∈ flat F l, u.oneCell' = true
  | [], u, hu => by simp [flat] at hu
  | x :: r, u, hu => by
    simp only [flat, List.mem_append] at hu
    rcases hu with hu | hu
    · exact hone x u hu
    · exact flat_cells hone r u hu
/-- a slice appended to one's own -/
theorem mine_cat {ty : TypeId} {bytes : Nat} {z : Value} (h : STy P t e F.sz bytes z) (hone : ∀ x, ∀ u ∈ F.e x, u.oneCell' = true) (hown : Mine F e w B v l0) (hs : Mine F e w B2 v2 l) (hB : B ≤ w.heap.size) (hl : l0.length + l.length ≤ maxLen) (hbytes : (l0.length + l.length) * bytes ≤ 140737488355328)
    (hk : ∀ v' w', Mine F e w' B v' (l0 ++ l) → Below B w w' → Off (isOf v) w w' → (∀ b, isOf v' b → isOf v b ∨ w.heap.size ≤ b) → k v' w') : opW P (Builtin.append_ #[t, t] ty #[v, v2]) k w := by
  rcases id hs.2 with ⟨rfl, hn⟩ | ⟨g, cap, cur, rfl, _⟩
  · have : l = [] := List.eq_nil_of_length_eq_zero hn
    subst this
    rw [w_append_nil h hown]
    exact hk v w (by rw [List.append_nil]; exact hown) (Below.refl _ _) (Off.refl _ _) fun b hb => .inl hb
  · have hone' := flat_cells (F := F) hone l
    obtain ⟨v', w', hr, ho, hg, hnew, _⟩ := run_append_own2 (P := P) (ty := ty) h hown ⟨g, 0, none⟩ l.length cap (flat F l) (flat_length l) (fun j u hu => hs.cells (g := g) rfl j u hu) hone' hl hbytes hB
    rw [opW_ok hr]
    refine hk v' w' ?_ ?_ ?_ hnew
    · unfold Mine
      rw [List.length_append, flat_append]; exact ho
    · exact (Below.refl B w).grown hg hB fun b hb => (hown.ge hb).1
    · exact Off.grown hg fun b hb => hb
end
section
variable {k : Value → World → Prop} {w : World} {B b jb n : Nat} {D : DK} {dv vv : Value}
/-- an empty slice, made, and one's own -/
theorem w_empty22 (hk : ∀ v w', Below w.heap.size w w' → Mine fT 9 w' w.heap.size v [] → k v w') : opW Tryz.prog (Instr.buildSlice 22 0 #[]) k w := by
  rw [w_build0 sty22]
  refine hk _ _ ((Below.refl _ _).alloc (Nat.le_refl _) _) ⟨rfl, .inr ⟨w.heap.size, 0, #[], rfl, Nat.le_refl _, by rw [World.alloc_heap_new], Nat.le_refl _, Nat.zero_le _, by simp, by simp [flat]⟩⟩
end
end Go.Proofs.YtbojglaimdjagaaGreatDoor
/-
  DERIVED: THE SHELF's CONTRACTS AT THIS DUMP, IN PLAIN WORDS (tools/lay-plain.mjs out of 'TryzShelf.lean', which tools/lay-shelf.mjs wrote): THE SAME DECLARATIONS UNDER THE SAME NAMES: 'import', 'namespace', 'open', 'def', 'theorem' AND NOTHING ELSE: no command of the shelf's: FOR A HAND-IN. Each laying: the table of numbers ('.._ren') and one theorem, a field a fact of the dump's own or the kernel's comparison; each contract: ONE APPLICATION.
-/
namespace Go.Proofs
def Tryz.lays189_ren : Go.Shelf.Ren := ⟨fun | 189 => 90 | 125 => 108 | 257 => 107 | 128 => 126 | 129 => 127 | 294 => 117 | 295 => 118 | 296 => 119 | 297 => 120 | 298 => 121 | 299 => 122 | 216 => 123 | 300 => 124 | 301 => 125 | 328 => 137 | 329 => 138 | 330 => 139 | 331 => 140 | 332 => 141 | 215 => 142 | 343 => 148 | n => n, fun | 28 => 56 | 3 => 3 | 46 => 113 | 0 => 0 | 51 => 109 | 53 => 141 | 4 => 4 | 183 => 184 | 182 => 183 | 131 => 188 | 5 => 5 | 9 => 9 | 218 => 206 | 222 => 210 | 228 => 218 | 229 => 219 | n => n, fun | n => n⟩
theorem Tryz.lays189 : Go.Proofs.Lays.n189 Tryz.prog Tryz.lays189_ren := {
  mixed := by kernel_rfl
  f125 := Tryz.func108.trans (congrArg some (by kernel_rfl))
  f128 := Tryz.func126.trans (congrArg some (by kernel_rfl))
  f129 := Tryz.func127.trans (congrArg some (by kernel_rfl))
  f189 := Tryz.func90.trans (congrArg some (by kernel_rfl))
  f215 := Tryz.func142.trans (congrArg some (by kernel_rfl))
  f216 := Tryz.func123.trans (congrArg some (by kernel_rfl))
  f257 := Tryz.func107.trans (congrArg some (by kernel_rfl))
  f294 := Tryz.func117.trans (congrArg some (by kernel_rfl))
  f295 := Tryz.func118.trans (congrArg some (by kernel_rfl))
  f296 := Tryz.func119.trans (congrArg some (by kernel_rfl))
  f297 := Tryz.func120.trans (congrArg some (by kernel_rfl))
  f298 := Tryz.func121.trans (congrArg some (by kernel_rfl))
  f299 := Tryz.func122.trans (congrArg some (by kernel_rfl))
  f300 := Tryz.func124.trans (congrArg some (by kernel_rfl))
  f301 := Tryz.func125.trans (congrArg some (by kernel_rfl))
  f328 := Tryz.func137.trans (congrArg some (by kernel_rfl))
  f329 := Tryz.func138.trans (congrArg some (by kernel_rfl))
  f330 := Tryz.func139.trans (congrArg some (by kernel_rfl))
  f331 := Tryz.func140.trans (congrArg some (by kernel_rfl))
  f332 := Tryz.func141.trans (congrArg some (by kernel_rfl))
  f343 := Tryz.func148.trans (congrArg some (by kernel_rfl))
  t0 := Tryz.underlying0
  a0 := Tryz.isAgg0
  z0 := Tryz.sizeOf0
  v0 := Tryz.zeroValue0
  t3 := Tryz.underlying3
  a3 := Tryz.isAgg3
  z3 := Tryz.sizeOf3
  v3 := Tryz.zeroValue3
  t4 := Tryz.underlying4
  a4 := Tryz.isAgg4
  z4 := Tryz.sizeOf4
  v4 := Tryz.zeroValue4
  t5 := Tryz.underlying5
  a5 := Tryz.isAgg5
  z5 := Tryz.sizeOf5
  v5 := Tryz.zeroValue5
  t9 := Tryz.underlying9
  a9 := Tryz.isAgg9
  z9 := Tryz.sizeOf9
  v9 := Tryz.zeroValue9
  t28 := Tryz.underlying56
  a28 := Tryz.isAgg56
  z28 := Tryz.sizeOf56
  v28 := Tryz.zeroValue56
  t46 := Tryz.underlying113
  a46 := Tryz.isAgg113
  z46 := Tryz.sizeOf113
  v46 := Tryz.zeroValue113
  t51 := Tryz.underlying109
  a51 := Tryz.isAgg109
  z51 := Tryz.sizeOf109
  v51 := Tryz.zeroValue109
  t53 := Tryz.underlying141
  a53 := Tryz.isAgg141
  z53 := Tryz.sizeOf141
  v53 := Tryz.zeroValue141
  t131 := Tryz.underlying188
  a131 := Tryz.isAgg188
  z131 := Tryz.sizeOf188
  v131 := Tryz.zeroValue188
  t182 := Tryz.underlying183
  a182 := Tryz.isAgg183
  z182 := Tryz.sizeOf183
  v182 := Tryz.zeroValue183
  t183 := Tryz.underlying184
  a183 := Tryz.isAgg184
  z183 := Tryz.sizeOf184
  v183 := Tryz.zeroValue184
  t218 := Tryz.underlying206
  a218 := Tryz.isAgg206
  z218 := Tryz.sizeOf206
  v218 := Tryz.zeroValue206
  t222 := Tryz.underlying210
  a222 := Tryz.isAgg210
  z222 := Tryz.sizeOf210
  v222 := Tryz.zeroValue210
  t228 := Tryz.underlying218
  a228 := Tryz.isAgg218
  z228 := Tryz.sizeOf218
  v228 := Tryz.zeroValue218
  t229 := Tryz.underlying219
  a229 := Tryz.isAgg219
  z229 := Tryz.sizeOf219
  v229 := Tryz.zeroValue219 }
open Go.Sort Go.RowKit in
theorem Tryz.slices_Sort_int (blk off cap : Nat) (zs : List Int) (w : World) (hH : Holds (Value.int .i64) w blk off zs.toArray) (hblk : blk < w.heap.size) (hsz : zs.length < 4611686018427387904) :
    Calls Tryz.prog 90 #[.slice (some ⟨blk, off, none⟩) zs.length cap] w fun e w' =>
      e = .returned (.tuple #[]) ∧ ∃ n os, w' = grow (putRow (Value.int .i64) (Sort.ahead w n) blk off (zs.mergeSort fun x y => decide (x ≤ y)).toArray) os := Any.slices_Sort_int Tryz.lays189 blk off cap zs w hH hblk hsz
def Tryz.laysNm220_ren : Go.Shelf.Ren := ⟨fun | 20 => 60 | n => n, fun | 22 => 56 | 3 => 3 | 4 => 4 | 0 => 0 | n => n, fun | n => n⟩
theorem Tryz.laysNm220 : Go.Proofs.Lays2.n20 Tryz.prog Tryz.laysNm220_ren := {
  mixed := by kernel_rfl
  f20 := Tryz.func60.trans (congrArg some (by kernel_rfl))
  t0 := Tryz.underlying0
  a0 := Tryz.isAgg0
  z0 := Tryz.sizeOf0
  v0 := Tryz.zeroValue0
  t3 := Tryz.underlying3
  a3 := Tryz.isAgg3
  z3 := Tryz.sizeOf3
  v3 := Tryz.zeroValue3
  t4 := Tryz.underlying4
  a4 := Tryz.isAgg4
  z4 := Tryz.sizeOf4
  v4 := Tryz.zeroValue4
  t22 := Tryz.underlying56
  a22 := Tryz.isAgg56
  z22 := Tryz.sizeOf56
  v22 := Tryz.zeroValue56
  i3 := by kernel_rfl }
open Go.RowKit Go.Lib Go.Sort in
/-- The same at a slice of length 0, a nil one too: it comes back as it is. (LAID: no walk: one application.) -/
theorem Tryz.slices_Compact_int_empty (a : Option Addr) (cap : Nat) (w : World) :
    Calls Tryz.prog 60 #[.slice a 0 cap] w fun e w' => e = .returned (.slice a 0 cap) ∧ w' = w := Any.slices_Compact_int_empty Tryz.laysNm220 a cap w
open Go.RowKit Go.Lib Go.Sort in
/-- slices.Compact at []int, of an argument: the slice cut to 'Lib.compact (elements)'; the n cells hold that, then zeros. (LAID: no walk: one application.) -/
theorem Tryz.slices_Compact_int_cells (b off n c : Nat) (zs : List Int) (w : World) (hz : n ≤ zs.length) (hbig : n ≤ 9223372036854775807) (hcap : n ≤ c) (hc : ∀ j, j < zs.length → w.cell? ⟨b, off + j, none⟩ = some (.int .i64 (zs.getD j 0))) (hf : ∀ j, j < n → w.frozen? ⟨b, off + j, none⟩ = false) :
    Calls Tryz.prog 60 #[.slice (some ⟨b, off, none⟩) n c] w fun e w' => e = .returned (.slice (some ⟨b, off, none⟩) (Lib.compact (zs.take n)).length c) ∧ ∃ q, w' = (w.drewN q).setCells b off ((Lib.compact (zs.take n) ++ List.replicate (n - (Lib.compact (zs.take n)).length) 0).map (Value.int .i64)) := Any.slices_Compact_int_cells Tryz.laysNm220 b off n c zs w hz hbig hcap hc hf
open Go.RowKit Go.Sort in
/-- .. and plain. (LAID: no walk: one application.) -/
theorem Tryz.slices_Sort_int_none (p : Option Addr) (cap : Nat) (w : World) :
    Calls Tryz.prog 90 #[.slice p 0 cap] w fun e w' => e = .returned (.tuple #[]) ∧ w' = w := Any.slices_Sort_int_none Tryz.lays189 p cap w
end Go.Proofs
/- The conditions of the functions, printed by program out of the loaded code, each with the contract that follows from it. -/
set_option linter.unusedVariables false
set_option maxRecDepth 100000
namespace Go.Proofs.YtbojglaimdjagaaGreatDoor
open Go Go.V
noncomputable section

/-! slices.Sorted[int] -/
def ann61 : Ann := []
def S61 (seq_1 : Value) (k : Value → World → Prop) (w : World) : Prop :=
   callW Tryz.prog (Value.func (Fn.func 89) #[] #[]) #[seq_1] (fun t5_2 w =>
   callW Tryz.prog (Value.func (Fn.func 90) #[] #[]) #[t5_2] (fun t7_3 w =>
   k t5_2 w) w) w
theorem S61_vc (seq_1 : Value) (k : Value → World → Prop) (w : World) : vc Tryz.prog Tryz.f61.ntmps ann61 none ((Tryz.f61.body).getD Code.skip) 1 (params 0 [seq_1]) [] (finQ Tryz.prog Tryz.f61.results.toList k) w = S61 seq_1 k w := by kernel_rfl
theorem S61_calls (seq_1 : Value) (k : Value → World → Prop) (w : World) (h : S61 seq_1 k w) : Calls Tryz.prog 61 #[seq_1] w (retP k) :=
  calls_of_vc (fn := Tryz.f61) (c := (Tryz.f61.body).getD Code.skip) ann61 Tryz.func61 (by kernel_rfl) [seq_1] w k (by kernel_rfl) ((S61_vc seq_1 k w).symm ▸ h)
theorem C61 (seq_1 : Value) (k : Value → World → Prop) (w : World) (h : S61 seq_1 k w) : callW Tryz.prog (.func (.func 61) #[] #[]) #[seq_1] k w :=
  callW_calls ok61 (by simpa using S61_calls seq_1 k w h)

/-! slices.Values[[]int,int] -/
def ann62 : Ann := []
def S62 (s_1 : Value) (k : Value → World → Prop) (w : World) : Prop :=
   opW Tryz.prog (Instr.box 56 s_1) (fun s_2 w =>
   opW Tryz.prog (Instr.makeFunc (Fn.func 91) #[] #[s_2]) (fun t3_3 w =>
   k t3_3 w) w) w
theorem S62_vc (s_1 : Value) (k : Value → World → Prop) (w : World) : vc Tryz.prog Tryz.f62.ntmps ann62 none ((Tryz.f62.body).getD Code.skip) 1 (params 0 [s_1]) [] (finQ Tryz.prog Tryz.f62.results.toList k) w = S62 s_1 k w := by kernel_rfl
theorem S62_calls (s_1 : Value) (k : Value → World → Prop) (w : World) (h : S62 s_1 k w) : Calls Tryz.prog 62 #[s_1] w (retP k) :=
  calls_of_vc (fn := Tryz.f62) (c := (Tryz.f62.body).getD Code.skip) ann62 Tryz.func62 (by kernel_rfl) [s_1] w k (by kernel_rfl) ((S62_vc s_1 k w).symm ▸ h)
theorem C62 (s_1 : Value) (k : Value → World → Prop) (w : World) (h : S62 s_1 k w) : callW Tryz.prog (.func (.func 62) #[] #[]) #[s_1] k w :=
  callW_calls ok62 (by simpa using S62_calls s_1 k w h)

/-! slices.DeleteFunc[[]int,int] -/
def ann63 : Ann := [(61, Note.keep [0, 5]), (122, Note.loop [5, 6] [0, 1]), (978, Note.keep [0, 1, 5, 6])]
def S63 (s_1 del_2 : Value) (k : Value → World → Prop) (w : World) : Prop :=
   callW Tryz.prog (Value.func (Fn.func 92) #[] #[]) #[s_1, del_2] (fun t10_3 w =>
   opW Tryz.prog (binS BinOp.eql 3 (Operand.tmp 11) (Operand.const (Value.int IntKind.i64 (-1))) t10_3 (Value.int IntKind.i64 (-1))) (fun t12_5 w =>
   condW t12_5
   (k s_1 w)
   (opW Tryz.prog (binS BinOp.add 3 (Operand.tmp 14) (Operand.const (Value.int IntKind.i64 1)) t10_3 (Value.int IntKind.i64 1)) (fun t15_6 w =>
   Loop2 (fun i_8 j_9 w K_10 =>
   opW Tryz.prog (Builtin.len_ #[56] 3 #[s_1]) (fun t18_12 w =>
   opW Tryz.prog (binS BinOp.lss 3 (Operand.tmp 16) (Operand.tmp 18) j_9 t18_12) (fun t19_13 w =>
   condW t19_13
   (joinW (fun i_21 w =>
   opW Tryz.prog (binS BinOp.add 3 (Operand.tmp 20) (Operand.const (Value.int IntKind.i64 1)) j_9 (Value.int IntKind.i64 1)) (fun t21_22 w =>
   loopK [] [] [s_1, del_2] [s_1, del_2] (K_10 i_21 t21_22 w)) w) (fun J_14 =>
   opW Tryz.prog (Instr.indexAt 56 s_1 j_9) (fun t24_15 w =>
   opW Tryz.prog (Instr.loadAt 3 t24_15) (fun t25_16 w =>
   callW Tryz.prog del_2 #[t25_16] (fun t28_17 w =>
   opW Tryz.prog (Op.unary UnOp.not t28_17) (fun t29_18 w =>
   condW t29_18
   (opW Tryz.prog (Instr.indexAt 56 s_1 i_8) (fun t33_19 w =>
   opU Tryz.prog (Instr.storeAt 3 t33_19 t25_16) (fun _ w =>
   opW Tryz.prog (binS BinOp.add 3 (Operand.tmp 34) (Operand.const (Value.int IntKind.i64 1)) i_8 (Value.int IntKind.i64 1)) (fun t35_20 w =>
   J_14 t35_20 w) w) w) w)
   (J_14 i_8 w)) w) w) w) w))
   (opW Tryz.prog (Instr.sliceAt 56 s_1 (some i_8) none none) (fun t38_23 w =>
   opW Tryz.prog (Builtin.clear_ #[56] 0 #[t38_23]) (fun _ w =>
   opW Tryz.prog (Instr.sliceAt 56 s_1 none (some i_8) none) (fun t41_24 w =>
   k t41_24 w) w) w) w)) w) w) t10_3 t15_6 w) w)) w) w
theorem S63_vc (s_1 del_2 : Value) (k : Value → World → Prop) (w : World) : vc Tryz.prog Tryz.f63.ntmps ann63 none ((Tryz.f63.body).getD Code.skip) 1 (params 0 [s_1, del_2]) [] (finQ Tryz.prog Tryz.f63.results.toList k) w = S63 s_1 del_2 k w := by kernel_rfl
theorem S63_calls (s_1 del_2 : Value) (k : Value → World → Prop) (w : World) (h : S63 s_1 del_2 k w) : Calls Tryz.prog 63 #[s_1, del_2] w (retP k) :=
  calls_of_vc (fn := Tryz.f63) (c := (Tryz.f63.body).getD Code.skip) ann63 Tryz.func63 (by kernel_rfl) [s_1, del_2] w k (by kernel_rfl) ((S63_vc s_1 del_2 k w).symm ▸ h)
theorem C63 (s_1 del_2 : Value) (k : Value → World → Prop) (w : World) (h : S63 s_1 del_2 k w) : callW Tryz.prog (.func (.func 63) #[] #[]) #[s_1, del_2] k w :=
  callW_calls ok63 (by simpa using S63_calls s_1 del_2 k w h)

/-! slices.Collect[int] -/
def ann89 : Ann := []
def S89 (seq_1 : Value) (k : Value → World → Prop) (w : World) : Prop :=
   callW Tryz.prog (Value.func (Fn.func 106) #[] #[]) #[(Value.slice none 0 0), seq_1] (fun t4_2 w =>
   k t4_2 w) w
theorem S89_vc (seq_1 : Value) (k : Value → World → Prop) (w : World) : vc Tryz.prog Tryz.f89.ntmps ann89 none ((Tryz.f89.body).getD Code.skip) 1 (params 0 [seq_1]) [] (finQ Tryz.prog Tryz.f89.results.toList k) w = S89 seq_1 k w := by kernel_rfl
theorem S89_calls (seq_1 : Value) (k : Value → World → Prop) (w : World) (h : S89 seq_1 k w) : Calls Tryz.prog 89 #[seq_1] w (retP k) :=
  calls_of_vc (fn := Tryz.f89) (c := (Tryz.f89.body).getD Code.skip) ann89 Tryz.func89 (by kernel_rfl) [seq_1] w k (by kernel_rfl) ((S89_vc seq_1 k w).symm ▸ h)
theorem C89 (seq_1 : Value) (k : Value → World → Prop) (w : World) (h : S89 seq_1 k w) : callW Tryz.prog (.func (.func 89) #[] #[]) #[seq_1] k w :=
  callW_calls ok89 (by simpa using S89_calls seq_1 k w h)

/-! slices.AppendSeq[[]int,int] -/
def ann106 : Ann := [(13, Note.keep [2]), (53, Note.keep [])]
def S106 (s_1 seq_2 : Value) (k : Value → World → Prop) (w : World) : Prop :=
   opW Tryz.prog (Instr.box 56 s_1) (fun s_3 w =>
   rangeW Tryz.prog seq_2 1 (fun l_5 ready_5 busy_5 args_5 w k_5 =>
   ready_5 w ∧ (fun w => opW Tryz.prog (Instr.loadAt 56 s_3) (fun t8_7 w =>
   opW Tryz.prog (Instr.buildSlice 56 1 #[(0, (args_5.headD undef))]) (fun t10_8 w =>
   opW Tryz.prog (Builtin.append_ #[56, 56] 56 #[t8_7, t10_8]) (fun t11_9 w =>
   opU Tryz.prog (Instr.storeAt 56 s_3 t11_9) (fun _ w =>
   k_5 none w) w) w) w) w) (busy_5 w)) (fun d_5 j_5 w => jumpW j_5
   (opW Tryz.prog (Instr.loadAt 56 s_3) (fun t12_10 w =>
   leaveW [{ target := Target.collected d_5, args := #[] }] (fun w => k t12_10 w) w) w)
   (leaveW [{ target := Target.collected d_5, args := #[] }] (fun w => k (Value.slice none 0 0) w) w)
   (fun x => False)) w) w
theorem S106_vc (s_1 seq_2 : Value) (k : Value → World → Prop) (w : World) : vc Tryz.prog Tryz.f106.ntmps ann106 none ((Tryz.f106.body).getD Code.skip) 1 (params 0 [s_1, seq_2]) [] (finQ Tryz.prog Tryz.f106.results.toList k) w = S106 s_1 seq_2 k w := by kernel_rfl
theorem S106_calls (s_1 seq_2 : Value) (k : Value → World → Prop) (w : World) (h : S106 s_1 seq_2 k w) : Calls Tryz.prog 106 #[s_1, seq_2] w (retP k) :=
  calls_of_vc (fn := Tryz.f106) (c := (Tryz.f106.body).getD Code.skip) ann106 Tryz.func106 (by kernel_rfl) [s_1, seq_2] w k (by kernel_rfl) ((S106_vc s_1 seq_2 k w).symm ▸ h)
theorem C106 (s_1 seq_2 : Value) (k : Value → World → Prop) (w : World) (h : S106 s_1 seq_2 k w) : callW Tryz.prog (.func (.func 106) #[] #[]) #[s_1, seq_2] k w :=
  callW_calls ok106 (by simpa using S106_calls s_1 seq_2 k w h)

end
end Go.Proofs.YtbojglaimdjagaaGreatDoor
/- Lists of integers of one's own: sorted, compacted, cut. -/
set_option linter.unusedSimpArgs false
set_option linter.unusedVariables false
set_option maxRecDepth 4000
namespace Go.Proofs.YtbojglaimdjagaaGreatDoor
open Go Go.V Go.RowKit
theorem flatI : ∀ l : List Int, flat fI l = l.map I
  | [] => rfl
  | x :: l => by rw [List.map_cons, ← flatI l]; rfl
theorem mine_row {w : World} {B : Nat} {v : Value} {l : List Int} (h : Mine fI 3 w B v l) : (l = [] ∧ v = nS) ∨ ∃ g cap rest, v = .slice (some ⟨g, 0, none⟩) l.length cap ∧ B ≤ g ∧ RowAt w g 3 (l.map I ++ rest) ∧ l.length + rest.length = cap ∧ cap ≤ maxLen := by
  rcases id h.2 with ⟨h1, h2⟩ | ⟨g, cap, cur, h1, h2, h3, h4, h5, h6, h7⟩
  · exact .inl ⟨List.eq_nil_of_length_eq_zero h2, h1⟩
  · refine .inr ⟨g, cap, cur.toList.drop l.length, h1, h2, ?_, ?_, h5⟩
    · have e1 : fI.sz = 1 := rfl
      rw [e1, Nat.mul_one, flatI] at h7
      have : l.map I ++ cur.toList.drop l.length = cur.toList := by rw [← h7, List.take_append_drop]
      rw [this]
      exact h3
    · have e1 : fI.sz = 1 := rfl
      rw [e1, Nat.mul_one] at h6
      rw [List.length_drop, show cur.toList.length = cur.size from Array.length_toList]; omega
theorem row_mine {w : World} {B g cap n : Nat} {l : List Int} {rest : List Value} (hB : B ≤ g) (h : RowAt w g 3 (l.map I ++ rest)) (hn : n = l.length) (hc : l.length + rest.length = cap) (hm : cap ≤ maxLen) : Mine fI 3 w B (.slice (some ⟨g, 0, none⟩) n cap) l := by
  subst hn
  have e1 : fI.sz = 1 := rfl
  refine ⟨by rw [flatI, List.length_map, e1, Nat.mul_one], .inr ⟨g, cap, (l.map I ++ rest).toArray, rfl, hB, h, by omega, hm, by rw [e1, Nat.mul_one]; simp; exact hc, ?_⟩⟩
  rw [e1, Nat.mul_one, flatI]
  rw [show (l.map I ++ rest).toArray.toList = l.map I ++ rest from rfl, List.take_append_of_le_length (by simp), List.take_of_length_le (by simp)]
theorem setCells_eq (b : Nat) : ∀ (vs : List Value) (o : Nat) (w : World), w.setCells b o vs = Go.V.setCells w b o vs
  | [], _, _ => rfl
  | v :: r, o, w => setCells_eq b r (o + 1) _
section
variable {k : Value → World → Prop} {w : World} {B : Nat}
theorem c90m {v : Value} {l : List Int} (h : Mine fI 3 w B v l) (hl : l.length ≤ 1000000) (hB : B ≤ w.heap.size) (hk : ∀ r w', Mine fI 3 w' B v (l.mergeSort fun x y => decide (x ≤ y)) → Below B w w' → Off (isOf v) w w' → k r w') :
    callW Tryz.prog (.func (.func 90) #[] #[]) #[v] k w := by
  by_cases hnil : l = []
  · subst hnil
    have hv : ∃ p c, v = .slice p 0 c := by
      rcases mine_row h with ⟨_, rfl⟩ | ⟨g, cap, rest, rfl, _⟩
      · exact ⟨_, _, rfl⟩
      · exact ⟨_, _, rfl⟩
    obtain ⟨p, c, rfl⟩ := hv
    refine callW_calls ok90 (Calls.mono (Tryz.slices_Sort_int_none p c w) ?_)
    rintro e w' ⟨rfl, rfl⟩
    exact hk _ _ (by rw [List.mergeSort_nil]; exact h) (Below.refl _ _) (Off.refl _ _)
  · rcases id h.2 with ⟨h1, h2⟩ | ⟨g, cap, cur, rfl, h2, h3, h4, h5, h6, h7⟩
    · exact absurd (List.eq_nil_of_length_eq_zero h2) hnil
    have e1 : fI.sz = 1 := rfl
    rw [e1, Nat.mul_one, flatI] at h7
    have hgl := (Array.getElem?_eq_some_iff.1 h3).1
    refine callW_calls ok90 (Calls.mono (Tryz.slices_Sort_int g 0 cap l w (holds_of_blockI h3 h7) hgl (by omega)) ?_)
    rintro e w' ⟨rfl, n, os, rfl⟩
    have hp := List.length_mergeSort (le := fun x y : Int => decide (x ≤ y)) l
    have hg := grownBy_sortedI (w := w) (g := g) (n := n) (os := os) (l.mergeSort fun x y => decide (x ≤ y)).toArray
    refine hk _ _ ?_ ?_ ?_
    · unfold Mine
      rw [flatI, hp]
      exact ownsRow_sortedI hp h2 h3 (by omega) h5 (by rw [h6]; rfl)
    · exact (Below.refl B w).grown hg hB fun b hb => by cases hb; exact h2
    · exact Off.grown hg fun b hb => hb
theorem c60m {v : Value} {l : List Int} (h : Mine fI 3 w B v l) (hl : l.length ≤ 1000000) (hB : B ≤ w.heap.size) (hk : ∀ v' w', Mine fI 3 w' B v' (Lib.compact l) → Below B w w' → Off (isOf v) w w' → (∀ x, isOf v' x → isOf v x) → k v' w') :
    callW Tryz.prog (.func (.func 60) #[] #[]) #[v] k w := by
  rcases mine_row h with ⟨rfl, rfl⟩ | ⟨g, cap, rest, rfl, hg, hr, hc, hm⟩
  · refine callW_calls ok60 (Calls.mono (Tryz.slices_Compact_int_empty none 0 w) ?_)
    rintro e w' ⟨rfl, rfl⟩
    exact hk _ _ (Mine.nil _ _) (Below.refl _ _) (Off.refl _ _) fun x hx => hx
  · have hcl := Lib.compact_length_le l
    refine callW_calls ok60 (Calls.mono (Tryz.slices_Compact_int_cells g 0 l.length cap l w (Nat.le_refl _) (by omega) (by omega) (fun j hj => ?_) (fun j hj => hr.free _)) ?_)
    · rw [Nat.zero_add]
      refine hr.cell ?_
      rw [List.getElem?_append_left (by simpa using hj), List.getElem?_map, List.getElem?_eq_getElem hj, List.getD_eq_getElem?_getD, List.getElem?_eq_getElem hj]; rfl
    · rintro e w' ⟨rfl, q, rfl⟩
      rw [List.take_length]
      rw [setCells_eq]
      have hrd : RowAt (w.drewN q) g 3 (l.map I ++ rest) := hr
      have hlen : ((Lib.compact l ++ List.replicate (l.length - (Lib.compact l).length) 0).map (Value.int .i64)).length = (l.map I).length := by simp; omega
      have hr2 := rowAt_setMid ((Lib.compact l ++ List.replicate (l.length - (Lib.compact l).length) 0).map (Value.int .i64)) [] (l.map I) rest (w.drewN q) hrd hlen
      have ho : Only g (w.drewN q) (setCells (w.drewN q) g 0 ((Lib.compact l ++ List.replicate (l.length - (Lib.compact l).length) 0).map (Value.int .i64))) := only_setCells _ 0 _
      have hbd : Below B w (w.drewN q) := ⟨rfl, rfl, rfl, Nat.le_refl _, fun _ _ => rfl⟩
      have hod : Off (isOf (.slice (some ⟨g, 0, none⟩) l.length cap)) w (w.drewN q) := ⟨Nat.le_refl _, fun _ _ _ => rfl⟩
      refine hk _ _ ?_ (hbd.trans (ho.rest B hg)) (hod.trans (Off.only ho rfl)) fun x hx => hx
      refine row_mine (rest := (List.replicate (l.length - (Lib.compact l).length) (0 : Int)).map I ++ rest) hg ?_ rfl (by simp; omega) hm
      rw [← List.append_assoc, show (Lib.compact l).map I ++ (List.replicate (l.length - (Lib.compact l).length) (0 : Int)).map I = (Lib.compact l ++ List.replicate (l.length - (Lib.compact l).length) (0 : Int)).map (Value.int .i64) from List.map_append.symm]
      exact hr2
/-- the values of a slice, one after the other -/
theorem iter91 {wI : World} {kv : Value} {l : List Int} {bx : Nat} (hs : ∀ w', Below wI.heap.size wI w' → IsSl fI w' kv l) (hl : l.length ≤ maxLen) (h1 : RowAt w bx 56 [kv]) :
    IterLaw Tryz.prog 91 #[.pointer (some ⟨bx, 0, none⟩)] (l.map fun x => [I x]) wI (fun b => b = bx) w := by
  have hml : maxLen ≤ 9223372036854775807 := by decide
  intro yield Inv F0 k hY hF h0 hbI hk
  refine S91_calls yield (.pointer (some ⟨bx, 0, none⟩)) k w ?_
  unfold S91
  rw [ld56 (h1.cell (i := 0) rfl), w_lenS (by kernel_rfl) (hs w hbI)]
  refine Loop1.intro (fun n' a w' => ∃ (i : Nat) (F : Nat → Prop), a = I i ∧ i ≤ l.length ∧ n' = l.length - i ∧ Below wI.heap.size wI w' ∧ Inv i true F w') _ ⟨0, F0, rfl, by omega, rfl, hbI, h0⟩ ?_
  rintro n' _ w1 ⟨i, F, rfl, hi, rfl, hb1, hi1⟩
  rw [w_lss]
  by_cases hlt : i < l.length
  · rw [decide_eq_true (by omega), condW_true]
    have hx : l[((i : Int)).toNat]? = some l[i] := by rw [Int.toNat_natCast]; exact List.getElem?_eq_getElem hlt
    refine ix56 (hs w1 hb1) rfl (by omega) hx fun b0 o0 hc0 => ?_
    rw [ld3 (show w1.cell? ⟨b0, o0, none⟩ = some (I l[i]) from hc0 0 _ rfl)]
    refine hY.call i _ F w1 _ hi1 hb1 (by rw [List.getElem?_map, List.getElem?_eq_getElem hlt]; rfl) fun b F' w3 hb3 ho3 hF3 hi3 => ?_
    rw [w_not]
    cases b with
    | false =>
      simp only [Bool.not_false, condW_true]
      exact hk _ _ _ _ hb3 hi3 fun h => by cases h
    | true =>
      simp only [Bool.not_true, condW_false]
      rw [w_add, wrap_id (by omega), loopK_self]
      exact ⟨l.length - (i + 1), by omega, i + 1, F', by simp [I], by omega, rfl, hb3, hi3⟩
  · rw [decide_eq_false (by omega), condW_false]
    exact hk _ _ _ _ hb1 hi1 fun _ => by simp; omega
end
end Go.Proofs.YtbojglaimdjagaaGreatDoor
/- slices.Sorted of slices.Values; slices.DeleteFunc. -/
set_option linter.unusedSimpArgs false
set_option linter.unusedVariables false
set_option maxRecDepth 4000
namespace Go.Proofs.YtbojglaimdjagaaGreatDoor
open Go Go.V Go.RowKit
section
variable {k : Value → World → Prop} {w : World} {B : Nat}
theorem c106 {kv : Value} {l : List Int} {bx : Nat} (hs : ∀ w', Below w.heap.size w w' → IsSl fI w' kv l) (hl : l.length ≤ 1000000) (h1 : RowAt w bx 56 [kv]) (hk : ∀ v w', Below w.heap.size w w' → Mine fI 3 w' w.heap.size v l → k v w') :
    callW Tryz.prog (.func (.func 106) #[] #[]) #[nS, .func (.func 91) #[] #[.pointer (some ⟨bx, 0, none⟩)]] k w := C106 _ _ _ _ (by
  unfold S106
  have hml : 100000000 ≤ maxLen := by decide
  have hbx := h1.lt
  refine w_boxN fun w2 hb2 hsz2 hr2 => ?_
  obtain ⟨ob, hob⟩ : ∃ b, w.heap.size = b := ⟨_, rfl⟩
  replace hr2 : RowAt w2 w.heap.size 56 [nS] := hr2
  rw [hob] at hr2 ⊢
  refine range_of (wI := w) (own := fun b => b = bx) (Inv := fun i j F w' => j = none ∧ i ≤ l.length ∧ ∃ v, RowAt w' ob 56 [v] ∧ Mine fI 3 w' (ob + 1) v (l.take i) ∧ ∀ b, F b ↔ b = ob ∨ isOf v b) (F0 := fun b => b = ob)
    ok91 (args := l.map fun x => [I x]) (fun w3 hb3 => iter91 hs (by omega) ((h1.below hb2).below hb3)) (fun a ha => ?_) hb2 (fun b hb => ?_) ⟨rfl, by omega, nS, hr2, Mine.nil _ _, fun b => ⟨.inl, fun h => h.elim (fun h => h) fun h => by cases h⟩⟩ ?_ ?_ ?_ ?_
  · obtain ⟨x, _, rfl⟩ := List.mem_map.1 ha
    rfl
  · subst hb
    exact ⟨by omega, by omega⟩
  · rintro i j F u u' p ⟨rfl, hi, v, hr, hm, hF⟩ ho hp
    exact ⟨rfl, hi, v, hr.off ho (hp _ ((hF _).2 (.inl rfl))), hm.off ho fun b hb => hp b ((hF b).2 (.inr hb)), hF⟩
  · rintro i j F u b ⟨rfl, hi, v, hr, hm, hF⟩ hb
    rcases (hF b).1 hb with rfl | hb
    · exact ⟨by omega, hr.lt⟩
    · have := hm.ge hb
      omega
  · rintro i a F w3 d0 ready o kk ha ⟨_, hi, v, hr3, hm3, hF⟩ hb3 hrdy hd hdI hdF hkk
    have hil : i < l.length := by
      have := (List.getElem?_eq_some_iff.1 ha).1
      simpa using this
    obtain rfl : a = [I l[i]] := by
      rw [List.getElem?_map, List.getElem?_eq_getElem hil] at ha
      exact (Option.some.inj ha).symm
    refine ⟨hrdy _ (Below.refl _ _), ?_⟩
    simp only []
    have hput : Off (· = d0) w3 (w3.putObj d0 o) := off_putObj rfl
    have hbp : Below w.heap.size w3 (w3.putObj d0 o) := below_putObj hdI
    have hr4 := hr3.off hput (fun hh => hdF ((hF _).2 (.inl hh.symm)))
    have hm4 := hm3.off hput fun b hb hh => hdF ((hF _).2 (.inr (by rw [← hh]; exact hb)))
    have hb4 := hb3.trans hbp
    have hs4 : (w3.putObj d0 o).heap.size = w3.heap.size := by simp
    generalize hw4 : w3.putObj d0 o = w4 at *
    have hob4 : ob < w4.heap.size := hr4.lt
    rw [ld56 (hr4.cell (i := 0) rfl)]
    simp only [List.headD_cons]
    refine Mine.push (F := fI) (x := l[i]) sty56 (fun u hu => by simp [fI] at hu; subst hu; rfl) rfl (by decide) hm4 (by omega) (by rw [List.length_take]; omega) (by rw [List.length_take]; omega) fun v5 w5 hm5 hb5 ho5 hu5 => ?_
    have hov : v5.oneCell' = true := by obtain ⟨a9, c9, rfl, -⟩ := hm5.sl; rfl
    have hne : ¬ isOf v ob := fun hh => by have := hm4.ge hh; omega
    have hr5 := hr4.off ho5 hne
    have hne5 : ∀ b, isOf v5 b → b ≠ ob := fun b hb hh => by have := hm5.ge hb; omega
    rw [st56 hov (hr5.cell (i := 0) rfl) (hr5.free _)]
    have hof : Off (fun b => b = ob) w5 (w5.setCell ⟨ob, 0, none⟩ v5) := Off.set rfl
    refine hkk none (fun b => b = ob ∨ isOf v5 b) w3 _ (Below.refl _ _) ?_ ?_ ?_ ⟨rfl, by omega, v5, hr5.set 0 v5, ?_, fun b => Iff.rfl⟩
    · exact (hb4.trans (hb5.mono (by omega))).setCell (by show w.heap.size ≤ ob; omega) _
    · rw [hw4]
      refine (ho5.mono fun b _ hb => .inl ((hF b).2 (.inr hb))).trans (hof.mono fun b _ hb => .inl ((hF b).2 (.inl hb)))
    · intro b hb
      rcases hb with rfl | hb
      · exact .inl ((hF _).2 (.inl rfl))
      · rcases hu5 b hb with h1 | h1
        · exact .inl ((hF b).2 (.inr h1))
        · exact .inr (by omega)
    · have e : l.take (i + 1) = l.take i ++ [l[i]] := by
        rw [List.take_add_one, List.getElem?_eq_getElem hil]; rfl
      rw [e]
      exact hm5.off hof fun b hb hh => hne5 b hb hh
  · rintro i j F w3 d0 hn hb3 ⟨rfl, hi, v, hr3, hm3, hF⟩ hd hdI hdF hdd
    rw [jumpW_none, ld56 (hr3.cell (i := 0) rfl)]
    have hn := hn rfl
    rw [List.length_map] at hn
    have hall : l.take i = l := by rw [List.take_of_length_le]; omega
    rw [hall] at hm3
    refine ⟨hdd, ?_⟩
    have hdw : w.heap.size ≤ d0 := by omega
    refine hk _ _ (hb3.trans (below_putObj hdw)) ?_
    refine (Mine.off (hm3.base (b' := w.heap.size) (by omega)) (off_putObj (p := (· = d0)) rfl) fun b hb hh => ?_)
    exact hdF ((hF _).2 (.inr (by rw [← hh]; exact hb))))
theorem c61 {kv : Value} {l : List Int} {bx : Nat} (hs : ∀ w', Below w.heap.size w w' → IsSl fI w' kv l) (hl : l.length ≤ 1000000) (h1 : RowAt w bx 56 [kv]) (hk : ∀ v w', Below w.heap.size w w' → Mine fI 3 w' w.heap.size v (l.mergeSort fun x y => decide (x ≤ y)) → k v w') :
    callW Tryz.prog (.func (.func 61) #[] #[]) #[.func (.func 91) #[] #[.pointer (some ⟨bx, 0, none⟩)]] k w := C61 _ _ _ (by
  unfold S61
  refine C89 _ _ _ ?_
  unfold S89
  refine c106 hs hl h1 fun v w1 hb1 hm1 => ?_
  refine c90m hm1 hl hb1.size fun r w2 hm2 hb2 _ => ?_
  exact hk _ _ (hb1.trans hb2) hm2)
end
end Go.Proofs.YtbojglaimdjagaaGreatDoor
/- slices.DeleteFunc at integers. -/
set_option linter.unusedSimpArgs false
set_option linter.unusedVariables false
set_option maxRecDepth 4000
namespace Go.Proofs.YtbojglaimdjagaaGreatDoor
open Go Go.V Go.RowKit
theorem zeroI (n : Nat) : (Builtin.zeroCells (Value.int .i64 0).cells n).toList = List.replicate n (I 0) := by
  apply List.ext_getElem?
  intro j
  by_cases hj : j < n
  · rw [List.getElem?_replicate, if_pos hj]
    simp [Builtin.zeroCells, hj, Value.cells]
    rw [Nat.mod_one]; rfl
  · rw [List.getElem?_replicate, if_neg hj, List.getElem?_eq_none (by simp [Builtin.zeroCells, Value.cells]; omega)]
section
variable {k : Value → World → Prop} {w : World} {B : Nat}
theorem w_clearI {g m c : Nat} {pre old post : List Value} (hr : RowAt w g 3 (pre ++ old ++ post)) (hm : old.length = m + 1) (hk : k (.tuple #[]) (setCells w g pre.length (List.replicate (m + 1) (I 0)))) : opW Tryz.prog (Builtin.clear_ #[56] 0 #[.slice (some ⟨g, pre.length, none⟩) (m + 1) c]) k w := by
  have hz1 : ∀ u ∈ List.replicate (m + 1) (I 0), u.oneCell' = true := fun u hu => by rw [List.eq_of_mem_replicate hu]; rfl
  have hst := run_storeCells (P := Tryz.prog) (b := g) (o := pre.length) (List.replicate (m + 1) (I 0)) 0 w hz1 (fun j hj => by
    rw [List.length_replicate] at hj
    obtain ⟨u, hu⟩ : ∃ u, (pre ++ old ++ post)[pre.length + 0 + j]? = some u := ⟨_, List.getElem?_eq_getElem (by simp; omega)⟩
    exact ⟨u, hr.cell hu⟩) (fun j hj => hr.free _)
  have hzz := zeroI (m + 1)
  rw [opW_ok (show (Builtin.clear_ #[56] 0 #[.slice (some ⟨g, pre.length, none⟩) (m + 1) c]).run Tryz.prog w = .ok (.tuple #[]) (setCells w g (pre.length + 0) (List.replicate (m + 1) (I 0))) by
    simp [Builtin.clear_, run_underlying sty56.u, run_zeroOf sty56, hzz, Sem.run_bind, Result.andThen] at hst ⊢
    rw [hst])]
  exact hk
theorem c92 {v del : Value} {l : List Int} {p : Int → Bool} (hs : IsSl fI w v l) (hl : l.length ≤ 1000000) (hp : ∀ x kk, kk (.bool (p x)) w → callW Tryz.prog del #[I x] kk w)
    (hk0 : (∀ x ∈ l, p x = false) → k (I (-1)) w) (hk : ∀ i : Nat, (hi : i < l.length) → (∀ x ∈ l.take i, p x = false) → p l[i] = true → k (I i) w) : callW Tryz.prog (.func (.func 92) #[] #[]) #[v, del] k w := C92 _ _ _ _ (by
  unfold S92
  rw [w_lenS (by kernel_rfl) hs]
  refine Loop1.intro (fun n' a w' => ∃ i : Nat, a = I i ∧ i ≤ l.length ∧ n' = l.length - i ∧ w' = w ∧ ∀ x ∈ l.take i, p x = false) _ ⟨0, rfl, by omega, rfl, rfl, by simp⟩ ?_
  rintro n' _ w1 ⟨i, rfl, hi, rfl, rfl, hP⟩
  rw [w_lss]
  by_cases hlt : i < l.length
  · rw [decide_eq_true (by omega), condW_true]
    have hx : l[((i : Int)).toNat]? = some l[i] := by rw [Int.toNat_natCast]; exact List.getElem?_eq_getElem hlt
    refine ix56 hs rfl (by omega) hx fun b0 o0 hc0 => ?_
    rw [ld3 (show w1.cell? ⟨b0, o0, none⟩ = some (I l[i]) from hc0 0 _ rfl)]
    refine hp _ _ ?_
    cases hpx : p l[i] with
    | true =>
      rw [condW_true]
      exact hk i hlt hP hpx
    | false =>
      rw [condW_false, w_add, wrap_id (by omega), loopK_self]
      refine ⟨l.length - (i + 1), by omega, i + 1, by simp [I], by omega, rfl, rfl, fun x hx => ?_⟩
      rw [List.take_add_one, List.getElem?_eq_getElem hlt, Option.toList_some] at hx
      rcases List.mem_append.1 hx with h | h
      · exact hP x h
      · simp at h; subst h; exact hpx
  · rw [decide_eq_false (by omega), condW_false]
    refine hk0 fun x hx => hP x ?_
    rw [List.take_of_length_le (by omega)]; exact hx)
theorem w_uptoI {g c n : Nat} {q : IntKind} {hi : Nat} (h2 : hi ≤ n) (hc : n ≤ c) (hk : k (.slice (some ⟨g, 0, none⟩) hi c) w) : opW Tryz.prog (Instr.sliceAt 56 (.slice (some ⟨g, 0, none⟩) n c) none (some (.int q (hi : Int))) none) k w := by
  have ht : Tryz.prog.underlying 56 = some (.slice (Tryz.prog.elem 56)) := by kernel_rfl
  have hkn : known Tryz.prog (Tryz.prog.elem 56) = true := by kernel_rfl
  rw [opW_ok (show (Instr.sliceAt 56 (.slice (some ⟨g, 0, none⟩) n c) none (some (.int q (hi : Int))) none).run Tryz.prog w = .ok (sliced (some ⟨g, 0, none⟩) 0 hi c (sizeT Tryz.prog (Tryz.prog.elem 56))) w by
    rw [run_sliceAt_slice _ _ _ _ _ _ ht, run_slice_h w 56 _ _ c ht q hi (by omega) (by omega), Go.V.run_sizeOf hkn]
    simp [Result.andThen])]
  have he : sliced (some ⟨g, 0, none⟩) 0 hi c (sizeT Tryz.prog (Tryz.prog.elem 56)) = .slice (some ⟨g, 0, none⟩) hi c := by
    unfold sliced
    simp [add_none]
  rw [he]; exact hk
theorem w_fromI {g c n : Nat} {q : IntKind} {lo : Nat} (h2 : lo ≤ n) (hc : n ≤ c) (hk : ∀ a c', (lo < n → a = some ⟨g, lo, none⟩) → k (.slice a (n - lo) c') w) : opW Tryz.prog (Instr.sliceAt 56 (.slice (some ⟨g, 0, none⟩) n c) (some (.int q (lo : Int))) none none) k w := by
  have ht : Tryz.prog.underlying 56 = some (.slice (Tryz.prog.elem 56)) := by kernel_rfl
  have hkn : known Tryz.prog (Tryz.prog.elem 56) = true := by kernel_rfl
  rw [opW_ok (show (Instr.sliceAt 56 (.slice (some ⟨g, 0, none⟩) n c) (some (.int q (lo : Int))) none none).run Tryz.prog w = .ok (sliced (some ⟨g, 0, none⟩) lo n c (sizeT Tryz.prog (Tryz.prog.elem 56))) w by
    rw [run_sliceAt_slice _ _ _ _ _ _ ht, run_slice_l w 56 _ _ c ht q lo (by omega) (by omega), Go.V.run_sizeOf hkn]
    simp [Result.andThen])]
  have hz : sizeT Tryz.prog (Tryz.prog.elem 56) = 1 := by kernel_rfl
  rw [hz]
  unfold sliced
  split
  · rename_i hx
    exact hk _ _ (fun hlt => by omega)
  · exact hk _ _ (fun hlt => by simp [Addr.add_lit])
end
end Go.Proofs.YtbojglaimdjagaaGreatDoor
/- slices.DeleteFunc; settle the other way. -/
set_option linter.unusedSimpArgs false
set_option linter.unusedVariables false
set_option maxRecDepth 4000
namespace Go.Proofs.YtbojglaimdjagaaGreatDoor
open Go Go.V Go.RowKit
section
variable {k : Value → World → Prop} {w : World} {B b : Nat} {D : DK} {dv vv pv : Value}
theorem c64 {i : Int} {xb : Nat} (h : DiskR B w b D dv vv pv) (hx : RowAt w xb 27 [.pointer (some ⟨b, 0, none⟩)]) (hk : k (.bool (decide (i < 0 ∨ (D.pend.length : Int) ≤ i))) w) : callW Tryz.prog (.func (.func 64) #[] #[.pointer (some ⟨xb, 0, none⟩)]) #[I i] k w := C64 _ _ _ _ (by
  unfold S64
  rw [w_lss]
  by_cases h1 : i < 0
  · rw [decide_eq_true h1]
    simp only [guardW_tf, guardW_u, pickW_true]
    rw [decide_eq_true (.inl h1)] at hk
    exact hk
  · rw [decide_eq_false h1]
    simp only [guardW_ff]
    rw [ld27 (hx.cell (i := 0) rfl)]
    simp only [nilW_ptr]
    rw [rw97_3 (h.row.cell (i := 0 + 4) rfl), w_lenS (by kernel_rfl) h.pend.sl, w_geq]
    simp only [pickW_false]
    by_cases h2 : (D.pend.length : Int) ≤ i
    · rw [decide_eq_true h2]
      rw [decide_eq_true (.inr h2)] at hk
      exact hk
    · rw [decide_eq_false h2]
      rw [decide_eq_false (fun h => h.elim h1 h2)] at hk
      exact hk)
/-- what is not deleted stays -/
theorem c63 {v del : Value} {l : List Int} {p : Int → Bool} (h : Mine fI 3 w B v l) (hl : l.length ≤ 1000000) (hp : ∀ w' x kk, Off (isOf v) w w' → Below B w w' → kk (.bool (p x)) w' → callW Tryz.prog del #[I x] kk w')
    (hk : ∀ v' w', Mine fI 3 w' B v' (l.filter fun x => !p x) → Below B w w' → Off (isOf v) w w' → (∀ x, isOf v' x → isOf v x) → k v' w') : callW Tryz.prog (.func (.func 63) #[] #[]) #[v, del] k w := C63 _ _ _ _ (by
  unfold S63
  refine c92 h.sl hl (fun x kk hkk => hp w x kk (Off.refl _ _) (Below.refl _ _) hkk) (fun hno => ?_) (fun i0 hi0 hfirst hi0p => ?_)
  · rw [w_eql, decide_eq_true rfl, condW_true]
    have : (l.filter fun x => !p x) = l := by
      rw [List.filter_eq_self]
      intro x hx
      rw [hno x hx]; rfl
    exact hk v w (by rw [this]; exact h) (Below.refl _ _) (Off.refl _ _) fun x hx => hx
  rw [w_eql, decide_eq_false (by omega), condW_false, w_add, wrap_id (by omega)]
  have hne : l ≠ [] := fun hh => by rw [hh] at hi0; simp at hi0
  obtain ⟨g, cap, rest, hv, hg, hr, hc, hm⟩ : ∃ g cap rest, v = .slice (some ⟨g, 0, none⟩) l.length cap ∧ B ≤ g ∧ RowAt w g 3 (l.map I ++ rest) ∧ l.length + rest.length = cap ∧ cap ≤ maxLen := by
    rcases mine_row h with ⟨hh, _⟩ | hh
    · exact absurd hh hne
    · exact hh
  have hfil0 : (l.take i0).filter (fun x => !p x) = l.take i0 := by
    rw [List.filter_eq_self]
    intro x hx
    rw [hfirst x hx]; rfl
  refine Loop2.intro (fun n' a c w' => ∃ (i j : Nat) (cl : List Int), a = I i ∧ c = I j ∧ n' = l.length - j ∧ i < j ∧ j ≤ l.length ∧ cl.length = l.length ∧ Mine fI 3 w' B v cl ∧ cl.take i = (l.take j).filter (fun x => !p x) ∧ cl.drop j = l.drop j ∧ Below B w w' ∧ Off (isOf v) w w') _
    ⟨i0, i0 + 1, l, rfl, by simp [I], rfl, by omega, by omega, rfl, h, by
      rw [List.take_add_one, List.getElem?_eq_getElem hi0, Option.toList_some, List.filter_append, hfil0]
      simp [hi0p], rfl, Below.refl _ _, Off.refl _ _⟩ ?_
  rintro n' _ _ w1 ⟨i, j, cl, rfl, rfl, rfl, hij, hjl, hcl, hm1, ht1, hd1, hb1, ho1⟩
  have hlen1 : v = .slice (some ⟨g, 0, none⟩) cl.length cap := by rw [hcl]; exact hv
  rw [w_lenS (by kernel_rfl) hm1.sl, hcl, w_lss]
  by_cases hlt : j < l.length
  · rw [decide_eq_true (by omega), condW_true]
    have hcx : cl[j]? = some l[j] := by
      have := congrArg (fun z => z[0]?) hd1
      simp only [List.getElem?_drop, Nat.add_zero] at this
      rw [this, List.getElem?_eq_getElem hlt]
    refine joinW_use1 (fun a w' => ∃ (i' : Nat) (cl' : List Int), a = I i' ∧ i' < j + 1 ∧ cl'.length = l.length ∧ Mine fI 3 w' B v cl' ∧ cl'.take i' = (l.take (j + 1)).filter (fun x => !p x) ∧ cl'.drop (j + 1) = l.drop (j + 1) ∧ Below B w w' ∧ Off (isOf v) w w') ?_ ?_
    · rintro _ w2 ⟨i', cl', rfl, q1, q2, q3, q4, q5, q6, q7⟩
      rw [w_add, wrap_id (by omega), loopK_self]
      exact ⟨l.length - (j + 1), by omega, i', j + 1, cl', rfl, by simp [I], rfl, q1, by omega, q2, q3, q4, q5, q6, q7⟩
    intro J hJ
    refine ix56 hm1.sl rfl (by omega) (x := l[j]) (by rw [Int.toNat_natCast]; exact hcx) fun b0 o0 hc0 => ?_
    rw [ld3 (show w1.cell? ⟨b0, o0, none⟩ = some (I l[j]) from hc0 0 _ rfl)]
    refine hp w1 _ _ ho1 hb1 ?_
    rw [w_not]
    have htk : l.take (j + 1) = l.take j ++ [l[j]] := by rw [List.take_add_one, List.getElem?_eq_getElem hlt]; rfl
    have hdr : cl.drop (j + 1) = l.drop (j + 1) := by rw [← List.drop_drop, hd1, List.drop_drop]
    cases hpx : p l[j] with
    | true =>
      rw [Bool.not_true, condW_false]
      refine hJ _ _ ⟨i, cl, rfl, by omega, hcl, hm1, ?_, hdr, hb1, ho1⟩
      rw [htk, List.filter_append, ← ht1]
      simp [hpx]
    | false =>
      rw [Bool.not_false, condW_true]
      have hci : cl[((i : Int)).toNat]? = some (cl[i]'(by omega)) := by rw [Int.toNat_natCast]; exact List.getElem?_eq_getElem (by omega)
      refine Mine.setE (F := fI) (y := l[j]) isl56 (by kernel_rfl) (by kernel_rfl) rfl (by kernel_rfl) known3 hm1 (by omega) hci rfl rfl fun w2 hm2 hb2 ho2 => ?_
      rw [Int.toNat_natCast] at hm2
      rw [w_add, wrap_id (by omega)]
      refine hJ _ _ ⟨i + 1, cl.set i l[j], by simp [I], by omega, by rw [List.length_set]; exact hcl, hm2, ?_, ?_, hb1.trans hb2, ho1.trans ho2⟩
      · rw [htk, List.filter_append, ← ht1, List.take_add_one, List.getElem?_set_self (by omega), List.take_set_of_le (Nat.le_refl _)]
        simp [hpx]
      · rw [List.drop_set_of_lt (by omega)]; exact hdr
  rw [decide_eq_false (by omega), condW_false]
  have hj : j = l.length := by omega
  subst hj
  rw [List.take_length] at ht1
  obtain ⟨g', cap', rest', hv', hg', hr', hc', hm'⟩ : ∃ g cap rest, v = .slice (some ⟨g, 0, none⟩) cl.length cap ∧ B ≤ g ∧ RowAt w1 g 3 (cl.map I ++ rest) ∧ cl.length + rest.length = cap ∧ cap ≤ maxLen := by
    rcases mine_row hm1 with ⟨hh, _⟩ | hh
    · rw [hh] at hcl; simp at hcl; omega
    · exact hh
  subst hv'
  rw [hcl] at hc'
  have hfin : ∀ w2, RowAt w2 g' 3 (((l.filter fun x => !p x).map I) ++ (List.replicate (cl.length - i) (I 0) ++ rest')) → Only g' w1 w2 → k (.slice (some ⟨g', 0, none⟩) i cap') w2 := fun w2 hr2 ho2 => by
    have hil : i = (l.filter fun x => !p x).length := by rw [← ht1, List.length_take]; omega
    refine hk _ w2 (row_mine hg' hr2 hil (by rw [List.length_append, List.length_replicate, ← hil]; omega) hm') (hb1.trans (ho2.rest B hg')) (ho1.trans (Off.only ho2 rfl)) fun x hx => hx
  refine w_fromI (by omega) (by omega) fun a c' ha => ?_
  have hspl : cl.map I ++ rest' = (cl.take i).map I ++ (cl.drop i).map I ++ rest' := by rw [← List.map_append, List.take_append_drop]
  obtain ⟨m, hm2⟩ : ∃ m, cl.length - i = m + 1 := ⟨cl.length - i - 1, by omega⟩
  rw [ha (by omega), hm2]
  rw [hspl] at hr'
  have hpl : ((cl.take i).map I).length = i := by rw [List.length_map, List.length_take]; omega
  have hcw := w_clearI (k := fun _ w2 => opW Tryz.prog (Instr.sliceAt 56 (.slice (some ⟨g', 0, none⟩) cl.length cap') none (some (I i)) none) (fun t w => k t w) w2) (c := c') hr' (m := m) (by rw [List.length_map, List.length_drop]; omega) (by
    refine w_uptoI (by omega) (by omega) ?_
    have hr3 := rowAt_setMid (List.replicate (m + 1) (I 0)) ((cl.take i).map I) ((cl.drop i).map I) rest' w1 hr' (by rw [List.length_replicate, List.length_map, List.length_drop]; omega)
    refine hfin _ ?_ (only_setCells _ _ _)
    rw [ht1, hm2.symm, List.append_assoc] at hr3
    rw [hm2] at hr3 ⊢
    rw [ht1]
    exact hr3)
  rw [hpl] at hcw
  exact hcw)
end
end Go.Proofs.YtbojglaimdjagaaGreatDoor
/- The disk: Crash. -/
set_option linter.unusedSimpArgs false
set_option linter.unusedVariables false
set_option maxRecDepth 4000
namespace Go.Proofs.YtbojglaimdjagaaGreatDoor
open Go Go.V Go.RowKit
/-- what is durable is visible -/
def revD (D : DK) : DK := { D with vis := D.dur, pend := [] }
/-- which pending writes survive, in their order -/
def ordF (keep : List Int) (n : Nat) : List Int := (Lib.compact (keep.mergeSort fun x y => decide (x ≤ y))).filter fun i => !decide (i < 0 ∨ (n : Int) ≤ i)
/-- one of them, applied; the last one may be torn -/
def crS (pend : List (Int × ByteArray)) (od : List Int) (torn : Int) (i : Nat) (l : List UInt8) : List UInt8 :=
  ontoL l (pend.getD (od.getD i 0).toNat (0, ⟨#[]⟩)).1.toNat (if i + 1 = od.length ∧ 0 ≤ torn then (pend.getD (od.getD i 0).toNat (0, ⟨#[]⟩)).2.extract 0 (min torn.toNat (pend.getD (od.getD i 0).toNat (0, ⟨#[]⟩)).2.size) else (pend.getD (od.getD i 0).toNat (0, ⟨#[]⟩)).2)
def crI (pend : List (Int × ByteArray)) (od : List Int) (torn : Int) (dur : List UInt8) : Nat → List UInt8
  | 0 => dur
  | i + 1 => crS pend od torn i (crI pend od torn dur i)
/-- what a power failure leaves -/
def crD (D : DK) (keep : List Int) (torn : Int) : DK :=
  { off := false, left := 0, dur := crI D.pend (ordF keep D.pend.length) torn D.dur (ordF keep D.pend.length).length, vis := crI D.pend (ordF keep D.pend.length) torn D.dur (ordF keep D.pend.length).length, pend := [] }
/-- writes that lie on the disk -/
def PdOk (n : Nat) (l : List (Int × ByteArray)) : Prop := ∀ p ∈ l, 0 ≤ p.1 ∧ p.1.toNat + p.2.size ≤ n
theorem ordF_mem {keep : List Int} {n : Nat} {x : Int} (h : x ∈ ordF keep n) : 0 ≤ x ∧ x < n := by
  unfold ordF at h
  have := (List.mem_filter.1 h).2
  simp only [Bool.not_eq_true', decide_eq_false_iff_not] at this
  omega
theorem ordF_len (keep : List Int) (n : Nat) : (ordF keep n).length ≤ keep.length := by
  unfold ordF
  have h1 := List.length_filter_le (fun i => !decide (i < 0 ∨ (n : Int) ≤ i)) (Lib.compact (keep.mergeSort fun x y => decide (x ≤ y)))
  have h2 := Lib.compact_length_le (keep.mergeSort fun x y => decide (x ≤ y))
  have h3 := List.length_mergeSort (le := fun x y : Int => decide (x ≤ y)) keep
  omega
theorem crS_len {n : Nat} {pend : List (Int × ByteArray)} {od : List Int} {torn : Int} {i : Nat} {l : List UInt8} (hp : PdOk n pend) (ho : ∀ x ∈ od, 0 ≤ x ∧ x < pend.length) (hi : i < od.length) (hl : l.length = n) : (crS pend od torn i l).length = n := by
  have hx := ho od[i] (List.getElem_mem hi)
  have e1 : od.getD i 0 = od[i] := by rw [List.getD_eq_getElem?_getD, List.getElem?_eq_getElem hi]; rfl
  have hq : (od[i]).toNat < pend.length := by omega
  have e2 : pend.getD (od[i]).toNat (0, ⟨#[]⟩) = pend[(od[i]).toNat] := by rw [List.getD_eq_getElem?_getD, List.getElem?_eq_getElem hq]; rfl
  have hpp := hp _ (List.getElem_mem hq)
  unfold crS
  rw [e1, e2, ontoL_len]
  · exact hl
  · rw [hl]
    split
    · rw [ByteArray.size_extract]; omega
    · exact hpp.2
theorem crI_len {n : Nat} {pend : List (Int × ByteArray)} {od : List Int} {torn : Int} {dur : List UInt8} (hp : PdOk n pend) (ho : ∀ x ∈ od, 0 ≤ x ∧ x < pend.length) (hd : dur.length = n) : ∀ i, i ≤ od.length → (crI pend od torn dur i).length = n
  | 0, _ => hd
  | i + 1, hi => crS_len hp ho (by omega) (crI_len hp ho hd i (by omega))
section
variable {k : Value → World → Prop} {w : World} {B b : Nat} {D : DK} {dv vv pv : Value}
theorem DiskR.durPut {w' : World} {l : List UInt8} (h : DiskR B w b D dv vv pv) (hm : Mine fB 5 w' B dv l) (ho : Off (isOf dv) w w') (hl : l.length = D.dur.length) : DiskR B w' b { D with dur := l } dv vv pv := by
  have hdb : ¬ isOf dv b := fun hh => by
    have := Tag.uniq (Mine.tag h.dur hh) (RowAt.tag h.row)
    cases this
  exact ⟨h.row.off ho hdb, h.base, hm, h.vis.off ho fun x hx hy => h.two x hy hx, h.pend.apart ho (apMine h.dur (by decide)), by rw [← h.len]; exact hl, h.two⟩
theorem c65r (h : DiskR B w b D dv vv pv) (hne : D.dur ≠ []) (hk : ∀ w' pv', DiskR B w' b (revD D) dv vv pv' → Off (dBl b dv vv pv) w w' → Below B w w' → (∀ x, isOf pv' x → isOf pv x) → k (.tuple #[]) w') : callW Tryz.prog (.func (.func 65) #[] #[]) #[.pointer (some ⟨b, 0, none⟩), dv, vv] k w := C65 _ _ _ _ _ (by
  unfold S65
  have hnv : D.vis ≠ [] := fun hh => hne (List.eq_nil_of_length_eq_zero (by rw [h.len, hh]; rfl))
  refine copy_all h.vis h.dur.sl h.len.symm hnv fun w1 hm1 ho1 hb1 => ?_
  have hdb : ¬ isOf vv b := fun hh => by
    have := Tag.uniq (Mine.tag h.vis hh) (RowAt.tag h.row)
    cases this
  have hr1 := h.row.off ho1 hdb
  have hv1 := h.dur.off ho1 fun x hx hy => h.two x hx hy
  have hp1 := h.pend.apart ho1 (apMine h.vis (by decide))
  simp only [nilW_ptr]
  rw [rw97_3 (hr1.cell (i := 0 + 4) rfl)]
  refine w_clearWr hp1 fun w2 l' hp2 _ ho2 hb2 => ?_
  have hpb : ¬ isOf pv b := fun hh => by
    have := Tag.uniq (Mine.tag hp1 hh) (RowAt.tag hr1)
    cases this
  have hr2 := hr1.off ho2 hpb
  have hm2 := hm1.apart ho2 (apMine hp1 (by decide))
  have hv2 := hv1.apart ho2 (apMine hp1 (by decide))
  rw [rw97_3 (hr2.cell (i := 0 + 4) rfl)]
  refine w_cut0 hp2 fun pv' hp' hsub => ?_
  have hov : pv'.oneCell' = true := by obtain ⟨a9, c9, rfl, -⟩ := hp'.sl; rfl
  rw [fl97_3, st93 hov (hr2.cell (i := 0 + 4) rfl) (hr2.free _)]
  have hof : Off (fun x => x = b) w2 (w2.setCell ⟨b, 0 + 4, none⟩ pv') := Off.set (p := fun x => x = b) rfl
  refine hk _ pv' ⟨hr2.set 4 pv', h.base, hv2.apart hof (apRow hr2 (by decide)), hm2.apart hof (apRow hr2 (by decide)), hp'.apart hof (apRow hr2 (by decide)), rfl, h.two⟩ ?_ ((hb1.trans hb2).setCell h.base _) hsub
  exact (ho1.mono fun x _ hx => .inr (.inr (.inl hx))).trans ((ho2.mono fun x _ hx => .inr (.inr (.inr hx))).trans (hof.mono fun x _ hx => .inl hx)))
theorem b95z : opW Tryz.prog (Instr.build 95 #[]) k w = k (.agg ([.bool false, I 0] : List Value).toArray) w := opW_ok (by kernel_rfl)
set_option maxHeartbeats 1000000 in
theorem c30 {n : Nat} {kv : Value} {keep : List Int} {torn : Int} (h : DiskR B w b D dv vv pv) (hok : DOk n D) (hpo : PdOk n D.pend) (hpl : D.pend.length ≤ 100000) (hBw : B ≤ w.heap.size) (hkeep : ∀ w', Below w.heap.size w w' → IsSl fI w' kv keep) (hkl : keep.length ≤ 1000) (htorn : in64 torn)
    (hk : ∀ w' pv', DiskR B w' b (crD D keep torn) dv vv pv' → Off (dBl b dv vv pv) w w' → Below B w w' → (∀ x, isOf pv' x → isOf pv x) → k (I 0) w') : callW Tryz.prog (.func (.func 30) #[] #[]) #[.pointer (some ⟨b, 0, none⟩), kv, I torn] k w := C30 _ _ _ _ _ (by
  unfold S30
  have hn1 := hok.n1
  have hn2 := hok.n2
  refine w_boxN fun w1 hb1 hsz1 hr1 => ?_
  obtain ⟨xb, hxb⟩ : ∃ b, w.heap.size = b := ⟨_, rfl⟩
  replace hr1 : RowAt w1 w.heap.size 27 [.pointer (some ⟨b, 0, none⟩)] := hr1
  rw [hxb] at hr1 ⊢
  rw [ld27 (hr1.cell (i := 0) rfl), eqP27, condW_false]
  refine C62 _ _ _ ?_
  unfold S62
  refine w_boxN fun w2 hb2 hsz2 hr2 => ?_
  obtain ⟨kb, hkb⟩ : ∃ b, w1.heap.size = b := ⟨_, rfl⟩
  obtain ⟨ka, kc, hkv, _⟩ := hkeep w (Below.refl _ _)
  replace hr2 : RowAt w2 w1.heap.size 56 [kv] := by rw [hkv] at hr2 ⊢; exact hr2
  rw [hkb] at hr2 ⊢
  rw [w_makeFunc]
  have hb02 := below_trans hb1 hb2
  have hd2 := h.below hb02
  have hx2 := hr1.below hb2
  refine c61 (fun w' hb => hkeep w' (hb02.trans (hb.mono hb02.size))) (by omega) hr2 fun v3 w3 hb3 hm3 => ?_
  have hls := List.length_mergeSort (le := fun x y : Int => decide (x ≤ y)) keep
  refine c60m hm3 (by omega) hb3.size fun v4 w4 hm4 hb4 _ hs4 => ?_
  have hlc := Lib.compact_length_le (keep.mergeSort fun x y => decide (x ≤ y))
  have hb24 := hb3.trans hb4
  rw [w_makeFunc]
  refine c63 (p := fun x => decide (x < 0 ∨ (D.pend.length : Int) ≤ x)) hm4 (by omega) (fun w' x kk ho' hb' hkk => c64 (hd2.below (hb24.trans hb')) (hx2.below (hb24.trans hb')) hkk) fun v5 w5 hm5 hb5 _ hs5 => ?_
  have hb25 := hb24.trans hb5
  replace hm5 : Mine fI 3 w5 w2.heap.size v5 (ordF keep D.pend.length) := hm5
  obtain ⟨od, hod⟩ : ∃ od, ordF keep D.pend.length = od := ⟨_, rfl⟩
  rw [hod] at hm5
  have hom : ∀ x ∈ od, 0 ≤ x ∧ x < D.pend.length := fun x hx => ordF_mem (by rw [hod]; exact hx)
  have hol : od.length ≤ 1000 := by rw [← hod]; have := ordF_len keep D.pend.length; omega
  have hd5 := hd2.below hb25
  have hx5 := hx2.below hb25
  have hb05 : Below w.heap.size w w5 := hb02.trans (hb25.mono hb02.size)
  have hB5 : B ≤ w5.heap.size := Nat.le_trans hBw hb05.size
  rw [w_lenS (by kernel_rfl) hm5.sl]
  refine Loop1.intro (fun m a w' => ∃ i : Nat, a = I i ∧ m = od.length - i ∧ i ≤ od.length ∧ DiskR B w' b { D with dur := crI D.pend od torn D.dur i } dv vv pv ∧ Off (isOf dv) w5 w' ∧ Below B w5 w') _ ⟨0, rfl, rfl, Nat.zero_le _, hd5, Off.refl _ _, Below.refl _ _⟩ ?_
  rintro m _ w6 ⟨i, rfl, rfl, hi, hd6, ho6, hb6⟩
  have hx6 := hx5.apart ho6 (apMine hd5.dur (by decide))
  have hm6 := hm5.apart ho6 (apMine hd5.dur (by decide))
  rw [w_lss]
  by_cases hlt : i < od.length
  · rw [decide_eq_true (by omega), condW_true]
    have hx : od[((i : Int)).toNat]? = some od[i] := by rw [Int.toNat_natCast]; exact List.getElem?_eq_getElem hlt
    have hoi := hom _ (List.getElem_mem hlt)
    obtain ⟨q, hq⟩ : ∃ q : Nat, od[i] = (q : Int) := ⟨(od[i]).toNat, by omega⟩
    have hql : q < D.pend.length := by omega
    have hpp := hpo _ (List.getElem_mem hql)
    obtain ⟨o, ho⟩ : ∃ o : Nat, (D.pend[q]).1 = (o : Int) := ⟨(D.pend[q]).1.toNat, by omega⟩
    have hos : o + (D.pend[q]).2.size ≤ n := by have := hpp.2; rw [ho, Int.toNat_natCast] at this; exact this
    refine ix56 hm6.sl rfl (by omega) hx fun b0 o0 hc0 => ?_
    rw [ld3 (show w6.cell? ⟨b0, o0, none⟩ = some (I od[i]) from hc0 0 _ rfl), ld27 (hx6.cell (i := 0) rfl)]
    simp only [nilW_ptr]
    rw [rw97_3 (hd6.row.cell (i := 0 + 4) rfl), hq]
    rw [na93 (F := fWr) (a := D.pend[q]) rfl hd6.pend.sl (List.getElem?_eq_getElem hql)]
    rw [show (fWr.e D.pend[q]).toArray = ([I o, .string (D.pend[q]).2] : List Value).toArray by show ([I (D.pend[q]).1, .string (D.pend[q]).2] : List Value).toArray = _; rw [ho]]
    refine al92 fun w7 hb7 _ hr7 => ?_
    obtain ⟨wb, hwb⟩ : ∃ b, w6.heap.size = b := ⟨_, rfl⟩
    rw [hwb] at hr7 ⊢
    refine sr92 (vs := [I o, .string (D.pend[q]).2]) rfl hr7 rfl (by simp [Value.oneCell']) fun w8 ho8 hr8 => ?_
    have hb8 : Below w6.heap.size w6 w8 := hb7.trans (ho8.rest _ (by omega))
    have e1 : od.getD i 0 = (q : Int) := by rw [List.getD_eq_getElem?_getD, List.getElem?_eq_getElem hlt, ← hq]; rfl
    have e2 : D.pend.getD q (0, ⟨#[]⟩) = D.pend[q] := by rw [List.getD_eq_getElem?_getD, List.getElem?_eq_getElem hql]; rfl
    have hB6 : B ≤ w6.heap.size := Nat.le_trans hB5 ho6.size
    have hcl := crI_len (torn := torn) hpo hom hok.dur i (by omega)
    have hdn : crI D.pend od torn D.dur i ≠ [] := fun hh => by rw [hh] at hcl; simp at hcl; omega
    refine joinW_use0 (fun w' => ∃ s : ByteArray, s = (if i + 1 = od.length ∧ 0 ≤ torn then (D.pend[q]).2.extract 0 (min torn.toNat (D.pend[q]).2.size) else (D.pend[q]).2) ∧ RowAt w' wb 92 [I o, .string s] ∧ Below w6.heap.size w6 w') ?_ ?_
    · rintro w9 ⟨s, hs, hr9, hb9⟩
      rw [drewW_eq]
      have hb10 := below_trans hb9 (below_drew w9)
      replace hr9 := hr9.drew
      generalize w9.drew = w10 at *
      have hd10 := hd6.below hb10
      have hx10 := hx6.below hb10
      have hoz : Off (isOf dv) w10 w10 := Off.refl _ _
      have nx : ¬ isOf dv xb := fun hh => by
        have := Tag.uniq (Mine.tag hd10.dur hh) hx10.tag
        cases this
      refine ⟨Off (isOf dv) w10, hoz, ?_⟩
      rw [xld92 rfl hr9.cells, r_loadO agg27 known27 (hx10.cell (i := 0) rfl) nx hoz]
      simp only [nilT_ptr]
      rw [rt97_1 (hd10.row.cell (i := 0 + 2) rfl)]
      have hss : o + s.size ≤ n := by
        rw [hs]
        split
        · rw [ByteArray.size_extract]; omega
        · exact hos
      refine c48 hd10.dur hdn (by rw [hcl]; exact hss) (Nat.le_trans hB6 hb10.size) fun w11 hm11 ho11 hb11 => ?_
      rw [keepS_eq]
      refine ⟨ho11, ?_⟩
      rw [w_add, wrap_id (by omega), loopK_self]
      have hstep : crI D.pend od torn D.dur (i + 1) = ontoL (crI D.pend od torn D.dur i) o s := by
        show crS D.pend od torn i _ = _
        unfold crS
        rw [e1, Int.toNat_natCast, e2, ho, Int.toNat_natCast, ← hs]
      refine ⟨od.length - (i + 1), by omega, i + 1, by simp [I], rfl, by omega, ?_, ho6.trans ((Off.below hb10).trans ho11), hb6.trans ((hb10.mono hB6).trans hb11)⟩
      have := hd10.durPut hm11 ho11 (by show (ontoL _ _ _).length = _; rw [ontoL_len (by rw [hcl]; exact hss)])
      rw [hstep]
      exact this
    intro J hJ
    have hm8 := hm6.below hb8
    rw [w_lenS (by kernel_rfl) hm8.sl, w_sub, wrap_id (by omega), w_eql]
    unfold in64 at htorn
    by_cases hlast : i + 1 = od.length
    case' neg =>
      rw [decide_eq_false (by omega)]
      simp only [guardW_ft, guardW_u, pickW_false]
      rw [condW_false]
      exact hJ _ ⟨_, by rw [if_neg (fun h => hlast h.1)], hr8, hb8⟩
    rw [decide_eq_true (by omega)]
    simp only [guardW_tt, pickW_true]
    rw [w_geq]
    by_cases ht : 0 ≤ torn
    case' neg =>
      rw [decide_eq_false ht, condW_false]
      exact hJ _ ⟨_, by rw [if_neg (fun h => ht h.2)], hr8, hb8⟩
    rw [decide_eq_true ht, condW_true]
    have hmn : (if ((D.pend[q]).2.size : Int) < torn then ((D.pend[q]).2.size : Int) else torn) = ((min torn.toNat (D.pend[q]).2.size : Nat) : Int) := by split <;> omega
    rw [fl92_1, ld9 (hr8.cell (i := 0 + 1) rfl), fl92_1, ld9 (hr8.cell (i := 0 + 1) rfl), w_lenStr (by kernel_rfl), w_min, hmn, w_headStr (by kernel_rfl) (by omega) (by omega), Int.toNat_natCast, fl92_1, st9 rfl (hr8.cell (i := 0 + 1) rfl) (hr8.free _)]
    exact hJ _ ⟨_, by rw [if_pos ⟨hlast, ht⟩], hr8.set (0 + 1) _, hb8.setCell (by show w6.heap.size ≤ wb; omega) _⟩
  rw [decide_eq_false (by omega), condW_false, drewW_eq]
  have hil : i = od.length := by omega
  subst hil
  have hbd := below_drew w6
  have hd7 := hd6.below hbd
  have hx7 := hx6.below hbd
  have hB6 : B ≤ w6.heap.size := Nat.le_trans hB5 ho6.size
  have ho7 : Off (isOf dv) w5 w6.drew := ho6.trans (Off.below hbd)
  have hb7 : Below B w5 w6.drew := hb6.trans (hbd.mono hB6)
  generalize w6.drew = w7 at *
  have hoz : Off (dBl b dv vv pv) w7 w7 := Off.refl _ _
  have nx : ¬ dBl b dv vv pv xb := fun hh => by
    obtain ⟨t', h1, h2⟩ := hd7.apart (t := 27) (by decide) xb hh
    exact h2 (Tag.uniq h1 hx7.tag)
  refine ⟨Off (dBl b dv vv pv) w7, hoz, ?_⟩
  rw [x_load agg27 known27 (hx7.cell (i := 0) rfl), r_loadO agg27 known27 (hx7.cell (i := 0) rfl) nx hoz]
  simp only [nilT_ptr]
  rw [rt97_1 (hd7.row.cell (i := 0 + 2) rfl), r_loadO agg27 known27 (hx7.cell (i := 0) rfl) nx hoz]
  simp only [nilT_ptr]
  rw [rt97_2 (hd7.row.cell (i := 0 + 3) rfl)]
  have hcl := crI_len (torn := torn) hpo hom hok.dur od.length (Nat.le_refl _)
  have hdn : crI D.pend od torn D.dur od.length ≠ [] := fun hh => by rw [hh] at hcl; simp at hcl; omega
  refine c65r hd7 hdn fun w8 pv8 hd8 ho8 hb8 hs8 => ?_
  rw [keepS_eq]
  refine ⟨ho8, ?_⟩
  have hx8 := hx7.off ho8 nx
  rw [ld27 (hx8.cell (i := 0) rfl), b95z]
  simp only [nilW_ptr]
  rw [fl97_0, sta95 (vs := [.bool false, I 0]) rfl (by simp [Value.oneCell']) (fun j hj => ⟨([.bool D.off, I D.left, dv, vv, pv8] : List Value)[0 + j]'(by simp; omega), hd8.row.cell (List.getElem?_eq_getElem _)⟩) (fun j hj => hd8.row.free _)]
  have hr9 : RowAt (setCells w8 b 0 [.bool false, I 0]) b 97 [.bool false, I 0, dv, vv, pv8] := rowAt_setMid [.bool false, I 0] [] [.bool D.off, I D.left] [dv, vv, pv8] w8 hd8.row rfl
  have hoo := only_setCells (b := b) [.bool false, I 0] 0 w8
  have hof : Off (fun x => x = b) w8 (setCells w8 b 0 [.bool false, I 0]) := Off.only hoo rfl
  refine hk _ pv8 ?_ ?_ ((hb05.mono hBw).trans (hb7.trans (hb8.trans (hoo.rest _ h.base)))) hs8
  · have := hd8.put hof (D' := crD D keep torn) hr9 (by unfold crD; rw [hod]; rfl) (by unfold crD; rw [hod]; rfl) rfl
    exact this
  · exact (Off.below hb05).trans ((ho7.mono fun x _ hx => .inr (.inl hx)).trans (ho8.trans (hof.mono fun x _ hx => .inl hx))))
end
end Go.Proofs.YtbojglaimdjagaaGreatDoor
/- The journal, plain: the power fails while a group is appended. -/
set_option linter.unusedSimpArgs false
set_option linter.unusedVariables false
set_option maxRecDepth 4000
namespace Go.Proofs.YtbojglaimdjagaaGreatDoor
open Go Go.V Go.RowKit
/-- a journal in order on its disk; the power may be about to fail -/
structure Hl (n : Nat) (D : DK) (l : List ByteArray) : Prop where
  ok : DOk n D
  on : D.off = false
  pend : D.pend = []
  fits : Fits n l
  dur : D.dur = cont n l
  vis : D.vis = cont n l
/-- the power has failed while a group was appended -/
structure Bk (n : Nat) (D : DK) (l m : List ByteArray) : Prop where
  ok : DOk n D
  off : D.off = true
  fits : Fits n (l ++ m)
  ne : m ≠ []
  st : (D.dur = cont n l ∧ D.pend = [((((tpOf l).size + 1 : Nat) : Int), (grpB (tpOf l) m).extract 1 (grpB (tpOf l) m).size)]) ∨
    (D.dur = ontoL (cont n l) ((tpOf l).size + 1) ((grpB (tpOf l) m).extract 1 (grpB (tpOf l) m).size) ∧ D.pend = [(((tpOf l).size : Int), (grpB (tpOf l) m).extract 0 1)])
theorem Gd.hl {n : Nat} {D : DK} {l : List ByteArray} (h : Gd n D l) : Hl n D l := ⟨h.rest.ok, h.rest.on, h.rest.pend, h.fits, by rw [h.rest.same]; exact h.vis, h.vis⟩
theorem Hl.cut {n : Nat} {D : DK} {l : List ByteArray} (h : Hl n D l) {c : Int} (h1 : 1 ≤ c) (h2 : c ≤ 1000000) : Hl n (cutD D c) l := ⟨h.ok.cut ⟨by omega, h2⟩, decide_eq_false (by omega), h.pend, h.fits, h.dur, h.vis⟩
theorem Fits.left {n : Nat} {l m : List ByteArray} (h : Fits n (l ++ m)) : Fits n l := ⟨fun r hr => h.small r (List.mem_append_left _ hr), by have := h.room; rw [stL_append, List.length_append] at this; omega⟩
theorem wr_off0 {D : DK} {o : Nat} {s : ByteArray} (h : D.off = false) (h1 : (wrD D o s).off = true) : D.left ≠ 0 := fun h0 => by
  rw [wrD_zero h0] at h1
  rw [show D.off = true from h1] at h; cases h
theorem wr_left0 {D : DK} {o : Nat} {s : ByteArray} (h : D.left = 0) : (wrD D o s).left = 0 := by rw [wrD_zero h]; exact h
/-- what Append does to a journal in order -/
theorem hl_append {n : Nat} {D : DK} {l m : List ByteArray} (h : Hl n D l) (hs : ∀ r ∈ m, r.size ≤ 65536) :
    (∃ D', apJ n D (tpOf l) false m = (0, D', tpOf (l ++ m), false) ∧ Hl n D' (l ++ m) ∧ (D.left = 0 → D'.left = 0)) ∨ apJ n D (tpOf l) false m = (341, D, tpOf l, false) ∨
    (D.left ≠ 0 ∧ ∃ D', apJ n D (tpOf l) false m = (331, D', tpOf l, true) ∧ Bk n D' l m) := by
  by_cases hr : (stL z32 (l ++ m)).length ≤ n
  case' neg => exact .inr (.inl (apJ_full hs (by omega)))
  have hsz := grp_size l m
  have hts := tpOf_size l
  have hnl := not_long hs
  have hall : Fits n (l ++ m) := ⟨fun r hr' => (List.mem_append.1 hr').elim (h.fits.small r) (hs r), hr⟩
  unfold apJ
  rw [if_neg hnl, if_neg (by omega)]
  by_cases hm : m = []
  · subst hm
    rw [if_pos rfl]
    exact .inl ⟨D, by rw [List.append_nil], by rw [List.append_nil]; exact h, fun h => h⟩
  rw [if_neg hm]
  have hp := grpB_pos (t := tpOf l) hm
  obtain ⟨g, hg⟩ : ∃ g, grpB (tpOf l) m = g := ⟨_, rfl⟩
  obtain ⟨z, hz⟩ : ∃ z, (tpOf l).size = z := ⟨_, rfl⟩
  have hbk : ∀ D', DOk n D' → D'.off = true → ((D'.dur = cont n l ∧ D'.pend = [(((z + 1 : Nat) : Int), g.extract 1 g.size)]) ∨ (D'.dur = ontoL (cont n l) (z + 1) (g.extract 1 g.size) ∧ D'.pend = [((z : Int), g.extract 0 1)])) → Bk n D' l m := fun D' a b c => by
    subst hg hz
    exact ⟨a, b, hall, hm, c⟩
  rw [hg, hz] at hsz ⊢
  rw [hg] at hp
  have s1 : (g.extract 1 g.size).size = g.size - 1 := by rw [ByteArray.size_extract]; omega
  have s2 : (g.extract 0 1).size = 1 := by rw [ByteArray.size_extract]; omega
  have ok1 := h.ok.wr (o := z + 1) (s := g.extract 1 g.size) (by omega)
  cases h1 : (wrD D (z + 1) (g.extract 1 g.size)).off with
  | true =>
    have e4 : ap4 D (z + 1) (g.extract 1 g.size) z (g.extract 0 1) = (331, wrD D (z + 1) (g.extract 1 g.size)) := by
      unfold ap4
      rw [if_neg (by rw [h.on]; simp), if_pos h1]
    rw [e4, if_neg (show ¬ ((331 : Int) = 0) by decide)]
    refine .inr (.inr ⟨wr_off0 h.on h1, _, rfl, hbk _ ok1 h1 (.inl ⟨?_, ?_⟩)⟩)
    · rw [wr_dur]; exact h.dur
    · rw [wr_pend, h.pend]; rfl
  | false =>
    have e1 : (syncD (wrD D (z + 1) (g.extract 1 g.size))).off = false := h1
    have e3 : ap4 D (z + 1) (g.extract 1 g.size) z (g.extract 0 1) = ap2 (syncD (wrD D (z + 1) (g.extract 1 g.size))) z (g.extract 0 1) := by
      unfold ap4
      rw [if_neg (by rw [h.on]; simp), if_neg (by rw [h1]; simp)]
    have ok2 := ok1.sync.wr (o := z) (s := g.extract 0 1) (by omega)
    cases h2 : (wrD (syncD (wrD D (z + 1) (g.extract 1 g.size))) z (g.extract 0 1)).off with
    | true =>
      have e4 : ap2 (syncD (wrD D (z + 1) (g.extract 1 g.size))) z (g.extract 0 1) = (331, wrD (syncD (wrD D (z + 1) (g.extract 1 g.size))) z (g.extract 0 1)) := by
        unfold ap2
        rw [if_neg (by rw [e1]; simp), if_pos h2]
      rw [e3, e4, if_neg (show ¬ ((331 : Int) = 0) by decide)]
      refine .inr (.inr ⟨fun h0 => ?_, _, rfl, hbk _ ok2 h2 (.inr ⟨?_, ?_⟩)⟩)
      · exact wr_off0 (D := syncD (wrD D (z + 1) (g.extract 1 g.size))) e1 h2 (wr_left0 h0)
      · rw [wr_dur]
        show (wrD D (z + 1) (g.extract 1 g.size)).vis = _
        rw [wr_vis, h.vis]
      · rw [wr_pend]; rfl
    | false =>
      have e4 : ap2 (syncD (wrD D (z + 1) (g.extract 1 g.size))) z (g.extract 0 1) = (0, syncD (wrD (syncD (wrD D (z + 1) (g.extract 1 g.size))) z (g.extract 0 1))) := by
        unfold ap2
        rw [if_neg (by rw [e1]; simp), if_neg (by rw [h2]; simp)]
      rw [e3, e4, if_pos rfl]
      have hv : (wrD (syncD (wrD D (z + 1) (g.extract 1 g.size))) z (g.extract 0 1)).vis = cont n (l ++ m) := by
        rw [wr_vis]
        show ontoL (wrD D (z + 1) (g.extract 1 g.size)).vis _ _ = _
        rw [wr_vis, h.vis]
        unfold cont
        rw [← hz, hts, onto_group (by omega) (by omega), stL_tpOf, List.length_append, hg, ba_len, ← List.append_assoc]
        congr 2; omega
      refine .inl ⟨_, by rw [tpOf_append], ⟨ok2.sync, h2, rfl, hall, hv, hv⟩, fun h0 => ?_⟩
      show (wrD (syncD (wrD D (z + 1) (g.extract 1 g.size))) z (g.extract 0 1)).left = 0
      exact wr_left0 (D := syncD (wrD D (z + 1) (g.extract 1 g.size))) (wr_left0 h0)
theorem ontoL_take {l : List UInt8} {o z : Nat} {s : ByteArray} (h1 : z ≤ o) (h2 : o + s.size ≤ l.length) : (ontoL l o s).take z = l.take z := by
  unfold ontoL
  rw [List.append_assoc, List.take_append_of_le_length (by rw [List.length_take]; omega), List.take_take, Nat.min_eq_left h1]
theorem ontoL_get {l : List UInt8} {o z : Nat} {s : ByteArray} (h1 : z < o) (h2 : o + s.size ≤ l.length) : (ontoL l o s).getD z 0 = l.getD z 0 := by
  rw [List.getD_eq_getElem?_getD, List.getD_eq_getElem?_getD]
  have := congrArg (fun l : List UInt8 => l[z]?) (ontoL_take (z := z + 1) (o := o) h1 h2)
  simp only [List.getElem?_take, Nat.lt_succ_self, if_true] at this
  rw [this]
theorem ontoL_none {l : List UInt8} {o : Nat} {s : ByteArray} (h : s.size = 0) : ontoL l o s = l := by
  unfold ontoL
  have : s.data.toList = [] := List.eq_nil_of_length_eq_zero (by rw [ba_len]; exact h)
  rw [this, h, List.append_nil, Nat.add_zero, List.take_append_drop]
theorem ontoL_twice {l : List UInt8} {o : Nat} {s : ByteArray} (h : o + s.size ≤ l.length) : ontoL (ontoL l o s) o s = ontoL l o s := by
  have e1 := ontoL_take (z := o) (Nat.le_refl _) h
  have e2 : (ontoL l o s).drop (o + s.size) = l.drop (o + s.size) := by
    unfold ontoL
    have hl : (l.take o ++ s.data.toList).length = o + s.size := by rw [List.length_append, List.length_take, ba_len]; omega
    rw [← hl, List.drop_left, hl]
  show (ontoL l o s).take o ++ s.data.toList ++ (ontoL l o s).drop (o + s.size) = _
  rw [e1, e2]; rfl
theorem crS_one {o : Int} {s : ByteArray} {od : List Int} {torn : Int} {i : Nat} {L : List UInt8} (ho : ∀ x ∈ od, x = 0) : ∃ j, j ≤ s.size ∧ crS [(o, s)] od torn i L = ontoL L o.toNat (s.extract 0 j) := by
  have e1 : od.getD i 0 = 0 := by
    rw [List.getD_eq_getElem?_getD]
    cases hx : od[i]? with
    | none => rfl
    | some x => exact ho x (List.mem_of_getElem? hx)
  unfold crS
  rw [e1]
  simp only [Int.toNat_zero, List.getD_cons_zero]
  split
  · exact ⟨_, Nat.min_le_right _ _, rfl⟩
  · exact ⟨s.size, Nat.le_refl _, by rw [ByteArray.extract_zero_size]⟩
theorem crI_inv {P : List UInt8 → Prop} {o : Int} {s : ByteArray} {od : List Int} {torn : Int} {dur : List UInt8} (ho : ∀ x ∈ od, x = 0) (h0 : P dur) (hP : ∀ L j, P L → j ≤ s.size → P (ontoL L o.toNat (s.extract 0 j))) : ∀ i, P (crI [(o, s)] od torn dur i)
  | 0 => h0
  | i + 1 => by
    show P (crS _ _ _ _ _)
    obtain ⟨j, hj, he⟩ := crS_one (o := o) (s := s) (torn := torn) (i := i) (L := crI [(o, s)] od torn dur i) ho
    rw [he]
    exact hP _ _ (crI_inv ho h0 hP i) hj
theorem ordF_one {keep : List Int} : ∀ x ∈ ordF keep 1, x = 0 := fun x hx => by have := ordF_mem hx; omega
theorem ordF_zero {keep : List Int} : ordF keep 0 = [] := by
  cases h : ordF keep 0 with
  | nil => rfl
  | cons x r => have := ordF_mem (keep := keep) (n := 0) (x := x) (by rw [h]; simp); omega
theorem getD_drop {l : List UInt8} {z : Nat} : (l.drop z).getD 0 0 = l.getD z 0 := by
  rw [List.getD_eq_getElem?_getD, List.getD_eq_getElem?_getD, List.getElem?_drop, Nat.add_zero]
/-- opening a disk at rest that holds some records, then a zero byte -/
theorem open_rest {n : Nat} {D : DK} {l : List ByteArray} (h : Rest n D) (hf : Fits n l) (h1 : D.vis.take (stL z32 l).length = stL z32 l) (h2 : D.vis.getD (stL z32 l).length 0 = 0) : ∃ D', opJ n D = (0, D', some (tpOf l)) ∧ Gd n D' l := by
  have hv := h.ok.vis
  have hr := hf.room
  have hc : D.vis = stL z32 l ++ D.vis.drop (stL z32 l).length := by
    rw (occs := .pos [1]) [← List.take_append_drop (stL z32 l).length D.vis]; rw [h1]
  unfold opJ
  rw [if_neg (by rw [h.on]; simp), ldF_cont (n := n) (l := l) (tail := D.vis.drop (stL z32 l).length) hf.small (vis_size h.ok) hc (by rw [getD_drop]; exact h2)]
  simp only
  rw [tpOf_size]
  by_cases hz : ∀ x ∈ D.vis.drop (stL z32 l).length, x = 0
  · rw [if_pos hz]
    refine ⟨D, rfl, h, hf, ?_⟩
    rw [hc]
    unfold cont
    congr 1
    rw [List.eq_replicate_iff]
    exact ⟨by rw [List.length_drop, hv], hz⟩
  · rw [if_neg hz]
    obtain ⟨a, b, c⟩ := ap2_rest h (o := (stL z32 l).length) (s := zeroB (n - (stL z32 l).length)) (by rw [zeroB_size]; omega)
    rw [if_pos a]
    refine ⟨_, rfl, b, hf, ?_⟩
    rw [c]
    unfold ontoL cont
    rw [h1, zeroB_size, List.drop_of_length_le (by omega), List.append_nil]
    rfl
theorem cr_rest {n : Nat} {D : DK} {keep : List Int} {torn : Int} (h : DOk n D) (hp : PdOk n D.pend) : Rest n (crD D keep torn) := by
  have hl := crI_len (torn := torn) hp (fun x hx => ordF_mem hx) h.dur (ordF keep D.pend.length).length (Nat.le_refl _)
  exact ⟨⟨h.n1, h.n2, hl, hl, by show (0 : Int) ≤ 0 ∧ (0 : Int) ≤ 1000000; decide⟩, rfl, rfl, rfl, rfl⟩
theorem cont_take {n : Nat} {l : List ByteArray} : (cont n l).take (stL z32 l).length = stL z32 l := by unfold cont; rw [List.take_left]
theorem cont_get {n : Nat} {l : List ByteArray} : (cont n l).getD (stL z32 l).length 0 = 0 := by
  rw [← getD_drop]; unfold cont; rw [List.drop_left]; exact getD_zeros _
theorem Hl.pdOk {n : Nat} {D : DK} {l : List ByteArray} (h : Hl n D l) : PdOk n D.pend := by rw [h.pend]; intro p hp; cases hp
theorem Bk.pdOk {n : Nat} {D : DK} {l m : List ByteArray} (h : Bk n D l m) : PdOk n D.pend ∧ D.pend.length = 1 := by
  have hsz := grp_size l m
  have hr := h.fits.room
  have hp := grpB_pos (t := tpOf l) h.ne
  rcases h.st with ⟨_, h1⟩ | ⟨_, h1⟩
  · rw [h1]
    refine ⟨fun p hp => ?_, rfl⟩
    simp only [List.mem_singleton] at hp
    subst hp
    refine ⟨by simp only; omega, ?_⟩
    simp only [Int.toNat_natCast, ByteArray.size_extract]; omega
  · rw [h1]
    refine ⟨fun p hp => ?_, rfl⟩
    simp only [List.mem_singleton] at hp
    subst hp
    refine ⟨by simp only; omega, ?_⟩
    simp only [Int.toNat_natCast, ByteArray.size_extract]; omega
/-- a power failure, then Open -/
theorem hl_crash {n : Nat} {D : DK} {l : List ByteArray} (h : Hl n D l) (keep : List Int) (torn : Int) : ∃ D', opJ n (crD D keep torn) = (0, D', some (tpOf l)) ∧ Gd n D' l := by
  have e : (crD D keep torn).vis = cont n l := by
    unfold crD
    rw [h.pend]
    simp only [List.length_nil]
    rw [ordF_zero]
    exact h.dur
  exact open_rest (cr_rest h.ok h.pdOk) h.fits (by rw [e, cont_take]) (by rw [e, cont_get])
theorem bk_crash {n : Nat} {D : DK} {l m : List ByteArray} (h : Bk n D l m) (keep : List Int) (torn : Int) : ∃ D' l', opJ n (crD D keep torn) = (0, D', some (tpOf l')) ∧ Gd n D' l' ∧ (l' = l ∨ l' = l ++ m) := by
  have hR := cr_rest (keep := keep) (torn := torn) h.ok h.pdOk.1
  have hsz := grp_size l m
  have hr := h.fits.room
  have hts := tpOf_size l
  have hp := grpB_pos (t := tpOf l) h.ne
  have hcl := cont_len (n := n) (l := l) h.fits.left.room
  have s1 : ((grpB (tpOf l) m).extract 1 (grpB (tpOf l) m).size).size = (grpB (tpOf l) m).size - 1 := by rw [ByteArray.size_extract]; omega
  have s2 : ((grpB (tpOf l) m).extract 0 1).size = 1 := by rw [ByteArray.size_extract]; omega
  rcases h.st with ⟨h1, h2⟩ | ⟨h1, h2⟩
  · have key : (crD D keep torn).vis.length = n ∧ (crD D keep torn).vis.take (stL z32 l).length = stL z32 l ∧ (crD D keep torn).vis.getD (stL z32 l).length 0 = 0 := by
      unfold crD
      rw [h2]
      refine crI_inv (P := fun L => L.length = n ∧ L.take (stL z32 l).length = stL z32 l ∧ L.getD (stL z32 l).length 0 = 0) ordF_one ?_ ?_ _
      · rw [h1]; exact ⟨hcl, cont_take, cont_get⟩
      · rintro L j ⟨a, b, c⟩ hj
        have hb : ((((tpOf l).size + 1 : Nat) : Int)).toNat + (((grpB (tpOf l) m).extract 1 (grpB (tpOf l) m).size).extract 0 j).size ≤ L.length := by
          rw [ByteArray.size_extract, s1]; omega
        refine ⟨by rw [ontoL_len hb]; exact a, ?_, ?_⟩
        · rw [ontoL_take (by omega) hb]; exact b
        · rw [ontoL_get (by omega) hb]; exact c
    obtain ⟨D', a, b⟩ := open_rest hR h.fits.left key.2.1 key.2.2
    exact ⟨D', l, a, b, .inl rfl⟩
  · obtain ⟨g, hg⟩ : ∃ g, grpB (tpOf l) m = g := ⟨_, rfl⟩
    rw [hg] at h1 h2 s1 s2 hp hsz
    have hdl : D.dur.length = n := h.ok.dur
    have key : (crD D keep torn).vis = D.dur ∨ (crD D keep torn).vis = ontoL D.dur (tpOf l).size (g.extract 0 1) := by
      unfold crD
      rw [h2]
      refine crI_inv (P := fun L => L = D.dur ∨ L = ontoL D.dur (tpOf l).size (g.extract 0 1)) ordF_one (.inl rfl) ?_ _
      rintro L j hL hj
      rw [Int.toNat_natCast]
      rw [s2] at hj
      rcases Nat.lt_or_ge 0 j with hj1 | hj0
      · have : j = 1 := by omega
        subst this
        have e : (g.extract 0 1).extract 0 1 = g.extract 0 1 := by
          have := ByteArray.extract_zero_size (b := g.extract 0 1)
          rw [s2] at this; exact this
        rw [e]
        rcases hL with rfl | rfl
        · exact .inr rfl
        · exact .inr (ontoL_twice (by omega))
      · have : j = 0 := by omega
        subst this
        rw [ontoL_none (by rw [ByteArray.size_extract]; omega)]
        exact hL
    rcases key with he | he
    · have hb : (tpOf l).size + 1 + (g.extract 1 g.size).size ≤ (cont n l).length := by omega
      obtain ⟨D', a, b⟩ := open_rest hR h.fits.left (by rw [he, h1, ontoL_take (by omega) hb]; exact cont_take) (by rw [he, h1, ontoL_get (by omega) hb]; exact cont_get)
      exact ⟨D', l, a, b, .inl rfl⟩
    · have hv : (crD D keep torn).vis = cont n (l ++ m) := by
        rw [he, h1]
        unfold cont
        rw [hts, onto_group (by omega) (by omega), stL_tpOf, List.length_append, hg, ba_len, ← List.append_assoc]
        congr 2; omega
      obtain ⟨D', a, b⟩ := open_rest hR h.fits (by rw [hv, cont_take]) (by rw [hv, cont_get])
      exact ⟨D', l ++ m, a, b, .inr rfl⟩
end Go.Proofs.YtbojglaimdjagaaGreatDoor
/- Crash, by frames; the laws' small steps. -/
set_option linter.unusedSimpArgs false
set_option linter.unusedVariables false
set_option maxRecDepth 4000
namespace Go.Proofs.YtbojglaimdjagaaGreatDoor
open Go Go.V Go.RowKit
section
variable {k : Value → World → Prop} {w : World} {B b jb n : Nat} {D : DK} {dv vv : Value}
theorem c30d {kv : Value} {keep : List Int} {torn : Int} (hBw : B ≤ w.heap.size) (hd : DJ B w b D dv vv) (hok : DOk n D) (hpo : PdOk n D.pend) (hpl : D.pend.length ≤ 100000) (hkeep : IsSl fI w kv keep) (hkl : keep.length ≤ 1000) (htorn : in64 torn)
    (hk : ∀ w', DJ B w' b (crD D keep torn) dv vv → OffG dT B w w' → Below B w w' → k (I 0) w') : callW Tryz.prog (.func (.func 30) #[] #[]) #[.pointer (some ⟨b, 0, none⟩), kv, I torn] k w := by
  obtain ⟨pv, hd⟩ := hd
  exact c30 hd hok hpo hpl hBw (fun w' hb => hkeep.below hb) hkl htorn fun w' pv' h1 h2 h3 _ => hk w' ⟨pv', h1⟩ (offG_disk hd h2) h3
theorem w_cat22 {v v2 : Value} {l0 l : List ByteArray} {B2 : Nat} (hown : Mine fT 9 w B v l0) (hs : Mine fT 9 w B2 v2 l) (hB : B ≤ w.heap.size) (hl : l0.length + l.length ≤ 1000000)
    (hk : ∀ v' w', Mine fT 9 w' B v' (l0 ++ l) → Below B w w' → k v' w') : opW Tryz.prog (Builtin.append_ #[22, 22] 22 #[v, v2]) k w := by
  have hml0 : 1000000000 ≤ maxLen := by decide
  exact mine_cat sty22 (by intro x u hu; simp [fT] at hu; subst hu; rfl) hown hs hB (by omega) (by omega) fun v' w' h1 h2 _ _ => hk v' w' h1 h2
end
end Go.Proofs.YtbojglaimdjagaaGreatDoor
/- The calls of a law, as they came in. -/
set_option linter.unusedSimpArgs false
set_option linter.unusedVariables false
set_option maxRecDepth 4000
namespace Go.Proofs.YtbojglaimdjagaaGreatDoor
open Go Go.V Go.RowKit
structure OpW where
  kind : Int
  l : List ByteArray
  n : Int
  keep : List Int
abbrev RawO := Int × Value × Int × Value
def fOp : Fl RawO := ⟨4, fun o => [I o.1, o.2.1, I o.2.2.1, o.2.2.2], fun _ => rfl⟩
structure OpV (w : World) (r : RawO) (o : OpW) : Prop where
  kind : r.1 = o.kind
  l : IsSl fT w r.2.1 o.l
  n : r.2.2.1 = o.n
  keep : IsSl fI w r.2.2.2 o.keep
def okOp (o : OpW) : Prop := in64 o.kind ∧ o.l.length ≤ maxLen ∧ in64 o.n ∧ o.keep.length ≤ maxLen
def okOps (l : List OpW) : Prop := l.length ≤ maxLen ∧ ∀ o ∈ l, okOp o
structure OpsR (w : World) (v : Value) (rs : List RawO) (ops : List OpW) : Prop where
  sl : IsSl fOp w v rs
  len : rs.length = ops.length
  each : ∀ (i : Nat) r o, rs[i]? = some r → ops[i]? = some o → OpV w r o
def OpsV (w : World) (v : Value) (ops : List OpW) : Prop := ∃ rs, OpsR w v rs ops
theorem OpV.below {w w' : World} {r : RawO} {o : OpW} (h : OpV w r o) (hb : Below w.heap.size w w') : OpV w' r o := ⟨h.kind, h.l.below hb, h.n, h.keep.below hb⟩
theorem OpsR.below {w w' : World} {v : Value} {rs : List RawO} {ops : List OpW} (h : OpsR w v rs ops) (hb : Below w.heap.size w w') : OpsR w' v rs ops :=
  ⟨h.sl.below hb, h.len, fun i r o h1 h2 => (h.each i r o h1 h2).below hb⟩
section
variable {w w0 : World} {K : Value → Prop}
theorem ro60_1 {v : Value} {l : List RawO} {p : Nat → Prop} {s : RawO} {i : Nat} {q : IntKind} (hs : IsSl fOp w0 v l) (hx : l[i]? = some s) (hp : ∀ b, isOf v b → ¬ p b) (ho : Off p w0 w) :
    takeW Tryz.prog anyW (Instr.indexAt 60 v (.int q (i : Int))) (fun p' => takeW Tryz.prog anyW (Instr.fieldAt 62 p' 1) (fun p'' => takeW Tryz.prog (Off p w0) (Instr.loadAt 22 p'') K w) w) w = K s.2.1 := by
  obtain ⟨b, o, c, rfl, hlt, hcl⟩ := hs.at (i := (i : Int)) (by omega) (by simpa using hx)
  rw [takeW_pure (fun w => run_index (by kernel_rfl) (by kernel_rfl) (by omega) hlt w)]
  have hsz : sizeT Tryz.prog (elemT Tryz.prog 60) = 4 := by kernel_rfl
  rw [hsz, tfl62_1]
  refine r_loadO (by kernel_rfl) (by kernel_rfl) ?_ (hp _ rfl) ho
  exact hcl 1 s.2.1 rfl
theorem ro60_3 {v : Value} {l : List RawO} {p : Nat → Prop} {s : RawO} {i : Nat} {q : IntKind} (hs : IsSl fOp w0 v l) (hx : l[i]? = some s) (hp : ∀ b, isOf v b → ¬ p b) (ho : Off p w0 w) :
    takeW Tryz.prog anyW (Instr.indexAt 60 v (.int q (i : Int))) (fun p' => takeW Tryz.prog anyW (Instr.fieldAt 62 p' 3) (fun p'' => takeW Tryz.prog (Off p w0) (Instr.loadAt 56 p'') K w) w) w = K s.2.2.2 := by
  obtain ⟨b, o, c, rfl, hlt, hcl⟩ := hs.at (i := (i : Int)) (by omega) (by simpa using hx)
  rw [takeW_pure (fun w => run_index (by kernel_rfl) (by kernel_rfl) (by omega) hlt w)]
  have hsz : sizeT Tryz.prog (elemT Tryz.prog 60) = 4 := by kernel_rfl
  rw [hsz, tfl62_3]
  refine r_loadO (by kernel_rfl) (by kernel_rfl) ?_ (hp _ rfl) ho
  exact hcl 3 s.2.2.2 rfl
theorem t_upto56 {v : Value} {l : List Int} {q : IntKind} {hi : Nat} (hs : IsSl fI w v l) (h2 : hi ≤ l.length) (hk : ∀ v', IsSl fI w v' (l.take hi) → K v') : takeW Tryz.prog anyW (Instr.sliceAt 56 v none (some (.int q (hi : Int))) none) K w := by
  have hs0 := hs
  obtain ⟨a, c, rfl, hc, _⟩ := hs
  have ht : Tryz.prog.underlying 56 = some (.slice (Tryz.prog.elem 56)) := by kernel_rfl
  have hkn : known Tryz.prog (Tryz.prog.elem 56) = true := by kernel_rfl
  have hz : sizeT Tryz.prog (Tryz.prog.elem 56) = fI.sz := by kernel_rfl
  rw [takeW_pure fun w => show (Instr.sliceAt 56 (.slice a l.length c) none (some (.int q (hi : Int))) none).run Tryz.prog w = .ok (sliced a 0 hi c (sizeT Tryz.prog (Tryz.prog.elem 56))) w by
    rw [run_sliceAt_slice _ _ _ _ _ _ ht, run_slice_h w 56 _ _ c ht q hi (by omega) (by omega), Go.V.run_sizeOf hkn]
    simp [Result.andThen]]
  rw [hz]
  have := hs0.slicedTo (lo := 0) (hi := hi) (mx := c) (Nat.zero_le _) h2 (by omega)
  rw [List.drop_zero, Nat.sub_zero] at this
  exact hk _ this
end
end Go.Proofs.YtbojglaimdjagaaGreatDoor
/- Arguments of the laws, opened: integers, calls. -/
set_option linter.unusedSimpArgs false
set_option linter.unusedVariables false
namespace Go.Proofs.YtbojglaimdjagaaGreatDoor
open Go Go.V Go.RowKit Go.ChangeShapes Go.WideShapes Go.ChangeAt Go.Deep
theorem und56 : Tryz.prog.underlying 56 = some (.slice 3) := by kernel_rfl
theorem und60 : Tryz.prog.underlying 60 = some (.slice 62) := by kernel_rfl
theorem sa62 : structAt Tryz.prog 62 = some [(3, 0), (22, 1), (3, 2), (56, 3)] := by kernel_rfl
theorem cells62 : Tryz.prog.cellsOf 62 = 4 := by kernel_rfl
theorem cells56 : Tryz.prog.cellsOf 56 = 1 := by kernel_rfl
section
variable {H : Type} {enc : TypeId × Value → H} {w : World} {base : Nat} {spare : Nat → Bool} {held : Bool}
theorem int_of_trod {cs : List Value} {m : Nat} {y : DataW H × List MemPlace} (h : DataW.trod enc Tryz.prog w base spare held m 3 cs = some y) : ∃ n, cs = [I n] ∧ in64 n := by
  obtain ⟨n, hn, _, hw⟩ := DataW.trod_int Tryz.underlying3 h
  exact ⟨n, hn, in64_of_wf hw⟩
theorem openW {fuel : Nat} {v : Value} {x : DataW H × List MemPlace} (h : DataW.trod enc Tryz.prog w base spare held fuel 56 [v] = some x) : ∃ l : List Int, IsSl fI w v l ∧ l.length ≤ maxLen ∧ ∀ x ∈ l, in64 x :=
  sl_of_trod (F := fI) (Q := fun z => in64 z) und56 cells3' (by decide) (fun cs m y h => int_of_trod h) h
set_option maxRecDepth 100000 in
theorem openO {fuel : Nat} {v : Value} {x : DataW H × List MemPlace} (h : DataW.trod enc Tryz.prog w base spare held fuel 60 [v] = some x) : ∃ l : List OpW, OpsV w v l ∧ okOps l := by
  obtain ⟨rs, h1, h2, h3⟩ := sl_of_trod (F := fOp) (Q := fun r => ∃ o : OpW, OpV w r o ∧ okOp o) und60 cells62 (by decide) (fun cs m y h => by
    obtain ⟨hl, m', ys, _, hf⟩ := trod_at sa62 h
    rw [cells62] at hl
    obtain ⟨y0, _, t0⟩ := hf 0 _ rfl
    obtain ⟨y1, _, t1⟩ := hf 1 _ rfl
    obtain ⟨y2, _, t2⟩ := hf 2 _ rfl
    obtain ⟨y3, _, t3⟩ := hf 3 _ rfl
    rw [cells3'] at t0 t2
    rw [cells22] at t1
    rw [cells56] at t3
    match cs, hl with
    | [a, b, c, d], _ =>
      obtain ⟨n0, h0, g0⟩ := int_of_trod t0
      obtain ⟨n2, h2, g2⟩ := int_of_trod t2
      simp at h0 h2
      subst h0 h2
      have t1' : DataW.trod enc Tryz.prog w base spare held m' 22 [b] = some y1 := by simpa using t1
      have t3' : DataW.trod enc Tryz.prog w base spare held m' 56 [d] = some y3 := by simpa using t3
      obtain ⟨l1, s1, s2, _⟩ := openT t1'
      obtain ⟨l3, q1, q2, _⟩ := openW t3'
      exact ⟨(n0, b, n2, d), rfl, ⟨n0, l1, n2, l3⟩, ⟨rfl, s1, rfl, q1⟩, g0, s2, g2, q2⟩) h
  obtain ⟨ops, hl, hR⟩ := choose_list (l := rs) (R := fun r (o : OpW) => OpV w r o ∧ okOp o) h3
  refine ⟨ops, ⟨rs, h1, hl, fun i r o g1 g2 => (hR i r o g1 g2).1⟩, by omega, fun o ho => ?_⟩
  obtain ⟨i, hi, rfl⟩ := List.getElem_of_mem ho
  exact (hR i (rs[i]'(by omega)) _ (List.getElem?_eq_getElem _) (List.getElem?_eq_getElem hi)).2
end
end Go.Proofs.YtbojglaimdjagaaGreatDoor
/- The walk of JournalKeeps. -/
set_option linter.unusedSimpArgs false
set_option linter.unusedVariables false
set_option maxRecDepth 4000
namespace Go.Proofs.YtbojglaimdjagaaGreatDoor
open Go Go.V Go.RowKit
theorem sl_lt {α : Type} {F : Fl α} {w : World} {v : Value} {l : List α} {i : Nat} {x : α} (hs : IsSl F w v l) (hx : l[i]? = some x) (hz : 0 < F.sz) : ∀ b, isOf v b → b < w.heap.size := fun b hb => by
  obtain ⟨g, o, c, rfl, hlt, hcl⟩ := hs.at (i := (i : Int)) (by omega) (by simpa using hx)
  have h0 := hcl 0 ((F.e x)[0]'(by rw [F.len]; exact hz)) (List.getElem?_eq_getElem _)
  have : g < w.heap.size := World.block_lt_of_cell? w _ h0
  simp [isOf, Value.ownBlock] at hb
  omega
/-- the state of a journal between two calls -/
def KpS (N : Nat) (D : DK) (br : Bool) (l : List ByteArray) (i : Nat) : Prop :=
  (Hl N D l ∧ br = false ∧ l.length ≤ 6 * i) ∨ ∃ m, Bk N D l m ∧ br = true ∧ l.length + m.length ≤ 6 * i
theorem KpS.ok {N : Nat} {D : DK} {br : Bool} {l : List ByteArray} {i : Nat} (h : KpS N D br l i) : DOk N D ∧ PdOk N D.pend ∧ D.pend.length ≤ 1 ∧ l.length ≤ 6 * i ∧ Fits N l := by
  rcases h with ⟨h, _, h2⟩ | ⟨m, h, _, h2⟩
  · exact ⟨h.ok, h.pdOk, by rw [h.pend]; exact Nat.zero_le _, h2, h.fits⟩
  · exact ⟨h.ok, h.pdOk.1, by rw [h.pdOk.2]; exact Nat.le_refl _, by omega, h.fits.left⟩
theorem KpS.mono {N : Nat} {D : DK} {br : Bool} {l : List ByteArray} {i j : Nat} (h : KpS N D br l i) (hij : i ≤ j) : KpS N D br l j := by
  rcases h with ⟨h, h1, h2⟩ | ⟨m, h, h1, h2⟩
  · exact .inl ⟨h, h1, by omega⟩
  · exact .inr ⟨m, h, h1, by omega⟩
section
variable {k : Value → World → Prop} {w : World}
set_option maxHeartbeats 2000000 in
theorem c6 {ov : Value} {ops : List OpW} {n : Int} (hg : Gl w) (hn : in64 n) (hov : OpsV w ov ops) (hoo : okOps ops) (hk : ∀ w', Below w.heap.size w w' → k (.bool true) w') :
    S6 (I n) ov k w := by
  unfold S6
  obtain ⟨rs, hov⟩ := hov
  have hml : maxLen ≤ 9223372036854775807 := by decide
  have hml0 : 1000000000 ≤ maxLen := by decide
  have hB : 3 < w.heap.size := hg.2.1
  obtain ⟨ho1, ho2⟩ := id hoo
  refine c8 hg fun w1 hb1 => ?_
  have hs1 := hb1.size
  refine c15 hn ?_
  obtain ⟨z1, z2, z3⟩ := szN_in (n := n)
  generalize szN n = N at *
  refine c24d (n := N) z1 (by omega) fun b dv vv w2 hb2 hd2 => ?_
  obtain ⟨pv2, hd2⟩ := hd2
  replace hd2 : DJ w.heap.size w2 b (newD N) dv vv := ⟨pv2, hd2.lower hs1⟩
  have hb02 := below_trans hb1 hb2
  rw [ex0, ex1]
  have hG0 := gd_new (n := N) z1 (by omega)
  refine c25g (hg.below hb02 hB) hb02.size hd2 hG0 fun w3 jb hd3 ho3 hb3 hj3 => ?_
  replace hj3 := hj3.lower hb02.size
  replace hb3 := hb02.trans hb3
  rw [ex0, ex1, w_neq]
  simp only [decide_true, Bool.not_true]
  rw [condW_false]
  refine Loop3.intro (fun mm x y z w' => ∃ (i jb : Nat) (D : DK) (br : Bool) (l : List ByteArray), x = .pointer (some ⟨jb, 0, none⟩) ∧ z = I i ∧ mm = 20 - i ∧ i ≤ 20 ∧ i ≤ ops.length ∧ DJ w.heap.size w' b D dv vv ∧ TJ w.heap.size w' jb b br (tpOf l) ∧ Below w.heap.size w w' ∧
    Mine fT 9 w' w.heap.size y l ∧ KpS N D br l i) _
    ⟨0, jb, _, false, [], rfl, rfl, rfl, by omega, Nat.zero_le _, hd3, hj3, hb3, Mine.nil _ _, .inl ⟨hG0.hl, rfl, Nat.le_refl _⟩⟩ ?_
  clear hd3 hj3 hb3 hd2 ho3
  clear jb
  rintro mm _ sv _ w4 ⟨i, jb, D, br, l, rfl, rfl, rfl, hi20, hil, hd4, hj4, hb4, hms, hst⟩
  have hov4 := hov.below hb4
  rw [w_lenS (by kernel_rfl) hov4.sl, hov.len, w_lss]
  by_cases h1 : i < ops.length
  case' neg =>
    rw [decide_eq_false (by omega)]
    simp only [guardW_ft, guardW_u, pickW_false]
  case' pos =>
    rw [decide_eq_true (by omega)]
    simp only [guardW_tt, pickW_true]
    rw [w_lss]
    by_cases h2 : i < 20
    case' pos =>
      rw [decide_eq_true (by omega), condW_true]
      have hri : i < rs.length := by rw [hov.len]; exact h1
      have hx : rs[i]? = some rs[i] := List.getElem?_eq_getElem hri
      have hxo : ops[i]? = some ops[i] := List.getElem?_eq_getElem h1
      obtain ⟨g1, g2, g3, g4⟩ := ho2 _ (List.getElem_mem h1)
      have hop4 := hov4.each i _ _ hx hxo
      have hopw := hov.each i _ _ hx hxo
      have hblt := sl_lt hov.sl hx (by decide)
      rw [nw60_0 (F := fOp) (a := rs[i]) rfl hov4.sl hx (u := I rs[i].1) rfl, hopw.kind]
      refine c14 g1 (by decide) ?_
      obtain ⟨q1, q2, q3, q4, q5⟩ := hst.ok
      refine joinW_use2 (fun x y w' => ∃ (jb : Nat) (D : DK) (br : Bool) (l : List ByteArray), x = .pointer (some ⟨jb, 0, none⟩) ∧ DJ w.heap.size w' b D dv vv ∧ TJ w.heap.size w' jb b br (tpOf l) ∧ Below w.heap.size w w' ∧
        Mine fT 9 w' w.heap.size y l ∧ KpS N D br l (i + 1)) ?_ ?_
      · rintro _ y w5 ⟨jb5, D5, br5, l5, rfl, hd5, hj5, hb5, hm5, hs5⟩
        have hrec := tpOf_recs l5
        obtain ⟨_, _, _, r4, _⟩ := hs5.ok
        refine c19d hj5 (by rw [hrec]; omega) fun v6 w6 hb6 hm6 => ?_
        rw [hrec] at hm6
        replace hm5 := hm5.below hb6
        rw [len22 hm6.sl, len22 hm5.sl, w_lss, decide_eq_false (by omega)]
        simp only [guardW_ff, pickW_false]
        rw [len22 hm5.sl]
        refine w_upto hm6.sl (Nat.le_refl _) fun v7 hs7 => ?_
        rw [List.take_length] at hs7
        refine c18 hs7 hm5.sl (by omega) fun w7 hb7 => ?_
        rw [decide_eq_true rfl, w_not]
        simp only [Bool.not_true]
        rw [condW_false, w_add, wrap_id (by omega), loopK_self]
        have hb67 := below_trans hb6 hb7
        exact ⟨20 - (i + 1), by omega, i + 1, jb5, D5, br5, l5, rfl, by simp [I], rfl, by omega, by omega, hd5.below hb67, hj5.below hb67, hb5.trans (hb67.mono hb5.size), hm5.below hb7, hs5⟩
      intro J hJ
      rw [w_eql]
      by_cases h5 : pkN ops[i].kind 8 = 5
      · rw [decide_eq_true h5, condW_true, nw60_2 (F := fOp) (a := rs[i]) rfl hov4.sl hx (u := I rs[i].2.2.1) rfl, hopw.n]
        refine c14 g3 (by decide) ?_
        have hpk := pkN_in (c := ops[i].n) (n := 5) (by decide)
        rw [w_add, wrap_id (by omega)]
        rcases id hst with ⟨hH, rfl, hl6⟩ | ⟨m, hK, rfl, hl6⟩
        · refine c29d hd4 (by omega) (fun h => by rw [hH.on] at h; cases h) fun _ w5 hd5 ho5 hb5 => ?_
          exact hJ _ _ _ ⟨jb, _, false, l, rfl, hd5, hj4.off ho5, hb4.trans hb5, ho5.mine hms (by decide), .inl ⟨hH.cut (c := 1 + pkN ops[i].n 5) (by omega) (by omega), rfl, by omega⟩⟩
        · refine c29d hd4 (by omega) (fun h => ?_) fun h => by rw [hK.off] at h; cases h
          exact hJ _ _ _ ⟨jb, _, true, l, rfl, hd4, hj4, hb4, hms, hst.mono (by omega)⟩
      rw [decide_eq_false h5, condW_false]
      refine joinW_use1 (fun v w' => w4 = w' ∧ (v = .bool true ∨ v = .bool false)) ?_ ?_
      · rintro _ _ ⟨rfl, rfl | rfl⟩
        · rw [condW_true, drewW_eq]
          have hb5 := below_drew w4
          replace hd4 := hd4.below hb5
          replace hms := hms.below hb5
          replace hb4 := hb4.trans (hb5.mono hb4.size)
          clear hov4 hop4 hj4
          generalize w4.drew = w5 at *
          have hov5 := hov.below hb4
          have hop5 := hov5.each i _ _ hx hxo
          have ho : Off (tgP dT w.heap.size w5) w5 w5 := Off.refl _ _
          have hp : ∀ b, isOf ov b → ¬ tgP dT w.heap.size w5 b := fun x hx hh => by have := hblt x hx; have := hh.1; omega
          refine ⟨Off (tgP dT w.heap.size w5) w5, ho, ?_⟩
          rw [ro60_3 hov5.sl hx hp ho, ro60_3 hov5.sl hx hp ho, tlen56 hop5.keep, t_min, show (if (20 : Int) < ((ops[i]).keep.length : Int) then (20 : Int) else ((ops[i]).keep.length : Int)) = ((min (ops[i]).keep.length 20 : Nat) : Int) by split <;> omega]
          refine t_upto56 hop5.keep (by omega) fun kv' hk5 => ?_
          rw [nt60_2 (F := fOp) (a := rs[i]) rfl hov5.sl hx (u := I rs[i].2.2.1) rfl, hopw.n]
          refine c30d hb4.size hd4 q1 q2 (by omega) hk5 (by rw [List.length_take]; omega) g3 fun w6 hd6 ho6 hb6 => ?_
          rw [keepS_eq]
          refine ⟨ho6, ?_⟩
          have hms6 := ho6.mine hms (by decide)
          have hb06 := hb4.trans hb6
          have hRc := cr_rest (keep := (ops[i]).keep.take (min (ops[i]).keep.length 20)) (torn := (ops[i]).n) q1 q2
          have hop : ∃ D' l', opJ N (crD D ((ops[i]).keep.take (min (ops[i]).keep.length 20)) (ops[i]).n) = (0, D', some (tpOf l')) ∧ Gd N D' l' ∧ l.length ≤ l'.length ∧ l'.take l.length = l ∧ l'.length ≤ 6 * i := by
            rcases id hst with ⟨h, _, h2⟩ | ⟨m, h, _, h2⟩
            · obtain ⟨D', a, c⟩ := hl_crash h ((ops[i]).keep.take (min (ops[i]).keep.length 20)) (ops[i]).n
              exact ⟨D', l, a, c, Nat.le_refl _, List.take_length, h2⟩
            · obtain ⟨D', l', a, c, d⟩ := bk_crash h ((ops[i]).keep.take (min (ops[i]).keep.length 20)) (ops[i]).n
              refine ⟨D', l', a, c, ?_⟩
              rcases d with rfl | rfl
              · exact ⟨Nat.le_refl _, List.take_length, by omega⟩
              · exact ⟨by rw [List.length_append]; omega, List.take_left, by rw [List.length_append]; omega⟩
          obtain ⟨D7, l7, he7, hG7, hll, htk, hl7⟩ := hop
          refine c25d (hg.below hb06 hB) hb06.size hd6 hRc.ok (by rw [hRc.pend]; exact Nat.zero_le _) fun w7 r7 hd7 ho7 hb7 hm7 => ?_
          rw [he7] at hd7 hm7
          obtain ⟨_, _, kb, rfl, hk7⟩ := hm7
          replace hk7 := hk7.lower hb06.size
          have hms7 := ho7.mine hms6 (by decide)
          have hb07 := hb06.trans hb7
          have hrec := tpOf_recs l7
          rw [ex0, ex1, w_neq]
          simp only [decide_true, Bool.not_true, guardW_ff]
          rw [eqP28]
          simp only [pickW_false, guardW_ff]
          refine c19d hk7 (by rw [hrec]; omega) fun v8 w8 hb8 hm8 => ?_
          rw [hrec] at hm8
          have hms8 := hms7.below hb8
          rw [len22 hm8.sl, len22 hms8.sl, w_lss, decide_eq_false (by omega)]
          simp only [pickW_false, guardW_ff]
          refine c19d (hk7.below hb8) (by rw [hrec]; omega) fun v9 w9 hb9 hm9 => ?_
          rw [hrec] at hm9
          have hms9 := hms8.below hb9
          rw [len22 hms9.sl]
          refine w_upto hm9.sl hll fun v10 hs10 => ?_
          rw [htk] at hs10
          refine c18 hs10 hms9.sl (by omega) fun w10 hb10 => ?_
          rw [decide_eq_true rfl, w_not]
          simp only [Bool.not_true, pickW_false]
          rw [condW_false]
          have hb710 := below_trans (below_trans hb8 hb9) hb10
          refine c19d (hk7.below hb710) (by rw [hrec]; omega) fun v11 w11 hb11 hm11 => ?_
          rw [hrec] at hm11
          have hb711 := below_trans hb710 hb11
          have hb010 := hb07.trans (hb710.mono hb07.size)
          exact hJ _ _ _ ⟨kb, D7, false, l7, rfl, hd7.below hb711, hk7.below hb711, hb07.trans (hb711.mono hb07.size), hm11.base hb010.size, .inl ⟨hG7.hl, rfl, by omega⟩⟩
        · rw [condW_false]
          have hrec := tpOf_recs l
          have hts := tpOf_size l
          have hroom := q5.room
          refine c19d hj4 (by rw [hrec]; omega) fun v5 w5 hb5 hm5 => ?_
          rw [hrec] at hm5
          have hov5 := hov4.below hb5
          have hop5 := hop4.below hb5
          rw [nw60_1 (F := fOp) (a := rs[i]) rfl hov5.sl hx (u := rs[i].2.1) rfl]
          refine c11 hop5.l g2 fun v6 w6 hb6 hm6 => ?_
          obtain ⟨f1, f2⟩ := fewL_ok (l := (ops[i]).l)
          have hb46 := below_trans hb5 hb6
          have hb06 := hb4.trans (hb46.mono hb4.size)
          replace hm5 := (hm5.below hb6).base hb4.size
          replace hms := hms.below hb46
          refine c10d (hg.below hb06 hB) hB hb06.size (hd4.below hb46) q1 (by omega) (hj4.below hb46) (tpOf_ok l (by omega)) hm6.sl (by omega) fun w7 hd7 hj7 ho7 hb7 => ?_
          have hb07 := hb06.trans hb7
          replace hm5 := ho7.mine hm5 (by decide)
          replace hms := ho7.mine hms (by decide)
          rcases id hst with ⟨hH, rfl, hl6⟩ | ⟨m, hK, rfl, hl6⟩
          · rcases hl_append hH (m := fewL (ops[i]).l) (fun r hr => by have := f2 r hr; omega) with ⟨D2, he, hH2, hz2⟩ | he | ⟨hne, D2, he, hK2⟩
            · rw [he] at hd7 hj7 ⊢
              rw [w_eql, decide_eq_true rfl, condW_true, drewW_eq]
              have hb8 := below_drew w7
              replace hd7 := hd7.below hb8
              replace hj7 := hj7.below hb8
              replace hm5 := hm5.below hb8
              replace hb07 := hb07.trans (hb8.mono hb07.size)
              generalize w7.drew = w8 at *
              have hov8 := hov.below hb07
              have hop8 := hov8.each i _ _ hx hxo
              have ho : Off (fun _ => False) w8 w8 := Off.refl _ _
              refine ⟨Off (fun _ => False) w8, ho, ?_⟩
              rw [ro60_1 hov8.sl hx (fun _ _ h => h) ho]
              refine w_empty22 fun v9 w9 hb9 hm9 => ?_
              rw [keepS_eq]
              refine ⟨Off.below hb9, ?_⟩
              refine w_cat22 hm9 (hm5.below hb9) hb9.size (by simp; omega) fun v10 w10 hm10 hb10 => ?_
              rw [List.nil_append] at hm10
              replace hb10 : Below w8.heap.size w8 w10 := hb9.trans hb10
              rw [keepS_eq]
              refine ⟨Off.below hb10, ?_⟩
              refine c11 (hop8.l.below hb10) g2 fun v11 w11 hb11 hm11 => ?_
              replace hm10 := hm10.below hb11
              replace hb11 := below_trans hb10 hb11
              refine w_cat22 hm10 hm11 hb11.size (by omega) fun v12 w12 hm12 hb12 => ?_
              replace hb12 : Below w8.heap.size w8 w12 := hb11.trans hb12
              rw [keepS_eq]
              refine ⟨Off.below hb12, ?_⟩
              exact hJ _ _ _ ⟨jb, D2, false, l ++ fewL (ops[i]).l, rfl, hd7.below hb12, hj7.below hb12, hb07.trans (hb12.mono hb07.size), hm12.base hb07.size, .inl ⟨hH2, rfl, by rw [List.length_append]; omega⟩⟩
            · rw [he] at hd7 hj7 ⊢
              rw [w_eql, decide_eq_false (show ¬ ((341 : Int) = 0) by decide), condW_false]
              exact hJ _ _ _ ⟨jb, D, false, l, rfl, hd7, hj7, hb07, hms, hst.mono (by omega)⟩
            · rw [he] at hd7 hj7 ⊢
              rw [w_eql, decide_eq_false (show ¬ ((331 : Int) = 0) by decide), condW_false]
              exact hJ _ _ _ ⟨jb, D2, true, l, rfl, hd7, hj7, hb07, hms, .inr ⟨_, hK2, rfl, by omega⟩⟩
          · rw [apJ_broken] at hd7 hj7 ⊢
            rw [w_eql, decide_eq_false (show ¬ ((340 : Int) = 0) by decide), condW_false]
            exact hJ _ _ _ ⟨jb, D, true, l, rfl, hd7, hj7, hb07, hms, hst.mono (by omega)⟩
      intro J2 hJ2
      rw [w_eql]
      by_cases h6 : pkN ops[i].kind 8 = 6
      · rw [decide_eq_true h6, condW_true]
        exact hJ2 _ _ ⟨rfl, .inl rfl⟩
      · rw [decide_eq_false h6, condW_false, w_eql]
        by_cases h7 : pkN ops[i].kind 8 = 7
        · rw [decide_eq_true h7]
          exact hJ2 _ _ ⟨rfl, .inl rfl⟩
        · rw [decide_eq_false h7]
          exact hJ2 _ _ ⟨rfl, .inr rfl⟩
    case' neg =>
      rw [decide_eq_false (by omega)]
  all_goals
    rw [condW_false]
    exact hk _ hb4
end
end Go.Proofs.YtbojglaimdjagaaGreatDoor
/- JournalKeeps answers true for every input, and the input reads as it did; its card ties the four listed variables to the program's text: no condition of its own. -/
namespace Go.Proofs.YtbojglaimdjagaaGreatDoor.journalKeeps
open Go Go.V Go.ChangeShapes Go.WideShapes Go.ChangeAt Go.RowKit Go.Deep
set_option linter.unusedVariables false
theorem laid_met (os : Os) (args : Array Value) : laidMetH Tryz.prog Rows.journalKeepsRow.laid ((laidWorld os).forCall (fun _ _ => 0) ⟨#[], args, []⟩).memory := laid_met0 os args
theorem witness_row (os : Os) {H : Type} (enc : TypeId × Value → H) :
    (OpenSpec.ofChange Rows.journalKeepsSpec).preRow enc Tryz.prog Tryz.f6 Rows.journalKeepsRow.domain false Rows.journalKeepsRow.laid ((laidWorld os).forCall (fun _ _ => 0) ⟨#[], #[.int .i64 0, .slice none 0 0], []⟩).memory #[.int .i64 0, .slice none 0 0] := by
  have hw : (DataW.whole enc Tryz.prog ((laidWorld os).forCall (fun _ _ => 0) ⟨#[], #[.int .i64 0, .slice none 0 0], []⟩).memory Tryz.f6.params.toList (OpenSpec.ofChange Rows.journalKeepsSpec).vars false (#[.int .i64 0, .slice none 0 0] : Array Value).toList 8).map (fun x => (x.1, x.2.1)) =
      some ([.lit (.int .i64 0), .nil], []) := by kernel_rfl
  obtain ⟨⟨x1, x2, x3⟩, hx, hx1⟩ := Option.map_eq_some_iff.1 hw
  simp only [Prod.mk.injEq] at hx1
  obtain ⟨rfl, rfl⟩ := hx1
  exact OpenSpec.preRow_of_cond 8 hx (by kernel_rfl) (fun k hk => by cases hk) (by kernel_rfl) (laid_met os _)
set_option maxRecDepth 100000 in
theorem lifted (os : Os) (started : os.Started) (H : Type) (enc : TypeId × Value → H) (F : Stop.Interp) :
    ReturnsInHanded {} Tryz.checked os 6 .any ((OpenSpec.ofChange Rows.journalKeepsSpec).preRow enc Tryz.prog Tryz.f6 Rows.journalKeepsRow.domain false Rows.journalKeepsRow.laid) (((OpenSpec.ofChange Rows.journalKeepsSpec).at F).post enc Tryz.prog Tryz.f6 false true false false) := by
  refine returnsInHanded_of_row (C := Tryz.checked) (s := OpenSpec.ofChange Rows.journalKeepsSpec) own started (by kernel_rfl) Tryz.func6
    (witness_row_atRef (enc := enc) (C := Tryz.checked) false (laidWorld os) #[.int .i64 0, .slice none 0 0] rfl (by kernel_rfl) (by kernel_rfl) (by kernel_rfl) (witness_row os enc)) ?_
  intro W base args ds gs before hval0 hW _ _ _ hL _ _
  have hgl : Gl W := gl_of_laid rfl hL
  have hval : ∀ (j : Nat) t v, Tryz.f6.params[j]? = some t → args[j]? = some v → Value.okWide Tryz.prog W .any base t v := hval0
  have hW' := hW
  obtain ⟨p, q, hA0, hV, rfl, hfz, hnd⟩ := hW
  have hA : DataW.TrodAll enc Tryz.prog W 0 (fun _ => true) true Tryz.f6.params.toList args.toList ds p := hA0
  rw [Tryz.params6] at hA hval
  obtain ⟨v0, vs0, d0, ds0, p0, q0, hargs, rfl, rfl, h0, r0⟩ := trodAll_cons hA
  obtain ⟨v1, vs1, d1, ds1, p1, q1, rfl, rfl, rfl, h1, r1⟩ := trodAll_cons r0
  obtain ⟨rfl, rfl, rfl⟩ := trodAll_nil r1
  obtain rfl : args = #[v0, v1] := by cases args; simp_all
  obtain ⟨rfl, rfl⟩ := trodVars_none hV
  obtain ⟨a0, rfl, rfl, rfl, wa0⟩ := open_int Tryz.underlying3 (hval 0 3 v0 rfl rfl) h0
  obtain ⟨a1, len1, cap1, rfl⟩ := okWide_slice und60 (hval 1 60 v1 rfl rfl)
  have k1 := h1
  have lt1 : ∀ x ∈ p1, x.block < W.heap.size := by obtain ⟨m, hm⟩ := k1; exact DataW.trod_lt m _ _ _ hm
  obtain ⟨l1, s1, o1⟩ : ∃ l : List OpW, OpsV W (.slice a1 len1 cap1) l ∧ okOps l := by
    obtain ⟨fuel, hf⟩ := h1
    exact openO hf
  clear hA0 hval0
  have walk : Calls Tryz.prog 6 #[I a0, .slice a1 len1 cap1] W fun e w' => e = .returned (.bool true) ∧ Below W.heap.size W w' :=
    (S6_calls _ _ _ W (c6 (k := fun v w' => v = .bool true ∧ Below W.heap.size W w') hgl (in64_of_wf wa0) s1 o1 fun w' hb => ⟨rfl, hb⟩)).mono fun e w' h => by
      cases e <;> first | exact h.elim | exact ⟨by rw [h.1], h.2⟩
  refine walk.mono fun e W' ⟨he, bel⟩ => ?_
  subst he
  exact ⟨_, rfl, _, _, _, [], _, [], hW', trodAll_mk1 (shut_bool Tryz.underlying4 _), (trodAll_cons_mk (shut_int Tryz.underlying3 wa0) (trodAll_cons_mk (Below.trod laidOut (by kernel_rfl) (of_decide_eq_true (by kernel_rfl)) k1 bel lt1) trodAll_mk0)), rfl, bel.frame _, fun h => by cases h⟩
theorem row_holds : Rows.JournalKeepsSaid :=
  OpenClaim.holds_of_cond 6 Tryz.f6 rfl rfl rfl rfl rfl rfl rfl ⟨rfl, rfl, rfl, rfl, rfl⟩ rfl rfl rfl rfl rfl (by kernel_rfl) Tryz.func6 (by kernel_rfl)
    (of_decide_eq_true (by kernel_rfl)) (by unfold Func.isWrapper; first | (rw [if_pos (by decide +kernel)]; kernel_rfl) | (rw [if_neg (by decide +kernel)]; exact ⟨rfl, rfl⟩))
    (fun os started H enc _ F0 => by rw [OpenClaim.pre_eq_preRow]; exact lifted os started H enc F0)
theorem wants (t : TypeId) (ht : t ∈ [3, 60]) : Tryz.prog.wantsStandIn t = false := by
  simp only [List.mem_cons, List.not_mem_nil, or_false] at ht
  rcases ht with rfl | rfl <;> kernel_rfl
theorem proved : Rows.JournalKeepsCardSaid :=
  Claim7.holds_tied_plain_at .later [] [.data, .data, .sentinel, .pinned] true (true, "69da697e1fae71e390920ac6a76ede8b26c391e873478dcb88b18d537b313e2a") true
    row_holds (fun _ h => by cases h) (by kernel_rfl) (fun _ h => by cases h) journalKeeps_row_tie rfl ⟨rfl, rfl⟩ (by kernel_rfl) rfl
    (fun f fn hf hfn => by
      obtain rfl : f = 6 := Option.some.inj ((show Tryz.prog.funcNamed "newswire/newswirelaw34.JournalKeeps" = some 6 by kernel_rfl).symm.trans hf) |>.symm
      obtain rfl : fn = Tryz.f6 := (Option.some.inj (Tryz.func6.symm.trans hfn)).symm
      exact ⟨by kernel_rfl, fun j t ht => wants t (by
        rw [Tryz.params6] at ht
        exact List.mem_of_getElem? (by simpa using ht))⟩)
    (by kernel_rfl)
end Go.Proofs.YtbojglaimdjagaaGreatDoor.journalKeeps
