/- JournalMatchesReference answers true for every input, and the input reads as it did; its card ties the four listed variables to the program's text: no condition of its own. -/
import Derived.Test.YtbojglaimdjagaaGreatDoorMr4
import Derived.ProofKit
import Derived.OpenShut
import Derived.ShutString
import Derived.ChangeMaps5
import Derived.ChangeOld
import Derived.Deep.Slices
import Derived.Deep.DeepHandedRow
import Derived.LaidMore
import Derived.LaidHandle
import Derived.Test.YtbojglaimdjagaaGreatDoorTie
import Derived.Test.YtbojglaimdjagaaGreatDoorCards
import Derived.SevenTiedAt
import Derived.Deep.DeepWitnessRowRef
import Derived.LaidSub
import Derived.LaidLaws
import Derived.Lib.LaidTab
import Derived.Shelf.Sort.Plain
import Derived.Shelf.Slices.CompactI
import Derived.Shelf.Slices.In.SortNone
import Derived.Sort.OwnSortedInts
/- Arguments opened; the package's tables. -/
set_option linter.unusedSimpArgs false
set_option linter.unusedVariables false
namespace Go.Proofs.YtbojglaimdjagaaGreatDoor
open Go Go.V Go.RowKit Go.ChangeShapes Go.WideShapes Go.ChangeAt Go.Deep
theorem own : ownKnob Tryz.prog.godebug = none := by kernel_rfl
theorem laidOut : laidOutB Tryz.prog = true := by kernel_rfl
theorem in64_of_wf {n : Int} (h : (Lit.int .i64 n).wf = true) : in64 n := bounds_i64 h
section
variable {H : Type} {enc : TypeId × Value → H} {P : Program} {w : World} {base : Nat} {spare : Nat → Bool} {held : Bool}
theorem spot_of_cell {x : Addr} {v : Value} (h : w.cell? x = some v) : x.spot = none := by
  unfold World.cell? at h
  cases hs : x.spot with
  | none => rfl
  | some s =>
    exfalso
    split at h
    · rw [hs] at h; simp at h
    · cases h
/-- a slice of flat elements that came in; Q i z: what is known of the i-th -/
theorem sl_of_trodI {α : Type} {F : Fl α} {Q : Nat → α → Prop} {t e : TypeId} {fuel : Nat} {v : Value} {x : DataW H × List MemPlace} (ht : P.underlying t = some (.slice e)) (hc : P.cellsOf e = F.sz) (hp : 0 < F.sz)
    (helem : ∀ i cs m (y : DataW H × List MemPlace), DataW.trod enc P w base spare held m e cs = some y → (∀ ds p, x = (.slice ds [], p) → ds[i]? = some y.1) → ∃ z, cs = F.e z ∧ Q i z) (h : DataW.trod enc P w base spare held fuel t [v] = some x) (hnn : held = held) :
    ∃ l : List α, IsSl F w v l ∧ l.length ≤ maxLen ∧ (∀ i z, l[i]? = some z → Q i z) ∧ ∀ ds p, x = (.slice ds [], p) → l.length = ds.length := by
  rcases open_slice ht h with ⟨hcs, hx0⟩ | ⟨a, len, cap, m, n, D, Pl, hcs, _, hl, hm, hmm, hxx, hel⟩
  · simp at hcs; subst hcs
    exact ⟨[], .nil _, by simp, by simp, fun ds p hh => by rw [hx0] at hh; cases hh⟩
  · simp at hcs; subst hcs
    have hlm : len ≤ m := by rw [hmm]; split <;> omega
    have each : ∀ i, i < len → ∃ z, Q i z ∧ ∀ j u, (F.e z)[j]? = some u → w.cell? ((a.add (i * F.sz)).add j) = some u := fun i hi => by
      obtain ⟨cs, h1, h2⟩ := hel i (by omega)
      obtain ⟨z, rfl, hq⟩ := helem i cs n _ h2 fun ds p hh => by
        rw [hxx] at hh
        simp only [Prod.mk.injEq, DataW.slice.injEq] at hh
        rw [← hh.1.1, List.getElem?_map, List.getElem?_range hi]; rfl
      rw [hc] at h1
      obtain ⟨_, hlen, hcell⟩ := World.cells?_some h1
      exact ⟨z, hq, fun j u hu => by rw [hcell j (by have := (List.getElem?_eq_some_iff.1 hu).1; rw [F.len] at this; exact this)]; exact hu⟩
    have mk : ∀ k, k ≤ len → ∃ l : List α, l.length = k ∧ (∀ i z, l[i]? = some z → Q i z) ∧ ∀ i z, l[i]? = some z → ∀ j u, (F.e z)[j]? = some u → w.cell? ((a.add (i * F.sz)).add j) = some u := by
      intro k
      induction k with
      | zero => intro _; exact ⟨[], rfl, by simp, by simp⟩
      | succ k ih =>
        intro hk
        obtain ⟨l, h1, h2, h3⟩ := ih (by omega)
        obtain ⟨z, hz, hzc⟩ := each k (by omega)
        refine ⟨l ++ [z], by simp [h1], fun i y hy => ?_, fun i y hy => ?_⟩
        · rcases Nat.lt_or_ge i l.length with h | h
          · rw [List.getElem?_append_left h] at hy; exact h2 i y hy
          · rw [List.getElem?_append_right h] at hy
            have := (List.getElem?_eq_some_iff.1 hy).1
            simp at this
            have h0 : i - l.length = 0 := by omega
            rw [h0] at hy; simp at hy; subst hy
            obtain rfl : i = k := by omega
            exact hz
        · rcases Nat.lt_or_ge i l.length with h | h
          · rw [List.getElem?_append_left h] at hy; exact h3 i y hy
          · rw [List.getElem?_append_right h] at hy
            have := (List.getElem?_eq_some_iff.1 hy).1
            simp at this
            have h0 : i - l.length = 0 := by omega
            rw [h0] at hy; simp at hy; subst hy
            obtain rfl : i = k := by omega
            exact hzc
    obtain ⟨l, h1, h2, h3⟩ := mk len (Nat.le_refl _)
    refine ⟨l, ⟨some a, cap, by rw [h1], by omega, fun i z hz => ?_⟩, by omega, h2, fun ds p hh => ?_⟩
    · obtain ⟨z0, hz0⟩ : ∃ z0, l[0]? = some z0 := ⟨l[0]'(by have := (List.getElem?_eq_some_iff.1 hz).1; omega), by simp⟩
      obtain ⟨u, hu⟩ : ∃ u, (F.e z0)[0]? = some u := ⟨(F.e z0)[0]'(by rw [F.len]; exact hp), by simp⟩
      have hsp := spot_of_cell (h3 0 z0 hz0 0 u hu)
      obtain ⟨b, o, sp⟩ := a
      have hsn : sp = none := by
        revert hsp
        simp [Addr.add]
      subst hsn
      refine ⟨b, o, rfl, fun j v hv => ?_⟩
      have := h3 i z hz j v hv
      rwa [add_none, add_none] at this
    · rw [hxx] at hh
      simp only [Prod.mk.injEq, DataW.slice.injEq] at hh
      rw [h1, ← hh.1.1]; simp
theorem sl_of_trod {α : Type} {F : Fl α} {Q : α → Prop} {t e : TypeId} {fuel : Nat} {v : Value} {x : DataW H × List MemPlace} (ht : P.underlying t = some (.slice e)) (hc : P.cellsOf e = F.sz) (hp : 0 < F.sz)
    (helem : ∀ cs m (y : DataW H × List MemPlace), DataW.trod enc P w base spare held m e cs = some y → ∃ z, cs = F.e z ∧ Q z) (h : DataW.trod enc P w base spare held fuel t [v] = some x) :
    ∃ l : List α, IsSl F w v l ∧ l.length ≤ maxLen ∧ ∀ z, z ∈ l → Q z := by
  obtain ⟨l, h1, h2, h3, _⟩ := sl_of_trodI (Q := fun _ z => Q z) ht hc hp (fun _ cs m y hy _ => helem cs m y hy) h rfl
  exact ⟨l, h1, h2, fun z hz => by obtain ⟨i, hi, rfl⟩ := List.getElem_of_mem hz; exact h3 i _ (List.getElem?_eq_getElem hi)⟩
theorem cells3' : Tryz.prog.cellsOf 3 = 1 := by kernel_rfl
def structAt (P : Program) (t : TypeId) : Option (List (Nat × Nat)) := match P.underlying t with
  | some (.struct fs) => some (mapL (fun f => (f.type, f.offset)) fs.toList)
  | _ => none
theorem structAt_spec {t : TypeId} {l : List (Nat × Nat)} (h : structAt P t = some l) : ∃ fs : Array Field, P.underlying t = some (.struct fs) ∧ fs.toList.map (fun f => (f.type, f.offset)) = l := by
  unfold structAt at h
  split at h
  · rename_i fs hfs
    cases h
    exact ⟨fs, hfs, (mapL_eq _ _).symm⟩
  · cases h
/-- the fields of a struct that came in, with their data -/
theorem trod_at {fuel : Nat} {t : TypeId} {cs : List Value} {l : List (Nat × Nat)} {x : DataW H × List MemPlace} (hl : structAt P t = some l) (h : DataW.trod enc P w base spare held fuel t cs = some x) :
    cs.length = P.cellsOf t ∧ ∃ (m : Nat) (ys : List (DataW H × List MemPlace)), x.1 = .agg (ys.map Prod.fst) ∧ ∀ (i : Nat) f, l[i]? = some f → ∃ y, ys[i]? = some y ∧ DataW.trod enc P w base spare held m f.1 ((cs.drop f.2).take (P.cellsOf f.1)) = some y := by
  obtain ⟨fs, hfs, hm⟩ := structAt_spec hl
  obtain ⟨xs, n, _, rfl, hcl, hxl, hf⟩ := DataW.trod_struct hfs h
  refine ⟨hcl, n, xs, rfl, fun i f hif => ?_⟩
  rw [← hm, List.getElem?_map] at hif
  cases hg : fs.toList[i]? with
  | none => rw [hg] at hif; cases hif
  | some g =>
    rw [hg] at hif
    simp only [Option.map_some, Option.some.injEq] at hif
    subst hif
    have hg' : fs[i]? = some g := by simpa using hg
    have := hf i g hg'
    have hlt : i < xs.length := by
      have := (Array.getElem?_eq_some_iff.1 hg').1
      omega
    rw [List.getElem?_eq_getElem hlt] at this
    exact ⟨_, List.getElem?_eq_getElem hlt, this⟩
end
end Go.Proofs.YtbojglaimdjagaaGreatDoor
/- The witness of the rows that list the variables; the variables opened. -/
set_option linter.unusedSimpArgs false
set_option linter.unusedVariables false
namespace Go.Proofs.YtbojglaimdjagaaGreatDoor
open Go Go.V Go.ChangeShapes Go.WideShapes Go.ChangeAt Go.RowKit Go.Deep
def laidL : List (String × DataW Unit) := [("unicode/utf8.acceptRanges", Rows.laid_unicode_utf8_acceptRanges), ("newswire/digest.round", Rows.laid_newswire_digest_round), ("newswire/journal.errDamaged", Rows.laid_newswire_journal_errDamaged), ("unicode/utf8.first", Rows.laid_unicode_utf8_first)]
theorem starNm : "*errors.errorString" = "*" ++ "errors.errorString" := by decide
theorem row222 (u : TypeId) (h : Tryz.prog.typeName? 3 u = some "*errors.errorString") : u = 222 :=
  typeName_ptr_named (nm := "errors.errorString") (by rw [← starNm]; kernel_rfl) (by kernel_rfl) (by decide) u (by rw [← starNm]; exact h)
theorem c244 : Tryz.prog.cellsOf 244 = 1 := by kernel_rfl
theorem c9 : Tryz.prog.cellsOf 9 = 1 := by kernel_rfl
set_option maxRecDepth 100000 in
theorem err_of_laid {W : World} (h : laidMet Tryz.prog [("newswire/journal.errDamaged", Rows.laid_newswire_journal_errDamaged)] W) : ∃ e : Addr, W.cell? ⟨0, 0, none⟩ = some (.iface 222 (.pointer (some e))) := by
  obtain ⟨ps, ⟨g0', t0', cs0, f0, p0, q0, hg0', ht0', hv0, hd0, _, e0⟩, hnd, hrows⟩ := h
  have hg0 : Tryz.prog.globalNamed "newswire/journal.errDamaged" = some 0 := by kernel_rfl
  have ht0 : (Tryz.prog.globals[0]?).map (·.type) = some 80 := by kernel_rfl
  obtain rfl := Option.some.inj (hg0.symm.trans hg0')
  obtain rfl := Option.some.inj (ht0.symm.trans ht0')
  subst e0
  obtain ⟨l0⟩ := cs0
  have ok0 : ∀ u v, l0 = [.iface u v] → Value.okWide Tryz.prog W .any 0 u v := fun u v e => by
    subst e
    exact (hrows 0 0 (by simp [MemPlace.row])).2 u v (by simpa using World.var?_cell hg0' hv0 0)
  obtain ⟨a0, s0, rfl, hc0, hs0, hz0, rfl⟩ := errorString_of_trod Tryz.underlying80 row222 Tryz.underlying222 Tryz.underlying244 rfl rfl Tryz.underlying9 c244 c9 hd0 ok0
  exact ⟨a0, by simpa using World.var?_cell hg0' hv0 0⟩
theorem dig_of_laid {w : World} (h0 : laidMet Tryz.prog [("newswire/digest.round", Lib.tabData .u32 (kL.map fun x => ((x.toNat : Nat) : Int)))] w) : Cells w 3 0 K64 ∧ 3 < w.heap.size := by
  have hT := Lib.tabIs_of_head (P := Tryz.prog) (g := 3) (t := 214) (e := 109) (n := 64) (by kernel_rfl) (by kernel_rfl) (by kernel_rfl) (by kernel_rfl) (by kernel_rfl) (by kernel_rfl) h0
  have hc : ∀ i, i < 64 → w.cell? ⟨3, i, none⟩ = some (uV (kL.getD i 0)) := fun i hi => by
    have := hT.cell (g := 3) (by kernel_rfl) i (by simpa [kL] using hi)
    rw [this]
    have hk : kL[i]? = some (kL.getD i 0) := by rw [List.getD_eq_getElem?_getD, List.getElem?_eq_getElem (show i < kL.length from hi)]; rfl
    rw [List.getD_eq_getElem?_getD, List.getElem?_map, hk]; rfl
  refine ⟨fun j v hv => ?_, World.block_lt_of_cell? w _ (hc 0 (by decide))⟩
  have hj : j < 64 := by
    have := (List.getElem?_eq_some_iff.1 hv).1
    simpa [K64, kL] using this
  rw [Nat.zero_add, hc j hj, ← hv]
  unfold K64
  have hk : kL[j]? = some (kL.getD j 0) := by rw [List.getD_eq_getElem?_getD, List.getElem?_eq_getElem (show j < kL.length from hj)]; rfl
  rw [List.getElem?_map, hk]; rfl
set_option maxRecDepth 100000 in
theorem gl_of_laid {l : List (String × DataW Unit)} {w : World} (hl : l = laidL) (h : laidMetH Tryz.prog l w) : Gl w := by
  subst hl
  have h1 : laidMet Tryz.prog [("newswire/digest.round", Rows.laid_newswire_digest_round)] w := laidMetH.filter (fun x => x.1 == "newswire/digest.round") h
  have h2 : laidMet Tryz.prog [("newswire/journal.errDamaged", Rows.laid_newswire_journal_errDamaged)] w := laidMetH.filter (fun x => x.1 == "newswire/journal.errDamaged") h
  obtain ⟨a, b⟩ := dig_of_laid h1
  exact ⟨a, b, err_of_laid h2⟩
/-- the heap that the door's run leaves, utf8's table laid besides -/
noncomputable def laidWorld (os : Os) : World :=
  { World.doorLaid Tryz.prog 600 os with heap := (World.doorLaid Tryz.prog 600 os).heap.modify 1 fun
      | .cells _ t frozen => .cells (Go.Pinned.utf8FirstZ.map fun (z : Nat) => Value.int .u8 (z : Int)).toArray t frozen
      | o => o }
theorem laid_met0 (os : Os) (args : Array Value) : laidMetH Tryz.prog laidL ((laidWorld os).forCall (fun _ _ => 0) ⟨#[], args, []⟩).memory :=
  laidMetH_of_parts3 (fuel := 8) (laidMet_of_run' 8 (by kernel_rfl) (by kernel_rfl)) (by kernel_rfl) (by kernel_rfl)
end Go.Proofs.YtbojglaimdjagaaGreatDoor
/- Arguments of the laws, opened. -/
set_option linter.unusedSimpArgs false
set_option linter.unusedVariables false
namespace Go.Proofs.YtbojglaimdjagaaGreatDoor
open Go Go.V Go.RowKit Go.ChangeShapes Go.WideShapes Go.ChangeAt Go.Deep
theorem und22 : Tryz.prog.underlying 22 = some (.slice 9) := by kernel_rfl
theorem cells22 : Tryz.prog.cellsOf 22 = 1 := by kernel_rfl
theorem choose_list {α β : Type} {R : α → β → Prop} : ∀ {l : List α}, (∀ x ∈ l, ∃ y, R x y) → ∃ m : List β, l.length = m.length ∧ (∀ (i : Nat) x y, l[i]? = some x → m[i]? = some y → R x y)
  | [], _ => ⟨[], rfl, fun i x y h => by simp at h⟩
  | a :: l, h => by
    obtain ⟨b, hb⟩ := h a (by simp)
    obtain ⟨m, hm, hR⟩ := choose_list (l := l) (R := R) fun x hx => h x (by simp [hx])
    refine ⟨b :: m, by simp [hm], fun i x y h1 h2 => ?_⟩
    cases i with
    | zero => simp at h1 h2; subst h1; subst h2; exact hb
    | succ i => exact hR i x y (by simpa using h1) (by simpa using h2)
section
variable {H : Type} {enc : TypeId × Value → H} {w : World} {base : Nat} {spare : Nat → Bool} {held : Bool}
theorem str_of_trod {cs : List Value} {m : Nat} {y : DataW H × List MemPlace} (h : DataW.trod enc Tryz.prog w base spare held m 9 cs = some y) : ∃ s, cs = [.string s] ∧ s.size ≤ maxLen := by
  obtain ⟨s, h1, _, h2⟩ := DataW.trod_string Tryz.underlying9 h
  exact ⟨s, h1, h2⟩
theorem openT {fuel : Nat} {v : Value} {x : DataW H × List MemPlace} (h : DataW.trod enc Tryz.prog w base spare held fuel 22 [v] = some x) : ∃ l : List ByteArray, IsSl fT w v l ∧ l.length ≤ maxLen ∧ ∀ s ∈ l, s.size ≤ maxLen := by
  obtain ⟨l, h1, h2, h3⟩ := sl_of_trod (F := fT) (Q := fun s => s.size ≤ maxLen) und22 c9 (by decide) (fun cs m y h => by
    obtain ⟨s, hs, hm⟩ := str_of_trod h
    exact ⟨s, hs, hm⟩) h
  exact ⟨l, h1, h2, h3⟩
end
end Go.Proofs.YtbojglaimdjagaaGreatDoor
/- More of Append, plain; a slice appended to one's own. -/
set_option linter.unusedSimpArgs false
set_option linter.unusedVariables false
set_option maxRecDepth 4000
namespace Go.Proofs.YtbojglaimdjagaaGreatDoor
open Go Go.V Go.RowKit
theorem apJ_broken {n : Nat} {D : DK} {t : TP} {l : List ByteArray} : apJ n D t true l = (340, D, t, true) := by
  unfold apJ; rw [if_pos (.inl rfl)]
theorem not_long {l : List ByteArray} (h : ∀ s ∈ l, s.size ≤ 65536) : ¬ (false = true ∨ ∃ s ∈ l, 65536 < s.size) := fun hh => hh.elim (fun h => by cases h) fun ⟨s, h1, h2⟩ => by have := h s h1; omega
theorem apJ_nil {n : Nat} {D : DK} {t : TP} (h : t.size ≤ n) : apJ n D t false [] = (0, D, t, false) := by
  unfold apJ
  have h0 : (grpB t []).size = 0 := by rw [grpB_size]; rfl
  rw [if_neg (not_long (by simp)), if_neg (by omega), if_pos rfl]
theorem apJ_full' {n : Nat} {D : DK} {t : TP} {l : List ByteArray} (hs : ∀ r ∈ l, r.size ≤ 65536) (hr : n < t.size + (grpB t l).size) : apJ n D t false l = (341, D, t, false) := by
  unfold apJ
  rw [if_neg (not_long hs), if_pos hr]
theorem DOk.cut {n : Nat} {D : DK} (h : DOk n D) {c : Int} (hc : 0 ≤ c ∧ c ≤ 1000000) : DOk n (cutD D c) := ⟨h.n1, h.n2, h.dur, h.vis, hc⟩
section
variable {P : Program} {k : Value → World → Prop} {w w' : World} {α : Type} {F : Fl α} {v v2 : Value} {l0 l : List α} {t e : TypeId} {B B2 : Nat}
theorem flat_cells (hone : ∀ x, ∀ u ∈ F.e x, u.oneCell' = true) : ∀ (l : List α), ∀ u ∈ flat F l, u.oneCell' = true
  | [], u, hu => by simp [flat] at hu
  | x :: r, u, hu => by
    simp only [flat, List.mem_append] at hu
    rcases hu with hu | hu
    · exact hone x u hu
    · exact flat_cells hone r u hu
/-- a slice appended to one's own -/
theorem mine_cat {ty : TypeId} {bytes : Nat} {z : Value} (h : STy P t e F.sz bytes z) (hone : ∀ x, ∀ u ∈ F.e x, u.oneCell' = true) (hown : Mine F e w B v l0) (hs : Mine F e w B2 v2 l) (hB : B ≤ w.heap.size) (hl : l0.length + l.length ≤ maxLen) (hbytes : (l0.length + l.length) * bytes ≤ 140737488355328)
    (hk : ∀ v' w', Mine F e w' B v' (l0 ++ l) → Below B w w' → Off (isOf v) w w' → (∀ b, isOf v' b → isOf v b ∨ w.heap.size ≤ b) → k v' w') : opW P (Builtin.append_ #[t, t] ty #[v, v2]) k w := by
  rcases id hs.2 with ⟨rfl, hn⟩ | ⟨g, cap, cur, rfl, _⟩
  · have : l = [] := List.eq_nil_of_length_eq_zero hn
    subst this
    rw [w_append_nil h hown]
    exact hk v w (by rw [List.append_nil]; exact hown) (Below.refl _ _) (Off.refl _ _) fun b hb => .inl hb
  · have hone' := flat_cells (F := F) hone l
    obtain ⟨v', w', hr, ho, hg, hnew, _⟩ := run_append_own2 (P := P) (ty := ty) h hown ⟨g, 0, none⟩ l.length cap (flat F l) (flat_length l) (fun j u hu => hs.cells (g := g) rfl j u hu) hone' hl hbytes hB
    rw [opW_ok hr]
    refine hk v' w' ?_ ?_ ?_ hnew
    · unfold Mine
      rw [List.length_append, flat_append]; exact ho
    · exact (Below.refl B w).grown hg hB fun b hb => (hown.ge hb).1
    · exact Off.grown hg fun b hb => hb
end
section
variable {k : Value → World → Prop} {w : World} {B b jb n : Nat} {D : DK} {dv vv : Value}
theorem c10n {lv : Value} (hk : k (I 1) w) : callW Tryz.prog (.func (.func 10) #[] #[]) #[.pointer none, lv] k w := C10 _ _ _ _ (by
  unfold S10
  rw [eqP28n, condW_true]
  exact hk)
theorem c32d (h : DJ B w b D dv vv) (hk : k (I D.pend.length) w) : callW Tryz.prog (.func (.func 32) #[] #[]) #[.pointer (some ⟨b, 0, none⟩)] k w := by
  obtain ⟨pv, h⟩ := h
  exact c32 h hk
end
end Go.Proofs.YtbojglaimdjagaaGreatDoor
/-
  DERIVED: THE SHELF's CONTRACTS AT THIS DUMP, IN PLAIN WORDS (tools/lay-plain.mjs out of 'TryzShelf.lean', which tools/lay-shelf.mjs wrote): THE SAME DECLARATIONS UNDER THE SAME NAMES: 'import', 'namespace', 'open', 'def', 'theorem' AND NOTHING ELSE: no command of the shelf's: FOR A HAND-IN. Each laying: the table of numbers ('.._ren') and one theorem, a field a fact of the dump's own or the kernel's comparison; each contract: ONE APPLICATION.
-/
namespace Go.Proofs
def Tryz.lays189_ren : Go.Shelf.Ren := ⟨fun | 189 => 90 | 125 => 108 | 257 => 107 | 128 => 126 | 129 => 127 | 294 => 117 | 295 => 118 | 296 => 119 | 297 => 120 | 298 => 121 | 299 => 122 | 216 => 123 | 300 => 124 | 301 => 125 | 328 => 137 | 329 => 138 | 330 => 139 | 331 => 140 | 332 => 141 | 215 => 142 | 343 => 148 | n => n, fun | 28 => 56 | 3 => 3 | 46 => 113 | 0 => 0 | 51 => 109 | 53 => 141 | 4 => 4 | 183 => 184 | 182 => 183 | 131 => 188 | 5 => 5 | 9 => 9 | 218 => 206 | 222 => 210 | 228 => 218 | 229 => 219 | n => n, fun | n => n⟩
theorem Tryz.lays189 : Go.Proofs.Lays.n189 Tryz.prog Tryz.lays189_ren := {
  mixed := by kernel_rfl
  f125 := Tryz.func108.trans (congrArg some (by kernel_rfl))
  f128 := Tryz.func126.trans (congrArg some (by kernel_rfl))
  f129 := Tryz.func127.trans (congrArg some (by kernel_rfl))
  f189 := Tryz.func90.trans (congrArg some (by kernel_rfl))
  f215 := Tryz.func142.trans (congrArg some (by kernel_rfl))
  f216 := Tryz.func123.trans (congrArg some (by kernel_rfl))
  f257 := Tryz.func107.trans (congrArg some (by kernel_rfl))
  f294 := Tryz.func117.trans (congrArg some (by kernel_rfl))
  f295 := Tryz.func118.trans (congrArg some (by kernel_rfl))
  f296 := Tryz.func119.trans (congrArg some (by kernel_rfl))
  f297 := Tryz.func120.trans (congrArg some (by kernel_rfl))
  f298 := Tryz.func121.trans (congrArg some (by kernel_rfl))
  f299 := Tryz.func122.trans (congrArg some (by kernel_rfl))
  f300 := Tryz.func124.trans (congrArg some (by kernel_rfl))
  f301 := Tryz.func125.trans (congrArg some (by kernel_rfl))
  f328 := Tryz.func137.trans (congrArg some (by kernel_rfl))
  f329 := Tryz.func138.trans (congrArg some (by kernel_rfl))
  f330 := Tryz.func139.trans (congrArg some (by kernel_rfl))
  f331 := Tryz.func140.trans (congrArg some (by kernel_rfl))
  f332 := Tryz.func141.trans (congrArg some (by kernel_rfl))
  f343 := Tryz.func148.trans (congrArg some (by kernel_rfl))
  t0 := Tryz.underlying0
  a0 := Tryz.isAgg0
  z0 := Tryz.sizeOf0
  v0 := Tryz.zeroValue0
  t3 := Tryz.underlying3
  a3 := Tryz.isAgg3
  z3 := Tryz.sizeOf3
  v3 := Tryz.zeroValue3
  t4 := Tryz.underlying4
  a4 := Tryz.isAgg4
  z4 := Tryz.sizeOf4
  v4 := Tryz.zeroValue4
  t5 := Tryz.underlying5
  a5 := Tryz.isAgg5
  z5 := Tryz.sizeOf5
  v5 := Tryz.zeroValue5
  t9 := Tryz.underlying9
  a9 := Tryz.isAgg9
  z9 := Tryz.sizeOf9
  v9 := Tryz.zeroValue9
  t28 := Tryz.underlying56
  a28 := Tryz.isAgg56
  z28 := Tryz.sizeOf56
  v28 := Tryz.zeroValue56
  t46 := Tryz.underlying113
  a46 := Tryz.isAgg113
  z46 := Tryz.sizeOf113
  v46 := Tryz.zeroValue113
  t51 := Tryz.underlying109
  a51 := Tryz.isAgg109
  z51 := Tryz.sizeOf109
  v51 := Tryz.zeroValue109
  t53 := Tryz.underlying141
  a53 := Tryz.isAgg141
  z53 := Tryz.sizeOf141
  v53 := Tryz.zeroValue141
  t131 := Tryz.underlying188
  a131 := Tryz.isAgg188
  z131 := Tryz.sizeOf188
  v131 := Tryz.zeroValue188
  t182 := Tryz.underlying183
  a182 := Tryz.isAgg183
  z182 := Tryz.sizeOf183
  v182 := Tryz.zeroValue183
  t183 := Tryz.underlying184
  a183 := Tryz.isAgg184
  z183 := Tryz.sizeOf184
  v183 := Tryz.zeroValue184
  t218 := Tryz.underlying206
  a218 := Tryz.isAgg206
  z218 := Tryz.sizeOf206
  v218 := Tryz.zeroValue206
  t222 := Tryz.underlying210
  a222 := Tryz.isAgg210
  z222 := Tryz.sizeOf210
  v222 := Tryz.zeroValue210
  t228 := Tryz.underlying218
  a228 := Tryz.isAgg218
  z228 := Tryz.sizeOf218
  v228 := Tryz.zeroValue218
  t229 := Tryz.underlying219
  a229 := Tryz.isAgg219
  z229 := Tryz.sizeOf219
  v229 := Tryz.zeroValue219 }
open Go.Sort Go.RowKit in
theorem Tryz.slices_Sort_int (blk off cap : Nat) (zs : List Int) (w : World) (hH : Holds (Value.int .i64) w blk off zs.toArray) (hblk : blk < w.heap.size) (hsz : zs.length < 4611686018427387904) :
    Calls Tryz.prog 90 #[.slice (some ⟨blk, off, none⟩) zs.length cap] w fun e w' =>
      e = .returned (.tuple #[]) ∧ ∃ n os, w' = grow (putRow (Value.int .i64) (Sort.ahead w n) blk off (zs.mergeSort fun x y => decide (x ≤ y)).toArray) os := Any.slices_Sort_int Tryz.lays189 blk off cap zs w hH hblk hsz
def Tryz.laysNm220_ren : Go.Shelf.Ren := ⟨fun | 20 => 60 | n => n, fun | 22 => 56 | 3 => 3 | 4 => 4 | 0 => 0 | n => n, fun | n => n⟩
theorem Tryz.laysNm220 : Go.Proofs.Lays2.n20 Tryz.prog Tryz.laysNm220_ren := {
  mixed := by kernel_rfl
  f20 := Tryz.func60.trans (congrArg some (by kernel_rfl))
  t0 := Tryz.underlying0
  a0 := Tryz.isAgg0
  z0 := Tryz.sizeOf0
  v0 := Tryz.zeroValue0
  t3 := Tryz.underlying3
  a3 := Tryz.isAgg3
  z3 := Tryz.sizeOf3
  v3 := Tryz.zeroValue3
  t4 := Tryz.underlying4
  a4 := Tryz.isAgg4
  z4 := Tryz.sizeOf4
  v4 := Tryz.zeroValue4
  t22 := Tryz.underlying56
  a22 := Tryz.isAgg56
  z22 := Tryz.sizeOf56
  v22 := Tryz.zeroValue56
  i3 := by kernel_rfl }
open Go.RowKit Go.Lib Go.Sort in
/-- The same at a slice of length 0, a nil one too: it comes back as it is. (LAID: no walk: one application.) -/
theorem Tryz.slices_Compact_int_empty (a : Option Addr) (cap : Nat) (w : World) :
    Calls Tryz.prog 60 #[.slice a 0 cap] w fun e w' => e = .returned (.slice a 0 cap) ∧ w' = w := Any.slices_Compact_int_empty Tryz.laysNm220 a cap w
open Go.RowKit Go.Lib Go.Sort in
/-- slices.Compact at []int, of an argument: the slice cut to 'Lib.compact (elements)'; the n cells hold that, then zeros. (LAID: no walk: one application.) -/
theorem Tryz.slices_Compact_int_cells (b off n c : Nat) (zs : List Int) (w : World) (hz : n ≤ zs.length) (hbig : n ≤ 9223372036854775807) (hcap : n ≤ c) (hc : ∀ j, j < zs.length → w.cell? ⟨b, off + j, none⟩ = some (.int .i64 (zs.getD j 0))) (hf : ∀ j, j < n → w.frozen? ⟨b, off + j, none⟩ = false) :
    Calls Tryz.prog 60 #[.slice (some ⟨b, off, none⟩) n c] w fun e w' => e = .returned (.slice (some ⟨b, off, none⟩) (Lib.compact (zs.take n)).length c) ∧ ∃ q, w' = (w.drewN q).setCells b off ((Lib.compact (zs.take n) ++ List.replicate (n - (Lib.compact (zs.take n)).length) 0).map (Value.int .i64)) := Any.slices_Compact_int_cells Tryz.laysNm220 b off n c zs w hz hbig hcap hc hf
open Go.RowKit Go.Sort in
/-- .. and plain. (LAID: no walk: one application.) -/
theorem Tryz.slices_Sort_int_none (p : Option Addr) (cap : Nat) (w : World) :
    Calls Tryz.prog 90 #[.slice p 0 cap] w fun e w' => e = .returned (.tuple #[]) ∧ w' = w := Any.slices_Sort_int_none Tryz.lays189 p cap w
end Go.Proofs
/- The conditions of the functions, printed by program out of the loaded code, each with the contract that follows from it. -/
set_option linter.unusedVariables false
set_option maxRecDepth 100000
namespace Go.Proofs.YtbojglaimdjagaaGreatDoor
open Go Go.V
noncomputable section

/-! slices.Sorted[int] -/
def ann61 : Ann := []
def S61 (seq_1 : Value) (k : Value → World → Prop) (w : World) : Prop :=
   callW Tryz.prog (Value.func (Fn.func 89) #[] #[]) #[seq_1] (fun t5_2 w =>
   callW Tryz.prog (Value.func (Fn.func 90) #[] #[]) #[t5_2] (fun t7_3 w =>
   k t5_2 w) w) w
theorem S61_vc (seq_1 : Value) (k : Value → World → Prop) (w : World) : vc Tryz.prog Tryz.f61.ntmps ann61 none ((Tryz.f61.body).getD Code.skip) 1 (params 0 [seq_1]) [] (finQ Tryz.prog Tryz.f61.results.toList k) w = S61 seq_1 k w := by kernel_rfl
theorem S61_calls (seq_1 : Value) (k : Value → World → Prop) (w : World) (h : S61 seq_1 k w) : Calls Tryz.prog 61 #[seq_1] w (retP k) :=
  calls_of_vc (fn := Tryz.f61) (c := (Tryz.f61.body).getD Code.skip) ann61 Tryz.func61 (by kernel_rfl) [seq_1] w k (by kernel_rfl) ((S61_vc seq_1 k w).symm ▸ h)
theorem C61 (seq_1 : Value) (k : Value → World → Prop) (w : World) (h : S61 seq_1 k w) : callW Tryz.prog (.func (.func 61) #[] #[]) #[seq_1] k w :=
  callW_calls ok61 (by simpa using S61_calls seq_1 k w h)

/-! slices.Values[[]int,int] -/
def ann62 : Ann := []
def S62 (s_1 : Value) (k : Value → World → Prop) (w : World) : Prop :=
   opW Tryz.prog (Instr.box 56 s_1) (fun s_2 w =>
   opW Tryz.prog (Instr.makeFunc (Fn.func 91) #[] #[s_2]) (fun t3_3 w =>
   k t3_3 w) w) w
theorem S62_vc (s_1 : Value) (k : Value → World → Prop) (w : World) : vc Tryz.prog Tryz.f62.ntmps ann62 none ((Tryz.f62.body).getD Code.skip) 1 (params 0 [s_1]) [] (finQ Tryz.prog Tryz.f62.results.toList k) w = S62 s_1 k w := by kernel_rfl
theorem S62_calls (s_1 : Value) (k : Value → World → Prop) (w : World) (h : S62 s_1 k w) : Calls Tryz.prog 62 #[s_1] w (retP k) :=
  calls_of_vc (fn := Tryz.f62) (c := (Tryz.f62.body).getD Code.skip) ann62 Tryz.func62 (by kernel_rfl) [s_1] w k (by kernel_rfl) ((S62_vc s_1 k w).symm ▸ h)
theorem C62 (s_1 : Value) (k : Value → World → Prop) (w : World) (h : S62 s_1 k w) : callW Tryz.prog (.func (.func 62) #[] #[]) #[s_1] k w :=
  callW_calls ok62 (by simpa using S62_calls s_1 k w h)

/-! slices.DeleteFunc[[]int,int] -/
def ann63 : Ann := [(61, Note.keep [0, 5]), (122, Note.loop [5, 6] [0, 1]), (978, Note.keep [0, 1, 5, 6])]
def S63 (s_1 del_2 : Value) (k : Value → World → Prop) (w : World) : Prop :=
   callW Tryz.prog (Value.func (Fn.func 92) #[] #[]) #[s_1, del_2] (fun t10_3 w =>
   opW Tryz.prog (binS BinOp.eql 3 (Operand.tmp 11) (Operand.const (Value.int IntKind.i64 (-1))) t10_3 (Value.int IntKind.i64 (-1))) (fun t12_5 w =>
   condW t12_5
   (k s_1 w)
   (opW Tryz.prog (binS BinOp.add 3 (Operand.tmp 14) (Operand.const (Value.int IntKind.i64 1)) t10_3 (Value.int IntKind.i64 1)) (fun t15_6 w =>
   Loop2 (fun i_8 j_9 w K_10 =>
   opW Tryz.prog (Builtin.len_ #[56] 3 #[s_1]) (fun t18_12 w =>
   opW Tryz.prog (binS BinOp.lss 3 (Operand.tmp 16) (Operand.tmp 18) j_9 t18_12) (fun t19_13 w =>
   condW t19_13
   (joinW (fun i_21 w =>
   opW Tryz.prog (binS BinOp.add 3 (Operand.tmp 20) (Operand.const (Value.int IntKind.i64 1)) j_9 (Value.int IntKind.i64 1)) (fun t21_22 w =>
   loopK [] [] [s_1, del_2] [s_1, del_2] (K_10 i_21 t21_22 w)) w) (fun J_14 =>
   opW Tryz.prog (Instr.indexAt 56 s_1 j_9) (fun t24_15 w =>
   opW Tryz.prog (Instr.loadAt 3 t24_15) (fun t25_16 w =>
   callW Tryz.prog del_2 #[t25_16] (fun t28_17 w =>
   opW Tryz.prog (Op.unary UnOp.not t28_17) (fun t29_18 w =>
   condW t29_18
   (opW Tryz.prog (Instr.indexAt 56 s_1 i_8) (fun t33_19 w =>
   opU Tryz.prog (Instr.storeAt 3 t33_19 t25_16) (fun _ w =>
   opW Tryz.prog (binS BinOp.add 3 (Operand.tmp 34) (Operand.const (Value.int IntKind.i64 1)) i_8 (Value.int IntKind.i64 1)) (fun t35_20 w =>
   J_14 t35_20 w) w) w) w)
   (J_14 i_8 w)) w) w) w) w))
   (opW Tryz.prog (Instr.sliceAt 56 s_1 (some i_8) none none) (fun t38_23 w =>
   opW Tryz.prog (Builtin.clear_ #[56] 0 #[t38_23]) (fun _ w =>
   opW Tryz.prog (Instr.sliceAt 56 s_1 none (some i_8) none) (fun t41_24 w =>
   k t41_24 w) w) w) w)) w) w) t10_3 t15_6 w) w)) w) w
theorem S63_vc (s_1 del_2 : Value) (k : Value → World → Prop) (w : World) : vc Tryz.prog Tryz.f63.ntmps ann63 none ((Tryz.f63.body).getD Code.skip) 1 (params 0 [s_1, del_2]) [] (finQ Tryz.prog Tryz.f63.results.toList k) w = S63 s_1 del_2 k w := by kernel_rfl
theorem S63_calls (s_1 del_2 : Value) (k : Value → World → Prop) (w : World) (h : S63 s_1 del_2 k w) : Calls Tryz.prog 63 #[s_1, del_2] w (retP k) :=
  calls_of_vc (fn := Tryz.f63) (c := (Tryz.f63.body).getD Code.skip) ann63 Tryz.func63 (by kernel_rfl) [s_1, del_2] w k (by kernel_rfl) ((S63_vc s_1 del_2 k w).symm ▸ h)
theorem C63 (s_1 del_2 : Value) (k : Value → World → Prop) (w : World) (h : S63 s_1 del_2 k w) : callW Tryz.prog (.func (.func 63) #[] #[]) #[s_1, del_2] k w :=
  callW_calls ok63 (by simpa using S63_calls s_1 del_2 k w h)

/-! slices.Collect[int] -/
def ann89 : Ann := []
def S89 (seq_1 : Value) (k : Value → World → Prop) (w : World) : Prop :=
   callW Tryz.prog (Value.func (Fn.func 106) #[] #[]) #[(Value.slice none 0 0), seq_1] (fun t4_2 w =>
   k t4_2 w) w
theorem S89_vc (seq_1 : Value) (k : Value → World → Prop) (w : World) : vc Tryz.prog Tryz.f89.ntmps ann89 none ((Tryz.f89.body).getD Code.skip) 1 (params 0 [seq_1]) [] (finQ Tryz.prog Tryz.f89.results.toList k) w = S89 seq_1 k w := by kernel_rfl
theorem S89_calls (seq_1 : Value) (k : Value → World → Prop) (w : World) (h : S89 seq_1 k w) : Calls Tryz.prog 89 #[seq_1] w (retP k) :=
  calls_of_vc (fn := Tryz.f89) (c := (Tryz.f89.body).getD Code.skip) ann89 Tryz.func89 (by kernel_rfl) [seq_1] w k (by kernel_rfl) ((S89_vc seq_1 k w).symm ▸ h)
theorem C89 (seq_1 : Value) (k : Value → World → Prop) (w : World) (h : S89 seq_1 k w) : callW Tryz.prog (.func (.func 89) #[] #[]) #[seq_1] k w :=
  callW_calls ok89 (by simpa using S89_calls seq_1 k w h)

/-! slices.AppendSeq[[]int,int] -/
def ann106 : Ann := [(13, Note.keep [2]), (53, Note.keep [])]
def S106 (s_1 seq_2 : Value) (k : Value → World → Prop) (w : World) : Prop :=
   opW Tryz.prog (Instr.box 56 s_1) (fun s_3 w =>
   rangeW Tryz.prog seq_2 1 (fun l_5 ready_5 busy_5 args_5 w k_5 =>
   ready_5 w ∧ (fun w => opW Tryz.prog (Instr.loadAt 56 s_3) (fun t8_7 w =>
   opW Tryz.prog (Instr.buildSlice 56 1 #[(0, (args_5.headD undef))]) (fun t10_8 w =>
   opW Tryz.prog (Builtin.append_ #[56, 56] 56 #[t8_7, t10_8]) (fun t11_9 w =>
   opU Tryz.prog (Instr.storeAt 56 s_3 t11_9) (fun _ w =>
   k_5 none w) w) w) w) w) (busy_5 w)) (fun d_5 j_5 w => jumpW j_5
   (opW Tryz.prog (Instr.loadAt 56 s_3) (fun t12_10 w =>
   leaveW [{ target := Target.collected d_5, args := #[] }] (fun w => k t12_10 w) w) w)
   (leaveW [{ target := Target.collected d_5, args := #[] }] (fun w => k (Value.slice none 0 0) w) w)
   (fun x => False)) w) w
theorem S106_vc (s_1 seq_2 : Value) (k : Value → World → Prop) (w : World) : vc Tryz.prog Tryz.f106.ntmps ann106 none ((Tryz.f106.body).getD Code.skip) 1 (params 0 [s_1, seq_2]) [] (finQ Tryz.prog Tryz.f106.results.toList k) w = S106 s_1 seq_2 k w := by kernel_rfl
theorem S106_calls (s_1 seq_2 : Value) (k : Value → World → Prop) (w : World) (h : S106 s_1 seq_2 k w) : Calls Tryz.prog 106 #[s_1, seq_2] w (retP k) :=
  calls_of_vc (fn := Tryz.f106) (c := (Tryz.f106.body).getD Code.skip) ann106 Tryz.func106 (by kernel_rfl) [s_1, seq_2] w k (by kernel_rfl) ((S106_vc s_1 seq_2 k w).symm ▸ h)
theorem C106 (s_1 seq_2 : Value) (k : Value → World → Prop) (w : World) (h : S106 s_1 seq_2 k w) : callW Tryz.prog (.func (.func 106) #[] #[]) #[s_1, seq_2] k w :=
  callW_calls ok106 (by simpa using S106_calls s_1 seq_2 k w h)

end
end Go.Proofs.YtbojglaimdjagaaGreatDoor
/- Lists of integers of one's own: sorted, compacted, cut. -/
set_option linter.unusedSimpArgs false
set_option linter.unusedVariables false
set_option maxRecDepth 4000
namespace Go.Proofs.YtbojglaimdjagaaGreatDoor
open Go Go.V Go.RowKit
theorem flatI : ∀ l : List Int, flat fI l = l.map I
  | [] => rfl
  | x :: l => by rw [List.map_cons, ← flatI l]; rfl
theorem mine_row {w : World} {B : Nat} {v : Value} {l : List Int} (h : Mine fI 3 w B v l) : (l = [] ∧ v = nS) ∨ ∃ g cap rest, v = .slice (some ⟨g, 0, none⟩) l.length cap ∧ B ≤ g ∧ RowAt w g 3 (l.map I ++ rest) ∧ l.length + rest.length = cap ∧ cap ≤ maxLen := by
  rcases id h.2 with ⟨h1, h2⟩ | ⟨g, cap, cur, h1, h2, h3, h4, h5, h6, h7⟩
  · exact .inl ⟨List.eq_nil_of_length_eq_zero h2, h1⟩
  · refine .inr ⟨g, cap, cur.toList.drop l.length, h1, h2, ?_, ?_, h5⟩
    · have e1 : fI.sz = 1 := rfl
      rw [e1, Nat.mul_one, flatI] at h7
      have : l.map I ++ cur.toList.drop l.length = cur.toList := by rw [← h7, List.take_append_drop]
      rw [this]
      exact h3
    · have e1 : fI.sz = 1 := rfl
      rw [e1, Nat.mul_one] at h6
      rw [List.length_drop, show cur.toList.length = cur.size from Array.length_toList]; omega
theorem row_mine {w : World} {B g cap n : Nat} {l : List Int} {rest : List Value} (hB : B ≤ g) (h : RowAt w g 3 (l.map I ++ rest)) (hn : n = l.length) (hc : l.length + rest.length = cap) (hm : cap ≤ maxLen) : Mine fI 3 w B (.slice (some ⟨g, 0, none⟩) n cap) l := by
  subst hn
  have e1 : fI.sz = 1 := rfl
  refine ⟨by rw [flatI, List.length_map, e1, Nat.mul_one], .inr ⟨g, cap, (l.map I ++ rest).toArray, rfl, hB, h, by omega, hm, by rw [e1, Nat.mul_one]; simp; exact hc, ?_⟩⟩
  rw [e1, Nat.mul_one, flatI]
  rw [show (l.map I ++ rest).toArray.toList = l.map I ++ rest from rfl, List.take_append_of_le_length (by simp), List.take_of_length_le (by simp)]
theorem setCells_eq (b : Nat) : ∀ (vs : List Value) (o : Nat) (w : World), w.setCells b o vs = Go.V.setCells w b o vs
  | [], _, _ => rfl
  | v :: r, o, w => setCells_eq b r (o + 1) _
section
variable {k : Value → World → Prop} {w : World} {B : Nat}
theorem c90m {v : Value} {l : List Int} (h : Mine fI 3 w B v l) (hl : l.length ≤ 1000000) (hB : B ≤ w.heap.size) (hk : ∀ r w', Mine fI 3 w' B v (l.mergeSort fun x y => decide (x ≤ y)) → Below B w w' → Off (isOf v) w w' → k r w') :
    callW Tryz.prog (.func (.func 90) #[] #[]) #[v] k w := by
  by_cases hnil : l = []
  · subst hnil
    have hv : ∃ p c, v = .slice p 0 c := by
      rcases mine_row h with ⟨_, rfl⟩ | ⟨g, cap, rest, rfl, _⟩
      · exact ⟨_, _, rfl⟩
      · exact ⟨_, _, rfl⟩
    obtain ⟨p, c, rfl⟩ := hv
    refine callW_calls ok90 (Calls.mono (Tryz.slices_Sort_int_none p c w) ?_)
    rintro e w' ⟨rfl, rfl⟩
    exact hk _ _ (by rw [List.mergeSort_nil]; exact h) (Below.refl _ _) (Off.refl _ _)
  · rcases id h.2 with ⟨h1, h2⟩ | ⟨g, cap, cur, rfl, h2, h3, h4, h5, h6, h7⟩
    · exact absurd (List.eq_nil_of_length_eq_zero h2) hnil
    have e1 : fI.sz = 1 := rfl
    rw [e1, Nat.mul_one, flatI] at h7
    have hgl := (Array.getElem?_eq_some_iff.1 h3).1
    refine callW_calls ok90 (Calls.mono (Tryz.slices_Sort_int g 0 cap l w (holds_of_blockI h3 h7) hgl (by omega)) ?_)
    rintro e w' ⟨rfl, n, os, rfl⟩
    have hp := List.length_mergeSort (le := fun x y : Int => decide (x ≤ y)) l
    have hg := grownBy_sortedI (w := w) (g := g) (n := n) (os := os) (l.mergeSort fun x y => decide (x ≤ y)).toArray
    refine hk _ _ ?_ ?_ ?_
    · unfold Mine
      rw [flatI, hp]
      exact ownsRow_sortedI hp h2 h3 (by omega) h5 (by rw [h6]; rfl)
    · exact (Below.refl B w).grown hg hB fun b hb => by cases hb; exact h2
    · exact Off.grown hg fun b hb => hb
theorem c60m {v : Value} {l : List Int} (h : Mine fI 3 w B v l) (hl : l.length ≤ 1000000) (hB : B ≤ w.heap.size) (hk : ∀ v' w', Mine fI 3 w' B v' (Lib.compact l) → Below B w w' → Off (isOf v) w w' → (∀ x, isOf v' x → isOf v x) → k v' w') :
    callW Tryz.prog (.func (.func 60) #[] #[]) #[v] k w := by
  rcases mine_row h with ⟨rfl, rfl⟩ | ⟨g, cap, rest, rfl, hg, hr, hc, hm⟩
  · refine callW_calls ok60 (Calls.mono (Tryz.slices_Compact_int_empty none 0 w) ?_)
    rintro e w' ⟨rfl, rfl⟩
    exact hk _ _ (Mine.nil _ _) (Below.refl _ _) (Off.refl _ _) fun x hx => hx
  · have hcl := Lib.compact_length_le l
    refine callW_calls ok60 (Calls.mono (Tryz.slices_Compact_int_cells g 0 l.length cap l w (Nat.le_refl _) (by omega) (by omega) (fun j hj => ?_) (fun j hj => hr.free _)) ?_)
    · rw [Nat.zero_add]
      refine hr.cell ?_
      rw [List.getElem?_append_left (by simpa using hj), List.getElem?_map, List.getElem?_eq_getElem hj, List.getD_eq_getElem?_getD, List.getElem?_eq_getElem hj]; rfl
    · rintro e w' ⟨rfl, q, rfl⟩
      rw [List.take_length]
      rw [setCells_eq]
      have hrd : RowAt (w.drewN q) g 3 (l.map I ++ rest) := hr
      have hlen : ((Lib.compact l ++ List.replicate (l.length - (Lib.compact l).length) 0).map (Value.int .i64)).length = (l.map I).length := by simp; omega
      have hr2 := rowAt_setMid ((Lib.compact l ++ List.replicate (l.length - (Lib.compact l).length) 0).map (Value.int .i64)) [] (l.map I) rest (w.drewN q) hrd hlen
      have ho : Only g (w.drewN q) (setCells (w.drewN q) g 0 ((Lib.compact l ++ List.replicate (l.length - (Lib.compact l).length) 0).map (Value.int .i64))) := only_setCells _ 0 _
      have hbd : Below B w (w.drewN q) := ⟨rfl, rfl, rfl, Nat.le_refl _, fun _ _ => rfl⟩
      have hod : Off (isOf (.slice (some ⟨g, 0, none⟩) l.length cap)) w (w.drewN q) := ⟨Nat.le_refl _, fun _ _ _ => rfl⟩
      refine hk _ _ ?_ (hbd.trans (ho.rest B hg)) (hod.trans (Off.only ho rfl)) fun x hx => hx
      refine row_mine (rest := (List.replicate (l.length - (Lib.compact l).length) (0 : Int)).map I ++ rest) hg ?_ rfl (by simp; omega) hm
      rw [← List.append_assoc, show (Lib.compact l).map I ++ (List.replicate (l.length - (Lib.compact l).length) (0 : Int)).map I = (Lib.compact l ++ List.replicate (l.length - (Lib.compact l).length) (0 : Int)).map (Value.int .i64) from List.map_append.symm]
      exact hr2
/-- the values of a slice, one after the other -/
theorem iter91 {wI : World} {kv : Value} {l : List Int} {bx : Nat} (hs : ∀ w', Below wI.heap.size wI w' → IsSl fI w' kv l) (hl : l.length ≤ maxLen) (h1 : RowAt w bx 56 [kv]) :
    IterLaw Tryz.prog 91 #[.pointer (some ⟨bx, 0, none⟩)] (l.map fun x => [I x]) wI (fun b => b = bx) w := by
  have hml : maxLen ≤ 9223372036854775807 := by decide
  intro yield Inv F0 k hY hF h0 hbI hk
  refine S91_calls yield (.pointer (some ⟨bx, 0, none⟩)) k w ?_
  unfold S91
  rw [ld56 (h1.cell (i := 0) rfl), w_lenS (by kernel_rfl) (hs w hbI)]
  refine Loop1.intro (fun n' a w' => ∃ (i : Nat) (F : Nat → Prop), a = I i ∧ i ≤ l.length ∧ n' = l.length - i ∧ Below wI.heap.size wI w' ∧ Inv i true F w') _ ⟨0, F0, rfl, by omega, rfl, hbI, h0⟩ ?_
  rintro n' _ w1 ⟨i, F, rfl, hi, rfl, hb1, hi1⟩
  rw [w_lss]
  by_cases hlt : i < l.length
  · rw [decide_eq_true (by omega), condW_true]
    have hx : l[((i : Int)).toNat]? = some l[i] := by rw [Int.toNat_natCast]; exact List.getElem?_eq_getElem hlt
    refine ix56 (hs w1 hb1) rfl (by omega) hx fun b0 o0 hc0 => ?_
    rw [ld3 (show w1.cell? ⟨b0, o0, none⟩ = some (I l[i]) from hc0 0 _ rfl)]
    refine hY.call i _ F w1 _ hi1 hb1 (by rw [List.getElem?_map, List.getElem?_eq_getElem hlt]; rfl) fun b F' w3 hb3 ho3 hF3 hi3 => ?_
    rw [w_not]
    cases b with
    | false =>
      simp only [Bool.not_false, condW_true]
      exact hk _ _ _ _ hb3 hi3 fun h => by cases h
    | true =>
      simp only [Bool.not_true, condW_false]
      rw [w_add, wrap_id (by omega), loopK_self]
      exact ⟨l.length - (i + 1), by omega, i + 1, F', by simp [I], by omega, rfl, hb3, hi3⟩
  · rw [decide_eq_false (by omega), condW_false]
    exact hk _ _ _ _ hb1 hi1 fun _ => by simp; omega
end
end Go.Proofs.YtbojglaimdjagaaGreatDoor
/- slices.Sorted of slices.Values; slices.DeleteFunc. -/
set_option linter.unusedSimpArgs false
set_option linter.unusedVariables false
set_option maxRecDepth 4000
namespace Go.Proofs.YtbojglaimdjagaaGreatDoor
open Go Go.V Go.RowKit
section
variable {k : Value → World → Prop} {w : World} {B : Nat}
theorem c106 {kv : Value} {l : List Int} {bx : Nat} (hs : ∀ w', Below w.heap.size w w' → IsSl fI w' kv l) (hl : l.length ≤ 1000000) (h1 : RowAt w bx 56 [kv]) (hk : ∀ v w', Below w.heap.size w w' → Mine fI 3 w' w.heap.size v l → k v w') :
    callW Tryz.prog (.func (.func 106) #[] #[]) #[nS, .func (.func 91) #[] #[.pointer (some ⟨bx, 0, none⟩)]] k w := C106 _ _ _ _ (by
  unfold S106
  have hml : 100000000 ≤ maxLen := by decide
  have hbx := h1.lt
  refine w_boxN fun w2 hb2 hsz2 hr2 => ?_
  obtain ⟨ob, hob⟩ : ∃ b, w.heap.size = b := ⟨_, rfl⟩
  replace hr2 : RowAt w2 w.heap.size 56 [nS] := hr2
  rw [hob] at hr2 ⊢
  refine range_of (wI := w) (own := fun b => b = bx) (Inv := fun i j F w' => j = none ∧ i ≤ l.length ∧ ∃ v, RowAt w' ob 56 [v] ∧ Mine fI 3 w' (ob + 1) v (l.take i) ∧ ∀ b, F b ↔ b = ob ∨ isOf v b) (F0 := fun b => b = ob)
    ok91 (args := l.map fun x => [I x]) (fun w3 hb3 => iter91 hs (by omega) ((h1.below hb2).below hb3)) (fun a ha => ?_) hb2 (fun b hb => ?_) ⟨rfl, by omega, nS, hr2, Mine.nil _ _, fun b => ⟨.inl, fun h => h.elim (fun h => h) fun h => by cases h⟩⟩ ?_ ?_ ?_ ?_
  · obtain ⟨x, _, rfl⟩ := List.mem_map.1 ha
    rfl
  · subst hb
    exact ⟨by omega, by omega⟩
  · rintro i j F u u' p ⟨rfl, hi, v, hr, hm, hF⟩ ho hp
    exact ⟨rfl, hi, v, hr.off ho (hp _ ((hF _).2 (.inl rfl))), hm.off ho fun b hb => hp b ((hF b).2 (.inr hb)), hF⟩
  · rintro i j F u b ⟨rfl, hi, v, hr, hm, hF⟩ hb
    rcases (hF b).1 hb with rfl | hb
    · exact ⟨by omega, hr.lt⟩
    · have := hm.ge hb
      omega
  · rintro i a F w3 d0 ready o kk ha ⟨_, hi, v, hr3, hm3, hF⟩ hb3 hrdy hd hdI hdF hkk
    have hil : i < l.length := by
      have := (List.getElem?_eq_some_iff.1 ha).1
      simpa using this
    obtain rfl : a = [I l[i]] := by
      rw [List.getElem?_map, List.getElem?_eq_getElem hil] at ha
      exact (Option.some.inj ha).symm
    refine ⟨hrdy _ (Below.refl _ _), ?_⟩
    simp only []
    have hput : Off (· = d0) w3 (w3.putObj d0 o) := off_putObj rfl
    have hbp : Below w.heap.size w3 (w3.putObj d0 o) := below_putObj hdI
    have hr4 := hr3.off hput (fun hh => hdF ((hF _).2 (.inl hh.symm)))
    have hm4 := hm3.off hput fun b hb hh => hdF ((hF _).2 (.inr (by rw [← hh]; exact hb)))
    have hb4 := hb3.trans hbp
    have hs4 : (w3.putObj d0 o).heap.size = w3.heap.size := by simp
    generalize hw4 : w3.putObj d0 o = w4 at *
    have hob4 : ob < w4.heap.size := hr4.lt
    rw [ld56 (hr4.cell (i := 0) rfl)]
    simp only [List.headD_cons]
    refine Mine.push (F := fI) (x := l[i]) sty56 (fun u hu => by simp [fI] at hu; subst hu; rfl) rfl (by decide) hm4 (by omega) (by rw [List.length_take]; omega) (by rw [List.length_take]; omega) fun v5 w5 hm5 hb5 ho5 hu5 => ?_
    have hov : v5.oneCell' = true := by obtain ⟨a9, c9, rfl, -⟩ := hm5.sl; rfl
    have hne : ¬ isOf v ob := fun hh => by have := hm4.ge hh; omega
    have hr5 := hr4.off ho5 hne
    have hne5 : ∀ b, isOf v5 b → b ≠ ob := fun b hb hh => by have := hm5.ge hb; omega
    rw [st56 hov (hr5.cell (i := 0) rfl) (hr5.free _)]
    have hof : Off (fun b => b = ob) w5 (w5.setCell ⟨ob, 0, none⟩ v5) := Off.set rfl
    refine hkk none (fun b => b = ob ∨ isOf v5 b) w3 _ (Below.refl _ _) ?_ ?_ ?_ ⟨rfl, by omega, v5, hr5.set 0 v5, ?_, fun b => Iff.rfl⟩
    · exact (hb4.trans (hb5.mono (by omega))).setCell (by show w.heap.size ≤ ob; omega) _
    · rw [hw4]
      refine (ho5.mono fun b _ hb => .inl ((hF b).2 (.inr hb))).trans (hof.mono fun b _ hb => .inl ((hF b).2 (.inl hb)))
    · intro b hb
      rcases hb with rfl | hb
      · exact .inl ((hF _).2 (.inl rfl))
      · rcases hu5 b hb with h1 | h1
        · exact .inl ((hF b).2 (.inr h1))
        · exact .inr (by omega)
    · have e : l.take (i + 1) = l.take i ++ [l[i]] := by
        rw [List.take_add_one, List.getElem?_eq_getElem hil]; rfl
      rw [e]
      exact hm5.off hof fun b hb hh => hne5 b hb hh
  · rintro i j F w3 d0 hn hb3 ⟨rfl, hi, v, hr3, hm3, hF⟩ hd hdI hdF hdd
    rw [jumpW_none, ld56 (hr3.cell (i := 0) rfl)]
    have hn := hn rfl
    rw [List.length_map] at hn
    have hall : l.take i = l := by rw [List.take_of_length_le]; omega
    rw [hall] at hm3
    refine ⟨hdd, ?_⟩
    have hdw : w.heap.size ≤ d0 := by omega
    refine hk _ _ (hb3.trans (below_putObj hdw)) ?_
    refine (Mine.off (hm3.base (b' := w.heap.size) (by omega)) (off_putObj (p := (· = d0)) rfl) fun b hb hh => ?_)
    exact hdF ((hF _).2 (.inr (by rw [← hh]; exact hb))))
theorem c61 {kv : Value} {l : List Int} {bx : Nat} (hs : ∀ w', Below w.heap.size w w' → IsSl fI w' kv l) (hl : l.length ≤ 1000000) (h1 : RowAt w bx 56 [kv]) (hk : ∀ v w', Below w.heap.size w w' → Mine fI 3 w' w.heap.size v (l.mergeSort fun x y => decide (x ≤ y)) → k v w') :
    callW Tryz.prog (.func (.func 61) #[] #[]) #[.func (.func 91) #[] #[.pointer (some ⟨bx, 0, none⟩)]] k w := C61 _ _ _ (by
  unfold S61
  refine C89 _ _ _ ?_
  unfold S89
  refine c106 hs hl h1 fun v w1 hb1 hm1 => ?_
  refine c90m hm1 hl hb1.size fun r w2 hm2 hb2 _ => ?_
  exact hk _ _ (hb1.trans hb2) hm2)
end
end Go.Proofs.YtbojglaimdjagaaGreatDoor
/- slices.DeleteFunc at integers. -/
set_option linter.unusedSimpArgs false
set_option linter.unusedVariables false
set_option maxRecDepth 4000
namespace Go.Proofs.YtbojglaimdjagaaGreatDoor
open Go Go.V Go.RowKit
theorem zeroI (n : Nat) : (Builtin.zeroCells (Value.int .i64 0).cells n).toList = List.replicate n (I 0) := by
  apply List.ext_getElem?
  intro j
  by_cases hj : j < n
  · rw [List.getElem?_replicate, if_pos hj]
    simp [Builtin.zeroCells, hj, Value.cells]
    rw [Nat.mod_one]; rfl
  · rw [List.getElem?_replicate, if_neg hj, List.getElem?_eq_none (by simp [Builtin.zeroCells, Value.cells]; omega)]
section
variable {k : Value → World → Prop} {w : World} {B : Nat}
theorem w_clearI {g m c : Nat} {pre old post : List Value} (hr : RowAt w g 3 (pre ++ old ++ post)) (hm : old.length = m + 1) (hk : k (.tuple #[]) (setCells w g pre.length (List.replicate (m + 1) (I 0)))) : opW Tryz.prog (Builtin.clear_ #[56] 0 #[.slice (some ⟨g, pre.length, none⟩) (m + 1) c]) k w := by
  have hz1 : ∀ u ∈ List.replicate (m + 1) (I 0), u.oneCell' = true := fun u hu => by rw [List.eq_of_mem_replicate hu]; rfl
  have hst := run_storeCells (P := Tryz.prog) (b := g) (o := pre.length) (List.replicate (m + 1) (I 0)) 0 w hz1 (fun j hj => by
    rw [List.length_replicate] at hj
    obtain ⟨u, hu⟩ : ∃ u, (pre ++ old ++ post)[pre.length + 0 + j]? = some u := ⟨_, List.getElem?_eq_getElem (by simp; omega)⟩
    exact ⟨u, hr.cell hu⟩) (fun j hj => hr.free _)
  have hzz := zeroI (m + 1)
  rw [opW_ok (show (Builtin.clear_ #[56] 0 #[.slice (some ⟨g, pre.length, none⟩) (m + 1) c]).run Tryz.prog w = .ok (.tuple #[]) (setCells w g (pre.length + 0) (List.replicate (m + 1) (I 0))) by
    simp [Builtin.clear_, run_underlying sty56.u, run_zeroOf sty56, hzz, Sem.run_bind, Result.andThen] at hst ⊢
    rw [hst])]
  exact hk
theorem c92 {v del : Value} {l : List Int} {p : Int → Bool} (hs : IsSl fI w v l) (hl : l.length ≤ 1000000) (hp : ∀ x kk, kk (.bool (p x)) w → callW Tryz.prog del #[I x] kk w)
    (hk0 : (∀ x ∈ l, p x = false) → k (I (-1)) w) (hk : ∀ i : Nat, (hi : i < l.length) → (∀ x ∈ l.take i, p x = false) → p l[i] = true → k (I i) w) : callW Tryz.prog (.func (.func 92) #[] #[]) #[v, del] k w := C92 _ _ _ _ (by
  unfold S92
  rw [w_lenS (by kernel_rfl) hs]
  refine Loop1.intro (fun n' a w' => ∃ i : Nat, a = I i ∧ i ≤ l.length ∧ n' = l.length - i ∧ w' = w ∧ ∀ x ∈ l.take i, p x = false) _ ⟨0, rfl, by omega, rfl, rfl, by simp⟩ ?_
  rintro n' _ w1 ⟨i, rfl, hi, rfl, rfl, hP⟩
  rw [w_lss]
  by_cases hlt : i < l.length
  · rw [decide_eq_true (by omega), condW_true]
    have hx : l[((i : Int)).toNat]? = some l[i] := by rw [Int.toNat_natCast]; exact List.getElem?_eq_getElem hlt
    refine ix56 hs rfl (by omega) hx fun b0 o0 hc0 => ?_
    rw [ld3 (show w1.cell? ⟨b0, o0, none⟩ = some (I l[i]) from hc0 0 _ rfl)]
    refine hp _ _ ?_
    cases hpx : p l[i] with
    | true =>
      rw [condW_true]
      exact hk i hlt hP hpx
    | false =>
      rw [condW_false, w_add, wrap_id (by omega), loopK_self]
      refine ⟨l.length - (i + 1), by omega, i + 1, by simp [I], by omega, rfl, rfl, fun x hx => ?_⟩
      rw [List.take_add_one, List.getElem?_eq_getElem hlt, Option.toList_some] at hx
      rcases List.mem_append.1 hx with h | h
      · exact hP x h
      · simp at h; subst h; exact hpx
  · rw [decide_eq_false (by omega), condW_false]
    refine hk0 fun x hx => hP x ?_
    rw [List.take_of_length_le (by omega)]; exact hx)
theorem w_uptoI {g c n : Nat} {q : IntKind} {hi : Nat} (h2 : hi ≤ n) (hc : n ≤ c) (hk : k (.slice (some ⟨g, 0, none⟩) hi c) w) : opW Tryz.prog (Instr.sliceAt 56 (.slice (some ⟨g, 0, none⟩) n c) none (some (.int q (hi : Int))) none) k w := by
  have ht : Tryz.prog.underlying 56 = some (.slice (Tryz.prog.elem 56)) := by kernel_rfl
  have hkn : known Tryz.prog (Tryz.prog.elem 56) = true := by kernel_rfl
  rw [opW_ok (show (Instr.sliceAt 56 (.slice (some ⟨g, 0, none⟩) n c) none (some (.int q (hi : Int))) none).run Tryz.prog w = .ok (sliced (some ⟨g, 0, none⟩) 0 hi c (sizeT Tryz.prog (Tryz.prog.elem 56))) w by
    rw [run_sliceAt_slice _ _ _ _ _ _ ht, run_slice_h w 56 _ _ c ht q hi (by omega) (by omega), Go.V.run_sizeOf hkn]
    simp [Result.andThen])]
  have he : sliced (some ⟨g, 0, none⟩) 0 hi c (sizeT Tryz.prog (Tryz.prog.elem 56)) = .slice (some ⟨g, 0, none⟩) hi c := by
    unfold sliced
    simp [add_none]
  rw [he]; exact hk
theorem w_fromI {g c n : Nat} {q : IntKind} {lo : Nat} (h2 : lo ≤ n) (hc : n ≤ c) (hk : ∀ a c', (lo < n → a = some ⟨g, lo, none⟩) → k (.slice a (n - lo) c') w) : opW Tryz.prog (Instr.sliceAt 56 (.slice (some ⟨g, 0, none⟩) n c) (some (.int q (lo : Int))) none none) k w := by
  have ht : Tryz.prog.underlying 56 = some (.slice (Tryz.prog.elem 56)) := by kernel_rfl
  have hkn : known Tryz.prog (Tryz.prog.elem 56) = true := by kernel_rfl
  rw [opW_ok (show (Instr.sliceAt 56 (.slice (some ⟨g, 0, none⟩) n c) (some (.int q (lo : Int))) none none).run Tryz.prog w = .ok (sliced (some ⟨g, 0, none⟩) lo n c (sizeT Tryz.prog (Tryz.prog.elem 56))) w by
    rw [run_sliceAt_slice _ _ _ _ _ _ ht, run_slice_l w 56 _ _ c ht q lo (by omega) (by omega), Go.V.run_sizeOf hkn]
    simp [Result.andThen])]
  have hz : sizeT Tryz.prog (Tryz.prog.elem 56) = 1 := by kernel_rfl
  rw [hz]
  unfold sliced
  split
  · rename_i hx
    exact hk _ _ (fun hlt => by omega)
  · exact hk _ _ (fun hlt => by simp [Addr.add_lit])
end
end Go.Proofs.YtbojglaimdjagaaGreatDoor
/- slices.DeleteFunc; settle the other way. -/
set_option linter.unusedSimpArgs false
set_option linter.unusedVariables false
set_option maxRecDepth 4000
namespace Go.Proofs.YtbojglaimdjagaaGreatDoor
open Go Go.V Go.RowKit
section
variable {k : Value → World → Prop} {w : World} {B b : Nat} {D : DK} {dv vv pv : Value}
theorem c64 {i : Int} {xb : Nat} (h : DiskR B w b D dv vv pv) (hx : RowAt w xb 27 [.pointer (some ⟨b, 0, none⟩)]) (hk : k (.bool (decide (i < 0 ∨ (D.pend.length : Int) ≤ i))) w) : callW Tryz.prog (.func (.func 64) #[] #[.pointer (some ⟨xb, 0, none⟩)]) #[I i] k w := C64 _ _ _ _ (by
  unfold S64
  rw [w_lss]
  by_cases h1 : i < 0
  · rw [decide_eq_true h1]
    simp only [guardW_tf, guardW_u, pickW_true]
    rw [decide_eq_true (.inl h1)] at hk
    exact hk
  · rw [decide_eq_false h1]
    simp only [guardW_ff]
    rw [ld27 (hx.cell (i := 0) rfl)]
    simp only [nilW_ptr]
    rw [rw97_3 (h.row.cell (i := 0 + 4) rfl), w_lenS (by kernel_rfl) h.pend.sl, w_geq]
    simp only [pickW_false]
    by_cases h2 : (D.pend.length : Int) ≤ i
    · rw [decide_eq_true h2]
      rw [decide_eq_true (.inr h2)] at hk
      exact hk
    · rw [decide_eq_false h2]
      rw [decide_eq_false (fun h => h.elim h1 h2)] at hk
      exact hk)
/-- what is not deleted stays -/
theorem c63 {v del : Value} {l : List Int} {p : Int → Bool} (h : Mine fI 3 w B v l) (hl : l.length ≤ 1000000) (hp : ∀ w' x kk, Off (isOf v) w w' → Below B w w' → kk (.bool (p x)) w' → callW Tryz.prog del #[I x] kk w')
    (hk : ∀ v' w', Mine fI 3 w' B v' (l.filter fun x => !p x) → Below B w w' → Off (isOf v) w w' → (∀ x, isOf v' x → isOf v x) → k v' w') : callW Tryz.prog (.func (.func 63) #[] #[]) #[v, del] k w := C63 _ _ _ _ (by
  unfold S63
  refine c92 h.sl hl (fun x kk hkk => hp w x kk (Off.refl _ _) (Below.refl _ _) hkk) (fun hno => ?_) (fun i0 hi0 hfirst hi0p => ?_)
  · rw [w_eql, decide_eq_true rfl, condW_true]
    have : (l.filter fun x => !p x) = l := by
      rw [List.filter_eq_self]
      intro x hx
      rw [hno x hx]; rfl
    exact hk v w (by rw [this]; exact h) (Below.refl _ _) (Off.refl _ _) fun x hx => hx
  rw [w_eql, decide_eq_false (by omega), condW_false, w_add, wrap_id (by omega)]
  have hne : l ≠ [] := fun hh => by rw [hh] at hi0; simp at hi0
  obtain ⟨g, cap, rest, hv, hg, hr, hc, hm⟩ : ∃ g cap rest, v = .slice (some ⟨g, 0, none⟩) l.length cap ∧ B ≤ g ∧ RowAt w g 3 (l.map I ++ rest) ∧ l.length + rest.length = cap ∧ cap ≤ maxLen := by
    rcases mine_row h with ⟨hh, _⟩ | hh
    · exact absurd hh hne
    · exact hh
  have hfil0 : (l.take i0).filter (fun x => !p x) = l.take i0 := by
    rw [List.filter_eq_self]
    intro x hx
    rw [hfirst x hx]; rfl
  refine Loop2.intro (fun n' a c w' => ∃ (i j : Nat) (cl : List Int), a = I i ∧ c = I j ∧ n' = l.length - j ∧ i < j ∧ j ≤ l.length ∧ cl.length = l.length ∧ Mine fI 3 w' B v cl ∧ cl.take i = (l.take j).filter (fun x => !p x) ∧ cl.drop j = l.drop j ∧ Below B w w' ∧ Off (isOf v) w w') _
    ⟨i0, i0 + 1, l, rfl, by simp [I], rfl, by omega, by omega, rfl, h, by
      rw [List.take_add_one, List.getElem?_eq_getElem hi0, Option.toList_some, List.filter_append, hfil0]
      simp [hi0p], rfl, Below.refl _ _, Off.refl _ _⟩ ?_
  rintro n' _ _ w1 ⟨i, j, cl, rfl, rfl, rfl, hij, hjl, hcl, hm1, ht1, hd1, hb1, ho1⟩
  have hlen1 : v = .slice (some ⟨g, 0, none⟩) cl.length cap := by rw [hcl]; exact hv
  rw [w_lenS (by kernel_rfl) hm1.sl, hcl, w_lss]
  by_cases hlt : j < l.length
  · rw [decide_eq_true (by omega), condW_true]
    have hcx : cl[j]? = some l[j] := by
      have := congrArg (fun z => z[0]?) hd1
      simp only [List.getElem?_drop, Nat.add_zero] at this
      rw [this, List.getElem?_eq_getElem hlt]
    refine joinW_use1 (fun a w' => ∃ (i' : Nat) (cl' : List Int), a = I i' ∧ i' < j + 1 ∧ cl'.length = l.length ∧ Mine fI 3 w' B v cl' ∧ cl'.take i' = (l.take (j + 1)).filter (fun x => !p x) ∧ cl'.drop (j + 1) = l.drop (j + 1) ∧ Below B w w' ∧ Off (isOf v) w w') ?_ ?_
    · rintro _ w2 ⟨i', cl', rfl, q1, q2, q3, q4, q5, q6, q7⟩
      rw [w_add, wrap_id (by omega), loopK_self]
      exact ⟨l.length - (j + 1), by omega, i', j + 1, cl', rfl, by simp [I], rfl, q1, by omega, q2, q3, q4, q5, q6, q7⟩
    intro J hJ
    refine ix56 hm1.sl rfl (by omega) (x := l[j]) (by rw [Int.toNat_natCast]; exact hcx) fun b0 o0 hc0 => ?_
    rw [ld3 (show w1.cell? ⟨b0, o0, none⟩ = some (I l[j]) from hc0 0 _ rfl)]
    refine hp w1 _ _ ho1 hb1 ?_
    rw [w_not]
    have htk : l.take (j + 1) = l.take j ++ [l[j]] := by rw [List.take_add_one, List.getElem?_eq_getElem hlt]; rfl
    have hdr : cl.drop (j + 1) = l.drop (j + 1) := by rw [← List.drop_drop, hd1, List.drop_drop]
    cases hpx : p l[j] with
    | true =>
      rw [Bool.not_true, condW_false]
      refine hJ _ _ ⟨i, cl, rfl, by omega, hcl, hm1, ?_, hdr, hb1, ho1⟩
      rw [htk, List.filter_append, ← ht1]
      simp [hpx]
    | false =>
      rw [Bool.not_false, condW_true]
      have hci : cl[((i : Int)).toNat]? = some (cl[i]'(by omega)) := by rw [Int.toNat_natCast]; exact List.getElem?_eq_getElem (by omega)
      refine Mine.setE (F := fI) (y := l[j]) isl56 (by kernel_rfl) (by kernel_rfl) rfl (by kernel_rfl) known3 hm1 (by omega) hci rfl rfl fun w2 hm2 hb2 ho2 => ?_
      rw [Int.toNat_natCast] at hm2
      rw [w_add, wrap_id (by omega)]
      refine hJ _ _ ⟨i + 1, cl.set i l[j], by simp [I], by omega, by rw [List.length_set]; exact hcl, hm2, ?_, ?_, hb1.trans hb2, ho1.trans ho2⟩
      · rw [htk, List.filter_append, ← ht1, List.take_add_one, List.getElem?_set_self (by omega), List.take_set_of_le (Nat.le_refl _)]
        simp [hpx]
      · rw [List.drop_set_of_lt (by omega)]; exact hdr
  rw [decide_eq_false (by omega), condW_false]
  have hj : j = l.length := by omega
  subst hj
  rw [List.take_length] at ht1
  obtain ⟨g', cap', rest', hv', hg', hr', hc', hm'⟩ : ∃ g cap rest, v = .slice (some ⟨g, 0, none⟩) cl.length cap ∧ B ≤ g ∧ RowAt w1 g 3 (cl.map I ++ rest) ∧ cl.length + rest.length = cap ∧ cap ≤ maxLen := by
    rcases mine_row hm1 with ⟨hh, _⟩ | hh
    · rw [hh] at hcl; simp at hcl; omega
    · exact hh
  subst hv'
  rw [hcl] at hc'
  have hfin : ∀ w2, RowAt w2 g' 3 (((l.filter fun x => !p x).map I) ++ (List.replicate (cl.length - i) (I 0) ++ rest')) → Only g' w1 w2 → k (.slice (some ⟨g', 0, none⟩) i cap') w2 := fun w2 hr2 ho2 => by
    have hil : i = (l.filter fun x => !p x).length := by rw [← ht1, List.length_take]; omega
    refine hk _ w2 (row_mine hg' hr2 hil (by rw [List.length_append, List.length_replicate, ← hil]; omega) hm') (hb1.trans (ho2.rest B hg')) (ho1.trans (Off.only ho2 rfl)) fun x hx => hx
  refine w_fromI (by omega) (by omega) fun a c' ha => ?_
  have hspl : cl.map I ++ rest' = (cl.take i).map I ++ (cl.drop i).map I ++ rest' := by rw [← List.map_append, List.take_append_drop]
  obtain ⟨m, hm2⟩ : ∃ m, cl.length - i = m + 1 := ⟨cl.length - i - 1, by omega⟩
  rw [ha (by omega), hm2]
  rw [hspl] at hr'
  have hpl : ((cl.take i).map I).length = i := by rw [List.length_map, List.length_take]; omega
  have hcw := w_clearI (k := fun _ w2 => opW Tryz.prog (Instr.sliceAt 56 (.slice (some ⟨g', 0, none⟩) cl.length cap') none (some (I i)) none) (fun t w => k t w) w2) (c := c') hr' (m := m) (by rw [List.length_map, List.length_drop]; omega) (by
    refine w_uptoI (by omega) (by omega) ?_
    have hr3 := rowAt_setMid (List.replicate (m + 1) (I 0)) ((cl.take i).map I) ((cl.drop i).map I) rest' w1 hr' (by rw [List.length_replicate, List.length_map, List.length_drop]; omega)
    refine hfin _ ?_ (only_setCells _ _ _)
    rw [ht1, hm2.symm, List.append_assoc] at hr3
    rw [hm2] at hr3 ⊢
    rw [ht1]
    exact hr3)
  rw [hpl] at hcw
  exact hcw)
end
end Go.Proofs.YtbojglaimdjagaaGreatDoor
/- The disk: Crash. -/
set_option linter.unusedSimpArgs false
set_option linter.unusedVariables false
set_option maxRecDepth 4000
namespace Go.Proofs.YtbojglaimdjagaaGreatDoor
open Go Go.V Go.RowKit
/-- what is durable is visible -/
def revD (D : DK) : DK := { D with vis := D.dur, pend := [] }
/-- which pending writes survive, in their order -/
def ordF (keep : List Int) (n : Nat) : List Int := (Lib.compact (keep.mergeSort fun x y => decide (x ≤ y))).filter fun i => !decide (i < 0 ∨ (n : Int) ≤ i)
/-- one of them, applied; the last one may be torn -/
def crS (pend : List (Int × ByteArray)) (od : List Int) (torn : Int) (i : Nat) (l : List UInt8) : List UInt8 :=
  ontoL l (pend.getD (od.getD i 0).toNat (0, ⟨#[]⟩)).1.toNat (if i + 1 = od.length ∧ 0 ≤ torn then (pend.getD (od.getD i 0).toNat (0, ⟨#[]⟩)).2.extract 0 (min torn.toNat (pend.getD (od.getD i 0).toNat (0, ⟨#[]⟩)).2.size) else (pend.getD (od.getD i 0).toNat (0, ⟨#[]⟩)).2)
def crI (pend : List (Int × ByteArray)) (od : List Int) (torn : Int) (dur : List UInt8) : Nat → List UInt8
  | 0 => dur
  | i + 1 => crS pend od torn i (crI pend od torn dur i)
/-- what a power failure leaves -/
def crD (D : DK) (keep : List Int) (torn : Int) : DK :=
  { off := false, left := 0, dur := crI D.pend (ordF keep D.pend.length) torn D.dur (ordF keep D.pend.length).length, vis := crI D.pend (ordF keep D.pend.length) torn D.dur (ordF keep D.pend.length).length, pend := [] }
/-- writes that lie on the disk -/
def PdOk (n : Nat) (l : List (Int × ByteArray)) : Prop := ∀ p ∈ l, 0 ≤ p.1 ∧ p.1.toNat + p.2.size ≤ n
theorem ordF_mem {keep : List Int} {n : Nat} {x : Int} (h : x ∈ ordF keep n) : 0 ≤ x ∧ x < n := by
  unfold ordF at h
  have := (List.mem_filter.1 h).2
  simp only [Bool.not_eq_true', decide_eq_false_iff_not] at this
  omega
theorem ordF_len (keep : List Int) (n : Nat) : (ordF keep n).length ≤ keep.length := by
  unfold ordF
  have h1 := List.length_filter_le (fun i => !decide (i < 0 ∨ (n : Int) ≤ i)) (Lib.compact (keep.mergeSort fun x y => decide (x ≤ y)))
  have h2 := Lib.compact_length_le (keep.mergeSort fun x y => decide (x ≤ y))
  have h3 := List.length_mergeSort (le := fun x y : Int => decide (x ≤ y)) keep
  omega
theorem crS_len {n : Nat} {pend : List (Int × ByteArray)} {od : List Int} {torn : Int} {i : Nat} {l : List UInt8} (hp : PdOk n pend) (ho : ∀ x ∈ od, 0 ≤ x ∧ x < pend.length) (hi : i < od.length) (hl : l.length = n) : (crS pend od torn i l).length = n := by
  have hx := ho od[i] (List.getElem_mem hi)
  have e1 : od.getD i 0 = od[i] := by rw [List.getD_eq_getElem?_getD, List.getElem?_eq_getElem hi]; rfl
  have hq : (od[i]).toNat < pend.length := by omega
  have e2 : pend.getD (od[i]).toNat (0, ⟨#[]⟩) = pend[(od[i]).toNat] := by rw [List.getD_eq_getElem?_getD, List.getElem?_eq_getElem hq]; rfl
  have hpp := hp _ (List.getElem_mem hq)
  unfold crS
  rw [e1, e2, ontoL_len]
  · exact hl
  · rw [hl]
    split
    · rw [ByteArray.size_extract]; omega
    · exact hpp.2
theorem crI_len {n : Nat} {pend : List (Int × ByteArray)} {od : List Int} {torn : Int} {dur : List UInt8} (hp : PdOk n pend) (ho : ∀ x ∈ od, 0 ≤ x ∧ x < pend.length) (hd : dur.length = n) : ∀ i, i ≤ od.length → (crI pend od torn dur i).length = n
  | 0, _ => hd
  | i + 1, hi => crS_len hp ho (by omega) (crI_len hp ho hd i (by omega))
section
variable {k : Value → World → Prop} {w : World} {B b : Nat} {D : DK} {dv vv pv : Value}
theorem DiskR.durPut {w' : World} {l : List UInt8} (h : DiskR B w b D dv vv pv) (hm : Mine fB 5 w' B dv l) (ho : Off (isOf dv) w w') (hl : l.length = D.dur.length) : DiskR B w' b { D with dur := l } dv vv pv := by
  have hdb : ¬ isOf dv b := fun hh => by
    have := Tag.uniq (Mine.tag h.dur hh) (RowAt.tag h.row)
    cases this
  exact ⟨h.row.off ho hdb, h.base, hm, h.vis.off ho fun x hx hy => h.two x hy hx, h.pend.apart ho (apMine h.dur (by decide)), by rw [← h.len]; exact hl, h.two⟩
theorem c65r (h : DiskR B w b D dv vv pv) (hne : D.dur ≠ []) (hk : ∀ w' pv', DiskR B w' b (revD D) dv vv pv' → Off (dBl b dv vv pv) w w' → Below B w w' → (∀ x, isOf pv' x → isOf pv x) → k (.tuple #[]) w') : callW Tryz.prog (.func (.func 65) #[] #[]) #[.pointer (some ⟨b, 0, none⟩), dv, vv] k w := C65 _ _ _ _ _ (by
  unfold S65
  have hnv : D.vis ≠ [] := fun hh => hne (List.eq_nil_of_length_eq_zero (by rw [h.len, hh]; rfl))
  refine copy_all h.vis h.dur.sl h.len.symm hnv fun w1 hm1 ho1 hb1 => ?_
  have hdb : ¬ isOf vv b := fun hh => by
    have := Tag.uniq (Mine.tag h.vis hh) (RowAt.tag h.row)
    cases this
  have hr1 := h.row.off ho1 hdb
  have hv1 := h.dur.off ho1 fun x hx hy => h.two x hx hy
  have hp1 := h.pend.apart ho1 (apMine h.vis (by decide))
  simp only [nilW_ptr]
  rw [rw97_3 (hr1.cell (i := 0 + 4) rfl)]
  refine w_clearWr hp1 fun w2 l' hp2 _ ho2 hb2 => ?_
  have hpb : ¬ isOf pv b := fun hh => by
    have := Tag.uniq (Mine.tag hp1 hh) (RowAt.tag hr1)
    cases this
  have hr2 := hr1.off ho2 hpb
  have hm2 := hm1.apart ho2 (apMine hp1 (by decide))
  have hv2 := hv1.apart ho2 (apMine hp1 (by decide))
  rw [rw97_3 (hr2.cell (i := 0 + 4) rfl)]
  refine w_cut0 hp2 fun pv' hp' hsub => ?_
  have hov : pv'.oneCell' = true := by obtain ⟨a9, c9, rfl, -⟩ := hp'.sl; rfl
  rw [fl97_3, st93 hov (hr2.cell (i := 0 + 4) rfl) (hr2.free _)]
  have hof : Off (fun x => x = b) w2 (w2.setCell ⟨b, 0 + 4, none⟩ pv') := Off.set (p := fun x => x = b) rfl
  refine hk _ pv' ⟨hr2.set 4 pv', h.base, hv2.apart hof (apRow hr2 (by decide)), hm2.apart hof (apRow hr2 (by decide)), hp'.apart hof (apRow hr2 (by decide)), rfl, h.two⟩ ?_ ((hb1.trans hb2).setCell h.base _) hsub
  exact (ho1.mono fun x _ hx => .inr (.inr (.inl hx))).trans ((ho2.mono fun x _ hx => .inr (.inr (.inr hx))).trans (hof.mono fun x _ hx => .inl hx)))
theorem b95z : opW Tryz.prog (Instr.build 95 #[]) k w = k (.agg ([.bool false, I 0] : List Value).toArray) w := opW_ok (by kernel_rfl)
set_option maxHeartbeats 1000000 in
theorem c30 {n : Nat} {kv : Value} {keep : List Int} {torn : Int} (h : DiskR B w b D dv vv pv) (hok : DOk n D) (hpo : PdOk n D.pend) (hpl : D.pend.length ≤ 100000) (hBw : B ≤ w.heap.size) (hkeep : ∀ w', Below w.heap.size w w' → IsSl fI w' kv keep) (hkl : keep.length ≤ 1000) (htorn : in64 torn)
    (hk : ∀ w' pv', DiskR B w' b (crD D keep torn) dv vv pv' → Off (dBl b dv vv pv) w w' → Below B w w' → (∀ x, isOf pv' x → isOf pv x) → k (I 0) w') : callW Tryz.prog (.func (.func 30) #[] #[]) #[.pointer (some ⟨b, 0, none⟩), kv, I torn] k w := C30 _ _ _ _ _ (by
  unfold S30
  have hn1 := hok.n1
  have hn2 := hok.n2
  refine w_boxN fun w1 hb1 hsz1 hr1 => ?_
  obtain ⟨xb, hxb⟩ : ∃ b, w.heap.size = b := ⟨_, rfl⟩
  replace hr1 : RowAt w1 w.heap.size 27 [.pointer (some ⟨b, 0, none⟩)] := hr1
  rw [hxb] at hr1 ⊢
  rw [ld27 (hr1.cell (i := 0) rfl), eqP27, condW_false]
  refine C62 _ _ _ ?_
  unfold S62
  refine w_boxN fun w2 hb2 hsz2 hr2 => ?_
  obtain ⟨kb, hkb⟩ : ∃ b, w1.heap.size = b := ⟨_, rfl⟩
  obtain ⟨ka, kc, hkv, _⟩ := hkeep w (Below.refl _ _)
  replace hr2 : RowAt w2 w1.heap.size 56 [kv] := by rw [hkv] at hr2 ⊢; exact hr2
  rw [hkb] at hr2 ⊢
  rw [w_makeFunc]
  have hb02 := below_trans hb1 hb2
  have hd2 := h.below hb02
  have hx2 := hr1.below hb2
  refine c61 (fun w' hb => hkeep w' (hb02.trans (hb.mono hb02.size))) (by omega) hr2 fun v3 w3 hb3 hm3 => ?_
  have hls := List.length_mergeSort (le := fun x y : Int => decide (x ≤ y)) keep
  refine c60m hm3 (by omega) hb3.size fun v4 w4 hm4 hb4 _ hs4 => ?_
  have hlc := Lib.compact_length_le (keep.mergeSort fun x y => decide (x ≤ y))
  have hb24 := hb3.trans hb4
  rw [w_makeFunc]
  refine c63 (p := fun x => decide (x < 0 ∨ (D.pend.length : Int) ≤ x)) hm4 (by omega) (fun w' x kk ho' hb' hkk => c64 (hd2.below (hb24.trans hb')) (hx2.below (hb24.trans hb')) hkk) fun v5 w5 hm5 hb5 _ hs5 => ?_
  have hb25 := hb24.trans hb5
  replace hm5 : Mine fI 3 w5 w2.heap.size v5 (ordF keep D.pend.length) := hm5
  obtain ⟨od, hod⟩ : ∃ od, ordF keep D.pend.length = od := ⟨_, rfl⟩
  rw [hod] at hm5
  have hom : ∀ x ∈ od, 0 ≤ x ∧ x < D.pend.length := fun x hx => ordF_mem (by rw [hod]; exact hx)
  have hol : od.length ≤ 1000 := by rw [← hod]; have := ordF_len keep D.pend.length; omega
  have hd5 := hd2.below hb25
  have hx5 := hx2.below hb25
  have hb05 : Below w.heap.size w w5 := hb02.trans (hb25.mono hb02.size)
  have hB5 : B ≤ w5.heap.size := Nat.le_trans hBw hb05.size
  rw [w_lenS (by kernel_rfl) hm5.sl]
  refine Loop1.intro (fun m a w' => ∃ i : Nat, a = I i ∧ m = od.length - i ∧ i ≤ od.length ∧ DiskR B w' b { D with dur := crI D.pend od torn D.dur i } dv vv pv ∧ Off (isOf dv) w5 w' ∧ Below B w5 w') _ ⟨0, rfl, rfl, Nat.zero_le _, hd5, Off.refl _ _, Below.refl _ _⟩ ?_
  rintro m _ w6 ⟨i, rfl, rfl, hi, hd6, ho6, hb6⟩
  have hx6 := hx5.apart ho6 (apMine hd5.dur (by decide))
  have hm6 := hm5.apart ho6 (apMine hd5.dur (by decide))
  rw [w_lss]
  by_cases hlt : i < od.length
  · rw [decide_eq_true (by omega), condW_true]
    have hx : od[((i : Int)).toNat]? = some od[i] := by rw [Int.toNat_natCast]; exact List.getElem?_eq_getElem hlt
    have hoi := hom _ (List.getElem_mem hlt)
    obtain ⟨q, hq⟩ : ∃ q : Nat, od[i] = (q : Int) := ⟨(od[i]).toNat, by omega⟩
    have hql : q < D.pend.length := by omega
    have hpp := hpo _ (List.getElem_mem hql)
    obtain ⟨o, ho⟩ : ∃ o : Nat, (D.pend[q]).1 = (o : Int) := ⟨(D.pend[q]).1.toNat, by omega⟩
    have hos : o + (D.pend[q]).2.size ≤ n := by have := hpp.2; rw [ho, Int.toNat_natCast] at this; exact this
    refine ix56 hm6.sl rfl (by omega) hx fun b0 o0 hc0 => ?_
    rw [ld3 (show w6.cell? ⟨b0, o0, none⟩ = some (I od[i]) from hc0 0 _ rfl), ld27 (hx6.cell (i := 0) rfl)]
    simp only [nilW_ptr]
    rw [rw97_3 (hd6.row.cell (i := 0 + 4) rfl), hq]
    rw [na93 (F := fWr) (a := D.pend[q]) rfl hd6.pend.sl (List.getElem?_eq_getElem hql)]
    rw [show (fWr.e D.pend[q]).toArray = ([I o, .string (D.pend[q]).2] : List Value).toArray by show ([I (D.pend[q]).1, .string (D.pend[q]).2] : List Value).toArray = _; rw [ho]]
    refine al92 fun w7 hb7 _ hr7 => ?_
    obtain ⟨wb, hwb⟩ : ∃ b, w6.heap.size = b := ⟨_, rfl⟩
    rw [hwb] at hr7 ⊢
    refine sr92 (vs := [I o, .string (D.pend[q]).2]) rfl hr7 rfl (by simp [Value.oneCell']) fun w8 ho8 hr8 => ?_
    have hb8 : Below w6.heap.size w6 w8 := hb7.trans (ho8.rest _ (by omega))
    have e1 : od.getD i 0 = (q : Int) := by rw [List.getD_eq_getElem?_getD, List.getElem?_eq_getElem hlt, ← hq]; rfl
    have e2 : D.pend.getD q (0, ⟨#[]⟩) = D.pend[q] := by rw [List.getD_eq_getElem?_getD, List.getElem?_eq_getElem hql]; rfl
    have hB6 : B ≤ w6.heap.size := Nat.le_trans hB5 ho6.size
    have hcl := crI_len (torn := torn) hpo hom hok.dur i (by omega)
    have hdn : crI D.pend od torn D.dur i ≠ [] := fun hh => by rw [hh] at hcl; simp at hcl; omega
    refine joinW_use0 (fun w' => ∃ s : ByteArray, s = (if i + 1 = od.length ∧ 0 ≤ torn then (D.pend[q]).2.extract 0 (min torn.toNat (D.pend[q]).2.size) else (D.pend[q]).2) ∧ RowAt w' wb 92 [I o, .string s] ∧ Below w6.heap.size w6 w') ?_ ?_
    · rintro w9 ⟨s, hs, hr9, hb9⟩
      rw [drewW_eq]
      have hb10 := below_trans hb9 (below_drew w9)
      replace hr9 := hr9.drew
      generalize w9.drew = w10 at *
      have hd10 := hd6.below hb10
      have hx10 := hx6.below hb10
      have hoz : Off (isOf dv) w10 w10 := Off.refl _ _
      have nx : ¬ isOf dv xb := fun hh => by
        have := Tag.uniq (Mine.tag hd10.dur hh) hx10.tag
        cases this
      refine ⟨Off (isOf dv) w10, hoz, ?_⟩
      rw [xld92 rfl hr9.cells, r_loadO agg27 known27 (hx10.cell (i := 0) rfl) nx hoz]
      simp only [nilT_ptr]
      rw [rt97_1 (hd10.row.cell (i := 0 + 2) rfl)]
      have hss : o + s.size ≤ n := by
        rw [hs]
        split
        · rw [ByteArray.size_extract]; omega
        · exact hos
      refine c48 hd10.dur hdn (by rw [hcl]; exact hss) (Nat.le_trans hB6 hb10.size) fun w11 hm11 ho11 hb11 => ?_
      rw [keepS_eq]
      refine ⟨ho11, ?_⟩
      rw [w_add, wrap_id (by omega), loopK_self]
      have hstep : crI D.pend od torn D.dur (i + 1) = ontoL (crI D.pend od torn D.dur i) o s := by
        show crS D.pend od torn i _ = _
        unfold crS
        rw [e1, Int.toNat_natCast, e2, ho, Int.toNat_natCast, ← hs]
      refine ⟨od.length - (i + 1), by omega, i + 1, by simp [I], rfl, by omega, ?_, ho6.trans ((Off.below hb10).trans ho11), hb6.trans ((hb10.mono hB6).trans hb11)⟩
      have := hd10.durPut hm11 ho11 (by show (ontoL _ _ _).length = _; rw [ontoL_len (by rw [hcl]; exact hss)])
      rw [hstep]
      exact this
    intro J hJ
    have hm8 := hm6.below hb8
    rw [w_lenS (by kernel_rfl) hm8.sl, w_sub, wrap_id (by omega), w_eql]
    unfold in64 at htorn
    by_cases hlast : i + 1 = od.length
    case' neg =>
      rw [decide_eq_false (by omega)]
      simp only [guardW_ft, guardW_u, pickW_false]
      rw [condW_false]
      exact hJ _ ⟨_, by rw [if_neg (fun h => hlast h.1)], hr8, hb8⟩
    rw [decide_eq_true (by omega)]
    simp only [guardW_tt, pickW_true]
    rw [w_geq]
    by_cases ht : 0 ≤ torn
    case' neg =>
      rw [decide_eq_false ht, condW_false]
      exact hJ _ ⟨_, by rw [if_neg (fun h => ht h.2)], hr8, hb8⟩
    rw [decide_eq_true ht, condW_true]
    have hmn : (if ((D.pend[q]).2.size : Int) < torn then ((D.pend[q]).2.size : Int) else torn) = ((min torn.toNat (D.pend[q]).2.size : Nat) : Int) := by split <;> omega
    rw [fl92_1, ld9 (hr8.cell (i := 0 + 1) rfl), fl92_1, ld9 (hr8.cell (i := 0 + 1) rfl), w_lenStr (by kernel_rfl), w_min, hmn, w_headStr (by kernel_rfl) (by omega) (by omega), Int.toNat_natCast, fl92_1, st9 rfl (hr8.cell (i := 0 + 1) rfl) (hr8.free _)]
    exact hJ _ ⟨_, by rw [if_pos ⟨hlast, ht⟩], hr8.set (0 + 1) _, hb8.setCell (by show w6.heap.size ≤ wb; omega) _⟩
  rw [decide_eq_false (by omega), condW_false, drewW_eq]
  have hil : i = od.length := by omega
  subst hil
  have hbd := below_drew w6
  have hd7 := hd6.below hbd
  have hx7 := hx6.below hbd
  have hB6 : B ≤ w6.heap.size := Nat.le_trans hB5 ho6.size
  have ho7 : Off (isOf dv) w5 w6.drew := ho6.trans (Off.below hbd)
  have hb7 : Below B w5 w6.drew := hb6.trans (hbd.mono hB6)
  generalize w6.drew = w7 at *
  have hoz : Off (dBl b dv vv pv) w7 w7 := Off.refl _ _
  have nx : ¬ dBl b dv vv pv xb := fun hh => by
    obtain ⟨t', h1, h2⟩ := hd7.apart (t := 27) (by decide) xb hh
    exact h2 (Tag.uniq h1 hx7.tag)
  refine ⟨Off (dBl b dv vv pv) w7, hoz, ?_⟩
  rw [x_load agg27 known27 (hx7.cell (i := 0) rfl), r_loadO agg27 known27 (hx7.cell (i := 0) rfl) nx hoz]
  simp only [nilT_ptr]
  rw [rt97_1 (hd7.row.cell (i := 0 + 2) rfl), r_loadO agg27 known27 (hx7.cell (i := 0) rfl) nx hoz]
  simp only [nilT_ptr]
  rw [rt97_2 (hd7.row.cell (i := 0 + 3) rfl)]
  have hcl := crI_len (torn := torn) hpo hom hok.dur od.length (Nat.le_refl _)
  have hdn : crI D.pend od torn D.dur od.length ≠ [] := fun hh => by rw [hh] at hcl; simp at hcl; omega
  refine c65r hd7 hdn fun w8 pv8 hd8 ho8 hb8 hs8 => ?_
  rw [keepS_eq]
  refine ⟨ho8, ?_⟩
  have hx8 := hx7.off ho8 nx
  rw [ld27 (hx8.cell (i := 0) rfl), b95z]
  simp only [nilW_ptr]
  rw [fl97_0, sta95 (vs := [.bool false, I 0]) rfl (by simp [Value.oneCell']) (fun j hj => ⟨([.bool D.off, I D.left, dv, vv, pv8] : List Value)[0 + j]'(by simp; omega), hd8.row.cell (List.getElem?_eq_getElem _)⟩) (fun j hj => hd8.row.free _)]
  have hr9 : RowAt (setCells w8 b 0 [.bool false, I 0]) b 97 [.bool false, I 0, dv, vv, pv8] := rowAt_setMid [.bool false, I 0] [] [.bool D.off, I D.left] [dv, vv, pv8] w8 hd8.row rfl
  have hoo := only_setCells (b := b) [.bool false, I 0] 0 w8
  have hof : Off (fun x => x = b) w8 (setCells w8 b 0 [.bool false, I 0]) := Off.only hoo rfl
  refine hk _ pv8 ?_ ?_ ((hb05.mono hBw).trans (hb7.trans (hb8.trans (hoo.rest _ h.base)))) hs8
  · have := hd8.put hof (D' := crD D keep torn) hr9 (by unfold crD; rw [hod]; rfl) (by unfold crD; rw [hod]; rfl) rfl
    exact this
  · exact (Off.below hb05).trans ((ho7.mono fun x _ hx => .inr (.inl hx)).trans (ho8.trans (hof.mono fun x _ hx => .inl hx))))
end
end Go.Proofs.YtbojglaimdjagaaGreatDoor
/- The journal, plain: the power fails while a group is appended. -/
set_option linter.unusedSimpArgs false
set_option linter.unusedVariables false
set_option maxRecDepth 4000
namespace Go.Proofs.YtbojglaimdjagaaGreatDoor
open Go Go.V Go.RowKit
/-- a journal in order on its disk; the power may be about to fail -/
structure Hl (n : Nat) (D : DK) (l : List ByteArray) : Prop where
  ok : DOk n D
  on : D.off = false
  pend : D.pend = []
  fits : Fits n l
  dur : D.dur = cont n l
  vis : D.vis = cont n l
theorem Gd.hl {n : Nat} {D : DK} {l : List ByteArray} (h : Gd n D l) : Hl n D l := ⟨h.rest.ok, h.rest.on, h.rest.pend, h.fits, by rw [h.rest.same]; exact h.vis, h.vis⟩
theorem ontoL_none {l : List UInt8} {o : Nat} {s : ByteArray} (h : s.size = 0) : ontoL l o s = l := by
  unfold ontoL
  have : s.data.toList = [] := List.eq_nil_of_length_eq_zero (by rw [ba_len]; exact h)
  rw [this, h, List.append_nil, Nat.add_zero, List.take_append_drop]
theorem cr_rest {n : Nat} {D : DK} {keep : List Int} {torn : Int} (h : DOk n D) (hp : PdOk n D.pend) : Rest n (crD D keep torn) := by
  have hl := crI_len (torn := torn) hp (fun x hx => ordF_mem hx) h.dur (ordF keep D.pend.length).length (Nat.le_refl _)
  exact ⟨⟨h.n1, h.n2, hl, hl, by show (0 : Int) ≤ 0 ∧ (0 : Int) ≤ 1000000; decide⟩, rfl, rfl, rfl, rfl⟩
theorem Hl.pdOk {n : Nat} {D : DK} {l : List ByteArray} (h : Hl n D l) : PdOk n D.pend := by rw [h.pend]; intro p hp; cases hp
end Go.Proofs.YtbojglaimdjagaaGreatDoor
/- Crash, by frames; the laws' small steps. -/
set_option linter.unusedSimpArgs false
set_option linter.unusedVariables false
set_option maxRecDepth 4000
namespace Go.Proofs.YtbojglaimdjagaaGreatDoor
open Go Go.V Go.RowKit
section
variable {k : Value → World → Prop} {w : World} {B b jb n : Nat} {D : DK} {dv vv : Value}
theorem neqP28 {ox oy : Operand} {a : Addr} : opW Tryz.prog (binS .neq 28 ox oy (.pointer (some a)) (.pointer none)) k w = k (.bool true) w := opW_ok (by kernel_rfl)
theorem w_cat22 {v v2 : Value} {l0 l : List ByteArray} {B2 : Nat} (hown : Mine fT 9 w B v l0) (hs : Mine fT 9 w B2 v2 l) (hB : B ≤ w.heap.size) (hl : l0.length + l.length ≤ 1000000)
    (hk : ∀ v' w', Mine fT 9 w' B v' (l0 ++ l) → Below B w w' → k v' w') : opW Tryz.prog (Builtin.append_ #[22, 22] 22 #[v, v2]) k w := by
  have hml0 : 1000000000 ≤ maxLen := by decide
  exact mine_cat sty22 (by intro x u hu; simp [fT] at hu; subst hu; rfl) hown hs hB (by omega) (by omega) fun v' w' h1 h2 _ _ => hk v' w' h1 h2
end
end Go.Proofs.YtbojglaimdjagaaGreatDoor
/- The calls of a law, as they came in. -/
set_option linter.unusedSimpArgs false
set_option linter.unusedVariables false
set_option maxRecDepth 4000
namespace Go.Proofs.YtbojglaimdjagaaGreatDoor
open Go Go.V Go.RowKit
structure OpW where
  kind : Int
  l : List ByteArray
  n : Int
  keep : List Int
abbrev RawO := Int × Value × Int × Value
def fOp : Fl RawO := ⟨4, fun o => [I o.1, o.2.1, I o.2.2.1, o.2.2.2], fun _ => rfl⟩
structure OpV (w : World) (r : RawO) (o : OpW) : Prop where
  kind : r.1 = o.kind
  l : IsSl fT w r.2.1 o.l
  n : r.2.2.1 = o.n
  keep : IsSl fI w r.2.2.2 o.keep
def okOp (o : OpW) : Prop := in64 o.kind ∧ o.l.length ≤ maxLen ∧ in64 o.n ∧ o.keep.length ≤ maxLen
def okOps (l : List OpW) : Prop := l.length ≤ maxLen ∧ ∀ o ∈ l, okOp o
structure OpsR (w : World) (v : Value) (rs : List RawO) (ops : List OpW) : Prop where
  sl : IsSl fOp w v rs
  len : rs.length = ops.length
  each : ∀ (i : Nat) r o, rs[i]? = some r → ops[i]? = some o → OpV w r o
def OpsV (w : World) (v : Value) (ops : List OpW) : Prop := ∃ rs, OpsR w v rs ops
theorem OpV.below {w w' : World} {r : RawO} {o : OpW} (h : OpV w r o) (hb : Below w.heap.size w w') : OpV w' r o := ⟨h.kind, h.l.below hb, h.n, h.keep.below hb⟩
theorem OpsR.below {w w' : World} {v : Value} {rs : List RawO} {ops : List OpW} (h : OpsR w v rs ops) (hb : Below w.heap.size w w') : OpsR w' v rs ops :=
  ⟨h.sl.below hb, h.len, fun i r o h1 h2 => (h.each i r o h1 h2).below hb⟩
section
variable {w w0 : World} {K : Value → Prop}
end
end Go.Proofs.YtbojglaimdjagaaGreatDoor
/- Arguments of the laws, opened: integers, calls. -/
set_option linter.unusedSimpArgs false
set_option linter.unusedVariables false
namespace Go.Proofs.YtbojglaimdjagaaGreatDoor
open Go Go.V Go.RowKit Go.ChangeShapes Go.WideShapes Go.ChangeAt Go.Deep
theorem und56 : Tryz.prog.underlying 56 = some (.slice 3) := by kernel_rfl
theorem und60 : Tryz.prog.underlying 60 = some (.slice 62) := by kernel_rfl
theorem sa62 : structAt Tryz.prog 62 = some [(3, 0), (22, 1), (3, 2), (56, 3)] := by kernel_rfl
theorem cells62 : Tryz.prog.cellsOf 62 = 4 := by kernel_rfl
theorem cells56 : Tryz.prog.cellsOf 56 = 1 := by kernel_rfl
section
variable {H : Type} {enc : TypeId × Value → H} {w : World} {base : Nat} {spare : Nat → Bool} {held : Bool}
theorem int_of_trod {cs : List Value} {m : Nat} {y : DataW H × List MemPlace} (h : DataW.trod enc Tryz.prog w base spare held m 3 cs = some y) : ∃ n, cs = [I n] ∧ in64 n := by
  obtain ⟨n, hn, _, hw⟩ := DataW.trod_int Tryz.underlying3 h
  exact ⟨n, hn, in64_of_wf hw⟩
theorem openW {fuel : Nat} {v : Value} {x : DataW H × List MemPlace} (h : DataW.trod enc Tryz.prog w base spare held fuel 56 [v] = some x) : ∃ l : List Int, IsSl fI w v l ∧ l.length ≤ maxLen ∧ ∀ x ∈ l, in64 x :=
  sl_of_trod (F := fI) (Q := fun z => in64 z) und56 cells3' (by decide) (fun cs m y h => int_of_trod h) h
set_option maxRecDepth 100000 in
theorem openO {fuel : Nat} {v : Value} {x : DataW H × List MemPlace} (h : DataW.trod enc Tryz.prog w base spare held fuel 60 [v] = some x) : ∃ l : List OpW, OpsV w v l ∧ okOps l := by
  obtain ⟨rs, h1, h2, h3⟩ := sl_of_trod (F := fOp) (Q := fun r => ∃ o : OpW, OpV w r o ∧ okOp o) und60 cells62 (by decide) (fun cs m y h => by
    obtain ⟨hl, m', ys, _, hf⟩ := trod_at sa62 h
    rw [cells62] at hl
    obtain ⟨y0, _, t0⟩ := hf 0 _ rfl
    obtain ⟨y1, _, t1⟩ := hf 1 _ rfl
    obtain ⟨y2, _, t2⟩ := hf 2 _ rfl
    obtain ⟨y3, _, t3⟩ := hf 3 _ rfl
    rw [cells3'] at t0 t2
    rw [cells22] at t1
    rw [cells56] at t3
    match cs, hl with
    | [a, b, c, d], _ =>
      obtain ⟨n0, h0, g0⟩ := int_of_trod t0
      obtain ⟨n2, h2, g2⟩ := int_of_trod t2
      simp at h0 h2
      subst h0 h2
      have t1' : DataW.trod enc Tryz.prog w base spare held m' 22 [b] = some y1 := by simpa using t1
      have t3' : DataW.trod enc Tryz.prog w base spare held m' 56 [d] = some y3 := by simpa using t3
      obtain ⟨l1, s1, s2, _⟩ := openT t1'
      obtain ⟨l3, q1, q2, _⟩ := openW t3'
      exact ⟨(n0, b, n2, d), rfl, ⟨n0, l1, n2, l3⟩, ⟨rfl, s1, rfl, q1⟩, g0, s2, g2, q2⟩) h
  obtain ⟨ops, hl, hR⟩ := choose_list (l := rs) (R := fun r (o : OpW) => OpV w r o ∧ okOp o) h3
  refine ⟨ops, ⟨rs, h1, hl, fun i r o g1 g2 => (hR i r o g1 g2).1⟩, by omega, fun o ho => ?_⟩
  obtain ⟨i, hi, rfl⟩ := List.getElem_of_mem ho
  exact (hR i (rs[i]'(by omega)) _ (List.getElem?_eq_getElem _) (List.getElem?_eq_getElem hi)).2
end
end Go.Proofs.YtbojglaimdjagaaGreatDoor
/- The wire: the reference's PutInt of any number. -/
set_option linter.unusedSimpArgs false
set_option linter.unusedVariables false
set_option maxRecDepth 4000
namespace Go.Proofs.YtbojglaimdjagaaGreatDoor
open Go Go.V Go.RowKit
/-- the number that stands for an integer -/
def zg (n : Int) : Nat := if n < 0 then (2 * (-n) - 1).toNat else (2 * n).toNat
theorem zg_unz (z : Nat) : zg (unz z) = z := by unfold zg unz; split <;> split <;> omega
theorem vb_lenP : ∀ (f : Nat) {z : Nat}, z < 128 ^ (f + 1) → (vb z).length ≤ f + 1 := by
  intro f
  induction f with
  | zero => intro z h; rw [vb_lt (by omega)]; simp
  | succ f ih =>
    intro z h
    by_cases h1 : z < 128
    · rw [vb_lt h1]; simp
    · rw [vb_ge (by omega)]
      have := @ih (z / 128) (by rw [Nat.pow_succ] at h; omega)
      simp only [List.length_cons]
      omega
section
variable {k : Value → World → Prop} {w : World}
theorem c86g {n : Int} (h : -4611686018427387903 ≤ n ∧ n ≤ 4611686018427387903) (hk : k (.int .u64 ((zg n : Nat) : Int)) w) : callW Tryz.prog (.func (.func 86) #[] #[]) #[I n] k w := C86 _ _ _ (by
  unfold S86
  unfold zg at hk
  rw [w_lss]
  by_cases h0 : n < 0
  · rw [if_pos h0] at hk
    rw [decide_eq_true h0, condW_true, w_neg, wrap_id (by omega), w_conv (q := .u64) (by kernel_rfl) (by kernel_rfl), wrapU (by omega), w_mul, wrapU (by omega), w_sub, wrapU (by omega)]
    rw [show (-n * 2 - 1) = (((2 * (-n) - 1).toNat : Nat) : Int) by omega]
    exact hk
  · rw [if_neg h0] at hk
    rw [decide_eq_false h0, condW_false, w_conv (q := .u64) (by kernel_rfl) (by kernel_rfl), wrapU (by omega), w_mul, wrapU (by omega)]
    rw [show (n * 2) = (((2 * n).toNat : Nat) : Int) by omega]
    exact hk)
theorem c56g {n : Int} (h : -4611686018427387903 ≤ n ∧ n ≤ 4611686018427387903) (hk : ∀ w', Below w.heap.size w w' → k (.tuple #[.string ⟨(vb (zg n)).toArray⟩, I 0]) w') : callW Tryz.prog (.func (.func 56) #[] #[]) #[I n] k w := C56 _ _ _ (by
  unfold S56
  have hml : 100000000 ≤ maxLen := by decide
  rw [w_lss, decide_eq_false (by omega)]
  simp only [guardW_ff, pickW_false]
  rw [w_gtr, decide_eq_false (by omega), condW_false]
  refine c86g h ?_
  have hzn : zg n < 128 ^ (8 + 1) := by
    rw [show (128 : Nat) ^ (8 + 1) = 9223372036854775808 by decide]
    unfold zg; split <;> omega
  have h1 := vb_lenP 8 hzn
  rw [show (128 : Nat) ^ (8 + 1) = 9223372036854775808 by decide] at hzn
  generalize zg n = zn at hk h1 hzn ⊢
  refine Loop2.intro (fun m a b w' => ∃ (z : Nat) (l : List UInt8), a = .int .u64 z ∧ m = z ∧ z ≤ zn ∧ Below w.heap.size w w' ∧ Mine fB 5 w' w.heap.size b l ∧ l ++ vb z = vb zn) _ ⟨zn, [], rfl, rfl, by omega, Below.refl _ _, Mine.nil _ _, rfl⟩ ?_
  rintro m _ b w1 ⟨z, l, rfl, rfl, hz, hb1, hm1, he⟩
  have hlen := congrArg List.length he
  rw [List.length_append] at hlen
  have h2 := (vb_len m).1
  rw [w_geq]
  by_cases hge : 128 ≤ m
  · rw [decide_eq_true (by omega), condW_true, w_rem (by decide), Int.tmod_eq_emod_of_nonneg (by omega), w_add, wrapU (by omega), w_conv (q := .u8) (by kernel_rfl) (by kernel_rfl), conv_bI]
    refine Mine.push (F := fB) (x := bI ((m : Int) % 128 + 128)) sty39 (fun u hu => by simp [fB] at hu; subst hu; rfl) rfl (by decide) hm1 hb1.size (by omega) (by omega) fun v2 w2 hm2 hb2 _ _ => ?_
    rw [w_quo (by decide), loopK_self]
    rw [Int.tdiv_eq_ediv_of_nonneg (by omega), wrapU (by omega), show ((m : Int) / 128) = ((m / 128 : Nat) : Int) by omega]
    refine ⟨m / 128, by omega, m / 128, l ++ [bI ((m : Int) % 128 + 128)], rfl, rfl, by omega, hb1.trans hb2, hm2, ?_⟩
    rw [← he, vb_ge hge]
    have : bI ((m : Int) % 128 + 128) = UInt8.ofNat (m % 128 + 128) := by
      unfold bI
      rw [show (((m : Int) % 128 + 128) % 256).toNat = m % 128 + 128 by omega]
    rw [this]; simp
  · rw [decide_eq_false (by omega), condW_false, w_conv (q := .u8) (by kernel_rfl) (by kernel_rfl), conv_bI]
    refine Mine.push (F := fB) (x := bI (m : Int)) sty39 (fun u hu => by simp [fB] at hu; subst hu; rfl) rfl (by decide) hm1 hb1.size (by omega) (by omega) fun v2 w2 hm2 hb2 _ _ => ?_
    rw [w_toStr (e := 5) (by kernel_rfl) (by kernel_rfl) (by kernel_rfl) hm2.sl (by simp)]
    have hb : bI (m : Int) = UInt8.ofNat m := by
      unfold bI
      rw [show ((m : Int) % 256).toNat = m by omega]
    have : l ++ [bI (m : Int)] = vb zn := by rw [← he, vb_lt (by omega), hb]
    rw [this]
    exact hk _ (hb1.trans hb2))
theorem c56x {n : Int} (h : ¬ (-4611686018427387903 ≤ n)) (hk : k (.tuple #[.string ⟨#[]⟩, I 10]) w) : callW Tryz.prog (.func (.func 56) #[] #[]) #[I n] k w := C56 _ _ _ (by
  unfold S56
  rw [w_lss, decide_eq_true (by omega)]
  simp only [guardW_tf, guardW_u, pickW_true]
  rw [condW_true]
  exact hk)
end
end Go.Proofs.YtbojglaimdjagaaGreatDoor
/- The wire: the reference's Int and String. -/
set_option linter.unusedSimpArgs false
set_option linter.unusedVariables false
set_option maxRecDepth 4000
namespace Go.Proofs.YtbojglaimdjagaaGreatDoor
open Go Go.V Go.RowKit
theorem vb_last : ∀ z : Nat, 1 ≤ z → (vb z).getD ((vb z).length - 1) 0 ≠ 0 := by
  intro z
  induction z using Nat.strongRecOn with
  | ind z ih =>
    intro hz
    by_cases h : z < 128
    · rw [vb_lt h]
      simp
      intro hh
      have := congrArg UInt8.toNat hh
      simp at this; omega
    · rw [vb_ge (by omega)]
      have := ih (z / 128) (by omega) (by omega)
      have hlv := (vb_len (z / 128)).1
      simp only [List.length_cons, Nat.add_sub_cancel]
      rw [show (vb (z / 128)).length = (vb (z / 128)).length - 1 + 1 by omega, List.getD_cons_succ]
      exact this
/-- written again, it is what was read, unless there is a needless last group -/
theorem canon_iff {f : Nat} {l : List UInt8} {z c : Nat} (h : rdV f l = some (z, c)) : l.take c = vb z ↔ ¬ (l.getD (c - 1) 0 = 0 ∧ 1 < c) := by
  refine ⟨fun he hn => ?_, rdV_canon h⟩
  obtain ⟨a1, a2, a3, a4⟩ := rdV_some h
  have hlen : (vb z).length = c := by rw [← he, List.length_take]; omega
  rcases Nat.eq_zero_or_pos z with rfl | h0
  · rw [vb_lt (by omega)] at hlen
    simp at hlen; omega
  · apply vb_last z h0
    rw [hlen, ← he]
    rw [List.getD_eq_getElem?_getD, List.getElem?_take, if_pos (by omega), ← List.getD_eq_getElem?_getD]
    exact hn.1
section
variable {k : Value → World → Prop} {w : World}
theorem c97 {s : ByteArray} {o : Nat} (hs : s.size ≤ 1000000000) (ho : o ≤ s.size) (hk : ∀ w', Below w.heap.size w w' → k (intV s o) w') : callW Tryz.prog (.func (.func 97) #[] #[]) #[.string s, I o] k w := C97 _ _ _ _ (by
  unfold S97
  have hsl : s.data.toList.length = s.size := Array.length_toList
  rw [w_lss, decide_eq_false (by omega)]
  simp only [guardW_ff, pickW_false]
  rw [w_lenStr (by kernel_rfl), w_gtr, decide_eq_false (by omega), condW_false]
  unfold intV rdI at hk
  obtain ⟨L, hL⟩ : ∃ L, s.data.toList.drop o = L := ⟨_, rfl⟩
  rw [hL] at hk
  have hLl : L.length = s.size - o := by rw [← hL, List.length_drop, hsl]
  refine Loop2.intro (fun m a b w' => ∃ (i z : Nat), a = .int .u64 z ∧ b = I i ∧ i ≤ 9 ∧ m = 9 - i ∧ w = w' ∧ z < 128 ^ i ∧ rdV 9 L = (rdV (9 - i) (L.drop i)).map fun p => (z + 128 ^ i * p.1, p.2 + i)) _ ⟨0, 0, rfl, rfl, by omega, rfl, rfl, by simp, by simp⟩ ?_
  rintro m _ _ _ ⟨i, z, rfl, rfl, hi, rfl, rfl, hz, he⟩
  rw [w_lss]
  by_cases h9 : i < 9
  case' neg =>
    rw [decide_eq_false (by omega)]
    simp only [guardW_ft, guardW_u, pickW_false]
    rw [condW_false]
    rw [show 9 - i = 0 by omega] at he
    rw [he] at hk
    exact hk _ (Below.refl _ _)
  rw [decide_eq_true (by omega)]
  simp only [guardW_tt, pickW_true]
  rw [w_add, wrap_id (by omega), w_lenStr (by kernel_rfl), w_lss]
  by_cases hin : o + i < s.size
  case' neg =>
    rw [decide_eq_false (by omega), condW_false]
    rw [List.drop_eq_nil_of_le (by omega), show 9 - i = (8 - i) + 1 by omega] at he
    rw [he] at hk
    exact hk _ (Below.refl _ _)
  rw [decide_eq_true (by omega), condW_true, w_add, wrap_id (by omega)]
  obtain ⟨x, hx⟩ : ∃ x, s.data.toList[o + i]? = some x := ⟨_, List.getElem?_eq_getElem (by omega)⟩
  have hx' : L[i]? = some x := by rw [← hL, List.getElem?_drop]; exact hx
  have hx2 : x.toNat < 256 := x.toNat_lt
  rw [show 9 - i = (8 - i) + 1 by omega, rdV_step hx'] at he
  rw [w_indexStr (b := x) (by kernel_rfl) (by omega) (by
    rw [show ((o : Int) + (i : Int)).toNat = o + i by omega]
    have h1 : o + i < s.size := hin
    rw [getElem?_pos s (o + i) h1]
    rw [List.getElem?_eq_getElem (by omega)] at hx
    have e2 : s[o + i] = s.data[o + i]'h1 := rfl
    rw [e2]; simpa using hx)]
  rw [w_conv (q := .u64) (by kernel_rfl) (by kernel_rfl), wrapU (by omega), w_rem (by decide), Int.tmod_eq_emod_of_nonneg (by omega), show ((x.toNat : Int) % 128) = ((x.toNat % 128 : Nat) : Int) by omega, w_mul, wrap_id (by omega), w_shl (by omega)]
  have hp : (128 : Nat) ^ i ≤ 128 ^ 8 := Nat.pow_le_pow_right (by omega) (by omega)
  have hp8 : (128 : Nat) ^ 8 = 72057594037927936 := by decide
  have hmul : x.toNat % 128 * 128 ^ i ≤ 127 * 128 ^ i := Nat.mul_le_mul_right _ (by omega)
  have hsh : (((x.toNat % 128 : Nat) : Int)) * 2 ^ (min ((7 : Int) * (i : Int)).toNat (IntKind.bits .u64)) = ((x.toNat % 128 * 128 ^ i : Nat) : Int) := by
    rw [show min ((7 : Int) * (i : Int)).toNat (IntKind.bits .u64) = 7 * i by
      show min _ 64 = _
      omega, pow128]
    push_cast
    rfl
  rw [hsh, wrapU (by omega), w_add, wrapU (by omega), show ((z : Int) + ((x.toNat % 128 * 128 ^ i : Nat) : Int)) = ((z + x.toNat % 128 * 128 ^ i : Nat) : Int) by omega, w_geq]
  by_cases hc : x.toNat < 128
  · rw [decide_eq_false (by omega), condW_false]
    rw [Nat.mod_eq_of_lt hc] at *
    rw [if_pos hc] at he
    have hZ : z + x.toNat * 128 ^ i < 9223372036854775808 := by omega
    have he2 : rdV 9 L = some (z + x.toNat * 128 ^ i, 1 + i) := by rw [he, Option.map_some, Nat.mul_comm]
    rw [he2] at hk
    simp only at hk
    have hcan := canon_iff he2
    obtain ⟨a1, a2, a3, a4⟩ := rdV_some he2
    generalize z + x.toNat * 128 ^ i = Z at *
    rw [w_quo (by decide), Int.tdiv_eq_ediv_of_nonneg (by omega), wrapU (by omega), w_conv (q := .i64) (by kernel_rfl) (by kernel_rfl), wrap_id (by omega)]
    have hub : -4611686018427387904 ≤ unz Z ∧ unz Z ≤ 4611686018427387903 := by unfold unz; split <;> omega
    refine joinW_use1 (fun v w' => w = w' ∧ v = I (unz Z)) ?_ ?_
    · rintro _ _ ⟨rfl, rfl⟩
      by_cases hlow : -4611686018427387903 ≤ unz Z
      case' neg =>
        refine c56x hlow ?_
        rw [ex0, ex1, w_neq, decide_eq_false (show ¬ ((10 : Int) = 0) by decide)]
        simp only [Bool.not_false, guardW_tf, guardW_u, pickW_true]
        rw [condW_true]
        rw [if_pos (.inr (by omega))] at hk
        exact hk _ (Below.refl _ _)
      refine c56g ⟨hlow, hub.2⟩ fun w1 hb1 => ?_
      rw [zg_unz, ex0, ex1, w_neq]
      simp only [decide_true, Bool.not_true, guardW_ff, pickW_false]
      rw [w_add, wrap_id (by omega), w_add, wrap_id (by omega), show ((o : Int) + (i : Int) + 1) = ((o + (1 + i) : Nat) : Int) by omega, w_sliceStr (by kernel_rfl) (by omega) (by omega) (by omega), w_neqStr (by kernel_rfl), Int.toNat_natCast, Int.toNat_natCast]
      have hext : (s.extract o (o + (1 + i))).data.toList = L.take (1 + i) := by
        rw [ext_list, hL]; congr 1; omega
      have hiff : (⟨(vb Z).toArray⟩ : ByteArray) = s.extract o (o + (1 + i)) ↔ L.take (1 + i) = vb Z := by
        rw [← hext]
        refine ⟨fun h => by rw [← h], fun h => ?_⟩
        apply ByteArray.ext
        apply Array.toList_inj.mp
        rw [h]
      by_cases hcn : L.getD (1 + i - 1) 0 = 0 ∧ 1 < 1 + i
      · rw [decide_eq_false (fun h => hcan.1 (hiff.1 h) hcn)]
        simp only [Bool.not_false, pickW_true]
        rw [condW_true]
        rw [if_pos (.inl hcn)] at hk
        exact hk _ hb1
      · rw [decide_eq_true (hiff.2 (hcan.2 hcn))]
        simp only [Bool.not_true, pickW_false]
        rw [condW_false, w_add, wrap_id (by omega), w_add, wrap_id (by omega), show ((o : Int) + (i : Int) + 1) = ((o + (1 + i) : Nat) : Int) by omega]
        rw [if_neg (fun h => h.elim hcn (fun h => by omega))] at hk
        exact hk _ hb1
    intro J hJ
    rw [w_rem (by decide), Int.tmod_eq_emod_of_nonneg (by omega), w_eql]
    by_cases hodd : Z % 2 = 1
    · rw [decide_eq_true (by omega), condW_true, w_neg, wrap_id (by omega), w_sub, wrap_id (by omega)]
      exact hJ _ _ ⟨rfl, by unfold unz; rw [if_pos hodd]; rfl⟩
    · rw [decide_eq_false (by omega), condW_false]
      exact hJ _ _ ⟨rfl, by unfold unz; rw [if_neg hodd]; rfl⟩
  · rw [decide_eq_true (by omega), condW_true, w_add, wrap_id (by omega), loopK_self]
    rw [if_neg hc] at he
    refine ⟨9 - (i + 1), by omega, i + 1, _, rfl, by simp [I], by omega, rfl, rfl, ?_, ?_⟩
    · rw [Nat.pow_succ]
      have : z + x.toNat % 128 * 128 ^ i < 128 ^ i + 127 * 128 ^ i := by omega
      omega
    · rw [he, Option.map_map, show 9 - (i + 1) = 8 - i by omega]
      congr 1
      funext p
      simp only [Function.comp, Prod.mk.injEq]
      have hxm : x.toNat % 128 = x.toNat - 128 := by omega
      rw [hxm, Nat.pow_succ]
      refine ⟨?_, by omega⟩
      rw [Nat.mul_add, ← Nat.mul_assoc, Nat.mul_comm (128 ^ i) (x.toNat - 128)]
      omega)
theorem c75 {s : ByteArray} {o : Nat} (hs : s.size ≤ 1000000000) (ho : o ≤ s.size) (hk : ∀ w', Below w.heap.size w w' → k (strV s o) w') : callW Tryz.prog (.func (.func 75) #[] #[]) #[.string s, I o] k w := C75 _ _ _ _ (by
  unfold S75
  refine c97 hs ho fun w1 hb1 => ?_
  replace hk := hk w1 hb1
  have hsl : s.data.toList.length = s.size := Array.length_toList
  unfold strV rdS at hk
  unfold intV
  cases hr : rdI (s.data.toList.drop o) with
  | none =>
    rw [hr] at hk
    simp only [ex3_0, ex3_1, ex3_2]
    rw [w_neq]
    simp only [show decide ((10 : Int) = 0) = false from rfl, Bool.not_false]
    rw [condW_true]
    exact hk
  | some p =>
    obtain ⟨n, c⟩ := p
    rw [hr] at hk
    obtain ⟨a1, a2, a3, a4⟩ := rdI_le hr
    rw [List.length_drop, hsl] at a2
    simp only [ex3_0, ex3_1, ex3_2]
    rw [w_neq]
    simp only [decide_true, Bool.not_true]
    rw [condW_false, w_lss]
    by_cases h1 : n < 0
    case' pos =>
      rw [decide_eq_true h1]
      simp only [guardW_tf, guardW_u, pickW_true]
      rw [condW_true]
      simp only at hk
      rw [if_neg (by omega)] at hk
      exact hk
    rw [decide_eq_false h1]
    simp only [guardW_ff, pickW_false]
    rw [w_gtr]
    by_cases h2 : n ≤ 65536
    case' neg =>
      rw [decide_eq_true (by omega)]
      simp only [guardW_tf, guardW_u, pickW_true]
      rw [condW_true]
      simp only at hk
      rw [if_neg (by omega)] at hk
      exact hk
    rw [decide_eq_false (by omega)]
    simp only [guardW_ff, pickW_false]
    rw [w_lenStr (by kernel_rfl), w_sub, wrap_id (by omega), w_gtr]
    by_cases h3 : n ≤ (s.size : Int) - ((o + c : Nat) : Int)
    case' neg =>
      rw [decide_eq_true (by omega), condW_true]
      simp only at hk
      rw [if_neg (by omega)] at hk
      exact hk
    rw [decide_eq_false (by omega), condW_false, w_add, wrap_id (by omega)]
    simp only at hk
    rw [if_pos ⟨by omega, h2, h3⟩] at hk
    obtain ⟨m, rfl⟩ : ∃ m : Nat, n = (m : Int) := ⟨n.toNat, by omega⟩
    rw [show (((o + c : Nat) : Int) + (m : Int)) = ((o + c + m : Nat) : Int) by omega]
    rw [w_sliceStr (by kernel_rfl) (by omega) (by omega) (by omega)]
    rw [Int.toNat_natCast, Int.toNat_natCast, w_add, wrap_id (by omega), show (((o + c : Nat) : Int) + (m : Int)) = ((o + c + m : Nat) : Int) by omega]
    rw [Int.toNat_natCast] at hk
    exact hk)
end
end Go.Proofs.YtbojglaimdjagaaGreatDoor
/- The reference's disk: what it holds; Visible, New, Write, Sync, Read, Cut. -/
set_option linter.unusedSimpArgs false
set_option linter.unusedVariables false
set_option maxRecDepth 4000
namespace Go.Proofs.YtbojglaimdjagaaGreatDoor
open Go Go.V Go.RowKit
/-- writes, one after the other -/
def appL (l : List UInt8) (p : List (Int × ByteArray)) : List UInt8 := p.foldl (fun L x => ontoL L x.1.toNat x.2) l
/-- a disk whose visible content is what is durable, and the writes after it -/
structure Coh (n : Nat) (D : DK) : Prop where
  ok : DOk n D
  po : PdOk n D.pend
  vis : D.vis = appL D.dur D.pend
theorem appL_snoc {l : List UInt8} {p : List (Int × ByteArray)} {x : Int × ByteArray} : appL l (p ++ [x]) = ontoL (appL l p) x.1.toNat x.2 := by unfold appL; rw [List.foldl_append]; rfl
theorem appL_len {n : Nat} : ∀ {p : List (Int × ByteArray)} {l : List UInt8}, PdOk n p → l.length = n → (appL l p).length = n
  | [], l, _, hl => hl
  | x :: p, l, hp, hl => appL_len (p := p) (l := ontoL l x.1.toNat x.2) (fun y hy => hp y (List.mem_cons_of_mem _ hy)) (by rw [ontoL_len (by rw [hl]; exact (hp x (by simp)).2)]; exact hl)
theorem Coh.new {n : Nat} (h1 : 1 ≤ n) (h2 : n ≤ 1000000) : Coh n (newD n) := ⟨(rest_new h1 h2).ok, (gd_new h1 h2).hl.pdOk, rfl⟩
theorem Coh.wr {n : Nat} {D : DK} (h : Coh n D) {o : Nat} {s : ByteArray} (ho : o + s.size ≤ n) : Coh n (wrD D o s) := by
  refine ⟨h.ok.wr ho, ?_, ?_⟩
  · rw [wr_pend]
    intro p hp
    rcases List.mem_append.1 hp with hp | hp
    · exact h.po p hp
    · simp only [List.mem_singleton] at hp; subst hp
      exact ⟨by simp only; omega, by simp only [Int.toNat_natCast]; exact ho⟩
  · rw [wr_vis, wr_pend, wr_dur, appL_snoc, ← h.vis, Int.toNat_natCast]
theorem Coh.sync {n : Nat} {D : DK} (h : Coh n D) : Coh n (syncD D) := ⟨h.ok.sync, fun p hp => (by cases hp), rfl⟩
theorem Coh.cut {n : Nat} {D : DK} (h : Coh n D) {c : Int} (hc : 0 ≤ c ∧ c ≤ 1000000) : Coh n (cutD D c) := ⟨h.ok.cut hc, h.po, h.vis⟩
theorem Coh.cr {n : Nat} {D : DK} (h : Coh n D) {keep : List Int} {torn : Int} : Coh n (crD D keep torn) := ⟨(cr_rest h.ok h.po).ok, fun p hp => (by cases hp), rfl⟩
theorem ontoL_get? {l : List UInt8} {o : Nat} {s : ByteArray} (h : o + s.size ≤ l.length) (j : Nat) : (ontoL l o s)[j]? = if j < o then l[j]? else if j < o + s.size then s.data.toList[j - o]? else l[j]? := by
  have h1 : (l.take o).length = o := by rw [List.length_take]; omega
  have h2 : (l.take o ++ s.data.toList).length = o + s.size := by rw [List.length_append, h1, ba_len]
  unfold ontoL
  split
  · rw [List.append_assoc, List.getElem?_append_left (by omega), List.getElem?_take, if_pos (by assumption)]
  · split
    · rw [List.getElem?_append_left (by omega), List.getElem?_append_right (by omega), h1]
    · rw [List.getElem?_append_right (by omega), h2, List.getElem?_drop]
      congr 1; omega
theorem ontoL_set {l : List UInt8} {o i : Nat} {s : ByteArray} {x : UInt8} (h : o + s.size ≤ l.length) (hx : s.data.toList[i]? = some x) : (ontoL l o (s.extract 0 i)).set (o + i) x = ontoL l o (s.extract 0 (i + 1)) := by
  have hi : i < s.size := by have := (List.getElem?_eq_some_iff.1 hx).1; rw [ba_len] at this; exact this
  have z1 : (s.extract 0 i).size = i := by rw [ByteArray.size_extract]; omega
  have z2 : (s.extract 0 (i + 1)).size = i + 1 := by rw [ByteArray.size_extract]; omega
  have l1 := ontoL_len (l := l) (o := o) (s := s.extract 0 i) (by omega)
  apply List.ext_getElem?
  intro j
  rw [ontoL_get? (by omega), List.getElem?_set, ontoL_get? (by omega), z1, z2, l1, ext_list, ext_list, List.drop_zero]
  by_cases h1 : o + i = j
  · subst h1
    rw [if_pos rfl, if_pos (by omega), if_neg (by omega), if_pos (by omega), List.getElem?_take, if_pos (by omega), show o + i - o = i by omega, hx]
  · rw [if_neg h1]
    by_cases h2 : j < o
    · rw [if_pos h2, if_pos h2]
    · rw [if_neg h2, if_neg h2]
      by_cases h3 : j < o + i
      · rw [if_pos h3, if_pos (by omega), List.getElem?_take, if_pos (by omega), List.getElem?_take, if_pos (by omega)]
      · rw [if_neg h3, if_neg (by omega)]
/-- the reference's disk in memory -/
structure RefR (B : Nat) (w : World) (b : Nat) (D : DK) (sv lv : Value) : Prop where
  row : RowAt w b 67 [sv, lv, .bool D.off, I D.left]
  base : B ≤ b
  sure : Mine fB 5 w B sv D.dur
  l : Mine fWr 100 w B lv D.pend
def RJ (B : Nat) (w : World) (b : Nat) (D : DK) : Prop := ∃ sv lv, RefR B w b D sv lv
abbrev rT : List Nat := [67, 5, 100]
theorem RefR.below {B b : Nat} {w w' : World} {D : DK} {sv lv : Value} (h : RefR B w b D sv lv) (hb : Below w.heap.size w w') : RefR B w' b D sv lv := ⟨h.row.below hb, h.base, h.sure.below hb, h.l.below hb⟩
theorem RJ.below {B b : Nat} {w w' : World} {D : DK} (h : RJ B w b D) (hb : Below w.heap.size w w') : RJ B w' b D := by
  obtain ⟨sv, lv, h⟩ := h; exact ⟨sv, lv, h.below hb⟩
theorem RefR.offG {B b : Nat} {w w' : World} {D : DK} {sv lv : Value} (h : RefR B w b D sv lv) {p : Nat → Prop} (ho : Off p w w') (hp : ∀ x, p x → x = b ∨ isOf sv x ∨ isOf lv x) : OffG rT B w w' :=
  ho.mono fun x _ hx => by
    rcases hp x hx with rfl | hx | hx
    · exact ⟨h.base, 67, h.row.tag, by decide⟩
    · exact ⟨(h.sure.ge hx).1, 5, Mine.tag h.sure hx, by decide⟩
    · exact ⟨(h.l.ge hx).1, 100, Mine.tag h.l hx, by decide⟩
section
variable {k : Value → World → Prop} {w : World} {B b n : Nat} {D : DK} {sv lv : Value}
theorem c53 {bv : Value} {l : List UInt8} {o : Nat} {s : ByteArray} (hm : Mine fB 5 w B bv l) (hl : o + s.size ≤ l.length) (hll : l.length ≤ 1000000)
    (hk : ∀ w', Mine fB 5 w' B bv (ontoL l o s) → Off (isOf bv) w w' → Below B w w' → k (.tuple #[]) w') : callW Tryz.prog (.func (.func 53) #[] #[]) #[bv, I o, .string s] k w := C53 _ _ _ _ _ (by
  unfold S53
  refine Loop1.intro (fun m a w' => ∃ i : Nat, a = I i ∧ m = s.size - i ∧ i ≤ s.size ∧ Mine fB 5 w' B bv (ontoL l o (s.extract 0 i)) ∧ Off (isOf bv) w w' ∧ Below B w w') _ ⟨0, rfl, rfl, Nat.zero_le _, by rw [ontoL_none (by rw [ByteArray.size_extract]; omega)]; exact hm, Off.refl _ _, Below.refl _ _⟩ ?_
  rintro m _ w1 ⟨i, rfl, rfl, hi, hm1, ho1, hb1⟩
  rw [w_lenStr (by kernel_rfl), w_lss]
  have z1 : (s.extract 0 i).size = i := by rw [ByteArray.size_extract]; omega
  have l1 := ontoL_len (l := l) (o := o) (s := s.extract 0 i) (by omega)
  by_cases hlt : i < s.size
  · obtain ⟨x, hx⟩ : ∃ x, s.data.toList[i]? = some x := ⟨_, List.getElem?_eq_getElem (by rw [ba_len]; exact hlt)⟩
    have hgx : s[i]? = some x := by
      rw [getElem?_pos s i hlt]
      rw [List.getElem?_eq_getElem (by rw [ba_len]; exact hlt)] at hx
      have e2 : s[i] = s.data[i]'hlt := rfl
      rw [e2]; simpa using hx
    rw [decide_eq_true (by omega), condW_true, w_add, wrap_id (by omega), w_indexStr (b := x) (by kernel_rfl) (by omega) (by rw [Int.toNat_natCast]; exact hgx)]
    obtain ⟨y, hy⟩ : ∃ y, (ontoL l o (s.extract 0 i))[o + i]? = some y := ⟨_, List.getElem?_eq_getElem (by omega)⟩
    refine Mine.setE (F := fB) (y := x) isl39 (by kernel_rfl) (by kernel_rfl) rfl (by kernel_rfl) (by kernel_rfl) hm1 (by omega) (x := y) (by rw [show ((o : Int) + (i : Int)).toNat = o + i by omega]; exact hy) rfl rfl fun w2 hm2 hb2 ho2 => ?_
    rw [show ((o : Int) + (i : Int)).toNat = o + i by omega, ontoL_set hl hx] at hm2
    rw [w_add, wrap_id (by omega), loopK_self]
    exact ⟨s.size - (i + 1), by omega, i + 1, by simp [I], rfl, by omega, hm2, ho1.trans ho2, hb1.trans hb2⟩
  · rw [decide_eq_false (by omega), condW_false]
    have : i = s.size := by omega
    subst this
    rw [ByteArray.extract_zero_size] at hm1
    exact hk _ hm1 ho1 hb1)
theorem w_empty39 (hk : ∀ v w', Below w.heap.size w w' → Mine fB 5 w' w.heap.size v [] → k v w') : opW Tryz.prog (Instr.buildSlice 39 0 #[]) k w := by
  rw [w_build0 sty39]
  refine hk _ _ ((Below.refl _ _).alloc (Nat.le_refl _) _) ⟨rfl, .inr ⟨w.heap.size, 0, #[], rfl, Nat.le_refl _, by rw [World.alloc_heap_new], Nat.le_refl _, Nat.zero_le _, by simp, by simp [flat]⟩⟩
theorem c23 (h : RefR B w b D sv lv) (hok : DOk n D) (hpo : PdOk n D.pend) (hpl : D.pend.length ≤ 100000) (hBw : B ≤ w.heap.size)
    (hk : ∀ v w', Below w.heap.size w w' → Mine fB 5 w' w.heap.size v (appL D.dur D.pend) → k v w') : callW Tryz.prog (.func (.func 23) #[] #[]) #[.pointer (some ⟨b, 0, none⟩)] k w := C23 _ _ _ (by
  unfold S23
  have hml0 : 1000000000 ≤ maxLen := by decide
  have hn2 := hok.n2
  have hdl := hok.dur
  refine w_empty39 fun v1 w1 hb1 hm1 => ?_
  have h1 := h.below hb1
  simp only [nilW_ptr]
  rw [rw67_0 (h1.row.cell (i := 0) rfl)]
  refine mine_cat (F := fB) sty39 (by intro x u hu; simp [fB] at hu; subst hu; rfl) hm1 h1.sure hb1.size (by simp; omega) (by simp; omega) fun v2 w2 hm2 hb2 _ _ => ?_
  rw [List.nil_append] at hm2
  replace hb2 : Below w.heap.size w w2 := hb1.trans hb2
  refine Loop1.intro (fun m a w' => ∃ i : Nat, a = I i ∧ m = D.pend.length - i ∧ i ≤ D.pend.length ∧ Below w.heap.size w w' ∧ Mine fB 5 w' w.heap.size v2 (appL D.dur (D.pend.take i))) _ ⟨0, rfl, rfl, Nat.zero_le _, hb2, hm2⟩ ?_
  rintro m _ w3 ⟨i, rfl, rfl, hi, hb3, hm3⟩
  have h3 := h.below hb3
  rw [rw67_1 (h3.row.cell (i := 0 + 1) rfl), w_lenS (by kernel_rfl) h3.l.sl, w_lss]
  by_cases hlt : i < D.pend.length
  · rw [decide_eq_true (by omega), condW_true, drewW_eq]
    replace hb3 := hb3.trans ((below_drew w3).mono hb3.size)
    replace hm3 := hm3.below (below_drew w3)
    clear h3
    generalize w3.drew = w4 at *
    have h4 := h.below hb3
    have ho : Off (isOf v2) w4 w4 := Off.refl _ _
    have nx : ¬ isOf v2 b := fun hh => by
      have := Tag.uniq (Mine.tag hm3 hh) h4.row.tag
      cases this
    refine ⟨Off (isOf v2) w4, ho, ?_⟩
    have hx : D.pend[i]? = some D.pend[i] := List.getElem?_eq_getElem hlt
    have hpp := hpo _ (List.getElem_mem hlt)
    obtain ⟨o, hoo⟩ : ∃ o : Nat, (D.pend[i]).1 = (o : Int) := ⟨(D.pend[i]).1.toNat, by omega⟩
    have hal := appL_len (n := n) (p := D.pend.take i) (l := D.dur) (fun y hy => hpo y (List.mem_of_mem_take hy)) hdl
    simp only [nilT_ptr]
    rw [tfl67_1, r_loadO agg65 known65 (h4.row.cell (i := 0 + 1) rfl) nx ho, nt65_0 (F := fWr) rfl h4.l.sl hx (u := I (D.pend[i]).1) rfl, tfl67_1, r_loadO agg65 known65 (h4.row.cell (i := 0 + 1) rfl) nx ho, nt65_1 (F := fWr) rfl h4.l.sl hx (u := .string (D.pend[i]).2) rfl, hoo]
    have hps := hpp.2
    rw [hoo, Int.toNat_natCast] at hps
    refine c53 hm3 (by rw [hal]; exact hps) (by omega) fun w5 hm5 ho5 hb5 => ?_
    rw [keepS_eq]
    refine ⟨ho5, ?_⟩
    rw [w_add, wrap_id (by omega), loopK_self]
    refine ⟨D.pend.length - (i + 1), by omega, i + 1, by simp [I], rfl, by omega, hb3.trans hb5, ?_⟩
    rw [List.take_add_one, hx, Option.toList_some, appL_snoc, hoo, Int.toNat_natCast]
    exact hm5
  · rw [decide_eq_false (by omega), condW_false]
    have : i = D.pend.length := by omega
    subst this
    rw [List.take_length] at hm3
    exact hk _ _ hb3 hm3)
theorem b67 {a1 : Option Addr} {n1 c1 : Nat} : opW Tryz.prog (Instr.build 67 #[(0, .slice a1 n1 c1)]) k w = k (.agg ([.slice a1 n1 c1, nS, .bool false, I 0] : List Value).toArray) w := opW_ok (by kernel_rfl)
theorem c33 {n : Nat} (h1 : 1 ≤ n) (h2 : n ≤ 100000) (hk : ∀ b w', Below w.heap.size w w' → RJ w.heap.size w' b (newD n) → k (.tuple #[.pointer (some ⟨b, 0, none⟩), I 0]) w') : callW Tryz.prog (.func (.func 33) #[] #[]) #[I n] k w := C33 _ _ _ (by
  unfold S33
  rw [w_lss, decide_eq_false (by omega)]
  simp only [guardW_ff, pickW_false]
  rw [w_gtr, decide_eq_false (by omega), condW_false]
  refine w_zerosM (by omega) fun w1 hb1 hm1 => ?_
  rw [b67]
  refine w_boxN fun w2 hb2 _ hr2 => ?_
  exact hk _ _ (below_trans hb1 hb2) ⟨_, _, hr2, hb1.size, hm1.below hb2, Mine.nil _ _⟩)
end
end Go.Proofs.YtbojglaimdjagaaGreatDoor
/- The reference's disk: Write, Sync, Read, Cut. -/
set_option linter.unusedSimpArgs false
set_option linter.unusedVariables false
set_option maxRecDepth 4000
namespace Go.Proofs.YtbojglaimdjagaaGreatDoor
open Go Go.V Go.RowKit
section
variable {k : Value → World → Prop} {w : World} {B b n : Nat} {D : DK}
theorem b100 {o : Int} {s : ByteArray} : opW Tryz.prog (Instr.build 100 #[(0, I o), (1, .string s)]) k w = k (.agg ([I o, .string s] : List Value).toArray) w := opW_ok (by kernel_rfl)
theorem RJ.coff {w' : World} (h : RJ B w b D) {p : Nat → Prop} (ho : Off p w w') (hp : ∀ x t, Tag w x t → B ≤ x → t ∈ rT → ¬ p x) : RJ B w' b D := by
  obtain ⟨sv, lv, h⟩ := h
  exact ⟨sv, lv, h.row.off ho (hp _ _ h.row.tag h.base (by decide)), h.base, Go.V.Mine.off h.sure ho fun x hx => hp x _ (Mine.tag h.sure hx) (h.sure.ge hx).1 (by decide), Go.V.Mine.off h.l ho fun x hx => hp x _ (Mine.tag h.l hx) (h.l.ge hx).1 (by decide)⟩
theorem c16 {o : Nat} {s : ByteArray} (h : RJ B w b D) (hok : DOk n D) (hpl : D.pend.length ≤ 100000) (hin : o + s.size ≤ n) (hBw : B ≤ w.heap.size)
    (hk0 : D.off = true → k (I 331) w) (hk : D.off = false → ∀ w', RJ B w' b (wrD D o s) → OffG rT B w w' → Below B w w' → k (I 0) w') : callW Tryz.prog (.func (.func 16) #[] #[]) #[.pointer (some ⟨b, 0, none⟩), I o, .string s] k w := C16 _ _ _ _ _ (by
  unfold S16
  obtain ⟨sv, lv, h⟩ := h
  have hml0 : 1000000000 ≤ maxLen := by decide
  have hn2 := hok.n2
  have hdl := hok.dur
  have hleft := hok.left
  simp only [nilW_ptr]
  rw [rw67_2 (h.row.cell (i := 0 + 2) rfl)]
  cases hoff : D.off with
  | true => rw [condW_true]; exact hk0 hoff
  | false =>
  rw [condW_false, w_lss, decide_eq_false (by omega)]
  simp only [guardW_ff, pickW_false, nilW_ptr]
  rw [rw67_0 (h.row.cell (i := 0) rfl), w_lenS (by kernel_rfl) h.sure.sl, w_gtr, decide_eq_false (by omega)]
  simp only [guardW_ff, pickW_false, nilW_ptr]
  rw [w_lenStr (by kernel_rfl), rw67_0 (h.row.cell (i := 0) rfl), w_lenS (by kernel_rfl) h.sure.sl, w_sub, wrap_id (by omega), w_gtr, decide_eq_false (by omega), condW_false]
  rw [rw67_1 (h.row.cell (i := 0 + 1) rfl), b100]
  refine Mine.push (F := fWr) (x := ((o : Int), s)) sty65 (fun u hu => by simp [fWr] at hu; rcases hu with rfl | rfl <;> rfl) rfl (by decide) h.l hBw (by omega) (by omega) fun v2 w2 hm2 hb2 ho2 hu2 => ?_
  have nlb : ¬ isOf lv b := fun hh => by
    have := Tag.uniq (Mine.tag h.l hh) h.row.tag
    cases this
  have hr2 := h.row.off ho2 nlb
  have hs2 := h.sure.apart ho2 (apMine h.l (by decide))
  have hov : v2.oneCell' = true := by obtain ⟨a9, c9, rfl, -⟩ := hm2.sl; rfl
  rw [fl67_1, st65 hov (hr2.cell (i := 0 + 1) rfl) (hr2.free _)]
  have hof : Off (fun x => x = b) w2 (w2.setCell ⟨b, 0 + 1, none⟩ v2) := Off.set (p := fun x => x = b) rfl
  have hr3 := hr2.set 1 v2
  have hs3 := hs2.apart hof (apRow hr2 (by decide))
  have hm3 := hm2.apart hof (apRow hr2 (by decide))
  have hb3 : Below B w (w2.setCell ⟨b, 0 + 1, none⟩ v2) := hb2.setCell h.base _
  have ho3 : Off (fun x => x = b ∨ isOf lv x) w (w2.setCell ⟨b, 0 + 1, none⟩ v2) := (ho2.mono fun x _ hx => .inr hx).trans (hof.mono fun x _ hx => .inl hx)
  replace hr3 : RowAt (w2.setCell ⟨b, 0 + 1, none⟩ v2) b 67 [sv, v2, .bool D.off, I D.left] := hr3
  clear hof hm2 hs2 hr2 ho2 hb2
  generalize w2.setCell ⟨b, 0 + 1, none⟩ v2 = w3 at *
  obtain ⟨u1, u2, u3⟩ := usedD_dur { D with vis := ontoL D.vis o s, pend := D.pend ++ [((o : Int), s)] }
  refine joinW_use0 (fun w' => RJ B w' b (wrD D o s) ∧ OffG rT B w w' ∧ Below B w w') ?_ ?_
  · rintro w4 ⟨a1, a2, a3⟩
    exact hk hoff w4 a1 a2 a3
  intro J hJ
  have fin : ∀ w', RowAt w' b 67 [sv, v2, .bool (wrD D o s).off, I (wrD D o s).left] → Off (fun x => x = b) w3 w' → Below B w3 w' → J w' := fun w' q1 q2 q3 => by
    refine hJ _ ⟨⟨sv, v2, q1, h.base, ?_, ?_⟩, h.offG (ho3.trans (q2.mono fun x _ hx => .inl hx)) ?_, hb3.trans q3⟩
    · unfold wrD; rw [u1]; exact hs3.apart q2 (apRow hr3 (by decide))
    · unfold wrD; rw [u3]; exact hm3.apart q2 (apRow hr3 (by decide))
    · rintro x (hx | hx)
      · exact .inl hx
      · exact .inr (.inr hx)
  rw [rw67_3 (hr3.cell (i := 0 + 3) rfl), w_gtr]
  by_cases hl : 0 < D.left
  · rw [decide_eq_true (by omega), condW_true, rw67_3 (hr3.cell (i := 0 + 3) rfl), w_sub, wrap_id (by omega), fl67_3, st3 rfl (hr3.cell (i := 0 + 3) rfl) (hr3.free _)]
    have hr4 := hr3.set 3 (I (D.left - 1))
    have hof4 : Off (fun x => x = b) w3 (w3.setCell ⟨b, 0 + 3, none⟩ (I (D.left - 1))) := Off.set (p := fun x => x = b) rfl
    have hb4 : Below B w3 (w3.setCell ⟨b, 0 + 3, none⟩ (I (D.left - 1))) := (Below.refl _ _).setCell h.base _
    replace hr4 : RowAt (w3.setCell ⟨b, 0 + 3, none⟩ (I (D.left - 1))) b 67 [sv, v2, .bool D.off, I (D.left - 1)] := hr4
    rw [rw67_3 (hr4.cell (i := 0 + 3) rfl), w_eql]
    have e1 : (wrD D o s).left = D.left - 1 := by unfold wrD usedD; rw [if_neg (show ¬ D.left = 0 by omega)]
    have e2 : (wrD D o s).off = decide (D.left - 1 = 0) := by unfold wrD usedD; rw [if_neg (show ¬ D.left = 0 by omega)]
    by_cases hz : D.left - 1 = 0
    · rw [decide_eq_true hz, condW_true, fl67_2, st4 rfl (hr4.cell (i := 0 + 2) rfl) (hr4.free _)]
      refine fin _ ?_ (hof4.trans (Off.set (p := fun x => x = b) rfl)) (hb4.setCell h.base _)
      rw [e1, e2, decide_eq_true hz]
      exact hr4.set 2 (.bool true)
    · rw [decide_eq_false hz, condW_false]
      refine fin _ ?_ hof4 hb4
      rw [e1, e2, decide_eq_false hz, ← hoff]
      exact hr4
  · rw [decide_eq_false (by omega), condW_false]
    have e0 : D.left = 0 := by omega
    have e : (wrD D o s).left = D.left ∧ (wrD D o s).off = D.off := by unfold wrD usedD; rw [if_pos (show D.left = 0 from e0)]; exact ⟨rfl, rfl⟩
    refine fin _ ?_ (Off.refl _ _) (Below.refl _ _)
    rw [e.1, e.2]
    exact hr3)
theorem c45 (h : RJ B w b D) (hc : Coh n D) (hpl : D.pend.length ≤ 100000) (hBw : B ≤ w.heap.size)
    (hk0 : D.off = true → k (I 331) w) (hk : D.off = false → ∀ w', RJ B w' b (syncD D) → OffG rT B w w' → Below B w w' → k (I 0) w') : callW Tryz.prog (.func (.func 45) #[] #[]) #[.pointer (some ⟨b, 0, none⟩)] k w := C45 _ _ _ (by
  unfold S45
  obtain ⟨sv, lv, h⟩ := h
  simp only [nilW_ptr]
  rw [rw67_2 (h.row.cell (i := 0 + 2) rfl)]
  cases hoff : D.off with
  | true => rw [condW_true]; exact hk0 hoff
  | false =>
  rw [condW_false]
  refine c23 h hc.ok hc.po hpl hBw fun v w1 hb1 hm1 => ?_
  rw [← hc.vis] at hm1
  have h1 := h.below hb1
  have hov : v.oneCell' = true := by obtain ⟨a9, c9, rfl, -⟩ := hm1.sl; rfl
  rw [fl67_0, st39 hov (h1.row.cell (i := 0) rfl) (h1.row.free _)]
  have hr2 := h1.row.set 0 v
  have hof2 : Off (fun x => x = b) w1 (w1.setCell ⟨b, 0, none⟩ v) := Off.set (p := fun x => x = b) rfl
  replace hr2 : RowAt (w1.setCell ⟨b, 0, none⟩ v) b 67 [v, lv, .bool D.off, I D.left] := hr2
  have hm2 := hm1.apart hof2 (apRow h1.row (by decide))
  rw [fl67_1, st65 rfl (hr2.cell (i := 0 + 1) rfl) (hr2.free _)]
  have hof3 : Off (fun x => x = b) (w1.setCell ⟨b, 0, none⟩ v) ((w1.setCell ⟨b, 0, none⟩ v).setCell ⟨b, 0 + 1, none⟩ nS) := Off.set (p := fun x => x = b) rfl
  refine hk hoff _ ⟨v, nS, hr2.set 1 nS, h.base, (hm2.apart hof3 (apRow hr2 (by decide))).base hBw, Mine.nil _ _⟩ (h.offG (Off.below hb1 |>.trans (hof2.trans hof3)) fun x hx => .inl hx) (((hb1.mono hBw).setCell h.base _).setCell h.base _))
theorem c74 (h : RJ B w b D) (hc : Coh n D) (hpl : D.pend.length ≤ 100000) (hBw : B ≤ w.heap.size)
    (hk0 : D.off = true → k (.tuple #[.string ⟨#[]⟩, I 331]) w) (hk : D.off = false → ∀ w', Below w.heap.size w w' → k (.tuple #[.string ⟨D.vis.toArray⟩, I 0]) w') : callW Tryz.prog (.func (.func 74) #[] #[]) #[.pointer (some ⟨b, 0, none⟩), I 0, I n] k w := C74 _ _ _ _ _ (by
  unfold S74
  obtain ⟨sv, lv, h⟩ := h
  have hn1 := hc.ok.n1
  have hn2 := hc.ok.n2
  have hdl := hc.ok.dur
  have hvl := hc.ok.vis
  simp only [nilW_ptr]
  rw [rw67_2 (h.row.cell (i := 0 + 2) rfl)]
  cases hoff : D.off with
  | true => rw [condW_true]; exact hk0 hoff
  | false =>
  rw [condW_false, w_lss, decide_eq_false (by omega)]
  simp only [guardW_ff, pickW_false, nilW_ptr]
  rw [w_lss, decide_eq_false (by omega)]
  simp only [guardW_ff, pickW_false, nilW_ptr]
  rw [rw67_0 (h.row.cell (i := 0) rfl), w_lenS (by kernel_rfl) h.sure.sl, w_gtr, decide_eq_false (by omega)]
  simp only [guardW_ff, pickW_false, nilW_ptr]
  rw [rw67_0 (h.row.cell (i := 0) rfl), w_lenS (by kernel_rfl) h.sure.sl, w_sub, wrap_id (by omega), w_gtr, decide_eq_false (by omega), condW_false]
  refine c23 h hc.ok hc.po hpl hBw fun v w1 hb1 hm1 => ?_
  rw [← hc.vis] at hm1
  rw [w_add, wrap_id (by omega)]
  refine w_mid (lo := 0) (hi := n) rfl (by omega) (by kernel_rfl) (by kernel_rfl) (by kernel_rfl) hm1.sl (Nat.zero_le _) (by omega) fun v2 hs2 => ?_
  rw [List.drop_zero, Nat.sub_zero, List.take_of_length_le (by omega)] at hs2
  rw [w_toStr (e := 5) (by kernel_rfl) (by kernel_rfl) (by kernel_rfl) hs2 (fun hh => by rw [hh] at hvl; simp at hvl; omega)]
  exact hk hoff _ hb1)
theorem c66 {c : Int} (h : RJ B w b D) (hn : 0 ≤ c) (hk0 : D.off = true → k (I 331) w)
    (hk : D.off = false → ∀ w', RJ B w' b (cutD D c) → OffG rT B w w' → Below B w w' → k (I 0) w') : callW Tryz.prog (.func (.func 66) #[] #[]) #[.pointer (some ⟨b, 0, none⟩), I c] k w := C66 _ _ _ _ (by
  unfold S66
  obtain ⟨sv, lv, h⟩ := h
  simp only [nilW_ptr]
  rw [rw67_2 (h.row.cell (i := 0 + 2) rfl)]
  cases hoff : D.off with
  | true => rw [condW_true]; exact hk0 hoff
  | false =>
  rw [condW_false, w_lss, decide_eq_false (by omega), condW_false, fl67_3, st3 rfl (h.row.cell (i := 0 + 3) rfl) (h.row.free _)]
  have hr2 := h.row.set 3 (I c)
  have hof2 : Off (fun x => x = b) w (w.setCell ⟨b, 0 + 3, none⟩ (I c)) := Off.set (p := fun x => x = b) rfl
  replace hr2 : RowAt (w.setCell ⟨b, 0 + 3, none⟩ (I c)) b 67 [sv, lv, .bool D.off, I c] := hr2
  rw [w_eql, fl67_2, st4 rfl (hr2.cell (i := 0 + 2) rfl) (hr2.free _)]
  have hof3 : Off (fun x => x = b) (w.setCell ⟨b, 0 + 3, none⟩ (I c)) ((w.setCell ⟨b, 0 + 3, none⟩ (I c)).setCell ⟨b, 0 + 2, none⟩ (.bool (decide (c = 0)))) := Off.set (p := fun x => x = b) rfl
  refine hk hoff _ ⟨sv, lv, hr2.set 2 (.bool (decide (c = 0))), h.base, (h.sure.apart hof2 (apRow h.row (by decide))).apart hof3 (apRow hr2 (by decide)), (h.l.apart hof2 (apRow h.row (by decide))).apart hof3 (apRow hr2 (by decide))⟩ (h.offG (hof2.trans hof3) fun x hx => .inl hx) (((Below.refl _ _).setCell h.base _).setCell h.base _))
end
end Go.Proofs.YtbojglaimdjagaaGreatDoor
/- The reference's journal: Open. -/
set_option linter.unusedSimpArgs false
set_option linter.unusedVariables false
set_option maxRecDepth 4000
namespace Go.Proofs.YtbojglaimdjagaaGreatDoor
open Go Go.V Go.RowKit
theorem drop_cons {l : List UInt8} {i : Nat} (h : i < l.length) : l.drop i = l.getD i 0 :: l.drop (i + 1) := by
  rw [List.getD_eq_getElem?_getD, List.getElem?_eq_getElem h]
  exact List.drop_eq_getElem_cons h
/-- a stored record is right exactly if its head is -/
theorem rec_iff {h s : ByteArray} {t m p : Nat} (h1 : s.data.toList.getD t 0 = 1) (ht : t < s.size) (hr : rdS s (t + 1) = some (m, p)) (hp : p + m + 32 ≤ s.size) :
    recB h (s.extract p (p + m)) = s.extract t (p + m + 32) ↔ chainF h (s.extract p (p + m)) = s.extract (p + m) (p + m + 32) := by
  unfold rdS at hr
  split at hr
  · cases hr
  · next n c hi =>
    split at hr
    · next hc =>
      simp only [Option.some.injEq, Prod.mk.injEq] at hr
      obtain ⟨rfl, rfl⟩ := hr
      obtain ⟨m, rfl⟩ : ∃ m : Nat, n = (m : Int) := ⟨n.toNat, by omega⟩
      rw [Int.toNat_natCast] at hp ⊢
      obtain ⟨b1, b2, b3⟩ := rdI_canon hi
      rw [List.length_drop, ba_len] at b3
      have hsz : (s.extract (t + 1 + c) (t + 1 + c + m)).size = m := by rw [ByteArray.size_extract]; omega
      have e1 : s.data.toList.drop t = 1 :: (vb (2 * m) ++ s.data.toList.drop (t + 1 + c)) := by
        rw [drop_cons (by rw [ba_len]; exact ht), h1, ← b1, ← List.drop_drop (i := c), List.take_append_drop]
      have e2 : s.data.toList.drop (t + 1 + c) = (s.extract (t + 1 + c) (t + 1 + c + m)).data.toList ++ s.data.toList.drop (t + 1 + c + m) := by
        rw [ext_list, Nat.add_sub_cancel_left, ← List.drop_drop (i := m), List.take_append_drop]
      have e3 : (s.extract t (t + 1 + c + m + 32)).data.toList = 1 :: (vb (2 * m) ++ ((s.extract (t + 1 + c) (t + 1 + c + m)).data.toList ++ (s.extract (t + 1 + c + m) (t + 1 + c + m + 32)).data.toList)) := by
        have hv : (vb (2 * m)).length = c := by rw [← b1, List.length_take, List.length_drop, ba_len]; omega
        rw [ext_list s t, e1, e2, show t + 1 + c + m + 32 - t = (c + (m + 32)) + 1 by omega, List.take_succ_cons, ← hv, List.take_length_add_append]
        rw [show m + 32 = (s.extract (t + 1 + (vb (2 * m)).length) (t + 1 + (vb (2 * m)).length + m)).data.toList.length + 32 by rw [ba_len, hv, hsz], List.take_length_add_append]
        rw [ext_list s (t + 1 + (vb (2 * m)).length + m), Nat.add_sub_cancel_left]
      constructor
      · intro he
        have : (recB h (s.extract (t + 1 + c) (t + 1 + c + m))).data.toList = (s.extract t (t + 1 + c + m + 32)).data.toList := by rw [he]
        rw [e3, recB_list, hsz] at this
        apply ba_ext
        simpa using this
      · intro he
        apply ba_ext
        rw [e3, recB_list, hsz, he]
    · cases hr
/-- the reference's journal in memory -/
structure KapR (B : Nat) (w : World) (kb b : Nat) (br : Bool) (t : TP) (lv : Value) : Prop where
  row : RowAt w kb 43 [.pointer (some ⟨b, 0, none⟩), lv, I t.size, .bool br]
  base : B ≤ kb
  recs : Mine fT 9 w B lv t.recs
def KJ (B : Nat) (w : World) (kb b : Nat) (br : Bool) (t : TP) : Prop := ∃ lv, KapR B w kb b br t lv
theorem KJ.below {B b kb : Nat} {w w' : World} {br : Bool} {t : TP} (h : KJ B w kb b br t) (hb : Below w.heap.size w w') : KJ B w' kb b br t := by
  obtain ⟨lv, h⟩ := h; exact ⟨lv, h.row.below hb, h.base, h.recs.below hb⟩
theorem KJ.lower {B B' b kb : Nat} {w : World} {br : Bool} {t : TP} (h : KJ B w kb b br t) (hb : B' ≤ B) : KJ B' w kb b br t := by
  obtain ⟨lv, h⟩ := h; exact ⟨lv, h.row, Nat.le_trans hb h.base, h.recs.base hb⟩
theorem KJ.off {B b kb : Nat} {ts : List Nat} {w w' : World} {br : Bool} {t : TP} {B' : Nat} (h : KJ B w kb b br t) (ho : OffG ts B' w w') (h1 : 43 ∉ ts) (h2 : 9 ∉ ts) : KJ B w' kb b br t := by
  obtain ⟨lv, h⟩ := h; exact ⟨lv, ho.row h.row h1, h.base, ho.mine h.recs h2⟩
section
variable {k : Value → World → Prop} {w : World} {B b n : Nat} {D : DK}
theorem w_zstr0 {m : Nat} (h2 : m ≤ 1000000) (hk : ∀ w', Below w.heap.size w w' → k (.string (zeroB m)) w') : opW Tryz.prog (Instr.makeSlice 39 (I m) (I m)) (fun v w => opW Tryz.prog (convert 39 9 v) k w) w := by
  rcases Nat.eq_zero_or_pos m with rfl | h1
  · refine w_zerosM h2 fun w' hb hm => ?_
    rw [opW_ok (show (convert 39 9 (.slice (some ⟨w.heap.size, 0, none⟩) 0 0)).run Tryz.prog w' = .ok (.string ⟨([] : List UInt8).toArray⟩) w' from run_convert_bytes_back w' 39 9 5 ⟨w.heap.size, 0, none⟩ 0 [] (by kernel_rfl) (by kernel_rfl) (by kernel_rfl) fun j hj => by simp at hj)]
    exact hk _ hb
  · exact w_zstr h1 h2 hk
theorem b43 {a : Addr} : opW Tryz.prog (Instr.build 43 #[(0, .pointer (some a))]) k w = k (.agg ([.pointer (some a), nS, I 0, .bool false] : List Value).toArray) w := opW_ok (by kernel_rfl)
theorem zero_iff {s : ByteArray} {t n : Nat} (hs : s.size = n) (ht : t ≤ n) : s.extract t n = zeroB (n - t) ↔ ∀ x ∈ s.data.toList.drop t, x = 0 := by
  have e1 : (s.extract t n).data.toList = s.data.toList.drop t := by rw [ext_list, List.take_of_length_le (by rw [List.length_drop, ba_len]; omega)]
  constructor
  · intro h x hx
    rw [← e1, h] at hx
    exact List.eq_of_mem_replicate hx
  · intro h
    apply ba_ext
    rw [e1]
    show _ = List.replicate (n - t) 0
    rw [List.eq_replicate_iff]
    exact ⟨by rw [List.length_drop, ba_len, hs], h⟩
set_option maxHeartbeats 1000000 in
theorem c50 (h : RJ B w b D) (hc : Coh n D) (hpl : D.pend.length ≤ 1000) (hBw : B ≤ w.heap.size)
    (hk : ∀ w' r, RJ B w' b (opJ n D).2.1 → OffG rT B w w' → Below B w w' → (match (opJ n D).2.2 with
      | none => r = .tuple #[.pointer none, I (opJ n D).1]
      | some t => (opJ n D).1 = 0 ∧ ∃ kb, r = .tuple #[.pointer (some ⟨kb, 0, none⟩), I 0] ∧ KJ w.heap.size w' kb b false t) → k r w') :
    callW Tryz.prog (.func (.func 50) #[] #[]) #[.pointer (some ⟨b, 0, none⟩)] k w := C50 _ _ _ (by
  unfold S50
  obtain ⟨sv, lv, h0⟩ := id h
  have hn1 := hc.ok.n1
  have hn2 := hc.ok.n2
  have hdl := hc.ok.dur
  have hvl := hc.ok.vis
  have hml0 : 1000000000 ≤ maxLen := by decide
  simp only [nilW_ptr]
  rw [rw67_0 (h0.row.cell (i := 0) rfl), w_lenS (by kernel_rfl) h0.sure.sl, hdl]
  refine c74 h hc (by omega) hBw (fun hoff => ?_) fun hoff w1 hb1 => ?_
  · rw [ex0, ex1, w_neq, decide_eq_false (show ¬ ((331 : Int) = 0) by decide), Bool.not_false, condW_true]
    have e : opJ n D = (331, D, none) := by unfold opJ; rw [if_pos hoff]
    refine hk _ _ (by rw [e]; exact h) (OffG.refl _ _ _) (Below.refl _ _) (by rw [e])
  rw [ex0, ex1, w_neq]
  simp only [decide_true, Bool.not_true]
  rw [condW_false, b43]
  obtain ⟨s, hs⟩ : ∃ s : ByteArray, s = ⟨D.vis.toArray⟩ := ⟨_, rfl⟩
  have hsz : s.size = n := by rw [hs]; exact vis_size hc.ok
  have hsl : s.data.toList = D.vis := by rw [hs]
  have hopN : ldF (n + 1) tp0 s = none → opJ n D = (342, D, none) := fun e => opJ_none hoff (by rw [← hs]; exact e)
  have hopS : ∀ t, ldF (n + 1) tp0 s = some t → opJ n D = if ∀ x ∈ D.vis.drop t.size, x = 0 then (0, D, some t)
      else if (ap2 D t.size (zeroB (n - t.size))).1 = 0 then (0, (ap2 D t.size (zeroB (n - t.size))).2, some t) else ((ap2 D t.size (zeroB (n - t.size))).1, (ap2 D t.size (zeroB (n - t.size))).2, none) := fun t e => by
    unfold opJ
    rw [if_neg (by rw [hoff]; simp), ← hs, e]
  rw [← hs]
  refine w_boxN fun w2 hb2 _ hr2 => ?_
  obtain ⟨kb, hkb⟩ : ∃ kb, w1.heap.size = kb := ⟨_, rfl⟩
  rw [hkb] at hr2 ⊢
  have hb02 := below_trans hb1 hb2
  have hkw : w.heap.size ≤ kb := by rw [← hkb]; exact hb1.size
  replace hr2 : RowAt w2 kb 43 [.pointer (some ⟨b, 0, none⟩), nS, I (0 : Nat), .bool false] := hr2
  refine c43 (l := []) (IsSl.nil _) (Nat.zero_le _) (by simp) fun w3 hb3 => ?_
  have hb03 := below_trans hb02 hb3
  have hb23 : Below w.heap.size w w3 := hb03
  refine Loop1.intro (fun m x w' => ∃ t j, m = n - t.size ∧ x = .string t.head ∧ t.size ≤ n ∧ n < j + t.size ∧ ldF j t s = ldF (n + 1) tp0 s ∧ KJ w.heap.size w' kb b false t ∧ t.head.size = 32 ∧ t.recs.length ≤ t.size ∧ Below w.heap.size w w') _
    ⟨tp0, n + 1, rfl, rfl, Nat.zero_le _, by show n < n + 1 + 0; omega, rfl, ⟨nS, hr2.below hb3, hkw, Mine.nil _ _⟩, rfl, Nat.le_refl _, hb03⟩ ?_
  rintro m _ w4 ⟨t, j, rfl, rfl, ht, hj, he, hK, hh, hrl, hb4⟩
  obtain ⟨j, rfl⟩ : ∃ i, j = i + 1 := ⟨j - 1, by omega⟩
  obtain ⟨lv4, hK⟩ := hK
  simp only [nilW_ptr]
  rw [rw43_2 (hK.row.cell (i := 0 + 2) rfl), w_lss]
  by_cases hlt : t.size < n
  case' neg =>
    rw [decide_eq_false (by omega)]
    simp only [guardW_ft, guardW_u, pickW_false]
    have hld : ldF (n + 1) tp0 s = some t := by
      rw [← he]; simp only [ldF]
      rw [if_neg (fun hx => hlt (by rw [← hsz]; exact hx.1))]
  case' pos =>
    have hlts : t.size < s.size := by rw [hsz]; exact hlt
    rw [decide_eq_true (by omega)]
    simp only [guardW_tt, pickW_true, nilW_ptr]
    rw [fl43_2, ld3 (hK.row.cell (i := 0 + 2) rfl), w_indexStr (by kernel_rfl) (by omega) (by rw [Int.toNat_natCast]; exact ba_get hlts), w_neq]
    obtain ⟨x, hx⟩ : ∃ x, s.data.toList.getD t.size 0 = x := ⟨_, rfl⟩
    rw [hx]
    by_cases hx0 : x = 0
    case' pos =>
      subst hx0
      rw [show (!decide ((((0 : UInt8).toNat : Nat) : Int) = 0)) = false from rfl]
      have hld : ldF (n + 1) tp0 s = some t := by
        rw [← he]; simp only [ldF]
        rw [if_neg (fun hy => hy.2 hx)]
    case' neg =>
      have hx1 : x.toNat ≠ 0 := fun hy => hx0 (by
        have := UInt8.ofNat_toNat (x := x)
        rw [hy] at this; exact this.symm)
      rw [decide_eq_false (by omega), Bool.not_false, condW_true, rw43_2 (hK.row.cell (i := 0 + 2) rfl), w_add, wrap_id (by omega), show ((t.size : Int) + 1) = ((t.size + 1 : Nat) : Int) by omega]
      refine c75 (by omega) (by omega) fun w5 hb5 => ?_
      have hK5 : KapR w.heap.size w5 kb b false t lv4 := ⟨hK.row.below hb5, hK.base, hK.recs.below hb5⟩
      have hb05 := hb4.trans (hb5.mono hb4.size)
      have hbad : ldF (n + 1) tp0 s = none → ∀ w', Below w.heap.size w w' → k (.tuple #[.pointer none, I 342]) w' := fun hl w' hb' => by
        refine hk _ _ (by rw [hopN hl]; exact h.below hb') (OffG.below hb') (hb'.mono hBw) (by rw [hopN hl])
      unfold strV
      cases hr : rdS s (t.size + 1) with
      | none =>
        have hl : ldF (n + 1) tp0 s = none := by
          rw [← he]; simp only [ldF]
          rw [if_pos ⟨hlts, by rw [hx]; exact hx0⟩]
          split
          · rw [hr]
          · rfl
        simp only [ex3_0, ex3_1, ex3_2]
        rw [rw43_2 (hK5.row.cell (i := 0 + 2) rfl), w_indexStr (by kernel_rfl) (by omega) (by rw [Int.toNat_natCast]; exact ba_get hlts), w_neq]
        cases decide ((((s.data.toList.getD t.size 0).toNat : Nat) : Int) = 1)
        · simp only [Bool.not_false, guardW_tf, guardW_u, pickW_true]
          rw [condW_true]
          exact hbad hl _ hb05
        · simp only [Bool.not_true, guardW_ff, pickW_false]
          rw [w_neq, decide_eq_false (show ¬ ((10 : Int) = 0) by decide), Bool.not_false, condW_true]
          exact hbad hl _ hb05
      | some mp =>
      obtain ⟨m, p⟩ := mp
      obtain ⟨a1, a2, a3⟩ := rdS_le (by omega) hr
      simp only [ex3_0, ex3_1, ex3_2]
      rw [rw43_2 (hK5.row.cell (i := 0 + 2) rfl), w_indexStr (by kernel_rfl) (by omega) (by rw [Int.toNat_natCast]; exact ba_get hlts), w_neq, hx]
      by_cases hx2 : x = 1
      case' neg =>
        have hx3 : x.toNat ≠ 1 := fun hy => hx2 (by
          have := UInt8.ofNat_toNat (x := x)
          rw [hy] at this; exact this.symm)
        have hl : ldF (n + 1) tp0 s = none := by
          rw [← he]; simp only [ldF]
          rw [if_pos ⟨hlts, by rw [hx]; exact hx0⟩, if_neg (by rw [hx]; exact hx2)]
        rw [decide_eq_false (by omega)]
        simp only [Bool.not_false, guardW_tf, guardW_u, pickW_true]
        rw [condW_true]
        exact hbad hl _ hb05
      case' pos =>
        have hstep : ldF (j + 1) t s = if p + m + 32 ≤ s.size ∧ recB t.head (s.extract p (p + m)) = s.extract t.size (p + m + 32) then ldF j (addT t (s.extract p (p + m))) s else none := by
          simp only [ldF]
          rw [if_pos ⟨hlts, by rw [hx]; exact hx0⟩, if_pos (by rw [hx]; exact hx2), hr]
        rw [hx2, show decide ((((1 : UInt8).toNat : Nat) : Int) = 1) = true from rfl]
        simp only [Bool.not_true, guardW_ff, pickW_false]
        rw [w_neq]
        simp only [decide_true, Bool.not_true]
        rw [condW_false]
        have hrs : (s.extract p (p + m)).size = m := by rw [ByteArray.size_extract]; omega
        refine c57 (by omega) fun w6 hb6 => ?_
        have hK6 : KapR w.heap.size w6 kb b false t lv4 := ⟨hK5.row.below hb6, hK.base, hK5.recs.below hb6⟩
        have hb06 := hb05.trans (hb6.mono hb05.size)
        rw [w_add, wrap_id (by omega), w_gtr]
        by_cases h3 : p + m + 32 ≤ n
        case' neg =>
          have hl : ldF (n + 1) tp0 s = none := by
            rw [← he, hstep, if_neg (fun hy => h3 (by omega))]
          rw [decide_eq_true (by omega)]
          simp only [guardW_tf, guardW_u, pickW_true]
          rw [condW_true]
          exact hbad hl _ hb06
        case' pos =>
          rw [decide_eq_false (by omega)]
          simp only [guardW_ff, pickW_false]
          rw [w_add, wrap_id (by omega), w_sliceStr (by kernel_rfl) (by omega) (by omega) (by omega), w_neqStr (by kernel_rfl)]
          have hri := rec_iff (h := t.head) (by rw [hx]; exact hx2) hlts hr (by omega)
          rw [show (((p + m : Nat) : Int)).toNat = p + m by omega, show (((p + m : Nat) : Int) + 32).toNat = p + m + 32 by omega]
          by_cases hch : chainF t.head (s.extract p (p + m)) = s.extract (p + m) (p + m + 32)
          case' neg =>
            have hl : ldF (n + 1) tp0 s = none := by
              rw [← he, hstep, if_neg (fun hy => hch (hri.1 hy.2))]
            rw [decide_eq_false (fun h => hch h.symm), Bool.not_false, condW_true]
            exact hbad hl _ hb06
          case' pos =>
            rw [decide_eq_true hch.symm, Bool.not_true, condW_false, rw43_1 (hK6.row.cell (i := 0 + 1) rfl)]
            refine Mine.push (F := fT) (x := s.extract p (p + m)) sty22 (fun u hu => by simp [fT] at hu; subst hu; rfl) rfl (by decide) hK6.recs hb06.size (by omega) (by omega) fun v7 w7 hm7 hb7 ho7 _ => ?_
            have nlb : ¬ isOf lv4 kb := fun hh => by
              have := Tag.uniq (Mine.tag hK6.recs hh) hK6.row.tag
              cases this
            have hr7 := hK6.row.off ho7 nlb
            have hov : v7.oneCell' = true := by obtain ⟨a9, c9, rfl, -⟩ := hm7.sl; rfl
            rw [fl43_1, st22 hov (hr7.cell (i := 0 + 1) rfl) (hr7.free _)]
            have hof8 : Off (fun x => x = kb) w7 (w7.setCell ⟨kb, 0 + 1, none⟩ v7) := Off.set (p := fun x => x = kb) rfl
            have hr8 := hr7.set 1 v7
            replace hr8 : RowAt (w7.setCell ⟨kb, 0 + 1, none⟩ v7) kb 43 [.pointer (some ⟨b, 0, none⟩), v7, I t.size, .bool false] := hr8
            have hm8 := hm7.apart hof8 (apRow hr7 (by decide))
            rw [w_add, wrap_id (by omega), fl43_2, st3 rfl (hr8.cell (i := 0 + 2) rfl) (hr8.free _), loopK_self]
            have hsz2 : (addT t (s.extract p (p + m))).size = p + m + 32 := by
              show t.size + (recB t.head (s.extract p (p + m))).size = _
              rw [hri.2 hch, ByteArray.size_extract]; omega
            refine ⟨n - (p + m + 32), by omega, addT t (s.extract p (p + m)), j, by rw [hsz2], rfl, by omega, by omega, ?_, ?_, chain_size _ _, ?_, ?_⟩
            · rw [← he, hstep, if_pos ⟨by omega, hri.2 hch⟩]
            · refine ⟨v7, ?_, hkw, hm8.apart (Off.set (p := fun x => x = kb) rfl) (apRow hr8 (by decide))⟩
              rw [hsz2]
              have := hr8.set 2 (I ((p + m + 32 : Nat) : Int))
              exact this
            · show (t.recs ++ [s.extract p (p + m)]).length ≤ _
              rw [List.length_append, hsz2]; simp; omega
            · exact ((hb06.trans hb7).setCell hkw _).setCell hkw _
  all_goals
    rw [condW_false, rw43_2 (hK.row.cell (i := 0 + 2) rfl), w_sub, wrap_id (by omega), show ((n : Int) - (t.size : Int)) = ((n - t.size : Nat) : Int) by omega]
    refine w_zstr0 (by omega) fun w5 hb5 => ?_
    have hK5 : KapR w.heap.size w5 kb b false t lv4 := ⟨hK.row.below hb5, hK.base, hK.recs.below hb5⟩
    have hb05 := hb4.trans (hb5.mono hb4.size)
    have hop := hopS t hld
    refine joinW_use0 (fun w' => RJ B w' b (opJ n D).2.1 ∧ OffG rT B w w' ∧ Below B w w' ∧ KJ w.heap.size w' kb b false t ∧ (opJ n D).1 = 0 ∧ (opJ n D).2.2 = some t) ?_ ?_
    · rintro w' ⟨q1, q2, q3, q4, q5, q6⟩
      refine hk _ _ q1 q2 q3 ?_
      rw [q6]
      exact ⟨q5, kb, rfl, q4⟩
    intro J hJ
    rw [rw43_2 (hK5.row.cell (i := 0 + 2) rfl), w_tailStr (by kernel_rfl) (by omega) (by omega), w_neqStr (by kernel_rfl), Int.toNat_natCast, hsz]
    have hzi := zero_iff hsz ht
    rw [hsl] at hzi
    by_cases hz : ∀ x ∈ D.vis.drop t.size, x = 0
    · rw [if_pos hz] at hop
      rw [decide_eq_true (hzi.2 hz), Bool.not_true, condW_false]
      exact hJ _ ⟨by rw [hop]; exact h.below hb05, OffG.below hb05, hb05.mono hBw, ⟨lv4, hK5⟩, by rw [hop], by rw [hop]⟩
    · rw [if_neg hz] at hop
      rw [decide_eq_false (fun hh => hz (hzi.1 hh)), Bool.not_false, condW_true, rw43_2 (hK5.row.cell (i := 0 + 2) rfl)]
      have hzs := zeroB_size (n - t.size)
      refine c16 (h.below hb05) hc.ok (by omega) (by omega) (Nat.le_trans hBw hb05.size) (fun hh => by rw [hoff] at hh; cases hh) fun _ w6 hR6 ho6 hb6 => ?_
      have hc6 := hc.wr (o := t.size) (s := zeroB (n - t.size)) (by omega)
      have hp6 : (wrD D t.size (zeroB (n - t.size))).pend.length ≤ 100000 := by rw [wr_pend, List.length_append]; simp; omega
      have ho06 := (OffG.below hb05).trans ho6
      have hb06 := (hb05.mono hBw).trans hb6
      have hK6 := KJ.off ⟨lv4, hK5⟩ ho6 (by decide) (by decide)
      have ha2 : ap2 D t.size (zeroB (n - t.size)) = if (wrD D t.size (zeroB (n - t.size))).off = true then (331, wrD D t.size (zeroB (n - t.size))) else (0, syncD (wrD D t.size (zeroB (n - t.size)))) := by
        unfold ap2
        rw [if_neg (by rw [hoff]; simp)]
      generalize wrD D t.size (zeroB (n - t.size)) = D6 at *
      refine joinW_use1 (fun e w' => (D6.off = true ∧ e = I 331 ∧ RJ B w' b D6 ∧ OffG rT B w w' ∧ Below B w w') ∨ (D6.off = false ∧ e = I 0 ∧ RJ B w' b (syncD D6) ∧ OffG rT B w w' ∧ Below B w w' ∧ KJ w.heap.size w' kb b false t)) ?_ ?_
      · rintro _ w' (⟨q0, rfl, q1, q2, q3⟩ | ⟨q0, rfl, q1, q2, q3, q4⟩)
        · rw [w_neq, decide_eq_false (show ¬ ((331 : Int) = 0) by decide), Bool.not_false, condW_true]
          rw [if_pos q0] at ha2
          rw [ha2, if_neg (show ¬ ((331 : Int) = 0) by decide)] at hop
          exact hk _ _ (by rw [hop]; exact q1) q2 q3 (by rw [hop])
        · rw [w_neq]
          simp only [decide_true, Bool.not_true]
          rw [condW_false]
          rw [if_neg (by rw [q0]; simp)] at ha2
          rw [ha2, if_pos rfl] at hop
          exact hJ _ ⟨by rw [hop]; exact q1, q2, q3, q4, by rw [hop], by rw [hop]⟩
      intro J2 hJ2
      rw [w_eql, decide_eq_true rfl, condW_true]
      refine c45 hR6 hc6 hp6 (Nat.le_trans hBw (Nat.le_trans hb05.size ho6.size)) (fun hh => ?_) fun hh w7 hR7 ho7 hb7 => ?_
      · exact hJ2 _ _ (.inl ⟨hh, rfl, hR6, ho06, hb06⟩)
      · exact hJ2 _ _ (.inr ⟨hh, rfl, hR7, ho06.trans ho7, hb06.trans hb7, hK6.off ho7 (by decide) (by decide)⟩))
end
end Go.Proofs.YtbojglaimdjagaaGreatDoor
/- The reference's journal: Room, Append. -/
set_option linter.unusedSimpArgs false
set_option linter.unusedVariables false
set_option maxRecDepth 4000
namespace Go.Proofs.YtbojglaimdjagaaGreatDoor
open Go Go.V Go.RowKit
abbrev kT : List Nat := [67, 5, 100, 43]
theorem OffG.kj {B : Nat} {a b : World} (h : OffG rT B a b) : OffG kT B a b := h.mono (by decide)
theorem OffG.one {ts : List Nat} {B b T : Nat} {w w' : World} {vs : List Value} (h : RowAt w b T vs) (hB : B ≤ b) (hT : T ∈ ts) (ho : Off (fun x => x = b) w w') : OffG ts B w w' :=
  ho.mono fun x _ hx => by subst hx; exact ⟨hB, T, h.tag, hT⟩
theorem grp_snoc (t : TP) (l : List ByteArray) (r : ByteArray) : grpB t (l ++ [r]) = grpB t l ++ recB (l.foldl chainF t.head) r := by
  apply ba_ext
  rw [ba_append]
  show stL t.head (l ++ [r]) = stL t.head l ++ _
  rw [stL_append]
  simp [stL]
section
variable {k : Value → World → Prop} {w : World} {B b kb n : Nat} {D : DK}
theorem c44 {h r : ByteArray} (hh : h.size = 32) (hr : r.size ≤ 65536) (hk : ∀ w', Below w.heap.size w w' → k (.tuple #[.string (recB h r), .string (chainF h r)]) w') : callW Tryz.prog (.func (.func 44) #[] #[]) #[.string h, .string r] k w := C44 _ _ _ _ (by
  unfold S44
  refine c57 (by omega) fun w1 hb1 => ?_
  refine c73 hr fun w2 hb2 => ?_
  have e1 : (lenB r.size ++ r).size = (vb (2 * r.size)).length + r.size := by rw [ByteArray.size_append, lenB_size]
  have e2 := (vb_len (2 * r.size)).2
  have e3 := chain_size h r
  have e4 : ((⟨#[1]⟩ : ByteArray)).size = 1 := rfl
  have e5 : ((⟨#[1]⟩ : ByteArray) ++ (lenB r.size ++ r)).size = 1 + ((vb (2 * r.size)).length + r.size) := by rw [ByteArray.size_append, e1, e4]
  rw [ex0, ex1, w_addStr (by omega), w_addStr (by omega)]
  exact hk _ (below_trans hb1 hb2))
theorem c21 {t : TP} {br : Bool} (h : RJ B w b D) (hd : D.dur.length = n) (hn : n ≤ 1000000) (hK : KJ B w kb b br t) (ht : t.size ≤ 1000000) (hk : ∀ w', Below w.heap.size w w' → k (I ((n : Int) - t.size)) w') : callW Tryz.prog (.func (.func 21) #[] #[]) #[.pointer (some ⟨kb, 0, none⟩)] k w := C21 _ _ _ (by
  unfold S21
  rw [drewW_eq]
  have hb := below_drew w
  obtain ⟨sv, lv, h⟩ := h.below hb
  obtain ⟨kv, hK⟩ := hK.below hb
  generalize w.drew = w1 at *
  simp only [nilT_ptr]
  rw [rt43_0 (hK.row.cell (i := 0) rfl)]
  simp only [nilT_ptr]
  rw [rt67_0 (h.row.cell (i := 0) rfl), tlen39 h.sure.sl, rt43_2 (hK.row.cell (i := 0 + 2) rfl), t_sub, wrap_id (by omega), hd]
  exact hk _ hb)
set_option maxHeartbeats 1000000 in
theorem c12 {lv : Value} {l0 l : List ByteArray} {br : Bool} {B2 : Nat} (h : RJ B w b D) (hc : Coh n D) (hpl : D.pend.length ≤ 1000) (hBw : B ≤ w.heap.size) (hK : KJ B w kb b br (tpOf l0)) (h0 : ∀ r ∈ l0, r.size ≤ 65536) (hl0 : l0.length ≤ 100000) (ht : (tpOf l0).size ≤ n)
    (hl : Mine fT 9 w B2 lv l) (hll : l.length ≤ 100) (hsm : ∀ r ∈ l, r.size ≤ 100)
    (hk : ∀ w', RJ B w' b (apJ n D (tpOf l0) br l).2.1 → KJ B w' kb b (apJ n D (tpOf l0) br l).2.2.2 (apJ n D (tpOf l0) br l).2.2.1 → OffG kT B w w' → Below B w w' → k (I (apJ n D (tpOf l0) br l).1) w') :
    callW Tryz.prog (.func (.func 12) #[] #[]) #[.pointer (some ⟨kb, 0, none⟩), lv] k w := C12 _ _ _ _ (by
  unfold S12
  have hml0 : 1000000000 ≤ maxLen := by decide
  obtain ⟨kv, hK0⟩ := id hK
  have hn2 := hc.ok.n2
  simp only [nilW_ptr]
  rw [rw43_3 (hK0.row.cell (i := 0 + 3) rfl)]
  cases hbr : br with
  | true =>
    subst hbr
    rw [condW_true]
    rw [apJ_broken] at hk
    exact hk _ h hK (OffG.refl _ _ _) (Below.refl _ _)
  | false =>
  subst hbr
  rw [condW_false, rw43_1 (hK0.row.cell (i := 0 + 1) rfl), ]
  have hrec := tpOf_recs l0
  have hrs : IsSl fT w kv l0 := by rw [← hrec]; exact hK0.recs.sl
  have hhead := tpOf_head l0
  refine c43 hrs (by omega) h0 fun w1 hb1 => ?_
  rw [← hhead]
  have hhs : (tpOf l0).head.size = 32 := by rw [hhead]; exact headF_size _ _ rfl
  generalize tpOf l0 = t at *
  have hs65 : ∀ r ∈ l, r.size ≤ 65536 := fun r hr => by have := hsm r hr; omega
  refine Loop3.intro (fun m x y z w' => ∃ i : Nat, z = I i ∧ x = .string (grpB t (l.take i)) ∧ y = .string ((l.take i).foldl chainF t.head) ∧ m = l.length - i ∧ i ≤ l.length ∧ Below w.heap.size w w') _ ⟨0, rfl, rfl, rfl, rfl, Nat.zero_le _, hb1⟩ ?_
  rintro m _ _ _ w2 ⟨i, rfl, rfl, rfl, rfl, hi, hb2⟩
  have hl2 := hl.below hb2
  rw [len22 hl2.sl, w_lss]
  by_cases hlt : i < l.length
  · have hx : l[i]? = some l[i] := List.getElem?_eq_getElem hlt
    have hri := hsm _ (List.getElem_mem hlt)
    have hst := stL_small (l.take i) t.head fun s hs => hsm s (List.mem_of_mem_take hs)
    rw [List.length_take] at hst
    have hmul : min i l.length * 135 ≤ 100 * 135 := Nat.mul_le_mul_right _ (by omega)
    rw [decide_eq_true (by omega), condW_true, getT22 hl2.sl hx, w_lenStr (by kernel_rfl), w_gtr, decide_eq_false (by omega), condW_false, getT22 hl2.sl hx]
    refine c44 (headF_size _ _ hhs) (by omega) fun w3 hb3 => ?_
    have hrz := recB_size ((l.take i).foldl chainF t.head) l[i]
    have hvl := (vb_len (2 * l[i].size)).2
    rw [ex0, ex1, w_addStr (by rw [grpB_size]; omega), w_add, wrap_id (by omega), loopK_self]
    refine ⟨l.length - (i + 1), by omega, i + 1, by simp [I], ?_, ?_, rfl, by omega, hb2.trans (hb3.mono hb2.size)⟩
    · rw [List.take_add_one, hx, Option.toList_some, grp_snoc]
    · rw [List.take_add_one, hx, Option.toList_some, List.foldl_append]; rfl
  rw [decide_eq_false (by omega), condW_false]
  have : i = l.length := by omega
  subst this
  rw [List.take_length]
  have hst := stL_small l t.head hsm
  have hmul : l.length * 135 ≤ 100 * 135 := Nat.mul_le_mul_right _ (by omega)
  have hgz : (grpB t l).size = (stL t.head l).length := grpB_size t l
  rw [w_lenStr (by kernel_rfl)]
  refine c21 (h.below hb2) hc.ok.dur hn2 (hK.below hb2) (by omega) fun w3 hb3 => ?_
  replace hb3 := hb2.trans (hb3.mono hb2.size)
  rw [w_gtr]
  by_cases hfull : n < t.size + (grpB t l).size
  · rw [decide_eq_true (by omega), condW_true]
    rw [apJ_full' hs65 hfull] at hk
    exact hk _ (h.below hb3) (hK.below hb3) (OffG.below hb3) (hb3.mono hBw)
  rw [decide_eq_false (by omega), condW_false, w_eqlStr (by kernel_rfl)]
  by_cases hnil : l = []
  · subst hnil
    rw [decide_eq_true (show grpB t [] = ⟨#[]⟩ from rfl), condW_true]
    rw [apJ_nil ht] at hk
    exact hk _ (h.below hb3) (hK.below hb3) (OffG.below hb3) (hb3.mono hBw)
  have hpos := grpB_pos (t := t) hnil
  rw [decide_eq_false (fun hh => by rw [hh] at hpos; exact absurd hpos (by decide)), condW_false, drewW_eq]
  replace hb3 := hb3.trans ((below_drew w3).mono hb3.size)
  generalize w3.drew = w4 at *
  have hapJ : apJ n D t false l = if (ap4 D (t.size + 1) ((grpB t l).extract 1 (grpB t l).size) t.size ((grpB t l).extract 0 1)).1 = 0 then
    (0, (ap4 D (t.size + 1) ((grpB t l).extract 1 (grpB t l).size) t.size ((grpB t l).extract 0 1)).2, l.foldl addT t, false)
    else ((ap4 D (t.size + 1) ((grpB t l).extract 1 (grpB t l).size) t.size ((grpB t l).extract 0 1)).1, (ap4 D (t.size + 1) ((grpB t l).extract 1 (grpB t l).size) t.size ((grpB t l).extract 0 1)).2, t, true) := by
    unfold apJ
    rw [if_neg (not_long hs65), if_neg hfull, if_neg hnil]
  have hfold := foldl_addT l t
  rw [← hgz] at hfold
  generalize grpB t l = g at *
  obtain ⟨x, hx⟩ : ∃ x, g.extract 1 g.size = x := ⟨_, rfl⟩
  obtain ⟨y, hy⟩ : ∃ y, g.extract 0 1 = y := ⟨_, rfl⟩
  have hxs : x.size = g.size - 1 := by rw [← hx, ByteArray.size_extract]; omega
  have hys : y.size = 1 := by rw [← hy, ByteArray.size_extract]; omega
  rw [hx, hy] at hapJ
  have hc1 := hc.wr (o := t.size + 1) (s := x) (by omega)
  have hp1 : (wrD D (t.size + 1) x).pend.length ≤ 10000 := by rw [wr_pend, List.length_append]; simp; omega
  have hc2 := hc1.sync
  have hc3 := hc2.wr (o := t.size) (s := y) (by omega)
  have hp3 : (wrD (syncD (wrD D (t.size + 1) x)) t.size y).pend.length ≤ 10000 := by rw [wr_pend]; simp [syncD]
  have e4 : ap4 D (t.size + 1) x t.size y = if D.off = true then (331, D) else if (wrD D (t.size + 1) x).off = true then (331, wrD D (t.size + 1) x) else
      if (wrD (syncD (wrD D (t.size + 1) x)) t.size y).off = true then (331, wrD (syncD (wrD D (t.size + 1) x)) t.size y) else (0, syncD (wrD (syncD (wrD D (t.size + 1) x)) t.size y)) := by
    unfold ap4 ap2
    split
    · rfl
    · split
      · rfl
      · next hoff => rw [if_neg (show ¬ (syncD (wrD D (t.size + 1) x)).off = true from hoff)]
  generalize ap4 D (t.size + 1) x t.size y = R at *
  obtain ⟨kvx, hK4⟩ := hK.below hb3
  have hR4 := h.below hb3
  have hBw4 : B ≤ w4.heap.size := Nat.le_trans hBw hb3.size
  have ho : Off (tgP rT B w4) w4 w4 := Off.refl _ _
  have nx : ¬ tgP rT B w4 kb := fun ⟨_, t', q1, q2⟩ => by
    have := Tag.uniq q1 hK4.row.tag
    subst this; revert q2; decide
  refine ⟨Off (tgP rT B w4) w4, ho, ?_⟩
  simp only [nilT_ptr]
  rw [rt43_0 (hK4.row.cell (i := 0) rfl), tfl43_2, r_loadO agg3 known3 (hK4.row.cell (i := 0 + 2) rfl) nx ho, t_add, wrap_id (by omega), t_tailStr (by kernel_rfl) (by omega) (by omega), show ((t.size : Int) + 1) = ((t.size + 1 : Nat) : Int) by omega, show (1 : Int).toNat = 1 from rfl, hx]
  have hKf : ∀ w', OffG rT B w4 w' → KJ B w' kb b false t := fun w' hh => KJ.off ⟨kvx, hK4⟩ hh (by decide) (by decide)
  refine callW_mono (k := fun v w' => (v = I 331 ∧ D.off = true ∧ RJ B w' b D ∨ v = I 0 ∧ D.off = false ∧ RJ B w' b (wrD D (t.size + 1) x)) ∧ OffG rT B w4 w' ∧ Below B w4 w') ?_ ?_
  · exact c16 hR4 hc.ok (by omega) (by omega) hBw4 (fun hoff => ⟨.inl ⟨rfl, hoff, hR4⟩, OffG.refl _ _ _, Below.refl _ _⟩) fun hoff w5 hR5 ho5 hb5 => ⟨.inr ⟨rfl, hoff, hR5⟩, ho5, hb5⟩
  rintro e1 w5 ⟨hcase1, ho5, hb5⟩
  rw [keepS_eq]
  refine ⟨ho5, ?_⟩
  refine joinW_use1 (fun e w' => ((e = I 331 ∧ R.1 = 331 ∧ RJ B w' b R.2) ∨ (e = I 0 ∧ D.off = false ∧ (wrD D (t.size + 1) x).off = false ∧ RJ B w' b (syncD (wrD D (t.size + 1) x)))) ∧ OffG rT B w4 w' ∧ Below B w4 w') ?_ ?_
  case' refine_2 =>
    intro J1 hJ1
    rcases hcase1 with ⟨rfl, hoff, hR5⟩ | ⟨rfl, hoff, hR5⟩
    · rw [if_pos hoff] at e4
      rw [w_eql, decide_eq_false (show ¬ ((331 : Int) = 0) by decide), condW_false]
      exact hJ1 _ _ ⟨.inl ⟨rfl, by rw [e4], by rw [e4]; exact hR5⟩, ho5, hb5⟩
    · rw [if_neg (by rw [hoff]; simp)] at e4
      obtain ⟨kv5, hK5⟩ := hKf _ ho5
      rw [w_eql, decide_eq_true rfl, condW_true, rw43_0 (hK5.row.cell (i := 0) rfl)]
      refine c45 hR5 hc1 (by omega) (Nat.le_trans hBw4 ho5.size) (fun hoff1 => ?_) fun hoff1 w6 hR6 ho6 hb6 => ?_
      · rw [if_pos hoff1] at e4
        exact hJ1 _ _ ⟨.inl ⟨rfl, by rw [e4], by rw [e4]; exact hR5⟩, ho5, hb5⟩
      · exact hJ1 _ _ ⟨.inr ⟨rfl, hoff, hoff1, hR6⟩, ho5.trans ho6, hb5.trans hb6⟩
  clear hcase1 ho5 hb5
  clear e1 w5
  rintro e1 w5 ⟨hcase1, ho5, hb5⟩
  refine joinW_use1 (fun e w' => ((e = I 331 ∧ R.1 = 331 ∧ RJ B w' b R.2) ∨ (e = I 0 ∧ D.off = false ∧ (wrD D (t.size + 1) x).off = false ∧ RJ B w' b (wrD (syncD (wrD D (t.size + 1) x)) t.size y))) ∧ OffG rT B w4 w' ∧ Below B w4 w') ?_ ?_
  case' refine_2 =>
    intro J1 hJ1
    rcases hcase1 with ⟨rfl, q1, hR5⟩ | ⟨rfl, hoff, hoff1, hR5⟩
    · rw [w_eql, decide_eq_false (show ¬ ((331 : Int) = 0) by decide), condW_false]
      exact hJ1 _ _ ⟨.inl ⟨rfl, q1, hR5⟩, ho5, hb5⟩
    · rw [w_eql, decide_eq_true rfl, condW_true, drewW_eq]
      have hbd := below_drew w5
      have ho6 := ho5.trans (OffG.below hbd)
      have hb6 := hb5.trans (hbd.mono (Nat.le_trans hBw4 ho5.size))
      replace hR5 := hR5.below hbd
      generalize w5.drew = w6 at *
      obtain ⟨kv6, hK6⟩ := hKf _ ho6
      try simp only [nilT_ptr]
      rw [rt43_0 (hK6.row.cell (i := 0) rfl), rt43_2 (hK6.row.cell (i := 0 + 2) rfl), t_headStr (by kernel_rfl) (by omega) (by omega), show (1 : Int).toNat = 1 from rfl, hy]
      refine c16 hR5 hc2.ok (by simp [syncD]) (by omega) (Nat.le_trans hBw4 ho6.size) (fun hh => ?_) fun hh w7 hR7 ho7 hb7 => ?_
      · rw [show (syncD (wrD D (t.size + 1) x)).off = (wrD D (t.size + 1) x).off from rfl, hoff1] at hh; cases hh
      · exact hJ1 _ _ ⟨.inr ⟨rfl, hoff, hoff1, hR7⟩, ho6.trans ho7, hb6.trans hb7⟩
  clear hcase1 ho5 hb5
  clear e1 w5
  rintro e1 w5 ⟨hcase1, ho5, hb5⟩
  refine joinW_use1 (fun e w' => ((e = I 331 ∧ R.1 = 331 ∧ RJ B w' b R.2) ∨ (e = I 0 ∧ R.1 = 0 ∧ RJ B w' b R.2)) ∧ OffG rT B w4 w' ∧ Below B w4 w') ?_ ?_
  case' refine_2 =>
    intro J1 hJ1
    rcases hcase1 with ⟨rfl, q1, hR5⟩ | ⟨rfl, hoff, hoff1, hR5⟩
    · rw [w_eql, decide_eq_false (show ¬ ((331 : Int) = 0) by decide), condW_false]
      exact hJ1 _ _ ⟨.inl ⟨rfl, q1, hR5⟩, ho5, hb5⟩
    · rw [if_neg (by rw [hoff]; simp), if_neg (by rw [hoff1]; simp)] at e4
      obtain ⟨kv5, hK5⟩ := hKf _ ho5
      rw [w_eql, decide_eq_true rfl, condW_true, rw43_0 (hK5.row.cell (i := 0) rfl)]
      refine c45 hR5 hc3 (by omega) (Nat.le_trans hBw4 ho5.size) (fun hoff3 => ?_) fun hoff3 w6 hR6 ho6 hb6 => ?_
      · rw [if_pos hoff3] at e4
        exact hJ1 _ _ ⟨.inl ⟨rfl, by rw [e4], by rw [e4]; exact hR5⟩, ho5, hb5⟩
      · rw [if_neg (by rw [hoff3]; simp)] at e4
        exact hJ1 _ _ ⟨.inr ⟨rfl, by rw [e4], by rw [e4]; exact hR6⟩, ho5.trans ho6, hb5.trans hb6⟩
  clear hcase1 ho5 hb5
  clear e1 w5
  rintro _ w5 ⟨⟨rfl, q1, hR5⟩ | ⟨rfl, q1, hR5⟩, ho5, hb5⟩
  · obtain ⟨kv5, hK5⟩ := hKf _ ho5
    rw [w_neq, decide_eq_false (show ¬ ((331 : Int) = 0) by decide), Bool.not_false, condW_true, fl43_3, st4 rfl (hK5.row.cell (i := 0 + 3) rfl) (hK5.row.free _)]
    rw [q1, if_neg (show ¬ ((331 : Int) = 0) by decide)] at hapJ
    have hof : Off (fun x => x = kb) w5 (w5.setCell ⟨kb, 0 + 3, none⟩ (.bool true)) := Off.set (p := fun x => x = kb) rfl
    rw [hapJ] at hk
    refine hk _ (hR5.coff hof ?_) ⟨kv5, hK5.row.set 3 (.bool true), hK5.base, hK5.recs.apart hof (apRow hK5.row (by decide))⟩ (((OffG.below hb3).trans ho5.kj).trans (OffG.one hK5.row hK5.base (by decide) hof)) (((hb3.mono hBw).trans hb5).setCell hK5.base _)
    rintro x' t' g1 g2 g3 rfl
    have := Tag.uniq g1 hK5.row.tag
    subst this; revert g3; decide
  · obtain ⟨kv5, hK5⟩ := hKf _ ho5
    rw [w_neq]
    simp only [decide_true, Bool.not_true]
    rw [condW_false, rw43_1 (hK5.row.cell (i := 0 + 1) rfl)]
    rw [q1, if_pos rfl] at hapJ
    rw [hapJ] at hk
    have hBw5 : B ≤ w5.heap.size := Nat.le_trans hBw4 ho5.size
    have hm5 := hK5.recs
    rw [hrec] at hm5
    have hl5 : Mine fT 9 w5 B2 lv l := ho5.mine (hl.below hb3) (by decide)
    refine w_cat22 (B := w5.heap.size) (Mine.nil _ _) hm5 (Nat.le_refl _) (by simp; omega) fun v6 w6 hm6 hb6 => ?_
    rw [List.nil_append] at hm6
    refine w_cat22 hm6 (hl5.below hb6) hb6.size (by omega) fun v7 w7 hm7 hb7 => ?_
    replace hb7 : Below w5.heap.size w5 w7 := hb6.trans hb7
    have hr7 := hK5.row.below hb7
    have hov : v7.oneCell' = true := by obtain ⟨a9, c9, rfl, -⟩ := hm7.sl; rfl
    rw [fl43_1, st22 hov (hr7.cell (i := 0 + 1) rfl) (hr7.free _)]
    have hof8 : Off (fun x => x = kb) w7 (w7.setCell ⟨kb, 0 + 1, none⟩ v7) := Off.set (p := fun x => x = kb) rfl
    have hr8 := hr7.set 1 v7
    replace hr8 : RowAt (w7.setCell ⟨kb, 0 + 1, none⟩ v7) kb 43 [.pointer (some ⟨b, 0, none⟩), v7, I t.size, .bool false] := hr8
    have hm8 := hm7.apart hof8 (apRow hr7 (by decide))
    have hb8 : Below B w5 (w7.setCell ⟨kb, 0 + 1, none⟩ v7) := (hb7.mono hBw5).setCell hK5.base _
    have hg8 : OffG kT B w5 (w7.setCell ⟨kb, 0 + 1, none⟩ v7) := (OffG.below hb7).trans (OffG.one hr7 hK5.base (by decide) hof8)
    have hR8 : RJ B (w7.setCell ⟨kb, 0 + 1, none⟩ v7) b R.2 := (hR5.below hb7).coff hof8 (by
      rintro x' t' g1 g2 g3 rfl
      have := Tag.uniq g1 hr7.tag
      subst this; revert g3; decide)
    generalize w7.setCell ⟨kb, 0 + 1, none⟩ v7 = w8 at *
    rw [rw43_2 (hr8.cell (i := 0 + 2) rfl), w_lenStr (by kernel_rfl), w_add, wrap_id (by omega), fl43_2, st3 rfl (hr8.cell (i := 0 + 2) rfl) (hr8.free _)]
    have hof9 : Off (fun x => x = kb) w8 (w8.setCell ⟨kb, 0 + 2, none⟩ (I ((t.size : Int) + (g.size : Int)))) := Off.set (p := fun x => x = kb) rfl
    refine hk _ (hR8.coff hof9 ?_) ⟨v7, ?_, hK5.base, ?_⟩ ((((OffG.below hb3).trans ho5.kj).trans hg8).trans (OffG.one hr8 hK5.base (by decide) hof9)) (((hb3.mono hBw).trans (hb5.trans hb8)).setCell hK5.base _)
    · rintro x' t' g1 g2 g3 rfl
      have := Tag.uniq g1 hr8.tag
      subst this; revert g3; decide
    · have e := hr8.set 2 (I ((t.size : Int) + (g.size : Int)))
      rw [hfold.2]
      rw [show (((t.size + g.size : Nat) : Int)) = (t.size : Int) + (g.size : Int) by omega]
      exact e
    · rw [hfold.1, hrec]
      exact (hm8.apart hof9 (apRow hr8 (by decide))).base hBw5)
end
end Go.Proofs.YtbojglaimdjagaaGreatDoor
/- The disk and its reference side by side: frames that do not meet. -/
set_option linter.unusedSimpArgs false
set_option linter.unusedVariables false
set_option maxRecDepth 4000
namespace Go.Proofs.YtbojglaimdjagaaGreatDoor
open Go Go.V Go.RowKit
/-- blocks of the disk and the journal: its bytes lie below B1 -/
def qP (B0 B1 : Nat) (w : World) (x : Nat) : Prop := ∃ t, Tag w x t ∧ B0 ≤ x ∧ (t ∈ [97, 92, 74] ∨ t = 5 ∧ x < B1)
def OffQ (B0 B1 : Nat) (w w' : World) : Prop := Off (qP B0 B1 w) w w'
theorem OffQ.refl (B0 B1 : Nat) (w : World) : OffQ B0 B1 w w := Off.refl _ _
theorem OffQ.row {B0 B1 r T : Nat} {w w' : World} {vs : List Value} (ho : OffQ B0 B1 w w') (h : RowAt w r T vs) (ht : T ∉ [97, 92, 74, 5]) : RowAt w' r T vs :=
  h.off ho fun ⟨t, h1, _, h2⟩ => by
    have := Tag.uniq h1 h.tag
    subst this
    rcases h2 with h2 | ⟨rfl, _⟩
    · exact ht (List.mem_append_left [5] h2)
    · exact ht (by decide)
theorem OffQ.mine {α : Type} {F : Fl α} {B0 B1 B' e : Nat} {w w' : World} {v : Value} {l : List α} (ho : OffQ B0 B1 w w') (h : Mine F e w B' v l) (ht : e ∉ [97, 92, 74, 5]) : Mine F e w' B' v l :=
  Go.V.Mine.off h ho fun x hx ⟨t, h1, _, h2⟩ => by
    have := Tag.uniq h1 (Mine.tag h hx)
    subst this
    rcases h2 with h2 | ⟨rfl, _⟩
    · exact ht (List.mem_append_left [5] h2)
    · exact ht (by decide)
/-- the disk; its bytes lie below B1 -/
def DQ (B0 B1 : Nat) (w : World) (b : Nat) (D : DK) : Prop := ∃ dv vv, DJ B0 w b D dv vv ∧ ∀ x, isOf dv x ∨ isOf vv x → x < B1
theorem DQ.below {B0 B1 b : Nat} {w w' : World} {D : DK} (h : DQ B0 B1 w b D) (hb : Below w.heap.size w w') : DQ B0 B1 w' b D := by
  obtain ⟨dv, vv, h, h2⟩ := h; exact ⟨dv, vv, h.below hb, h2⟩
theorem offQ_disk {B0 B1 b : Nat} {w w' : World} {D : DK} {dv vv pv : Value} (hd : DiskR B0 w b D dv vv pv) (h2 : ∀ x, isOf dv x ∨ isOf vv x → x < B1) (ho : Off (dBl b dv vv pv) w w') : OffQ B0 B1 w w' :=
  ho.mono fun x _ hx => by
    have hl := (hd.lt hx).1
    rcases hx with rfl | hx | hx | hx
    · exact ⟨97, hd.row.tag, hl, .inl (by decide)⟩
    · exact ⟨5, Mine.tag hd.dur hx, hl, .inr ⟨rfl, h2 x (.inl hx)⟩⟩
    · exact ⟨5, Mine.tag hd.vis hx, hl, .inr ⟨rfl, h2 x (.inr hx)⟩⟩
    · exact ⟨92, Mine.tag hd.pend hx, hl, .inl (by decide)⟩
theorem offQ_jour {B0 B1 b jb : Nat} {w w' : World} {D : DK} {dv vv pv rv : Value} {rest : List Value} {t : TP} (hd : DiskR B0 w b D dv vv pv) (h2 : ∀ x, isOf dv x ∨ isOf vv x → x < B1) (hj : TapeR B0 w jb 74 rest rv t) (ho : Off (fun x => dBl b dv vv pv x ∨ x = jb) w w') : OffQ B0 B1 w w' :=
  ho.mono fun x _ hx => by
    rcases hx with hx | rfl
    · have hl := (hd.lt hx).1
      rcases hx with rfl | hx | hx | hx
      · exact ⟨97, hd.row.tag, hl, .inl (by decide)⟩
      · exact ⟨5, Mine.tag hd.dur hx, hl, .inr ⟨rfl, h2 x (.inl hx)⟩⟩
      · exact ⟨5, Mine.tag hd.vis hx, hl, .inr ⟨rfl, h2 x (.inr hx)⟩⟩
      · exact ⟨92, Mine.tag hd.pend hx, hl, .inl (by decide)⟩
    · exact ⟨74, hj.row.tag, hj.base, .inl (by decide)⟩
/-- what the reference changes is not the disk's -/
theorem DQ.ref {B0 B1 b : Nat} {w w' : World} {D : DK} (h : DQ B0 B1 w b D) {ts : List Nat} (ho : OffG ts B1 w w') (h1 : 97 ∉ ts) (h3 : 92 ∉ ts) : DQ B0 B1 w' b D := by
  obtain ⟨dv, vv, ⟨pv, h⟩, h2⟩ := h
  refine ⟨dv, vv, ⟨pv, h.off ho ?_⟩, h2⟩
  rintro x hx ⟨hB, t, q1, q2⟩
  rcases hx with rfl | hx | hx | hx
  · exact h1 (Tag.uniq q1 h.row.tag ▸ q2)
  · have := h2 x (.inl hx); omega
  · have := h2 x (.inr hx); omega
  · exact h3 (Tag.uniq q1 (Mine.tag h.pend hx) ▸ q2)
theorem TJ.ref {B0 b jb : Nat} {w w' : World} {br : Bool} {t : TP} (h : TJ B0 w jb b br t) {ts : List Nat} {B1 : Nat} (ho : OffG ts B1 w w') (h1 : 74 ∉ ts) (h2 : 9 ∉ ts) : TJ B0 w' jb b br t := by
  obtain ⟨rv, h⟩ := h
  exact ⟨rv, ho.row h.row h1, h.base, h.ne, ho.mine h.recs h2⟩
theorem RJ.q {B0 B1 b : Nat} {w w' : World} {D : DK} (h : RJ B1 w b D) (ho : OffQ B0 B1 w w') : RJ B1 w' b D :=
  h.coff ho fun x t h1 h2 h3 ⟨t', q1, _, q2⟩ => by
    have := Tag.uniq q1 h1
    subst this
    rcases q2 with q2 | ⟨_, q2⟩
    · revert q2 h3
      simp [rT]
      omega
    · omega
theorem KJ.q {B0 B1 b kb : Nat} {w w' : World} {br : Bool} {t : TP} (h : KJ B1 w kb b br t) (ho : OffQ B0 B1 w w') : KJ B1 w' kb b br t := by
  obtain ⟨lv, h⟩ := h
  exact ⟨lv, ho.row h.row (by decide), h.base, ho.mine h.recs (by decide)⟩
theorem TJ.q {B0 b jb : Nat} {w w' : World} {br : Bool} {t : TP} (h : TJ B0 w jb b br t) {D : DK} {dv vv pv : Value} (hd : DiskR B0 w b D dv vv pv) (ho : Off (dBl b dv vv pv) w w') : TJ B0 w' jb b br t :=
  h.off (offG_disk hd ho)
section
variable {k : Value → World → Prop} {w : World} {B0 B1 b jb n : Nat} {D : DK}
theorem c25q (hg : Gl w) (hBw : B0 ≤ w.heap.size) (hd : DQ B0 B1 w b D) (hok : DOk n D) (hpl : D.pend.length ≤ 100000)
    (hk : ∀ w' r, DQ B0 B1 w' b (opJ n D).2.1 → OffQ B0 B1 w w' → Below B0 w w' → (match (opJ n D).2.2 with
      | none => r = .tuple #[.pointer none, I (opJ n D).1] ∧ (opJ n D).1 ≠ 0
      | some t => (opJ n D).1 = 0 ∧ TOk n t ∧ ∃ jb, r = .tuple #[.pointer (some ⟨jb, 0, none⟩), I 0] ∧ TJ w.heap.size w' jb b false t) → k r w') :
    callW Tryz.prog (.func (.func 25) #[] #[]) #[.pointer (some ⟨b, 0, none⟩)] k w := by
  obtain ⟨dv, vv, ⟨pv, hd⟩, h2⟩ := hd
  refine c25 hg hBw hd hok hpl fun w' r ⟨pv', h', ho, hb, _⟩ hm => hk w' r ⟨dv, vv, ⟨pv', h'⟩, h2⟩ (offQ_disk hd h2 ho) hb ?_
  cases ho : (opJ n D).2.2 with
  | none => rw [ho] at hm; exact hm
  | some t =>
    rw [ho] at hm
    obtain ⟨h1, h2, jb, rv, h3, h4⟩ := hm
    exact ⟨h1, h2, jb, h3, rv, h4⟩
theorem c10q {lv : Value} {t : TP} {br : Bool} {l : List ByteArray} (hg : Gl w) (hB : 3 < B0) (hBw : B0 ≤ w.heap.size) (hd : DQ B0 B1 w b D) (hok : DOk n D) (hpl : D.pend.length ≤ 100000)
    (hj : TJ B0 w jb b br t) (ht : TOk n t) (hl : IsSl fT w lv l) (hll : l.length ≤ 100)
    (hk : ∀ w', DQ B0 B1 w' b (apJ n D t br l).2.1 → TJ B0 w' jb b (apJ n D t br l).2.2.2 (apJ n D t br l).2.2.1 → OffQ B0 B1 w w' → Below B0 w w' → k (I (apJ n D t br l).1) w') : callW Tryz.prog (.func (.func 10) #[] #[]) #[.pointer (some ⟨jb, 0, none⟩), lv] k w := by
  obtain ⟨dv, vv, ⟨pv, hd⟩, h2⟩ := hd
  obtain ⟨rv, hj⟩ := hj
  refine c10 hg hB hBw hd hok hpl hj ht hl hll fun w' ⟨pv', rv', h1, h3, h4, h5, _, _⟩ => ?_
  exact hk w' ⟨dv, vv, ⟨pv', h1⟩, h2⟩ ⟨rv', h3⟩ (offQ_jour hd h2 hj h4) h5
theorem c22q (hd : DQ B0 B1 w b D) (hok : DOk n D) (hon : D.off = false) (hk : k (.string ⟨D.vis.toArray⟩) w) : callW Tryz.prog (.func (.func 22) #[] #[]) #[.pointer (some ⟨b, 0, none⟩)] k w := by
  obtain ⟨dv, vv, hd, _⟩ := hd
  exact c22d hd hok hon hk
theorem c32q (hd : DQ B0 B1 w b D) (hk : k (I D.pend.length) w) : callW Tryz.prog (.func (.func 32) #[] #[]) #[.pointer (some ⟨b, 0, none⟩)] k w := by
  obtain ⟨dv, vv, hd, _⟩ := hd
  exact c32d hd hk
theorem c20q {t : TP} {br : Bool} (hd : DQ B0 B1 w b D) (hok : DOk n D) (h : TJ B0 w jb b br t) (hs : t.size ≤ 1000000) (hk : ∀ w', Below w.heap.size w w' → k (I ((n : Int) - t.size)) w') : callW Tryz.prog (.func (.func 20) #[] #[]) #[.pointer (some ⟨jb, 0, none⟩)] k w := by
  obtain ⟨dv, vv, hd, _⟩ := hd
  exact c20d hd hok h hs hk
theorem c29q {c : Int} (hd : DQ B0 B1 w b D) (hn : 0 ≤ c) (hk0 : D.off = true → k (I 331) w)
    (hk : D.off = false → ∀ w', DQ B0 B1 w' b (cutD D c) → (∀ jb br t, TJ B0 w jb b br t → TJ B0 w' jb b br t) → OffQ B0 B1 w w' → Below B0 w w' → k (I 0) w') : callW Tryz.prog (.func (.func 29) #[] #[]) #[.pointer (some ⟨b, 0, none⟩), I c] k w := by
  obtain ⟨dv, vv, ⟨pv, hd⟩, h2⟩ := hd
  exact c29 hd hn hk0 fun h w' h1 h3 h4 => hk h w' ⟨dv, vv, ⟨pv, h1⟩, h2⟩ (fun jb br t h => h.q hd (h3.mono fun x _ hx => .inl hx)) (offQ_disk hd h2 (h3.mono fun x _ hx => .inl hx)) h4
theorem c30q {kv : Value} {keep : List Int} {torn : Int} (hBw : B0 ≤ w.heap.size) (hd : DQ B0 B1 w b D) (hok : DOk n D) (hpo : PdOk n D.pend) (hpl : D.pend.length ≤ 100000) (hkeep : IsSl fI w kv keep) (hkl : keep.length ≤ 1000) (htorn : in64 torn)
    (hk : ∀ w', DQ B0 B1 w' b (crD D keep torn) → OffQ B0 B1 w w' → Below B0 w w' → k (I 0) w') : callW Tryz.prog (.func (.func 30) #[] #[]) #[.pointer (some ⟨b, 0, none⟩), kv, I torn] k w := by
  obtain ⟨dv, vv, ⟨pv, hd⟩, h2⟩ := hd
  exact c30 hd hok hpo hpl hBw (fun w' hb => hkeep.below hb) hkl htorn fun w' pv' h1 h3 h4 _ => hk w' ⟨dv, vv, ⟨pv', h1⟩, h2⟩ (offQ_disk hd h2 h3) h4
end
/-- a tape that was read, or appended to -/
def TpOk (n : Nat) (t : TP) : Prop := ∃ l, t = tpOf l ∧ (∀ r ∈ l, r.size ≤ 65536) ∧ t.size ≤ n
theorem TpOk.tok {n : Nat} {t : TP} (h : TpOk n t) : TOk n t := by
  obtain ⟨l, rfl, _, h⟩ := h; exact tpOf_ok l h
theorem op_tape {n : Nat} {D : DK} {t : TP} (hok : DOk n D) (ht : TOk n t) (h : (opJ n D).2.2 = some t) : TpOk n t := by
  unfold opJ at h
  split at h
  · cases h
  · split at h
    · cases h
    · next t' hl =>
      obtain ⟨l, h1, h2⟩ := ldF_more _ _ _ _ hl
      have : t' = t := by
        split at h
        · cases h; rfl
        · split at h <;> cases h
          rfl
      subst this
      exact ⟨l, h1, h2, ht.size⟩
theorem ap_tape {n : Nat} {D : DK} {t : TP} {br : Bool} {l : List ByteArray} (h : TpOk n t) (hs : ∀ r ∈ l, r.size ≤ 65536) : TpOk n (apJ n D t br l).2.2.1 := by
  have hT := h
  unfold apJ
  split
  · exact hT
  · split
    · exact hT
    · next hf =>
      split
      · exact hT
      · split
        · obtain ⟨l0, rfl, h1, h2⟩ := h
          refine ⟨l0 ++ l, (tpOf_append _ _).symm, fun r hr => (List.mem_append.1 hr).elim (h1 r) (hs r), ?_⟩
          show (l.foldl addT (tpOf l0)).size ≤ n
          rw [(foldl_addT l (tpOf l0)).2, ← grpB_size]
          omega
        · exact hT
theorem coh_ap2 {n : Nat} {D : DK} (h : Coh n D) {o : Nat} {s : ByteArray} (ho : o + s.size ≤ n) : Coh n (ap2 D o s).2 ∧ (ap2 D o s).2.pend.length ≤ D.pend.length + 1 := by
  have h1 := h.wr ho
  unfold ap2
  split
  · exact ⟨h, by simp⟩
  · split
    · exact ⟨h1, by show (wrD D o s).pend.length ≤ _; rw [wr_pend, List.length_append]; simp⟩
    · exact ⟨h1.sync, by simp [syncD]⟩
theorem coh_op {n : Nat} {D : DK} (h : Coh n D) : Coh n (opJ n D).2.1 ∧ (opJ n D).2.1.pend.length ≤ D.pend.length + 1 := by
  unfold opJ
  split
  · exact ⟨h, by simp⟩
  · split
    · exact ⟨h, by simp⟩
    · next t hl =>
      have hts : n < t.size ∨ t.size ≤ n := Nat.lt_or_ge _ _
      split
      · exact ⟨h, by simp⟩
      · next hz =>
        have hsz : t.size ≤ n := by
          rcases hts.symm with h1 | h1
          · exact h1
          · exfalso; apply hz
            intro x hx
            rw [List.drop_of_length_le (by rw [h.ok.vis]; omega)] at hx
            cases hx
        have := coh_ap2 h (o := t.size) (s := zeroB (n - t.size)) (by rw [zeroB_size]; omega)
        split
        · exact this
        · exact this
theorem coh_ap {n : Nat} {D : DK} {t : TP} {br : Bool} {l : List ByteArray} (h : Coh n D) : Coh n (apJ n D t br l).2.1 ∧ (apJ n D t br l).2.1.pend.length ≤ D.pend.length + 1 := by
  unfold apJ
  split
  · exact ⟨h, by simp⟩
  · split
    · exact ⟨h, by simp⟩
    · next hf =>
      split
      · exact ⟨h, by simp⟩
      · next hl =>
        have hp := grpB_pos (t := t) hl
        have s1 : ((grpB t l).extract 1 (grpB t l).size).size = (grpB t l).size - 1 := by rw [ByteArray.size_extract]; omega
        have s2 : ((grpB t l).extract 0 1).size = 1 := by rw [ByteArray.size_extract]; omega
        have key : Coh n (ap4 D (t.size + 1) ((grpB t l).extract 1 (grpB t l).size) t.size ((grpB t l).extract 0 1)).2 ∧ (ap4 D (t.size + 1) ((grpB t l).extract 1 (grpB t l).size) t.size ((grpB t l).extract 0 1)).2.pend.length ≤ D.pend.length + 1 := by
          have h1 := h.wr (o := t.size + 1) (s := (grpB t l).extract 1 (grpB t l).size) (by omega)
          unfold ap4
          split
          · exact ⟨h, by simp⟩
          · split
            · exact ⟨h1, by show (wrD D _ _).pend.length ≤ _; rw [wr_pend, List.length_append]; simp⟩
            · obtain ⟨a, b⟩ := coh_ap2 h1.sync (o := t.size) (s := (grpB t l).extract 0 1) (by omega)
              exact ⟨a, by refine Nat.le_trans b ?_; simp [syncD]⟩
        split
        · exact key
        · exact key
end Go.Proofs.YtbojglaimdjagaaGreatDoor
/- Both journals: open, begin. -/
set_option linter.unusedSimpArgs false
set_option linter.unusedVariables false
set_option maxRecDepth 4000
namespace Go.Proofs.YtbojglaimdjagaaGreatDoor
open Go Go.V Go.RowKit
theorem RJ.g {B B' b : Nat} {w w' : World} {D : DK} (h : RJ B w b D) {ts : List Nat} (ho : OffG ts B' w w') (h1 : 67 ∉ ts) (h2 : 5 ∉ ts) (h3 : 100 ∉ ts) : RJ B w' b D :=
  h.coff ho fun x t q1 q2 q3 ⟨_, t', r1, r2⟩ => by
    have := Tag.uniq q1 r1
    subst this
    simp only [rT, List.mem_cons, List.not_mem_nil, or_false] at q3
    rcases q3 with rfl | rfl | rfl
    · exact h1 r2
    · exact h2 r2
    · exact h3 r2
/-- both disks -/
structure PW (B0 B1 n : Nat) (w : World) (wb b rb : Nat) (D : DK) (jv kv : Value) : Prop where
  row : RowAt w wb 32 [.pointer (some ⟨b, 0, none⟩), jv, .pointer (some ⟨rb, 0, none⟩), kv]
  base : B1 ≤ wb
  dq : DQ B0 B1 w b D
  rj : RJ B1 w rb D
  coh : Coh n D
/-- both journals -/
def JP (B0 B1 n : Nat) (w : World) (b rb : Nat) (jv kv : Value) : Option (TP × Bool) → Prop
  | none => jv = .pointer none ∧ kv = .pointer none
  | some (t, br) => ∃ jb kb, jv = .pointer (some ⟨jb, 0, none⟩) ∧ kv = .pointer (some ⟨kb, 0, none⟩) ∧ TJ B0 w jb b br t ∧ KJ B1 w kb rb br t ∧ TpOk n t
theorem JP.below {B0 B1 n b rb : Nat} {w w' : World} {jv kv : Value} {o : Option (TP × Bool)} (h : JP B0 B1 n w b rb jv kv o) (hb : Below w.heap.size w w') : JP B0 B1 n w' b rb jv kv o := by
  match o, h with
  | none, h => exact h
  | some (t, br), ⟨jb, kb, h1, h2, h3, h4, h5⟩ => exact ⟨jb, kb, h1, h2, h3.below hb, h4.below hb, h5⟩
theorem PW.below {B0 B1 n wb b rb : Nat} {w w' : World} {D : DK} {jv kv : Value} (h : PW B0 B1 n w wb b rb D jv kv) (hb : Below w.heap.size w w') : PW B0 B1 n w' wb b rb D jv kv := ⟨h.row.below hb, h.base, h.dq.below hb, h.rj.below hb, h.coh⟩
section
variable {k : Value → World → Prop} {w : World} {B0 B1 n wb b rb : Nat} {D : DK} {jv kv : Value}
theorem w_eqlB {t : TypeId} {ox oy : Operand} {a b : Bool} (h : Tryz.prog.underlying t = some .bool) : opW Tryz.prog (binS .eql t ox oy (.bool a) (.bool b)) k w = k (.bool (decide (a = b))) w := opW_ok (by
  have hd : Op.maxDepth = 9999 + 1 := rfl
  have h1 : (Op.equal t (.bool a) (.bool b)).run Tryz.prog w = .ok (decide (a = b)) w := by
    unfold Op.equal
    rw [hd]
    unfold Op.equalIn
    rw [Sem.run_bind, run_underlying h]
    cases a <;> cases b <;> rfl
  simp [binS, eqGuard, binOp, h1, Sem.run_bind, Result.andThen])
set_option maxHeartbeats 1000000 in
theorem c17 (hg : Gl w) (hB0 : 3 < B0) (h01 : B0 ≤ B1) (hBw : B1 ≤ w.heap.size) (h : PW B0 B1 n w wb b rb D jv kv) (hpl : D.pend.length ≤ 1000)
    (hk : ∀ w' jv' kv', PW B0 B1 n w' wb b rb (opJ n D).2.1 jv' kv' → JP B0 B1 n w' b rb jv' kv' ((opJ n D).2.2.map fun t => (t, false)) → Below B0 w w' → k (.bool true) w') : callW Tryz.prog (.func (.func 17) #[] #[]) #[.pointer (some ⟨wb, 0, none⟩)] k w := C17 _ _ _ (by
  unfold S17
  have hBw0 := Nat.le_trans h01 hBw
  simp only [nilW_ptr]
  rw [rw32_0 (h.row.cell (i := 0) rfl)]
  refine c25q hg hBw0 h.dq h.coh.ok (by omega) fun w1 r1 hd1 ho1 hb1 hm1 => ?_
  have hr1 := ho1.row h.row (by decide)
  have hR1 := h.rj.q ho1
  obtain ⟨hc', hp'⟩ := coh_op h.coh
  have fin : ∀ w3 jv' kv' o, RowAt w3 wb 32 [.pointer (some ⟨b, 0, none⟩), jv, .pointer (some ⟨rb, 0, none⟩), kv] → DQ B0 B1 w3 b (opJ n D).2.1 → RJ B1 w3 rb (opJ n D).2.1 → JP B0 B1 n w3 b rb jv' kv' o → Below B0 w w3 → jv'.oneCell' = true → kv'.oneCell' = true →
      ∀ K : World → Prop, (∀ w', PW B0 B1 n w' wb b rb (opJ n D).2.1 jv' kv' → JP B0 B1 n w' b rb jv' kv' o → Below B0 w w' → K w') →
      opW Tryz.prog (Instr.fieldAt 32 (.pointer (some ⟨wb, 0, none⟩)) 1) (fun p w => opU Tryz.prog (Instr.storeAt 28 p jv') (fun _ w => opW Tryz.prog (Instr.fieldAt 32 (.pointer (some ⟨wb, 0, none⟩)) 3) (fun p w => opU Tryz.prog (Instr.storeAt 30 p kv') (fun _ w => K w) w) w) w) w3 := fun w3 jv' kv' o g1 g2 g3 g4 g5 g6 g7 K hK => by
    rw [fl32_1, st28 g6 (g1.cell (i := 0 + 1) rfl) (g1.free _)]
    have hof4 : OffG [32] B1 w3 (w3.setCell ⟨wb, 0 + 1, none⟩ jv') := OffG.one g1 h.base (by decide) (Off.set (p := fun x => x = wb) rfl)
    have hr4 := g1.set 1 jv'
    replace hr4 : RowAt (w3.setCell ⟨wb, 0 + 1, none⟩ jv') wb 32 [.pointer (some ⟨b, 0, none⟩), jv', .pointer (some ⟨rb, 0, none⟩), kv] := hr4
    have hb4 : Below B0 w (w3.setCell ⟨wb, 0 + 1, none⟩ jv') := g5.setCell (Nat.le_trans h01 h.base) _
    rw [fl32_3, st30 g7 (hr4.cell (i := 0 + 3) rfl) (hr4.free _)]
    have hof5 : OffG [32] B1 (w3.setCell ⟨wb, 0 + 1, none⟩ jv') ((w3.setCell ⟨wb, 0 + 1, none⟩ jv').setCell ⟨wb, 0 + 3, none⟩ kv') := OffG.one hr4 h.base (by decide) (Off.set (p := fun x => x = wb) rfl)
    have hr5 := hr4.set 3 kv'
    have ho := hof4.trans hof5
    refine hK _ ⟨hr5, h.base, g2.ref ho (by decide) (by decide), g3.g ho (by decide) (by decide) (by decide), hc'⟩ ?_ (hb4.setCell (Nat.le_trans h01 h.base) _)
    match o, g4 with
    | none, q => exact q
    | some (t, br), ⟨jb, kb, q1, q2, q3, q4, q5⟩ => exact ⟨jb, kb, q1, q2, q3.ref ho (by decide) (by decide), q4.off ho (by decide) (by decide), q5⟩
  cases hop : (opJ n D).2.2 with
  | none =>
    rw [hop] at hm1
    obtain ⟨rfl, hne⟩ := hm1
    rw [ex0, ex1, rw32_2 (hr1.cell (i := 0 + 2) rfl)]
    refine c50 hR1 h.coh hpl (Nat.le_trans hBw ho1.size) fun w2 r2 hR2 ho2 hb2 hm2 => ?_
    rw [hop] at hm2
    subst hm2
    rw [ex0, ex1]
    refine fin w2 (.pointer none) (.pointer none) none (ho2.row hr1 (by decide)) (hd1.ref ho2 (by decide) (by decide)) hR2 ⟨rfl, rfl⟩ (hb1.trans (hb2.mono h01)) rfl rfl _ fun w3 g1 g2 g3 => ?_
    rw [w_eql, decide_eq_true rfl]
    simp only [guardW_tt, pickW_true]
    rw [w_neq, decide_eq_false hne, eqP28n]
    simp only [guardW_tt, pickW_true, Bool.not_false]
    rw [w_eqlB (by kernel_rfl)]
    exact hk _ _ _ g1 (by rw [hop]; exact g2) g3
  | some t =>
    rw [hop] at hm1
    obtain ⟨h0, htok, jb, rfl, hj1⟩ := hm1
    rw [ex0, ex1, rw32_2 (hr1.cell (i := 0 + 2) rfl)]
    refine c50 hR1 h.coh hpl (Nat.le_trans hBw ho1.size) fun w2 r2 hR2 ho2 hb2 hm2 => ?_
    rw [hop] at hm2
    obtain ⟨_, kb, rfl, hk2⟩ := hm2
    rw [ex0, ex1]
    refine fin w2 (.pointer (some ⟨jb, 0, none⟩)) (.pointer (some ⟨kb, 0, none⟩)) (some (t, false)) (ho2.row hr1 (by decide)) (hd1.ref ho2 (by decide) (by decide)) hR2 ⟨jb, kb, rfl, rfl, (hj1.lower hBw0).ref ho2 (by decide) (by decide), hk2.lower (Nat.le_trans hBw ho1.size), op_tape h.coh.ok htok hop⟩ (hb1.trans (hb2.mono h01)) rfl rfl _ fun w3 g1 g2 g3 => ?_
    rw [w_eql, decide_eq_true rfl]
    simp only [guardW_tt, pickW_true]
    rw [w_neq, decide_eq_true rfl, eqP28]
    simp only [guardW_tt, pickW_true, Bool.not_true]
    rw [w_eqlB (by kernel_rfl)]
    exact hk _ _ _ g1 (by rw [hop]; exact g2) g3)
theorem b32 {a1 a2 : Addr} : opW Tryz.prog (Instr.build 32 #[(0, .pointer (some a1)), (2, .pointer (some a2))]) k w = k (.agg ([.pointer (some a1), .pointer none, .pointer (some a2), .pointer none] : List Value).toArray) w := opW_ok (by kernel_rfl)
theorem c9b {m : Int} (hg : Gl w) (hm : in64 m) (hB0 : 3 < B0) (hBw : B0 ≤ w.heap.size)
    (hk : ∀ w' wb b rb B1 jv kv, B0 ≤ B1 → B1 ≤ w'.heap.size → PW B0 B1 (szN m) w' wb b rb (newD (szN m)) jv kv → JP B0 B1 (szN m) w' b rb jv kv (some (tpOf [], false)) → Below B0 w w' → k (.tuple #[.pointer (some ⟨wb, 0, none⟩), .bool true]) w') : callW Tryz.prog (.func (.func 9) #[] #[]) #[I m] k w := C9 _ _ _ (by
  unfold S9
  obtain ⟨z1, z2, z3⟩ := szN_in (n := m)
  refine c15 hm ?_
  refine c24d (n := szN m) z1 (by omega) fun b dv vv w1 hb1 hd1 => ?_
  rw [ex0, ex1]
  refine c15 hm ?_
  have hs1 := hb1.size
  obtain ⟨pv, hdd⟩ := id hd1
  have hq1 : DQ B0 w1.heap.size w1 b (newD (szN m)) := ⟨dv, vv, ⟨pv, hdd.lower hBw⟩, fun x hx => by
    rcases hx with hx | hx
    · exact (hdd.lt (.inr (.inl hx))).2
    · exact (hdd.lt (.inr (.inr (.inl hx)))).2⟩
  refine c33 (n := szN m) z1 (by omega) fun rb w2 hb2 hr2 => ?_
  rw [ex0, ex1, b32]
  refine w_boxN fun w3 hb3 _ hr3 => ?_
  have hG := gd_open (gd_new (n := szN m) z1 (by omega))
  have hb13 := below_trans hb2 hb3
  have hb03 : Below B0 w w3 := (hb1.mono hBw).trans (hb13.mono (Nat.le_trans hBw hs1))
  have hPW : PW B0 w1.heap.size (szN m) w3 w2.heap.size b rb (newD (szN m)) (.pointer none) (.pointer none) := ⟨hr3, hb2.size, hq1.below hb13, hr2.below hb3, Coh.new z1 (by omega)⟩
  refine c17 (hg.below hb03 hB0) hB0 (Nat.le_trans hBw hs1) hb13.size hPW (by simp [newD]) fun w4 jv kv hp4 hj4 hb4 => ?_
  rw [hG] at hp4 hj4
  exact hk _ _ _ _ _ _ _ (Nat.le_trans hBw hs1) (Nat.le_trans hb13.size hb4.size) hp4 hj4 (hb03.trans hb4))
end
end Go.Proofs.YtbojglaimdjagaaGreatDoor
/- The walk of JournalOpensAnything. -/
set_option linter.unusedSimpArgs false
set_option linter.unusedVariables false
set_option maxRecDepth 4000
namespace Go.Proofs.YtbojglaimdjagaaGreatDoor
open Go Go.V Go.RowKit
abbrev uT : List Nat := [97, 92, 74, 5, 67, 100, 43]
theorem OffQ.u {B0 B1 : Nat} {w w' : World} (h : OffQ B0 B1 w w') : OffG uT B0 w w' := Off.mono h fun x _ ⟨t, h1, h2, h3⟩ => ⟨h2, t, h1, by
  rcases h3 with h3 | ⟨rfl, _⟩
  · simp only [List.mem_cons, List.not_mem_nil, or_false] at h3 ⊢
    omega
  · decide⟩
theorem OffG.u {ts : List Nat} {B0 B1 : Nat} {w w' : World} (h : OffG ts B1 w w') (hB : B0 ≤ B1) (hs : ∀ t ∈ ts, t ∈ uT) : OffG uT B0 w w' := Off.mono h fun x _ ⟨h1, t, h2, h3⟩ => ⟨Nat.le_trans hB h1, t, h2, hs t h3⟩
section
variable {k : Value → World → Prop} {w : World} {K : Value → Prop} {S : World → Prop}
end
end Go.Proofs.YtbojglaimdjagaaGreatDoor
/- Which pending writes survive: plain. -/
set_option linter.unusedSimpArgs false
set_option linter.unusedVariables false
set_option maxRecDepth 4000
namespace Go.Proofs.YtbojglaimdjagaaGreatDoor
open Go Go.V Go.RowKit
theorem sorted_ext : ∀ (a b : List Int), a.Pairwise (· < ·) → b.Pairwise (· < ·) → (∀ x, x ∈ a ↔ x ∈ b) → a = b
  | [], [], _, _, _ => rfl
  | [], y :: b, _, _, h => by have := (h y).2 (by simp); cases this
  | x :: a, [], _, _, h => by have := (h x).1 (by simp); cases this
  | x :: a, y :: b, ha, hb, h => by
    rw [List.pairwise_cons] at ha hb
    have hxy : x = y := by
      have h1 := (h x).1 (by simp)
      have h2 := (h y).2 (by simp)
      rcases List.mem_cons.1 h1 with h1 | h1
      · exact h1
      · rcases List.mem_cons.1 h2 with h2 | h2
        · exact h2.symm
        · have := hb.1 x h1
          have := ha.1 y h2
          omega
    subst hxy
    congr 1
    refine sorted_ext a b ha.2 hb.2 fun z => ⟨fun hz => ?_, fun hz => ?_⟩
    · have h1 := ha.1 z hz
      rcases List.mem_cons.1 ((h z).1 (List.mem_cons_of_mem _ hz)) with h2 | h2
      · omega
      · exact h2
    · have h1 := hb.1 z hz
      rcases List.mem_cons.1 ((h z).2 (List.mem_cons_of_mem _ hz)) with h2 | h2
      · omega
      · exact h2
theorem compactUp_ok (zs : List Int) (hs : zs.Pairwise (· ≤ ·)) : ∀ m, m ≤ zs.length → (Lib.compactUpTo zs.toArray m).Pairwise (· < ·) ∧ ∀ x, x ∈ Lib.compactUpTo zs.toArray m ↔ x ∈ zs.take m
  | 0, _ => by simp [Lib.compactUpTo]
  | m + 1, hm => by
    obtain ⟨h1, h2⟩ := compactUp_ok zs hs m (by omega)
    have hg : ∀ j (hj : j < zs.length), zs.toArray[j]! = zs[j] := fun j hj => by simp [hj]
    have hx : zs[m]? = some zs[m] := List.getElem?_eq_getElem (by omega)
    rw [Lib.compactUpTo_succ, hg m (by omega)]
    have hle : ∀ (i j : Nat) (hi : i < zs.length) (hj : j < zs.length), i < j → zs[i] ≤ zs[j] := fun i j hi hj hij => List.pairwise_iff_getElem.1 hs i j hi hj hij
    have htake : zs.take (m + 1) = zs.take m ++ [zs[m]] := by rw [List.take_add_one, hx]; rfl
    by_cases hk : Lib.keeps zs.toArray m = true
    · rw [if_pos hk]
      refine ⟨?_, fun x => ?_⟩
      · rw [List.pairwise_append]
        refine ⟨h1, by simp, fun x hx y hy => ?_⟩
        simp only [List.mem_singleton] at hy
        subst hy
        have hx2 := (h2 x).1 hx
        obtain ⟨i, hi, rfl⟩ := List.getElem_of_mem hx2
        rw [List.length_take] at hi
        rw [List.getElem_take]
        have hm0 : 0 < m := by omega
        have hne : zs[m] ≠ zs[m - 1] := fun he => by
          have := Lib.keeps_neg (d := zs.toArray) (m := m) hm0 (by rw [hg m (by omega), hg (m - 1) (by omega)]; exact he)
          rw [hk] at this; cases this
        have h3 := hle (m - 1) m (by omega) (by omega) (by omega)
        by_cases him : i = m - 1
        · subst him; omega
        · have := hle i (m - 1) (by omega) (by omega) (by omega)
          omega
      · rw [List.mem_append, h2 x, htake, List.mem_append]
    · rw [if_neg hk, List.append_nil]
      refine ⟨h1, fun x => ?_⟩
      rw [h2 x, htake, List.mem_append]
      refine ⟨fun h => .inl h, fun h => h.elim (fun h => h) fun h => ?_⟩
      simp only [List.mem_singleton] at h
      subst h
      have hm0 : 0 < m := by
        rcases Nat.eq_zero_or_pos m with rfl | h0
        · exact absurd (Lib.keeps_lt_one _ 0 (by omega)) hk
        · exact h0
      have he : zs[m] = zs[m - 1] := by
        by_cases he : zs[m] = zs[m - 1]
        · exact he
        · exact absurd (Lib.keeps_pos (d := zs.toArray) (m := m) (by rw [hg m (by omega), hg (m - 1) (by omega)]; exact he)) hk
      rw [he]
      have : (zs.take m)[m - 1]'(by rw [List.length_take]; omega) = zs[m - 1] := by rw [List.getElem_take]
      rw [← this]
      exact List.getElem_mem _
theorem compact_ok (zs : List Int) (hs : zs.Pairwise (· ≤ ·)) : (Lib.compact zs).Pairwise (· < ·) ∧ ∀ x, x ∈ Lib.compact zs ↔ x ∈ zs := by
  have := compactUp_ok zs hs zs.length (Nat.le_refl _)
  rw [List.take_length] at this
  exact this
/-- the pending writes that a list names, in their order -/
def selF (keep : List Int) (n : Nat) : List Nat := (List.range n).filter fun i => decide ((i : Int) ∈ keep)
theorem ordF_sel (keep : List Int) (n : Nat) : ordF keep n = (selF keep n).map fun i : Nat => (i : Int) := by
  have hp := List.pairwise_mergeSort (le := fun x y : Int => decide (x ≤ y)) (fun a b c h1 h2 => by simp at *; omega) (fun a b => by simp; omega) keep
  have hs : (keep.mergeSort fun x y => decide (x ≤ y)).Pairwise (· ≤ ·) := hp.imp fun h => by simpa using h
  obtain ⟨c1, c2⟩ := compact_ok _ hs
  refine sorted_ext _ _ ?_ ?_ fun x => ?_
  · exact c1.filter _
  · unfold selF
    rw [List.pairwise_map]
    refine List.Pairwise.filter _ ?_
    exact (List.pairwise_lt_range).imp fun h => by omega
  · unfold ordF selF
    rw [List.mem_filter, c2, List.mem_mergeSort, List.mem_map]
    constructor
    · rintro ⟨h1, h2⟩
      simp only [Bool.not_eq_true', decide_eq_false_iff_not] at h2
      refine ⟨x.toNat, ?_, by omega⟩
      rw [List.mem_filter, List.mem_range]
      refine ⟨by omega, ?_⟩
      rw [decide_eq_true_eq, show ((x.toNat : Nat) : Int) = x by omega]
      exact h1
    · rintro ⟨i, h1, rfl⟩
      rw [List.mem_filter, List.mem_range, decide_eq_true_eq] at h1
      refine ⟨h1.2, ?_⟩
      simp only [Bool.not_eq_true', decide_eq_false_iff_not]
      omega
theorem sel_succ (keep : List Int) (i : Nat) : selF keep (i + 1) = selF keep i ++ (if (i : Int) ∈ keep then [i] else []) := by
  unfold selF
  rw [List.range_succ, List.filter_append]
  congr 1
  by_cases h : (i : Int) ∈ keep
  · rw [if_pos h]; simp [h]
  · rw [if_neg h]; simp [h]
theorem sel_lt {keep : List Int} {n i : Nat} (h : i ∈ selF keep n) : i < n := by
  unfold selF at h
  rw [List.mem_filter, List.mem_range] at h
  exact h.1
theorem sel_len (keep : List Int) (n : Nat) : (selF keep n).length ≤ n := by
  unfold selF
  have := List.length_filter_le (fun i : Nat => decide ((i : Int) ∈ keep)) (List.range n)
  rw [List.length_range] at this
  exact this
section
variable {k : Value → World → Prop} {w : World}
theorem c93 {v : Value} {l : List Int} {n : Int} (hs : IsSl fI w v l) (hl : l.length ≤ maxLen) (hk : k (.bool (decide (n ∈ l))) w) : callW Tryz.prog (.func (.func 93) #[] #[]) #[v, I n] k w := C93 _ _ _ _ (by
  unfold S93
  have hml : maxLen ≤ 9223372036854775807 := by decide
  refine Loop1.intro (fun m a w' => ∃ i : Nat, a = I i ∧ m = l.length - i ∧ i ≤ l.length ∧ w = w' ∧ n ∉ l.take i) _ ⟨0, rfl, rfl, Nat.zero_le _, rfl, by simp⟩ ?_
  rintro m _ _ ⟨i, rfl, rfl, hi, rfl, hno⟩
  rw [w_lenS (by kernel_rfl) hs, w_lss]
  by_cases hlt : i < l.length
  · have hx : l[((i : Int)).toNat]? = some l[i] := by rw [Int.toNat_natCast]; exact List.getElem?_eq_getElem hlt
    rw [decide_eq_true (by omega), condW_true]
    refine ix56 hs rfl (by omega) hx fun b0 o0 hc0 => ?_
    rw [ld3 (show w.cell? ⟨b0, o0, none⟩ = some (I l[i]) from hc0 0 _ rfl), w_eql]
    by_cases he : l[i] = n
    · rw [decide_eq_true he, condW_true]
      rw [decide_eq_true (by rw [← he]; exact List.getElem_mem hlt)] at hk
      exact hk
    · rw [decide_eq_false he, condW_false, w_add, wrap_id (by omega), loopK_self]
      refine ⟨l.length - (i + 1), by omega, i + 1, by simp [I], rfl, by omega, rfl, ?_⟩
      rw [List.take_add_one, List.getElem?_eq_getElem hlt, Option.toList_some, List.mem_append]
      rintro (h | h)
      · exact hno h
      · simp only [List.mem_singleton] at h; exact he h.symm
  · rw [decide_eq_false (by omega), condW_false]
    rw [List.take_of_length_le (by omega)] at hno
    rw [decide_eq_false hno] at hk
    exact hk)
end
end Go.Proofs.YtbojglaimdjagaaGreatDoor
/- The reference's disk: Crash. -/
set_option linter.unusedSimpArgs false
set_option linter.unusedVariables false
set_option maxRecDepth 4000
namespace Go.Proofs.YtbojglaimdjagaaGreatDoor
open Go Go.V Go.RowKit
section
variable {k : Value → World → Prop} {w : World} {B b n : Nat} {D : DK}
set_option maxHeartbeats 1000000 in
theorem c67 {kv : Value} {keep : List Int} {torn : Int} (h : RJ B w b D) (hok : DOk n D) (hpo : PdOk n D.pend) (hpl : D.pend.length ≤ 1000) (hBw : B ≤ w.heap.size) (hkeep : IsSl fI w kv keep) (hkl : keep.length ≤ maxLen) (htorn : in64 torn)
    (hk : ∀ w', RJ B w' b (crD D keep torn) → OffG rT B w w' → Below B w w' → k (.tuple #[]) w') : callW Tryz.prog (.func (.func 67) #[] #[]) #[.pointer (some ⟨b, 0, none⟩), kv, I torn] k w := C67 _ _ _ _ _ (by
  unfold S67
  obtain ⟨sv, lv, h⟩ := h
  have hml0 : 1000000000 ≤ maxLen := by decide
  have hn1 := hok.n1
  have hn2 := hok.n2
  have hdl := hok.dur
  refine Loop2.intro (fun m x y w' => ∃ i : Nat, y = I i ∧ m = D.pend.length - i ∧ i ≤ D.pend.length ∧ Below w.heap.size w w' ∧ Mine fWr 100 w' w.heap.size x ((selF keep i).map fun j => D.pend.getD j (0, ⟨#[]⟩))) _ ⟨0, rfl, rfl, Nat.zero_le _, Below.refl _ _, by simp [selF]; exact Mine.nil _ _⟩ ?_
  rintro m xv _ w1 ⟨i, rfl, rfl, hi, hb1, hm1⟩
  have h1 := h.below hb1
  have hsl := sel_len keep i
  simp only [nilW_ptr]
  rw [rw67_1 (h1.row.cell (i := 0 + 1) rfl), w_lenS (by kernel_rfl) h1.l.sl, w_lss]
  by_cases hlt : i < D.pend.length
  · rw [decide_eq_true (by omega), condW_true]
    have hx : D.pend[i]? = some D.pend[i] := List.getElem?_eq_getElem hlt
    have hgd : D.pend.getD i (0, ⟨#[]⟩) = D.pend[i] := by rw [List.getD_eq_getElem?_getD, hx]; rfl
    refine joinW_use1 (fun x' w' => Below w.heap.size w w' ∧ Mine fWr 100 w' w.heap.size x' ((selF keep (i + 1)).map fun j => D.pend.getD j (0, ⟨#[]⟩))) ?_ ?_
    · rintro x' w2 ⟨hb2, hm2⟩
      rw [w_add, wrap_id (by omega), loopK_self]
      exact ⟨D.pend.length - (i + 1), by omega, i + 1, by simp [I], rfl, by omega, hb2, hm2⟩
    intro J hJ
    refine c93 (hkeep.below hb1) hkl ?_
    by_cases hin : (i : Int) ∈ keep
    · rw [decide_eq_true hin, condW_true]
      try simp only [nilW_ptr]
      rw [rw67_1 (h1.row.cell (i := 0 + 1) rfl), na65 (F := fWr) rfl h1.l.sl hx]
      refine Mine.push (F := fWr) (x := D.pend[i]) sty65 (fun u hu => by simp [fWr] at hu; rcases hu with rfl | rfl <;> rfl) rfl (by decide) hm1 hb1.size (by rw [List.length_map]; omega) (by rw [List.length_map]; omega) fun v2 w2 hm2 hb2 _ _ => ?_
      refine hJ _ _ ⟨hb1.trans hb2, ?_⟩
      rw [sel_succ, if_pos hin, List.map_append, List.map_cons, List.map_nil, hgd]
      exact hm2
    · rw [decide_eq_false hin, condW_false]
      refine hJ _ _ ⟨hb1, ?_⟩
      rw [sel_succ, if_neg hin, List.append_nil]
      exact hm1
  rw [decide_eq_false (by omega), condW_false]
  have hie : i = D.pend.length := by omega
  subst hie
  have hord := ordF_sel keep D.pend.length
  obtain ⟨q, hq⟩ : ∃ q, selF keep D.pend.length = q := ⟨_, rfl⟩
  have hqlt : ∀ j ∈ q, j < D.pend.length := fun j hj => by rw [← hq] at hj; exact sel_lt hj
  rw [hq] at hm1 hord hsl
  obtain ⟨od, hod⟩ : ∃ od, ordF keep D.pend.length = od := ⟨_, rfl⟩
  have hom : ∀ x ∈ od, 0 ≤ x ∧ x < D.pend.length := fun x hx => ordF_mem (by rw [hod]; exact hx)
  have hodl : od.length = q.length := by rw [← hod, hord, List.length_map]
  have hlen : ((q.map fun j => D.pend.getD j (0, ⟨#[]⟩))).length = q.length := List.length_map _
  refine Loop1.intro (fun m a w' => ∃ i : Nat, a = I i ∧ m = q.length - i ∧ i ≤ q.length ∧ RowAt w' b 67 [sv, lv, .bool D.off, I D.left] ∧ Mine fB 5 w' B sv (crI D.pend od torn D.dur i) ∧ Mine fWr 100 w' w.heap.size xv (q.map fun j => D.pend.getD j (0, ⟨#[]⟩)) ∧ Off (isOf sv) w w' ∧ Below B w w') _ ⟨0, rfl, rfl, Nat.zero_le _, h1.row, h1.sure, hm1, Off.below hb1, hb1.mono hBw⟩ ?_
  rintro m _ w2 ⟨i, rfl, rfl, hi2, hr2, hs2, hm2, ho2, hb2⟩
  rw [len65 hm2.sl, hlen, w_lss]
  by_cases hlt2 : i < q.length
  · have hqi : q[i]? = some q[i] := List.getElem?_eq_getElem hlt2
    have hql := hqlt _ (List.getElem_mem hlt2)
    have hpp := hpo _ (List.getElem_mem hql)
    have hgd : D.pend.getD q[i] (0, ⟨#[]⟩) = D.pend[q[i]] := by rw [List.getD_eq_getElem?_getD, List.getElem?_eq_getElem hql]; rfl
    have hx : (q.map fun j => D.pend.getD j (0, ⟨#[]⟩))[i]? = some D.pend[q[i]] := by rw [List.getElem?_map, hqi, Option.map_some, hgd]
    have e1 : od.getD i 0 = (q[i] : Int) := by
      rw [← hod, hord, List.getD_eq_getElem?_getD, List.getElem?_map, hqi]; rfl
    obtain ⟨o, ho⟩ : ∃ o : Nat, (D.pend[q[i]]).1 = (o : Int) := ⟨(D.pend[q[i]]).1.toNat, by omega⟩
    have hos : o + (D.pend[q[i]]).2.size ≤ n := by have := hpp.2; rw [ho, Int.toNat_natCast] at this; exact this
    have hcl := crI_len (torn := torn) hpo hom hdl i (by omega)
    rw [decide_eq_true (by omega), condW_true, nw65_1 (F := fWr) rfl hm2.sl hx (u := .string (D.pend[q[i]]).2) rfl]
    refine joinW_use1 (fun v w' => w2 = w' ∧ ∃ s : ByteArray, v = .string s ∧ s = (if i + 1 = od.length ∧ 0 ≤ torn then (D.pend[q[i]]).2.extract 0 (min torn.toNat (D.pend[q[i]]).2.size) else (D.pend[q[i]]).2)) ?_ ?_
    · rintro _ _ ⟨rfl, s, rfl, hs⟩
      rw [drewW_eq]
      have hdr := below_drew w2
      replace hr2 := hr2.below hdr
      replace hs2 := hs2.below hdr
      replace hm2 := hm2.below hdr
      replace ho2 := ho2.trans (Off.below hdr)
      replace hb2 := hb2.trans (hdr.mono (Nat.le_trans hBw hb2.size))
      generalize w2.drew = w3 at *
      have hss : o + s.size ≤ n := by
        rw [hs]
        split
        · rw [ByteArray.size_extract]; omega
        · exact hos
      try simp only [nilT_ptr]
      rw [rt67_0 (hr2.cell (i := 0) rfl), nt65_0 (F := fWr) rfl hm2.sl hx (u := I (D.pend[q[i]]).1) rfl, ho]
      refine c53 hs2 (by rw [hcl]; exact hss) (by omega) fun w4 hm4 ho4 hb4 => ?_
      have nsb : ¬ isOf sv b := fun hh => by
        have := Tag.uniq (Mine.tag hs2 hh) hr2.tag
        cases this
      have hstep : crI D.pend od torn D.dur (i + 1) = ontoL (crI D.pend od torn D.dur i) o s := by
        show crS D.pend od torn i _ = _
        unfold crS
        rw [e1, Int.toNat_natCast, hgd, ho, Int.toNat_natCast, ← hs]
      rw [w_add, wrap_id (by omega), loopK_self]
      exact ⟨q.length - (i + 1), by omega, i + 1, by simp [I], rfl, by omega, hr2.off ho4 nsb, by rw [hstep]; exact hm4, hm2.apart ho4 (apMine hs2 (by decide)), ho2.trans ho4, hb2.trans hb4⟩
    intro J hJ
    rw [len65 hm2.sl, hlen, w_sub, wrap_id (by omega), w_eql]
    unfold in64 at htorn
    by_cases hlast : i + 1 = od.length
    case' neg =>
      rw [decide_eq_false (by omega)]
      simp only [guardW_ft, guardW_u, pickW_false]
      rw [condW_false]
      exact hJ _ _ ⟨rfl, _, rfl, by rw [if_neg (fun h => hlast h.1)]⟩
    rw [decide_eq_true (by omega)]
    simp only [guardW_tt, pickW_true]
    rw [w_geq]
    by_cases ht : 0 ≤ torn
    case' neg =>
      rw [decide_eq_false ht]
      simp only [guardW_ft, guardW_u, pickW_false]
      rw [condW_false]
      exact hJ _ _ ⟨rfl, _, rfl, by rw [if_neg (fun h => ht h.2)]⟩
    rw [decide_eq_true ht]
    simp only [guardW_tt, pickW_true]
    rw [w_lenStr (by kernel_rfl), w_lss]
    by_cases hts : torn < ((D.pend[q[i]]).2.size : Int)
    · rw [decide_eq_true hts, condW_true, w_headStr (by kernel_rfl) ht (by omega)]
      exact hJ _ _ ⟨rfl, _, rfl, by rw [if_pos ⟨hlast, ht⟩, Nat.min_eq_left (by omega)]⟩
    · rw [decide_eq_false hts, condW_false]
      exact hJ _ _ ⟨rfl, _, rfl, by rw [if_pos ⟨hlast, ht⟩, Nat.min_eq_right (by omega), ByteArray.extract_zero_size]⟩
  rw [decide_eq_false (by omega), condW_false]
  have hie : i = q.length := by omega
  subst hie
  try simp only [nilW_ptr]
  rw [fl67_1, st65 rfl (hr2.cell (i := 0 + 1) rfl) (hr2.free _)]
  have hof3 : Off (fun x => x = b) w2 (w2.setCell ⟨b, 0 + 1, none⟩ nS) := Off.set (p := fun x => x = b) rfl
  have hr3 := hr2.set 1 nS
  replace hr3 : RowAt (w2.setCell ⟨b, 0 + 1, none⟩ nS) b 67 [sv, nS, .bool D.off, I D.left] := hr3
  have hs3 := hs2.apart hof3 (apRow hr2 (by decide))
  have hb3 : Below B w (w2.setCell ⟨b, 0 + 1, none⟩ nS) := hb2.setCell h.base _
  generalize w2.setCell ⟨b, 0 + 1, none⟩ nS = w3 at *
  rw [fl67_2, st4 rfl (hr3.cell (i := 0 + 2) rfl) (hr3.free _)]
  have hof4 : Off (fun x => x = b) w3 (w3.setCell ⟨b, 0 + 2, none⟩ (.bool false)) := Off.set (p := fun x => x = b) rfl
  have hr4 := hr3.set 2 (.bool false)
  replace hr4 : RowAt (w3.setCell ⟨b, 0 + 2, none⟩ (.bool false)) b 67 [sv, nS, .bool false, I D.left] := hr4
  have hs4 := hs3.apart hof4 (apRow hr3 (by decide))
  have hb4 : Below B w (w3.setCell ⟨b, 0 + 2, none⟩ (.bool false)) := hb3.setCell h.base _
  generalize w3.setCell ⟨b, 0 + 2, none⟩ (.bool false) = w4 at *
  rw [fl67_3, st3 rfl (hr4.cell (i := 0 + 3) rfl) (hr4.free _)]
  have hof5 : Off (fun x => x = b) w4 (w4.setCell ⟨b, 0 + 3, none⟩ (I 0)) := Off.set (p := fun x => x = b) rfl
  have hcr : (crD D keep torn).dur = crI D.pend od torn D.dur q.length := by
    unfold crD
    rw [hod, hodl]
  refine hk _ ⟨sv, nS, hr4.set 3 (I 0), h.base, ?_, Mine.nil _ _⟩ (h.offG (((ho2.mono fun x _ hx => .inr (.inl hx)).trans (hof3.mono fun x _ hx => .inl hx)).trans ((hof4.mono fun x _ hx => .inl hx).trans (hof5.mono fun x _ hx => .inl hx))) fun x hx => hx) (hb4.setCell h.base _)
  rw [hcr]
  exact hs4.apart hof5 (apRow hr4 (by decide)))
end
end Go.Proofs.YtbojglaimdjagaaGreatDoor
/- Both journals: a call. -/
set_option linter.unusedSimpArgs false
set_option linter.unusedVariables false
set_option maxRecDepth 4000
namespace Go.Proofs.YtbojglaimdjagaaGreatDoor
open Go Go.V Go.RowKit
theorem nU {B0 b T : Nat} {w : World} {vs : List Value} (h : RowAt w b T vs) (hT : T ∉ uT) : ¬ tgP uT B0 w b := fun ⟨_, t, h1, h2⟩ => hT (Tag.uniq h1 h.tag ▸ h2)
section
variable {k : Value → World → Prop} {w w0 : World} {B1 n wb b rb : Nat} {D : DK} {jv kv : Value} {oo : Option (TP × Bool)}
theorem w_upto56w {v : Value} {l : List Int} {q : IntKind} {hi : Nat} (hs : IsSl fI w v l) (h2 : hi ≤ l.length) (hk : ∀ v', (∀ w', IsSl fI w' v l → IsSl fI w' v' (l.take hi)) → k v' w) : opW Tryz.prog (Instr.sliceAt 56 v none (some (.int q (hi : Int))) none) k w := by
  obtain ⟨a, c, rfl, hc, _⟩ := hs
  have ht : Tryz.prog.underlying 56 = some (.slice (Tryz.prog.elem 56)) := by kernel_rfl
  have hkn : known Tryz.prog (Tryz.prog.elem 56) = true := by kernel_rfl
  have hz : sizeT Tryz.prog (Tryz.prog.elem 56) = fI.sz := by kernel_rfl
  rw [opW_ok (show (Instr.sliceAt 56 (.slice a l.length c) none (some (.int q (hi : Int))) none).run Tryz.prog w = .ok (sliced a 0 hi c (sizeT Tryz.prog (Tryz.prog.elem 56))) w by
    rw [run_sliceAt_slice _ _ _ _ _ _ ht, run_slice_h w 56 _ _ c ht q hi (by omega) (by omega), Go.V.run_sizeOf hkn]
    simp [Result.andThen])]
  rw [hz]
  refine hk _ fun w' hs0 => ?_
  have := hs0.slicedTo (lo := 0) (hi := hi) (mx := c) (Nat.zero_le _) h2 (by omega)
  rw [List.drop_zero, Nat.sub_zero] at this
  exact this
set_option maxHeartbeats 4000000 in
theorem c31 {r : RawO} {o : OpW} (hg : Gl w0) (hB0 : 3 < w0.heap.size) (h0 : OpV w0 r o) (hok : okOp o) (hb0 : Below w0.heap.size w0 w) (h01 : w0.heap.size ≤ B1) (hBw : B1 ≤ w.heap.size) (hn : n ≤ 100000)
    (hP : PW w0.heap.size B1 n w wb b rb D jv kv) (hJP : JP w0.heap.size B1 n w b rb jv kv oo) (hpl : D.pend.length ≤ 900)
    (hk : ∀ w' D' jv' kv' oo', PW w0.heap.size B1 n w' wb b rb D' jv' kv' → JP w0.heap.size B1 n w' b rb jv' kv' oo' → D'.pend.length ≤ D.pend.length + 1 → B1 ≤ w'.heap.size → Below w0.heap.size w0 w' → k (.bool true) w') :
    callW Tryz.prog (.func (.func 31) #[] #[]) #[.pointer (some ⟨wb, 0, none⟩), .agg (fOp.e r).toArray] k w := C31 _ _ _ _ (by
  unfold S31
  have hml0 : 1000000000 ≤ maxLen := by decide
  obtain ⟨g1, g2, g3, g4⟩ := hok
  refine w_boxN fun w1 hb1 _ hr1 => ?_
  obtain ⟨ob, hob⟩ : ∃ ob, w.heap.size = ob := ⟨_, rfl⟩
  replace hr1 : RowAt w1 w.heap.size 62 [I r.1, r.2.1, I r.2.2.1, r.2.2.2] := hr1
  rw [hob] at hr1 ⊢
  replace hP := hP.below hb1
  replace hJP := hJP.below hb1
  replace hb0 := hb0.trans (hb1.mono hb0.size)
  replace hBw := Nat.le_trans hBw hb1.size
  clear hob hb1
  rw [fl62_0, ld3 (hr1.cell (i := 0) rfl), h0.kind]
  refine c14 g1 (by decide) ?_
  have hcoh := hP.coh
  rw [w_eql]
  by_cases h5 : pkN o.kind 8 = 5
  · rw [decide_eq_true h5, condW_true, drewW_eq]
    have hdr := below_drew w1
    replace hr1 := hr1.below hdr
    replace hP := hP.below hdr
    replace hJP := hJP.below hdr
    replace hb0 := hb0.trans (hdr.mono hb0.size)
    replace hBw := Nat.le_trans hBw hdr.size
    generalize w1.drew = w2 at *
    have ho : Off (tgP uT w0.heap.size w2) w2 w2 := Off.refl _ _
    refine ⟨Off (tgP uT w0.heap.size w2) w2, ho, ?_⟩
    try simp only [nilT_ptr]
    rw [tfl32_0, r_loadO agg27 known27 (hP.row.cell (i := 0) rfl) (nU hP.row (by decide)) ho, tfl62_2, r_loadO agg3 known3 (hr1.cell (i := 0 + 2) rfl) (nU hr1 (by decide)) ho]
    try simp only [nilT_ptr]
    rw [tfl32_2, r_loadO agg29 known29 (hP.row.cell (i := 0 + 2) rfl) (nU hP.row (by decide)) ho, tfl62_2, r_loadO agg3 known3 (hr1.cell (i := 0 + 2) rfl) (nU hr1 (by decide)) ho, h0.n]
    refine c14 g3 (by decide) ?_
    have hpk := pkN_in (c := o.n) (n := 5) (by decide)
    rw [keepS_eq]
    refine ⟨ho, ?_⟩
    rw [t_add, wrap_id (by omega)]
    refine callW_mono (k := fun v w' => ((D.off = true ∧ v = I 331 ∧ DQ w0.heap.size B1 w' b D) ∨ (D.off = false ∧ v = I 0 ∧ DQ w0.heap.size B1 w' b (cutD D (1 + pkN o.n 5)))) ∧ (∀ jb br t, TJ w0.heap.size w2 jb b br t → TJ w0.heap.size w' jb b br t) ∧ OffQ w0.heap.size B1 w2 w' ∧ Below w0.heap.size w2 w') ?_ ?_
    · exact c29q hP.dq (by omega) (fun h => ⟨.inl ⟨h, rfl, hP.dq⟩, fun _ _ _ h => h, OffQ.refl _ _ _, Below.refl _ _⟩) fun h w' q1 q2 q3 q4 => ⟨.inr ⟨h, rfl, q1⟩, q2, q3, q4⟩
    rintro v1 w3 ⟨hcase, hT, ho3, hb3⟩
    have hR3 := hP.rj.q ho3
    have hrow3 := ho3.row hP.row (by decide)
    rw [keepS_eq]
    refine ⟨ho3.u, ?_⟩
    refine c14 g3 (by decide) ?_
    rw [keepS_eq]
    refine ⟨ho3.u, ?_⟩
    rw [t_add, wrap_id (by omega)]
    have hJ3 : ∀ w4, OffG rT B1 w3 w4 → JP w0.heap.size B1 n w4 b rb jv kv oo := fun w4 ho4 => by
      match oo, hJP with
      | none, q => exact q
      | some (t, br), ⟨jb, kb, q1, q2, q3, q4, q5⟩ => exact ⟨jb, kb, q1, q2, (hT _ _ _ q3).ref ho4 (by decide) (by decide), (q4.q ho3).off ho4 (by decide) (by decide), q5⟩
    have hB3 := Nat.le_trans hBw ho3.size
    have hb03 := hb0.trans hb3
    refine c66 hR3 (by omega) (fun hoff => ?_) fun hoff w4 hR4 ho4 hb4 => ?_
    · rcases hcase with ⟨_, rfl, hd3⟩ | ⟨h, _⟩
      case' inr => rw [hoff] at h; cases h
      rw [keepS_eq]
      refine ⟨ho3.u, ?_⟩
      rw [t_eql, decide_eq_true rfl]
      exact hk _ _ _ _ _ ⟨hrow3, hP.base, hd3, hR3, hcoh⟩ (hJ3 _ (OffG.refl _ _ _)) (by omega) hB3 hb03
    · rcases hcase with ⟨h, _⟩ | ⟨_, rfl, hd3⟩
      case' inl => rw [hoff] at h; cases h
      rw [keepS_eq]
      refine ⟨ho3.u.trans (ho4.u h01 (by decide)), ?_⟩
      rw [t_eql, decide_eq_true rfl]
      exact hk _ _ _ _ _ ⟨ho4.row hrow3 (by decide), hP.base, hd3.ref ho4 (by decide) (by decide), hR4, hcoh.cut (by omega)⟩ (hJ3 _ ho4) (by show D.pend.length ≤ _; omega) (Nat.le_trans hB3 ho4.size) (hb03.trans (hb4.mono h01))
  rw [decide_eq_false h5, condW_false, w_eql]
  by_cases h6 : pkN o.kind 8 = 6
  · rw [decide_eq_true h6, condW_true, fl62_3, ld56 (hr1.cell (i := 0 + 3) rfl), fl62_3, ld56 (hr1.cell (i := 0 + 3) rfl)]
    have hkp := h0.keep
    rw [w_lenS (by kernel_rfl) (hkp.below hb0), w_min, show (if (20 : Int) < (o.keep.length : Int) then (20 : Int) else (o.keep.length : Int)) = ((min o.keep.length 20 : Nat) : Int) by split <;> omega]
    refine w_upto56w (hkp.below hb0) (by omega) fun kv' hk1 => ?_
    rw [drewW_eq]
    have hdr := below_drew w1
    replace hr1 := hr1.below hdr
    replace hP := hP.below hdr
    replace hb0 := hb0.trans (hdr.mono hb0.size)
    replace hBw := Nat.le_trans hBw hdr.size
    clear hJP
    generalize w1.drew = w2 at *
    try simp only [nilT_ptr]
    rw [rt32_0 (hP.row.cell (i := 0) rfl), tfl62_2, x_load agg3 known3 (hr1.cell (i := 0 + 2) rfl), h0.n]
    have hkl : (o.keep.take (min o.keep.length 20)).length ≤ 20 := by rw [List.length_take]; omega
    have hpo := hcoh.po
    refine c30q hb0.size hP.dq hcoh.ok hpo (by omega) (hk1 _ (hkp.below hb0)) (by omega) g3 fun w3 hd3 ho3 hb3 => ?_
    have hb03 := hb0.trans hb3
    have hrow3 := ho3.row hP.row (by decide)
    have hR3 := hP.rj.q ho3
    have hr3 := ho3.row hr1 (by decide)
    have hB3 := Nat.le_trans hBw ho3.size
    rw [drewW_eq]
    have hdr3 := below_drew w3
    replace hr3 := hr3.below hdr3
    replace hrow3 := hrow3.below hdr3
    replace hR3 := hR3.below hdr3
    replace hd3 := hd3.below hdr3
    replace hb03 := hb03.trans (hdr3.mono hb03.size)
    replace hB3 := Nat.le_trans hB3 hdr3.size
    clear ho3 hb3
    generalize w3.drew = w4 at *
    try simp only [nilT_ptr]
    rw [rt32_2 (hrow3.cell (i := 0 + 2) rfl), tfl62_2, x_load agg3 known3 (hr3.cell (i := 0 + 2) rfl), h0.n]
    refine c67 hR3 hcoh.ok hpo (by omega) hB3 (hk1 _ (hkp.below hb03)) (by omega) g3 fun w5 hR5 ho5 hb5 => ?_
    have hcr := hcoh.cr (keep := o.keep.take (min o.keep.length 20)) (torn := o.n)
    have hb05 := hb03.trans (hb5.mono h01)
    have hB5 := Nat.le_trans hB3 ho5.size
    have hpl5 : (crD D (o.keep.take (min o.keep.length 20)) o.n).pend.length ≤ 0 := Nat.le_refl _
    generalize crD D (o.keep.take (min o.keep.length 20)) o.n = D5 at *
    refine c17 (hg.below hb05 hB0) hB0 h01 hB5 ⟨ho5.row hrow3 (by decide), hP.base, hd3.ref ho5 (by decide) (by decide), hR5, hcr⟩ (by omega) fun w6 jv' kv' hP6 hJ6 hb6 => ?_
    exact hk _ _ _ _ _ hP6 hJ6 (by have := (coh_op hcr).2; omega) (Nat.le_trans hB5 hb6.size) (hb05.trans hb6)
  rw [decide_eq_false h6, condW_false, w_eql]
  by_cases h7 : pkN o.kind 8 = 7
  · rw [decide_eq_true h7, condW_true]
    refine c17 (hg.below hb0 hB0) hB0 h01 hBw hP (by omega) fun w6 jv' kv' hP6 hJ6 hb6 => ?_
    exact hk _ _ _ _ _ hP6 hJ6 (coh_op hcoh).2 (Nat.le_trans hBw hb6.size) (hb0.trans hb6)
  rw [decide_eq_false h7, condW_false]
  try simp only [nilW_ptr]
  rw [rw32_1 (hP.row.cell (i := 0 + 1) rfl)]
  match oo, hJP with
  | none, ⟨e1, e2⟩ =>
    subst e1 e2
    rw [eqP28n, condW_true, drewW_eq]
    have hdr := below_drew w1
    replace hr1 := hr1.below hdr
    replace hP := hP.below hdr
    replace hb0 := hb0.trans (hdr.mono hb0.size)
    replace hBw := Nat.le_trans hBw hdr.size
    generalize w1.drew = w2 at *
    have ho : Off (fun _ => False) w2 w2 := Off.refl _ _
    refine ⟨Off (fun _ => False) w2, ho, ?_⟩
    try simp only [nilT_ptr]
    rw [tfl32_1, r_loadO agg28 known28 (hP.row.cell (i := 0 + 1) rfl) (fun h => h) ho, tfl62_1, r_loadO agg22 known22 (hr1.cell (i := 0 + 1) rfl) (fun h => h) ho]
    refine c11 (h0.l.below hb0) g2 fun v3 w3 hb3 hm3 => ?_
    rw [keepS_eq]
    refine ⟨Off.below hb3, ?_⟩
    refine c10n ?_
    rw [keepS_eq]
    refine ⟨Off.below hb3, ?_⟩
    rw [t_eql, decide_eq_true rfl]
    exact hk _ _ _ _ none (hP.below hb3) ⟨rfl, rfl⟩ (by omega) (Nat.le_trans hBw hb3.size) (hb0.trans (hb3.mono hb0.size))
  | some (t, br), ⟨jb, kb, e1, e2, hj1, hk1, htp⟩ =>
    subst e1 e2
    rw [eqP28, condW_false, drewW_eq]
    have hdr := below_drew w1
    replace hr1 := hr1.below hdr
    replace hP := hP.below hdr
    replace hb0 := hb0.trans (hdr.mono hb0.size)
    replace hBw := Nat.le_trans hBw hdr.size
    replace hj1 := hj1.below hdr
    replace hk1 := hk1.below hdr
    clear hJP
    generalize w1.drew = w2 at *
    have ho : Off (tgP uT w0.heap.size w2) w2 w2 := Off.refl _ _
    refine ⟨Off (tgP uT w0.heap.size w2) w2, ho, ?_⟩
    try simp only [nilT_ptr]
    rw [tfl32_1, r_loadO agg28 known28 (hP.row.cell (i := 0 + 1) rfl) (nU hP.row (by decide)) ho, tfl62_1, r_loadO agg22 known22 (hr1.cell (i := 0 + 1) rfl) (nU hr1 (by decide)) ho]
    try simp only [nilT_ptr]
    rw [tfl32_3, r_loadO agg30 known30 (hP.row.cell (i := 0 + 3) rfl) (nU hP.row (by decide)) ho, tfl62_1, r_loadO agg22 known22 (hr1.cell (i := 0 + 1) rfl) (nU hr1 (by decide)) ho]
    obtain ⟨f1, f2⟩ := fewL_ok (l := o.l)
    have f3 : ∀ r ∈ fewL o.l, r.size ≤ 65536 := fun r hr => by have := f2 r hr; omega
    refine c11 (h0.l.below hb0) g2 fun v3 w3 hb3 hm3 => ?_
    rw [keepS_eq]
    refine ⟨OffG.below (ts := uT) hb3, ?_⟩
    have hb03 := hb0.trans (hb3.mono hb0.size)
    refine c10q (hg.below hb03 hB0) hB0 hb03.size (hP.dq.below hb3) hcoh.ok (by omega) (hj1.below hb3) htp.tok hm3.sl (by omega) fun w5 hd5 hj5 ho5 hb5 => ?_
    have hu5 : OffG uT w0.heap.size w2 w5 := (OffG.below hb3).trans ho5.u
    have hb05 := hb03.trans hb5
    rw [keepS_eq]
    refine ⟨hu5, ?_⟩
    have hR5 := (hP.rj.below hb3).q ho5
    have hk5 := (hk1.below hb3).q ho5
    refine c11 (h0.l.below hb05) g2 fun v6 w6 hb6 hm6 => ?_
    rw [keepS_eq]
    refine ⟨hu5.trans (OffG.below hb6), ?_⟩
    have hb06 := hb05.trans (hb6.mono hb05.size)
    have hB6 : B1 ≤ w6.heap.size := Nat.le_trans hBw (Nat.le_trans hb3.size (Nat.le_trans ho5.size hb6.size))
    obtain ⟨l0, rfl, hsm, hsz⟩ := id htp
    have htr := htp.tok.recs
    rw [tpOf_recs] at htr
    refine c12 (l0 := l0) (hR5.below hb6) hcoh (by omega) hB6 (hk5.below hb6) hsm (by omega) hsz hm6 (by omega) f2 fun w7 hR7 hk7 ho7 hb7 => ?_
    have hb07 := hb06.trans (hb7.mono h01)
    have hu7 : OffG uT w0.heap.size w2 w7 := (hu5.trans (OffG.below hb6)).trans (ho7.u h01 (by decide))
    rw [keepS_eq]
    refine ⟨hu7, ?_⟩
    rw [t_eql, decide_eq_true rfl]
    have hc1 := coh_ap (t := tpOf l0) (br := br) (l := fewL o.l) hcoh
    exact hk _ _ _ _ (some ((apJ n D (tpOf l0) br (fewL o.l)).2.2.1, (apJ n D (tpOf l0) br (fewL o.l)).2.2.2)) ⟨hu7.row hP.row (by decide), hP.base, (hd5.below hb6).ref ho7 (by decide) (by decide), hR7, hc1.1⟩ ⟨jb, kb, rfl, rfl, (hj5.below hb6).ref ho7 (by decide) (by decide), hk7, ap_tape htp f3⟩ hc1.2 (Nat.le_trans hB6 ho7.size) hb07)
end
end Go.Proofs.YtbojglaimdjagaaGreatDoor
/- The walk of JournalMatchesReference. -/
set_option linter.unusedSimpArgs false
set_option linter.unusedVariables false
set_option maxRecDepth 4000
namespace Go.Proofs.YtbojglaimdjagaaGreatDoor
open Go Go.V Go.RowKit
section
variable {k : Value → World → Prop} {w : World} {K : Value → Prop} {S : World → Prop}
theorem t_neqP28 {ox oy : Operand} {a : Addr} : takeW Tryz.prog S (binS .neq 28 ox oy (.pointer (some a)) (.pointer none)) K w = K (.bool true) := takeW_pure fun w => run_of_eq fun k => neqP28
theorem neqP28n {ox oy : Operand} : opW Tryz.prog (binS .neq 28 ox oy (.pointer none) (.pointer none)) k w = k (.bool false) w := opW_ok (by kernel_rfl)
theorem t_neqP28n {ox oy : Operand} : takeW Tryz.prog S (binS .neq 28 ox oy (.pointer none) (.pointer none)) K w = K (.bool false) := takeW_pure fun w => run_of_eq fun k => neqP28n
set_option maxHeartbeats 4000000 in
theorem c7 {ov : Value} {ops : List OpW} {n : Int} (hg : Gl w) (hn : in64 n) (hov : OpsV w ov ops) (hoo : okOps ops) (hk : ∀ w', Below w.heap.size w w' → k (.bool true) w') :
    S7 (I n) ov k w := by
  unfold S7
  obtain ⟨rs, hov⟩ := hov
  have hml : maxLen ≤ 9223372036854775807 := by decide
  have hml0 : 1000000000 ≤ maxLen := by decide
  have hB : 3 < w.heap.size := hg.2.1
  obtain ⟨ho1, ho2⟩ := id hoo
  refine c8 hg fun w1 hb1 => ?_
  refine c9b (hg.below hb1 hB) hn hB hb1.size fun w2 wb b rb B1 jv kv h01 hB1 hPW hJP hb2 => ?_
  replace hb2 := hb1.trans hb2
  obtain ⟨z1, z2, z3⟩ := szN_in (n := n)
  rw [ex0, ex1, w_not]
  simp only [Bool.not_true]
  rw [condW_false]
  refine Loop1.intro (fun mm x w' => ∃ (i : Nat) (D : DK) (jv kv : Value) (oo : Option (TP × Bool)), x = I i ∧ mm = 25 - i ∧ i ≤ 25 ∧ i ≤ ops.length ∧ PW w.heap.size B1 (szN n) w' wb b rb D jv kv ∧ JP w.heap.size B1 (szN n) w' b rb jv kv oo ∧ D.pend.length ≤ i ∧ B1 ≤ w'.heap.size ∧ Below w.heap.size w w') _
    ⟨0, _, _, _, _, rfl, rfl, by omega, Nat.zero_le _, hPW, hJP, Nat.le_refl _, hB1, hb2⟩ ?_
  clear hPW hJP hB1 hb2 hb1
  clear jv kv w2 w1
  rintro mm _ w3 ⟨i, D, jv, kv, oo, rfl, rfl, hi25, hil, hP, hJ, hpl, hB3, hb3⟩
  have hov3 := hov.below hb3
  rw [w_lenS (by kernel_rfl) hov3.sl, hov.len, w_lss]
  by_cases h1 : i < ops.length
  case' neg =>
    rw [decide_eq_false (by omega)]
    simp only [guardW_ft, guardW_u, pickW_false]
  case' pos =>
    rw [decide_eq_true (by omega)]
    simp only [guardW_tt, pickW_true]
    rw [w_lss]
    by_cases h2 : i < 25
    case' neg =>
      rw [decide_eq_false (by omega)]
    case' pos =>
      rw [decide_eq_true (by omega), condW_true]
      have hri : i < rs.length := by rw [hov.len]; exact h1
      have hx : rs[i]? = some rs[i] := List.getElem?_eq_getElem hri
      have hxo : ops[i]? = some ops[i] := List.getElem?_eq_getElem h1
      rw [na60 (F := fOp) rfl hov3.sl hx]
      refine c31 hg hB (hov.each i _ _ hx hxo) (ho2 _ (List.getElem_mem h1)) hb3 h01 hB3 (by omega) hP hJ (by omega) fun w4 D4 jv4 kv4 oo4 hP4 hJ4 hpl4 hB4 hb4 => ?_
      clear hP hJ
      rw [drewW_eq]
      have hdr := below_drew w4
      replace hP4 := hP4.below hdr
      replace hJ4 := hJ4.below hdr
      replace hb4 := hb4.trans (hdr.mono hb4.size)
      replace hB4 := Nat.le_trans hB4 hdr.size
      generalize w4.drew = w5 at *
      have ho : Off (fun _ => False) w5 w5 := Off.refl _ _
      obtain ⟨rsv, rlv, hRR⟩ := id hP4.rj
      have hcoh := hP4.coh
      refine ⟨Off (fun _ => False) w5, ho, ?_⟩
      rw [t_not]
      simp only [Bool.not_true, guardT_ff, guardW_ff, nilT_ptr, pickT_false]
      rw [tfl32_0, r_loadO agg27 known27 (hP4.row.cell (i := 0) rfl) (fun h => h) ho, tfl32_2, r_loadO agg29 known29 (hP4.row.cell (i := 0 + 2) rfl) (fun h => h) ho]
      simp only [nilT_ptr]
      rw [tfl67_1, r_loadO agg65 known65 (hRR.row.cell (i := 0 + 1) rfl) (fun h => h) ho, tlen65 hRR.l.sl]
      refine c32q hP4.dq ?_
      rw [keepS_eq]
      refine ⟨ho, ?_⟩
      rw [t_neq, decide_eq_true rfl]
      simp only [Bool.not_true, pickT_false, guardT_ff, guardW_ff, nilT_ptr]
      rw [tfl32_2, r_loadO agg29 known29 (hP4.row.cell (i := 0 + 2) rfl) (fun h => h) ho]
      simp only [nilT_ptr]
      rw [tfl67_2, r_loadO agg4 known4 (hRR.row.cell (i := 0 + 2) rfl) (fun h => h) ho, t_not]
      cases hoff : D4.off
      case' true =>
        simp only [Bool.not_true, guardT_ft, guardT_u, guardW_ft, guardW_u, pickT_false, guardT_tf, guardT_ff]
        try simp only [pickT_true, pickT_false]
        rw [keepS_eq]
        refine ⟨ho, ?_⟩
        rw [keepS_eq]
        refine ⟨ho, ?_⟩
        obtain ⟨w10, hw10, hb10⟩ : ∃ w10, w10 = w5 ∧ Below w5.heap.size w5 w10 := ⟨w5, rfl, Below.refl _ _⟩
        rw [← hw10]
        clear hw10
      case' false =>
        simp only [Bool.not_false, guardT_tt, guardW_tt, nilT_ptr, pickT_true]
        rw [tfl32_0, r_loadO agg27 known27 (hP4.row.cell (i := 0) rfl) (fun h => h) ho, tfl32_2, r_loadO agg29 known29 (hP4.row.cell (i := 0 + 2) rfl) (fun h => h) ho]
        refine c22q hP4.dq hcoh.ok hoff ?_
        rw [keepS_eq]
        refine ⟨ho, ?_⟩
        refine c23 hRR hcoh.ok hcoh.po (by omega) hB4 fun v10 w10 hb10 hm10 => ?_
        rw [keepS_eq]
        refine ⟨Off.below hb10, ?_⟩
        rw [← hcoh.vis] at hm10
        have hvl := hcoh.ok.vis
        rw [takeW_same (run_of_eq fun k => w_toStr (e := 5) (by kernel_rfl) (by kernel_rfl) (by kernel_rfl) hm10.sl (fun hh => by rw [hh] at hvl; simp at hvl; omega)), takeW_pure fun w => run_neqStr (by kernel_rfl) w, decide_eq_true rfl]
        simp only [Bool.not_true, pickT_true, pickT_false, guardT_ff, guardT_tt]
      all_goals
        rw [condW_false, drewW_eq]
        have hbd := below_trans hb10 (below_drew w10)
        generalize w10.drew = w11 at *
        have hP11 := hP4.below hbd
        have hJ11 := hJ4.below hbd
        have hB11 := Nat.le_trans hB4 hbd.size
        have hb11 := hb4.trans (hbd.mono hb4.size)
        have ho11 : Off (fun _ => False) w11 w11 := Off.refl _ _
        refine ⟨Off (fun _ => False) w11, ho11, ?_⟩
        try simp only [nilT_ptr]
        rw [tfl32_1, r_loadO agg28 known28 (hP11.row.cell (i := 0 + 1) rfl) (fun h => h) ho11]
        match oo4, hJ11 with
        | none, ⟨e1, e2⟩ =>
          subst e1 e2
          rw [t_neqP28n]
          simp only [guardT_ft, guardT_u, guardW_ft, guardW_u, pickT_false, keepS_eq, guardT_tf, guardW_tf, guardT_ff, guardW_ff]
          try simp only [pickT_true, pickT_false]
          refine ⟨ho11, ho11, ho11, ho11, ?_⟩
          rw [condW_false, w_add, wrap_id (by omega), loopK_self]
          exact ⟨25 - (i + 1), by omega, i + 1, D4, _, _, none, by simp [I], rfl, by omega, by omega, hP11, ⟨rfl, rfl⟩, by omega, hB11, hb11⟩
        | some (t, br), ⟨jb, kb, e1, e2, hj, hkk, htp⟩ =>
          subst e1 e2
          obtain ⟨lv4, hkR⟩ := id hkk
          have htok := htp.tok
          have hts := htok.size
          have htr := htok.recs
          rw [t_neqP28]
          simp only [guardT_tt, guardW_tt, nilT_ptr, pickT_true]
          rw [tfl32_1, r_loadO agg28 known28 (hP11.row.cell (i := 0 + 1) rfl) (fun h => h) ho11, tfl32_3, r_loadO agg30 known30 (hP11.row.cell (i := 0 + 3) rfl) (fun h => h) ho11]
          simp only [nilT_ptr]
          rw [tfl43_1, r_loadO agg22 known22 (hkR.row.cell (i := 0 + 1) rfl) (fun h => h) ho11]
          refine c19d hj (by omega) fun v12 w12 hb12 hm12 => ?_
          rw [keepS_eq]
          refine ⟨Off.below hb12, ?_⟩
          refine c18 hm12.sl (hkR.recs.below hb12).sl (by omega) fun w13 hb13 => ?_
          replace hb13 := below_trans hb12 hb13
          have ho13 : Off (fun _ => False) w11 w13 := Off.below hb13
          rw [decide_eq_true rfl, keepS_eq]
          refine ⟨ho13, ?_⟩
          rw [t_not]
          simp only [Bool.not_true, guardT_ff, guardW_ff, nilT_ptr, pickT_false]
          rw [tfl32_1, r_loadO agg28 known28 (hP11.row.cell (i := 0 + 1) rfl) (fun h => h) ho13, tfl32_3, r_loadO agg30 known30 (hP11.row.cell (i := 0 + 3) rfl) (fun h => h) ho13]
          refine c20q (hP11.dq.below hb13) hcoh.ok (hj.below hb13) (by omega) fun w14 hb14 => ?_
          replace hb14 := below_trans hb13 hb14
          rw [keepS_eq]
          refine ⟨Off.below hb14, ?_⟩
          refine c21 (hP11.rj.below hb14) hcoh.ok.dur (by omega) (hkk.below hb14) (by omega) fun w15 hb15 => ?_
          replace hb15 := below_trans hb14 hb15
          rw [keepS_eq]
          refine ⟨Off.below hb15, ?_⟩
          rw [t_neq, decide_eq_true rfl]
          try simp only [Bool.not_true, pickT_true, pickT_false, guardT_tt]
          rw [condW_false, w_add, wrap_id (by omega), loopK_self]
          exact ⟨25 - (i + 1), by omega, i + 1, D4, _, _, some (t, br), by simp [I], rfl, by omega, by omega, hP11.below hb15, ⟨jb, kb, rfl, rfl, hj.below hb15, hkk.below hb15, htp⟩, by omega, Nat.le_trans hB11 hb15.size, hb11.trans (hb15.mono hb11.size)⟩
  all_goals
    rw [condW_false]
    exact hk _ hb3
end
end Go.Proofs.YtbojglaimdjagaaGreatDoor
/- JournalMatchesReference answers true for every input, and the input reads as it did; its card ties the four listed variables to the program's text: no condition of its own. -/
namespace Go.Proofs.YtbojglaimdjagaaGreatDoor.journalMatchesReference
open Go Go.V Go.ChangeShapes Go.WideShapes Go.ChangeAt Go.RowKit Go.Deep
set_option linter.unusedVariables false
theorem laid_met (os : Os) (args : Array Value) : laidMetH Tryz.prog Rows.journalMatchesReferenceRow.laid ((laidWorld os).forCall (fun _ _ => 0) ⟨#[], args, []⟩).memory := laid_met0 os args
theorem witness_row (os : Os) {H : Type} (enc : TypeId × Value → H) :
    (OpenSpec.ofChange Rows.journalMatchesReferenceSpec).preRow enc Tryz.prog Tryz.f7 Rows.journalMatchesReferenceRow.domain false Rows.journalMatchesReferenceRow.laid ((laidWorld os).forCall (fun _ _ => 0) ⟨#[], #[.int .i64 0, .slice none 0 0], []⟩).memory #[.int .i64 0, .slice none 0 0] := by
  have hw : (DataW.whole enc Tryz.prog ((laidWorld os).forCall (fun _ _ => 0) ⟨#[], #[.int .i64 0, .slice none 0 0], []⟩).memory Tryz.f7.params.toList (OpenSpec.ofChange Rows.journalMatchesReferenceSpec).vars false (#[.int .i64 0, .slice none 0 0] : Array Value).toList 8).map (fun x => (x.1, x.2.1)) =
      some ([.lit (.int .i64 0), .nil], []) := by kernel_rfl
  obtain ⟨⟨x1, x2, x3⟩, hx, hx1⟩ := Option.map_eq_some_iff.1 hw
  simp only [Prod.mk.injEq] at hx1
  obtain ⟨rfl, rfl⟩ := hx1
  exact OpenSpec.preRow_of_cond 8 hx (by kernel_rfl) (fun k hk => by cases hk) (by kernel_rfl) (laid_met os _)
set_option maxRecDepth 100000 in
theorem lifted (os : Os) (started : os.Started) (H : Type) (enc : TypeId × Value → H) (F : Stop.Interp) :
    ReturnsInHanded {} Tryz.checked os 7 .any ((OpenSpec.ofChange Rows.journalMatchesReferenceSpec).preRow enc Tryz.prog Tryz.f7 Rows.journalMatchesReferenceRow.domain false Rows.journalMatchesReferenceRow.laid) (((OpenSpec.ofChange Rows.journalMatchesReferenceSpec).at F).post enc Tryz.prog Tryz.f7 false true false false) := by
  refine returnsInHanded_of_row (C := Tryz.checked) (s := OpenSpec.ofChange Rows.journalMatchesReferenceSpec) own started (by kernel_rfl) Tryz.func7
    (witness_row_atRef (enc := enc) (C := Tryz.checked) false (laidWorld os) #[.int .i64 0, .slice none 0 0] rfl (by kernel_rfl) (by kernel_rfl) (by kernel_rfl) (witness_row os enc)) ?_
  intro W base args ds gs before hval0 hW _ _ _ hL _ _
  have hgl : Gl W := gl_of_laid rfl hL
  have hval : ∀ (j : Nat) t v, Tryz.f7.params[j]? = some t → args[j]? = some v → Value.okWide Tryz.prog W .any base t v := hval0
  have hW' := hW
  obtain ⟨p, q, hA0, hV, rfl, hfz, hnd⟩ := hW
  have hA : DataW.TrodAll enc Tryz.prog W 0 (fun _ => true) true Tryz.f7.params.toList args.toList ds p := hA0
  rw [Tryz.params7] at hA hval
  obtain ⟨v0, vs0, d0, ds0, p0, q0, hargs, rfl, rfl, h0, r0⟩ := trodAll_cons hA
  obtain ⟨v1, vs1, d1, ds1, p1, q1, rfl, rfl, rfl, h1, r1⟩ := trodAll_cons r0
  obtain ⟨rfl, rfl, rfl⟩ := trodAll_nil r1
  obtain rfl : args = #[v0, v1] := by cases args; simp_all
  obtain ⟨rfl, rfl⟩ := trodVars_none hV
  obtain ⟨a0, rfl, rfl, rfl, wa0⟩ := open_int Tryz.underlying3 (hval 0 3 v0 rfl rfl) h0
  obtain ⟨a1, len1, cap1, rfl⟩ := okWide_slice und60 (hval 1 60 v1 rfl rfl)
  have k1 := h1
  have lt1 : ∀ x ∈ p1, x.block < W.heap.size := by obtain ⟨m, hm⟩ := k1; exact DataW.trod_lt m _ _ _ hm
  obtain ⟨l1, s1, o1⟩ : ∃ l : List OpW, OpsV W (.slice a1 len1 cap1) l ∧ okOps l := by
    obtain ⟨fuel, hf⟩ := h1
    exact openO hf
  clear hA0 hval0
  have walk : Calls Tryz.prog 7 #[I a0, .slice a1 len1 cap1] W fun e w' => e = .returned (.bool true) ∧ Below W.heap.size W w' :=
    (S7_calls _ _ _ W (c7 (k := fun v w' => v = .bool true ∧ Below W.heap.size W w') hgl (in64_of_wf wa0) s1 o1 fun w' hb => ⟨rfl, hb⟩)).mono fun e w' h => by
      cases e <;> first | exact h.elim | exact ⟨by rw [h.1], h.2⟩
  refine walk.mono fun e W' ⟨he, bel⟩ => ?_
  subst he
  exact ⟨_, rfl, _, _, _, [], _, [], hW', trodAll_mk1 (shut_bool Tryz.underlying4 _), (trodAll_cons_mk (shut_int Tryz.underlying3 wa0) (trodAll_cons_mk (Below.trod laidOut (by kernel_rfl) (of_decide_eq_true (by kernel_rfl)) k1 bel lt1) trodAll_mk0)), rfl, bel.frame _, fun h => by cases h⟩
theorem row_holds : Rows.JournalMatchesReferenceSaid :=
  OpenClaim.holds_of_cond 7 Tryz.f7 rfl rfl rfl rfl rfl rfl rfl ⟨rfl, rfl, rfl, rfl, rfl⟩ rfl rfl rfl rfl rfl (by kernel_rfl) Tryz.func7 (by kernel_rfl)
    (of_decide_eq_true (by kernel_rfl)) (by unfold Func.isWrapper; first | (rw [if_pos (by decide +kernel)]; kernel_rfl) | (rw [if_neg (by decide +kernel)]; exact ⟨rfl, rfl⟩))
    (fun os started H enc _ F0 => by rw [OpenClaim.pre_eq_preRow]; exact lifted os started H enc F0)
theorem wants (t : TypeId) (ht : t ∈ [3, 60]) : Tryz.prog.wantsStandIn t = false := by
  simp only [List.mem_cons, List.not_mem_nil, or_false] at ht
  rcases ht with rfl | rfl <;> kernel_rfl
theorem proved : Rows.JournalMatchesReferenceCardSaid :=
  Claim7.holds_tied_plain_at .later [] [.data, .data, .sentinel, .pinned] true (true, "69da697e1fae71e390920ac6a76ede8b26c391e873478dcb88b18d537b313e2a") true
    row_holds (fun _ h => by cases h) (by kernel_rfl) (fun _ h => by cases h) journalMatchesReference_row_tie rfl ⟨rfl, rfl⟩ (by kernel_rfl) rfl
    (fun f fn hf hfn => by
      obtain rfl : f = 7 := Option.some.inj ((show Tryz.prog.funcNamed "newswire/newswirelaw34.JournalMatchesReference" = some 7 by kernel_rfl).symm.trans hf) |>.symm
      obtain rfl : fn = Tryz.f7 := (Option.some.inj (Tryz.func7.symm.trans hfn)).symm
      exact ⟨by kernel_rfl, fun j t ht => wants t (by
        rw [Tryz.params7] at ht
        exact List.mem_of_getElem? (by simpa using ht))⟩)
    (by kernel_rfl)
end Go.Proofs.YtbojglaimdjagaaGreatDoor.journalMatchesReference
