/- JournalReopens answers true for every input, and the input reads as it did; its card ties the four listed variables to the program's text: no condition of its own. -/
import Derived.Test.YtbojglaimdjagaaDoorJr3
import Derived.ProofKit
import Derived.OpenShut
import Derived.ShutString
import Derived.ChangeMaps5
import Derived.ChangeOld
import Derived.Deep.Slices
import Derived.Deep.DeepHandedRow
import Derived.LaidMore
import Derived.LaidHandle
import Derived.Test.YtbojglaimdjagaaDoorTie
import Derived.Test.YtbojglaimdjagaaDoorCards
import Derived.SevenTiedAt
import Derived.Deep.DeepWitnessRowRef
import Derived.LaidSub
import Derived.LaidLaws
import Derived.Lib.LaidTab
/- Arguments opened; the package's tables. -/
set_option linter.unusedSimpArgs false
set_option linter.unusedVariables false
namespace Go.Proofs.YtbojglaimdjagaaDoor
open Go Go.V Go.RowKit Go.ChangeShapes Go.WideShapes Go.ChangeAt Go.Deep
theorem own : ownKnob Tryd.prog.godebug = none := by kernel_rfl
theorem laidOut : laidOutB Tryd.prog = true := by kernel_rfl
theorem in64_of_wf {n : Int} (h : (Lit.int .i64 n).wf = true) : in64 n := bounds_i64 h
section
variable {H : Type} {enc : TypeId × Value → H} {P : Program} {w : World} {base : Nat} {spare : Nat → Bool} {held : Bool}
theorem spot_of_cell {x : Addr} {v : Value} (h : w.cell? x = some v) : x.spot = none := by
  unfold World.cell? at h
  cases hs : x.spot with
  | none => rfl
  | some s =>
    exfalso
    split at h
    · rw [hs] at h; simp at h
    · cases h
/-- a slice of flat elements that came in; Q i z: what is known of the i-th -/
theorem sl_of_trodI {α : Type} {F : Fl α} {Q : Nat → α → Prop} {t e : TypeId} {fuel : Nat} {v : Value} {x : DataW H × List MemPlace} (ht : P.underlying t = some (.slice e)) (hc : P.cellsOf e = F.sz) (hp : 0 < F.sz)
    (helem : ∀ i cs m (y : DataW H × List MemPlace), DataW.trod enc P w base spare held m e cs = some y → (∀ ds p, x = (.slice ds [], p) → ds[i]? = some y.1) → ∃ z, cs = F.e z ∧ Q i z) (h : DataW.trod enc P w base spare held fuel t [v] = some x) (hnn : held = held) :
    ∃ l : List α, IsSl F w v l ∧ l.length ≤ maxLen ∧ (∀ i z, l[i]? = some z → Q i z) ∧ ∀ ds p, x = (.slice ds [], p) → l.length = ds.length := by
  rcases open_slice ht h with ⟨hcs, hx0⟩ | ⟨a, len, cap, m, n, D, Pl, hcs, _, hl, hm, hmm, hxx, hel⟩
  · simp at hcs; subst hcs
    exact ⟨[], .nil _, by simp, by simp, fun ds p hh => by rw [hx0] at hh; cases hh⟩
  · simp at hcs; subst hcs
    have hlm : len ≤ m := by rw [hmm]; split <;> omega
    have each : ∀ i, i < len → ∃ z, Q i z ∧ ∀ j u, (F.e z)[j]? = some u → w.cell? ((a.add (i * F.sz)).add j) = some u := fun i hi => by
      obtain ⟨cs, h1, h2⟩ := hel i (by omega)
      obtain ⟨z, rfl, hq⟩ := helem i cs n _ h2 fun ds p hh => by
        rw [hxx] at hh
        simp only [Prod.mk.injEq, DataW.slice.injEq] at hh
        rw [← hh.1.1, List.getElem?_map, List.getElem?_range hi]; rfl
      rw [hc] at h1
      obtain ⟨_, hlen, hcell⟩ := World.cells?_some h1
      exact ⟨z, hq, fun j u hu => by rw [hcell j (by have := (List.getElem?_eq_some_iff.1 hu).1; rw [F.len] at this; exact this)]; exact hu⟩
    have mk : ∀ k, k ≤ len → ∃ l : List α, l.length = k ∧ (∀ i z, l[i]? = some z → Q i z) ∧ ∀ i z, l[i]? = some z → ∀ j u, (F.e z)[j]? = some u → w.cell? ((a.add (i * F.sz)).add j) = some u := by
      intro k
      induction k with
      | zero => intro _; exact ⟨[], rfl, by simp, by simp⟩
      | succ k ih =>
        intro hk
        obtain ⟨l, h1, h2, h3⟩ := ih (by omega)
        obtain ⟨z, hz, hzc⟩ := each k (by omega)
        refine ⟨l ++ [z], by simp [h1], fun i y hy => ?_, fun i y hy => ?_⟩
        · rcases Nat.lt_or_ge i l.length with h | h
          · rw [List.getElem?_append_left h] at hy; exact h2 i y hy
          · rw [List.getElem?_append_right h] at hy
            have := (List.getElem?_eq_some_iff.1 hy).1
            simp at this
            have h0 : i - l.length = 0 := by omega
            rw [h0] at hy; simp at hy; subst hy
            obtain rfl : i = k := by omega
            exact hz
        · rcases Nat.lt_or_ge i l.length with h | h
          · rw [List.getElem?_append_left h] at hy; exact h3 i y hy
          · rw [List.getElem?_append_right h] at hy
            have := (List.getElem?_eq_some_iff.1 hy).1
            simp at this
            have h0 : i - l.length = 0 := by omega
            rw [h0] at hy; simp at hy; subst hy
            obtain rfl : i = k := by omega
            exact hzc
    obtain ⟨l, h1, h2, h3⟩ := mk len (Nat.le_refl _)
    refine ⟨l, ⟨some a, cap, by rw [h1], by omega, fun i z hz => ?_⟩, by omega, h2, fun ds p hh => ?_⟩
    · obtain ⟨z0, hz0⟩ : ∃ z0, l[0]? = some z0 := ⟨l[0]'(by have := (List.getElem?_eq_some_iff.1 hz).1; omega), by simp⟩
      obtain ⟨u, hu⟩ : ∃ u, (F.e z0)[0]? = some u := ⟨(F.e z0)[0]'(by rw [F.len]; exact hp), by simp⟩
      have hsp := spot_of_cell (h3 0 z0 hz0 0 u hu)
      obtain ⟨b, o, sp⟩ := a
      have hsn : sp = none := by
        revert hsp
        simp [Addr.add]
      subst hsn
      refine ⟨b, o, rfl, fun j v hv => ?_⟩
      have := h3 i z hz j v hv
      rwa [add_none, add_none] at this
    · rw [hxx] at hh
      simp only [Prod.mk.injEq, DataW.slice.injEq] at hh
      rw [h1, ← hh.1.1]; simp
theorem sl_of_trod {α : Type} {F : Fl α} {Q : α → Prop} {t e : TypeId} {fuel : Nat} {v : Value} {x : DataW H × List MemPlace} (ht : P.underlying t = some (.slice e)) (hc : P.cellsOf e = F.sz) (hp : 0 < F.sz)
    (helem : ∀ cs m (y : DataW H × List MemPlace), DataW.trod enc P w base spare held m e cs = some y → ∃ z, cs = F.e z ∧ Q z) (h : DataW.trod enc P w base spare held fuel t [v] = some x) :
    ∃ l : List α, IsSl F w v l ∧ l.length ≤ maxLen ∧ ∀ z, z ∈ l → Q z := by
  obtain ⟨l, h1, h2, h3, _⟩ := sl_of_trodI (Q := fun _ z => Q z) ht hc hp (fun _ cs m y hy _ => helem cs m y hy) h rfl
  exact ⟨l, h1, h2, fun z hz => by obtain ⟨i, hi, rfl⟩ := List.getElem_of_mem hz; exact h3 i _ (List.getElem?_eq_getElem hi)⟩
end
end Go.Proofs.YtbojglaimdjagaaDoor
/- The witness of the rows that list the variables; the variables opened. -/
set_option linter.unusedSimpArgs false
set_option linter.unusedVariables false
namespace Go.Proofs.YtbojglaimdjagaaDoor
open Go Go.V Go.ChangeShapes Go.WideShapes Go.ChangeAt Go.RowKit Go.Deep
def laidL : List (String × DataW Unit) := [("unicode/utf8.acceptRanges", Rows.laid_unicode_utf8_acceptRanges), ("newswire/digest.round", Rows.laid_newswire_digest_round), ("newswire/journal.errDamaged", Rows.laid_newswire_journal_errDamaged), ("unicode/utf8.first", Rows.laid_unicode_utf8_first)]
theorem starNm : "*errors.errorString" = "*" ++ "errors.errorString" := by decide
theorem row222 (u : TypeId) (h : Tryd.prog.typeName? 3 u = some "*errors.errorString") : u = 155 :=
  typeName_ptr_named (nm := "errors.errorString") (by rw [← starNm]; kernel_rfl) (by kernel_rfl) (by decide) u (by rw [← starNm]; exact h)
theorem c244 : Tryd.prog.cellsOf 177 = 1 := by kernel_rfl
theorem cc9 : Tryd.prog.cellsOf 9 = 1 := by kernel_rfl
set_option maxRecDepth 100000 in
theorem err_of_laid {W : World} (h : laidMet Tryd.prog [("newswire/journal.errDamaged", Rows.laid_newswire_journal_errDamaged)] W) : ∃ e : Addr, W.cell? ⟨0, 0, none⟩ = some (.iface 155 (.pointer (some e))) := by
  obtain ⟨ps, ⟨g0', t0', cs0, f0, p0, q0, hg0', ht0', hv0, hd0, _, e0⟩, hnd, hrows⟩ := h
  have hg0 : Tryd.prog.globalNamed "newswire/journal.errDamaged" = some 0 := by kernel_rfl
  have ht0 : (Tryd.prog.globals[0]?).map (·.type) = some 69 := by kernel_rfl
  obtain rfl := Option.some.inj (hg0.symm.trans hg0')
  obtain rfl := Option.some.inj (ht0.symm.trans ht0')
  subst e0
  obtain ⟨l0⟩ := cs0
  have ok0 : ∀ u v, l0 = [.iface u v] → Value.okWide Tryd.prog W .any 0 u v := fun u v e => by
    subst e
    exact (hrows 0 0 (by simp [MemPlace.row])).2 u v (by simpa using World.var?_cell hg0' hv0 0)
  obtain ⟨a0, s0, rfl, hc0, hs0, hz0, rfl⟩ := errorString_of_trod Tryd.underlying69 row222 Tryd.underlying155 Tryd.underlying177 rfl rfl Tryd.underlying9 c244 cc9 hd0 ok0
  exact ⟨a0, by simpa using World.var?_cell hg0' hv0 0⟩
theorem dig_of_laid {w : World} (h0 : laidMet Tryd.prog [("newswire/digest.round", Lib.tabData .u32 (kL.map fun x => ((x.toNat : Nat) : Int)))] w) : Cells w 4 0 K64 ∧ 4 < w.heap.size := by
  have hT := Lib.tabIs_of_head (P := Tryd.prog) (g := 4) (t := 147) (e := 137) (n := 64) (by kernel_rfl) (by kernel_rfl) (by kernel_rfl) (by kernel_rfl) (by kernel_rfl) (by kernel_rfl) h0
  have hc : ∀ i, i < 64 → w.cell? ⟨4, i, none⟩ = some (uV (kL.getD i 0)) := fun i hi => by
    have := hT.cell (g := 4) (by kernel_rfl) i (by simpa [kL] using hi)
    rw [this]
    have hk : kL[i]? = some (kL.getD i 0) := by rw [List.getD_eq_getElem?_getD, List.getElem?_eq_getElem (show i < kL.length from hi)]; rfl
    rw [List.getD_eq_getElem?_getD, List.getElem?_map, hk]; rfl
  refine ⟨fun j v hv => ?_, World.block_lt_of_cell? w _ (hc 0 (by decide))⟩
  have hj : j < 64 := by
    have := (List.getElem?_eq_some_iff.1 hv).1
    simpa [K64, kL] using this
  rw [Nat.zero_add, hc j hj, ← hv]
  unfold K64
  have hk : kL[j]? = some (kL.getD j 0) := by rw [List.getD_eq_getElem?_getD, List.getElem?_eq_getElem (show j < kL.length from hj)]; rfl
  rw [List.getElem?_map, hk]; rfl
set_option maxRecDepth 100000 in
theorem gl_of_laid {l : List (String × DataW Unit)} {w : World} (hl : l = laidL) (h : laidMetH Tryd.prog l w) : Gl w := by
  subst hl
  have h1 : laidMet Tryd.prog [("newswire/digest.round", Rows.laid_newswire_digest_round)] w := laidMetH.filter (fun x => x.1 == "newswire/digest.round") h
  have h2 : laidMet Tryd.prog [("newswire/journal.errDamaged", Rows.laid_newswire_journal_errDamaged)] w := laidMetH.filter (fun x => x.1 == "newswire/journal.errDamaged") h
  obtain ⟨a, b⟩ := dig_of_laid h1
  exact ⟨a, b, err_of_laid h2⟩
/-- the heap that the door's run leaves, utf8's table laid besides -/
noncomputable def laidWorld (os : Os) : World :=
  { World.doorLaid Tryd.prog 600 os with heap := (World.doorLaid Tryd.prog 600 os).heap.modify 1 fun
      | .cells _ t frozen => .cells (Go.Pinned.utf8FirstZ.map fun (z : Nat) => Value.int .u8 (z : Int)).toArray t frozen
      | o => o }
theorem laid_met0 (os : Os) (args : Array Value) : laidMetH Tryd.prog laidL ((laidWorld os).forCall (fun _ _ => 0) ⟨#[], args, []⟩).memory :=
  laidMetH_of_parts3 (fuel := 8) (laidMet_of_run' 8 (by kernel_rfl) (by kernel_rfl)) (by kernel_rfl) (by kernel_rfl)
end Go.Proofs.YtbojglaimdjagaaDoor
/- Arguments of the laws, opened. -/
set_option linter.unusedSimpArgs false
set_option linter.unusedVariables false
namespace Go.Proofs.YtbojglaimdjagaaDoor
open Go Go.V Go.RowKit Go.ChangeShapes Go.WideShapes Go.ChangeAt Go.Deep
theorem und22 : Tryd.prog.underlying 22 = some (.slice 9) := by kernel_rfl
theorem und43 : Tryd.prog.underlying 43 = some (.slice 22) := by kernel_rfl
theorem cells22 : Tryd.prog.cellsOf 22 = 1 := by kernel_rfl
theorem choose_list {α β : Type} {R : α → β → Prop} : ∀ {l : List α}, (∀ x ∈ l, ∃ y, R x y) → ∃ m : List β, l.length = m.length ∧ (∀ (i : Nat) x y, l[i]? = some x → m[i]? = some y → R x y)
  | [], _ => ⟨[], rfl, fun i x y h => by simp at h⟩
  | a :: l, h => by
    obtain ⟨b, hb⟩ := h a (by simp)
    obtain ⟨m, hm, hR⟩ := choose_list (l := l) (R := R) fun x hx => h x (by simp [hx])
    refine ⟨b :: m, by simp [hm], fun i x y h1 h2 => ?_⟩
    cases i with
    | zero => simp at h1 h2; subst h1; subst h2; exact hb
    | succ i => exact hR i x y (by simpa using h1) (by simpa using h2)
section
variable {H : Type} {enc : TypeId × Value → H} {w : World} {base : Nat} {spare : Nat → Bool} {held : Bool}
theorem str_of_trod {cs : List Value} {m : Nat} {y : DataW H × List MemPlace} (h : DataW.trod enc Tryd.prog w base spare held m 9 cs = some y) : ∃ s, cs = [.string s] ∧ s.size ≤ maxLen := by
  obtain ⟨s, h1, _, h2⟩ := DataW.trod_string Tryd.underlying9 h
  exact ⟨s, h1, h2⟩
theorem openT {fuel : Nat} {v : Value} {x : DataW H × List MemPlace} (h : DataW.trod enc Tryd.prog w base spare held fuel 22 [v] = some x) : ∃ l : List ByteArray, IsSl fT w v l ∧ l.length ≤ maxLen ∧ ∀ s ∈ l, s.size ≤ maxLen := by
  obtain ⟨l, h1, h2, h3⟩ := sl_of_trod (F := fT) (Q := fun s => s.size ≤ maxLen) und22 cc9 (by decide) (fun cs m y h => by
    obtain ⟨s, hs, hm⟩ := str_of_trod h
    exact ⟨s, hs, hm⟩) h
  exact ⟨l, h1, h2, h3⟩
theorem openG {fuel : Nat} {v : Value} {x : DataW H × List MemPlace} (h : DataW.trod enc Tryd.prog w base spare held fuel 43 [v] = some x) :
    ∃ vs gs, Gr w v vs gs ∧ gs.length ≤ maxLen ∧ ∀ g ∈ gs, g.length ≤ maxLen := by
  obtain ⟨vs, h1, h2, h3⟩ := sl_of_trod (F := fFn) (Q := fun v => ∃ l : List ByteArray, IsSl fT w v l ∧ l.length ≤ maxLen) und43 cells22 (by decide) (fun cs m y h => by
    have hl : cs.length = 1 := by
      rcases open_slice und22 h with ⟨hcs, _⟩ | ⟨a, len, cap, m, n, D, Pl, hcs, _⟩ <;> rw [hcs] <;> rfl
    match cs, hl with
    | [c], _ =>
      obtain ⟨l, s1, s2, _⟩ := openT h
      exact ⟨c, rfl, l, s1, s2⟩) h
  obtain ⟨gs, g1, g2⟩ := choose_list (l := vs) (R := fun v (g : List ByteArray) => IsSl fT w v g ∧ g.length ≤ maxLen) h3
  refine ⟨vs, gs, ⟨h1, g1, fun i x g hx hg => (g2 i x g hx hg).1⟩, by omega, fun g hg => ?_⟩
  obtain ⟨i, hi, rfl⟩ := List.getElem_of_mem hg
  exact (g2 i vs[i] gs[i] (List.getElem?_eq_getElem (by omega)) (List.getElem?_eq_getElem hi)).2
end
end Go.Proofs.YtbojglaimdjagaaDoor
/- JournalReopens answers true for every input, and the input reads as it did; its card ties the four listed variables to the program's text: no condition of its own. -/
namespace Go.Proofs.YtbojglaimdjagaaDoor.journalReopens
open Go Go.V Go.ChangeShapes Go.WideShapes Go.ChangeAt Go.RowKit Go.Deep
set_option linter.unusedVariables false
theorem laid_met (os : Os) (args : Array Value) : laidMetH Tryd.prog Rows.journalReopensRow.laid ((laidWorld os).forCall (fun _ _ => 0) ⟨#[], args, []⟩).memory := laid_met0 os args
theorem witness_row (os : Os) {H : Type} (enc : TypeId × Value → H) :
    (OpenSpec.ofChange Rows.journalReopensSpec).preRow enc Tryd.prog Tryd.f4 Rows.journalReopensRow.domain false Rows.journalReopensRow.laid ((laidWorld os).forCall (fun _ _ => 0) ⟨#[], #[.int .i64 0, .slice none 0 0], []⟩).memory #[.int .i64 0, .slice none 0 0] := by
  have hw : (DataW.whole enc Tryd.prog ((laidWorld os).forCall (fun _ _ => 0) ⟨#[], #[.int .i64 0, .slice none 0 0], []⟩).memory Tryd.f4.params.toList (OpenSpec.ofChange Rows.journalReopensSpec).vars false (#[.int .i64 0, .slice none 0 0] : Array Value).toList 8).map (fun x => (x.1, x.2.1)) =
      some ([.lit (.int .i64 0), .nil], []) := by kernel_rfl
  obtain ⟨⟨x1, x2, x3⟩, hx, hx1⟩ := Option.map_eq_some_iff.1 hw
  simp only [Prod.mk.injEq] at hx1
  obtain ⟨rfl, rfl⟩ := hx1
  exact OpenSpec.preRow_of_cond 8 hx (by kernel_rfl) (fun k hk => by cases hk) (by kernel_rfl) (laid_met os _)
set_option maxRecDepth 100000 in
theorem lifted (os : Os) (started : os.Started) (H : Type) (enc : TypeId × Value → H) (F : Stop.Interp) :
    ReturnsInHanded {} Tryd.checked os 4 .any ((OpenSpec.ofChange Rows.journalReopensSpec).preRow enc Tryd.prog Tryd.f4 Rows.journalReopensRow.domain false Rows.journalReopensRow.laid) (((OpenSpec.ofChange Rows.journalReopensSpec).at F).post enc Tryd.prog Tryd.f4 false true false false) := by
  refine returnsInHanded_of_row (C := Tryd.checked) (s := OpenSpec.ofChange Rows.journalReopensSpec) own started (by kernel_rfl) Tryd.func4
    (witness_row_atRef (enc := enc) (C := Tryd.checked) false (laidWorld os) #[.int .i64 0, .slice none 0 0] rfl (by kernel_rfl) (by kernel_rfl) (by kernel_rfl) (witness_row os enc)) ?_
  intro W base args ds gs before hval0 hW _ _ _ hL _ _
  have hgl : Gl W := gl_of_laid rfl hL
  have hval : ∀ (j : Nat) t v, Tryd.f4.params[j]? = some t → args[j]? = some v → Value.okWide Tryd.prog W .any base t v := hval0
  have hW' := hW
  obtain ⟨p, q, hA0, hV, rfl, hfz, hnd⟩ := hW
  have hA : DataW.TrodAll enc Tryd.prog W 0 (fun _ => true) true Tryd.f4.params.toList args.toList ds p := hA0
  rw [Tryd.params4] at hA hval
  obtain ⟨v0, vs0, d0, ds0, p0, q0, hargs, rfl, rfl, h0, r0⟩ := trodAll_cons hA
  obtain ⟨v1, vs1, d1, ds1, p1, q1, rfl, rfl, rfl, h1, r1⟩ := trodAll_cons r0
  obtain ⟨rfl, rfl, rfl⟩ := trodAll_nil r1
  obtain rfl : args = #[v0, v1] := by cases args; simp_all
  obtain ⟨rfl, rfl⟩ := trodVars_none hV
  obtain ⟨a0, rfl, rfl, rfl, wa0⟩ := open_int Tryd.underlying3 (hval 0 3 v0 rfl rfl) h0
  obtain ⟨a1, len1, cap1, rfl⟩ := okWide_slice und43 (hval 1 43 v1 rfl rfl)
  have k1 := h1
  have lt1 : ∀ x ∈ p1, x.block < W.heap.size := by obtain ⟨m, hm⟩ := k1; exact DataW.trod_lt m _ _ _ hm
  obtain ⟨vv1, l1, s1, o1, u1⟩ : ∃ vs gs, Gr W (.slice a1 len1 cap1) vs gs ∧ gs.length ≤ maxLen ∧ ∀ g ∈ gs, g.length ≤ maxLen := by
    obtain ⟨fuel, hf⟩ := h1
    exact openG hf
  clear hA0 hval0
  have walk : Calls Tryd.prog 4 #[I a0, .slice a1 len1 cap1] W fun e w' => e = .returned (.bool true) ∧ Below W.heap.size W w' :=
    (S4_calls _ _ _ W (r4 (k := fun v w' => v = .bool true ∧ Below W.heap.size W w') hgl (in64_of_wf wa0) s1 o1 u1 fun w' hb => ⟨rfl, hb⟩)).mono fun e w' h => by
      cases e <;> first | exact h.elim | exact ⟨by rw [h.1], h.2⟩
  refine walk.mono fun e W' ⟨he, bel⟩ => ?_
  subst he
  exact ⟨_, rfl, _, _, _, [], _, [], hW', trodAll_mk1 (shut_bool Tryd.underlying4 _), (trodAll_cons_mk (shut_int Tryd.underlying3 wa0) (trodAll_cons_mk (Below.trod laidOut (by kernel_rfl) (of_decide_eq_true (by kernel_rfl)) k1 bel lt1) trodAll_mk0)), rfl, bel.frame _, fun h => by cases h⟩
theorem row_holds : Rows.JournalReopensSaid :=
  OpenClaim.holds_of_cond 4 Tryd.f4 rfl rfl rfl rfl rfl rfl rfl ⟨rfl, rfl, rfl, rfl, rfl⟩ rfl rfl rfl rfl rfl (by kernel_rfl) Tryd.func4 (by kernel_rfl)
    (of_decide_eq_true (by kernel_rfl)) (by unfold Func.isWrapper; first | (rw [if_pos (by decide +kernel)]; kernel_rfl) | (rw [if_neg (by decide +kernel)]; exact ⟨rfl, rfl⟩))
    (fun os started H enc _ F0 => by rw [OpenClaim.pre_eq_preRow]; exact lifted os started H enc F0)
theorem wants (t : TypeId) (ht : t ∈ [3, 43]) : Tryd.prog.wantsStandIn t = false := by
  simp only [List.mem_cons, List.not_mem_nil, or_false] at ht
  rcases ht with rfl | rfl <;> kernel_rfl
theorem proved : Rows.JournalReopensCardSaid :=
  Claim7.holds_tied_plain_at .later [] [.data, .data, .sentinel, .pinned] true (true, "ccaabf0f9eb154955690a68d46d5bd6d203564a63727e25f5458abf94d70aa24") true
    row_holds (fun _ h => by cases h) (by kernel_rfl) (fun _ h => by cases h) journalReopens_row_tie rfl ⟨rfl, rfl⟩ (by kernel_rfl) rfl
    (fun f fn hf hfn => by
      obtain rfl : f = 4 := Option.some.inj ((show Tryd.prog.funcNamed "newswire/newswirelaw34.JournalReopens" = some 4 by kernel_rfl).symm.trans hf) |>.symm
      obtain rfl : fn = Tryd.f4 := (Option.some.inj (Tryd.func4.symm.trans hfn)).symm
      exact ⟨by kernel_rfl, fun j t ht => wants t (by
        rw [Tryd.params4] at ht
        exact List.mem_of_getElem? (by simpa using ht))⟩)
    (by kernel_rfl)
end Go.Proofs.YtbojglaimdjagaaDoor.journalReopens
