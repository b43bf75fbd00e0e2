/- RelayMatchesReference answers true for every input, and the input reads as it did; its card ties the one listed variable to the program's text: no condition of its own. -/
import Derived.Test.YtklknkmeljjmgaaGreatDoorKf5
import Derived.WalkKit
import Derived.ProofKit
import Derived.OpenShut
import Derived.ShutString
import Derived.ChangeOld
import Derived.Deep.Slices
import Derived.Deep.DeepHandedRow
import Derived.Lib.LaidTab
import Derived.Test.YtklknkmeljjmgaaGreatDoorTie
import Derived.Test.YtklknkmeljjmgaaGreatDoorCards
import Derived.SevenTiedAt
/- Arguments that are slices of flat elements, opened. -/
set_option linter.unusedSimpArgs false
set_option linter.unusedVariables false
namespace Go.Proofs.YtklknkmeljjmgaaGreatDoor
open Go Go.V Go.RowKit Go.ChangeShapes Go.WideShapes Go.ChangeAt Go.Deep
theorem own : ownKnob Tryz.prog.godebug = none := by kernel_rfl
theorem laidOut : laidOutB Tryz.prog = true := by kernel_rfl
theorem in64_of_wf {n : Int} (h : (Lit.int .i64 n).wf = true) : in64 n := bounds_i64 h
section
variable {H : Type} {enc : TypeId × Value → H} {P : Program} {w : World} {base : Nat} {spare : Nat → Bool} {held : Bool}
theorem spot_of_cell {x : Addr} {v : Value} (h : w.cell? x = some v) : x.spot = none := by
  unfold World.cell? at h
  cases hs : x.spot with
  | none => rfl
  | some s =>
    exfalso
    split at h
    · rw [hs] at h; simp at h
    · cases h
/-- a slice of flat elements that came in -/
theorem sl_of_trod {α : Type} {F : Fl α} {Q : α → Prop} {t e : TypeId} {fuel : Nat} {v : Value} {x : DataW H × List MemPlace} (ht : P.underlying t = some (.slice e)) (hc : P.cellsOf e = F.sz) (hp : 0 < F.sz)
    (helem : ∀ cs m (y : DataW H × List MemPlace), DataW.trod enc P w base spare held m e cs = some y → ∃ z, cs = F.e z ∧ Q z) (h : DataW.trod enc P w base spare held fuel t [v] = some x) :
    ∃ l : List α, IsSl F w v l ∧ l.length ≤ maxLen ∧ ∀ z, z ∈ l → Q z := by
  rcases open_slice ht h with ⟨hcs, _⟩ | ⟨a, len, cap, m, n, D, Pl, hcs, _, hl, hm, hmm, _, hel⟩
  · simp at hcs; subst hcs
    exact ⟨[], .nil _, by simp, by simp⟩
  · simp at hcs; subst hcs
    have hlm : len ≤ m := by rw [hmm]; split <;> omega
    have each : ∀ i, i < len → ∃ z, Q z ∧ ∀ j u, (F.e z)[j]? = some u → w.cell? ((a.add (i * F.sz)).add j) = some u := fun i hi => by
      obtain ⟨cs, h1, h2⟩ := hel i (by omega)
      obtain ⟨z, rfl, hq⟩ := helem cs n _ h2
      rw [hc] at h1
      obtain ⟨_, hlen, hcell⟩ := World.cells?_some h1
      exact ⟨z, hq, fun j u hu => by rw [hcell j (by have := (List.getElem?_eq_some_iff.1 hu).1; rw [F.len] at this; exact this)]; exact hu⟩
    have mk : ∀ k, k ≤ len → ∃ l : List α, l.length = k ∧ (∀ z, z ∈ l → Q z) ∧ ∀ i z, l[i]? = some z → ∀ j u, (F.e z)[j]? = some u → w.cell? ((a.add (i * F.sz)).add j) = some u := by
      intro k
      induction k with
      | zero => intro _; exact ⟨[], rfl, by simp, by simp⟩
      | succ k ih =>
        intro hk
        obtain ⟨l, h1, h2, h3⟩ := ih (by omega)
        obtain ⟨z, hz, hzc⟩ := each k (by omega)
        refine ⟨l ++ [z], by simp [h1], fun y hy => ?_, fun i y hy => ?_⟩
        · rcases List.mem_append.1 hy with h | h
          · exact h2 y h
          · simp at h; subst h; exact hz
        · rcases Nat.lt_or_ge i l.length with h | h
          · rw [List.getElem?_append_left h] at hy; exact h3 i y hy
          · rw [List.getElem?_append_right h] at hy
            have := (List.getElem?_eq_some_iff.1 hy).1
            simp at this
            have h0 : i - l.length = 0 := by omega
            rw [h0] at hy; simp at hy; subst hy
            obtain rfl : i = k := by omega
            exact hzc
    obtain ⟨l, h1, h2, h3⟩ := mk len (Nat.le_refl _)
    refine ⟨l, ⟨some a, cap, by rw [h1], by omega, fun i z hz => ?_⟩, by omega, h2⟩
    obtain ⟨z0, hz0⟩ : ∃ z0, l[0]? = some z0 := ⟨l[0]'(by have := (List.getElem?_eq_some_iff.1 hz).1; omega), by simp⟩
    obtain ⟨u, hu⟩ : ∃ u, (F.e z0)[0]? = some u := ⟨(F.e z0)[0]'(by rw [F.len]; exact hp), by simp⟩
    have hsp := spot_of_cell (h3 0 z0 hz0 0 u hu)
    obtain ⟨b, o, sp⟩ := a
    have hsn : sp = none := by
      revert hsp
      simp [Addr.add]
    subst hsn
    refine ⟨b, o, rfl, fun j v hv => ?_⟩
    have := h3 i z hz j v hv
    rwa [add_none, add_none] at this
theorem cells3' : Tryz.prog.cellsOf 3 = 1 := by kernel_rfl
theorem cell_of_trod {cs : List Value} {m : Nat} {y : DataW H × List MemPlace} {i : Nat} (hi : i < cs.length) (h : DataW.trod enc Tryz.prog w base spare held m 3 ((cs.drop (i * 1)).take 1) = some y) : ∃ n, cs[i]? = some (I n) ∧ in64 n := by
  obtain ⟨n, hn, _, hw⟩ := DataW.trod_int Tryz.underlying3 h
  refine ⟨n, ?_, in64_of_wf hw⟩
  have := congrArg (fun l : List Value => l[0]?) hn
  simp only [List.getElem?_take, List.getElem?_drop] at this
  simpa using this
theorem mapM_all {α β : Type} {f : α → Option β} : ∀ {l : List α} {ys : List β}, l.mapM f = some ys → ∀ a ∈ l, ∃ y, f a = some y
  | [], _, _, a, ha => by cases ha
  | b :: r, ys, h, a, ha => by
    rw [List.mapM_cons] at h
    cases hb : f b with
    | none => rw [hb] at h; cases h
    | some y =>
      rw [hb] at h
      cases hr : r.mapM f with
      | none => rw [hr] at h; cases h
      | some z =>
        rcases List.mem_cons.1 ha with rfl | ha
        · exact ⟨y, hb⟩
        · exact mapM_all hr a ha
theorem trod_struct {fuel : Nat} {t : TypeId} {cs : List Value} {fs : Array Field} {x : DataW H × List MemPlace} (ht : P.underlying t = some (.struct fs)) (h : DataW.trod enc P w base spare held fuel t cs = some x) :
    cs.length = P.cellsOf t ∧ ∃ m, ∀ f ∈ fs.toList, ∃ y, DataW.trod enc P w base spare held m f.type ((cs.drop f.offset).take (P.cellsOf f.type)) = some y := by
  cases fuel with
  | zero => simp [DataW.trod] at h
  | succ m =>
    unfold DataW.trod at h
    rw [ht] at h
    split at h <;> simp_all
    obtain ⟨h1, ys, hys, _⟩ := h
    refine ⟨m, fun f hf => ?_⟩
    obtain ⟨y, hy⟩ := mapM_all hys f (by simpa using hf)
    obtain ⟨a, b⟩ := y
    exact ⟨a, b, hy⟩
theorem field_int {cs : List Value} {m off : Nat} {y : DataW H × List MemPlace} (hi : off < cs.length) (h : DataW.trod enc Tryz.prog w base spare held m 3 ((cs.drop off).take 1) = some y) : ∃ n, cs[off]? = some (I n) ∧ in64 n :=
  cell_of_trod (i := off) hi (by rw [Nat.mul_one]; exact h)
def structAt (P : Program) (t : TypeId) : Option (List (Nat × Nat)) := match P.underlying t with
  | some (.struct fs) => some (mapL (fun f => (f.type, f.offset)) fs.toList)
  | _ => none
theorem structAt_spec {t : TypeId} {l : List (Nat × Nat)} (h : structAt P t = some l) : ∃ fs : Array Field, P.underlying t = some (.struct fs) ∧ fs.toList.map (fun f => (f.type, f.offset)) = l := by
  unfold structAt at h
  split at h
  · rename_i fs hfs
    cases h
    exact ⟨fs, hfs, (mapL_eq _ _).symm⟩
  · cases h
/-- the fields of a struct that came in -/
theorem trod_fields {fuel : Nat} {t : TypeId} {cs : List Value} {l : List (Nat × Nat)} {x : DataW H × List MemPlace} (hl : structAt P t = some l) (h : DataW.trod enc P w base spare held fuel t cs = some x) :
    cs.length = P.cellsOf t ∧ ∃ m, ∀ f ∈ l, ∃ y, DataW.trod enc P w base spare held m f.1 ((cs.drop f.2).take (P.cellsOf f.1)) = some y := by
  obtain ⟨fs, hfs, hm⟩ := structAt_spec hl
  obtain ⟨h1, m, h2⟩ := trod_struct hfs h
  refine ⟨h1, m, fun f hf => ?_⟩
  rw [← hm] at hf
  obtain ⟨g, hg, rfl⟩ := List.mem_map.1 hf
  exact h2 g hg
theorem u59 : Tryz.prog.underlying 59 = some (.array 4 3) := by kernel_rfl
theorem cells59 : Tryz.prog.cellsOf 59 = 4 := by kernel_rfl
theorem cells23 : Tryz.prog.cellsOf 23 = 2 := by kernel_rfl
theorem und22 : Tryz.prog.underlying 22 = some (.slice 59) := by kernel_rfl
theorem u23 : Tryz.prog.underlying 23 = some (.array 2 3) := by kernel_rfl
set_option maxRecDepth 100000 in
theorem elem59 (cs : List Value) (m : Nat) (y : DataW H × List MemPlace) (h : DataW.trod enc Tryz.prog w base spare held m 59 cs = some y) : ∃ z : Q4, cs = fQ.e z ∧ okQ z := by
  obtain ⟨xs, m', _, _, hl, hxl, he⟩ := DataW.trod_array u59 h
  rw [cells59] at hl
  have get : ∀ i, i < 4 → ∃ n, cs[i]? = some (I n) ∧ in64 n := fun i hi => by
    have h1 := he i hi
    rw [cells3', List.getElem?_eq_getElem (show i < xs.length by omega)] at h1
    exact cell_of_trod (by omega) h1
  obtain ⟨a, ha, hwa⟩ := get 0 (by decide)
  obtain ⟨b, hb, hwb⟩ := get 1 (by decide)
  obtain ⟨c, hc, hwc⟩ := get 2 (by decide)
  obtain ⟨d, hd, hwd⟩ := get 3 (by decide)
  refine ⟨⟨a, b, c, d⟩, ?_, hwa, hwb, hwc, hwd⟩
  match cs, hl with
  | [x, y, z, t], _ => simp at ha hb hc hd; subst ha; subst hb; subst hc; subst hd; rfl
set_option maxRecDepth 100000 in
theorem arr23 {cs : List Value} {m : Nat} {y : DataW H × List MemPlace} (h : DataW.trod enc Tryz.prog w base spare held m 23 cs = some y) : ∃ a b, cs = [I a, I b] ∧ in64 a ∧ in64 b := by
  obtain ⟨xs, m', _, _, hl, hxl, he⟩ := DataW.trod_array u23 h
  rw [cells23] at hl
  have get : ∀ i, i < 2 → ∃ n, cs[i]? = some (I n) ∧ in64 n := fun i hi => by
    have h1 := he i hi
    rw [cells3', List.getElem?_eq_getElem (show i < xs.length by omega)] at h1
    exact cell_of_trod (by omega) h1
  obtain ⟨a, ha, hwa⟩ := get 0 (by decide)
  obtain ⟨b, hb, hwb⟩ := get 1 (by decide)
  refine ⟨a, b, ?_, hwa, hwb⟩
  match cs, hl with
  | [x, y], _ => simp at ha hb; subst ha; subst hb; rfl
end
/-- the constants are in the variable -/
theorem gl_of_laid {l : List (String × DataW Unit)} {w : World} (hl : l = [("newswire/digest.round", Rows.laid_newswire_digest_round)]) (h : laidMetH Tryz.prog l w) : Gl w := by
  subst hl
  have h0 : laidMet Tryz.prog [("newswire/digest.round", Lib.tabData .u32 (kL.map fun x => ((x.toNat : Nat) : Int)))] w := h
  have hT := Lib.tabIs_of_head (P := Tryz.prog) (g := 0) (t := 120) (e := 89) (n := 64) (by kernel_rfl) (by kernel_rfl) (by kernel_rfl) (by kernel_rfl) (by kernel_rfl) (by kernel_rfl) h0
  have hc : ∀ i, i < 64 → w.cell? ⟨0, i, none⟩ = some (uV (kL.getD i 0)) := fun i hi => by
    have := hT.cell (g := 0) (by kernel_rfl) i (by simpa [kL] using hi)
    rw [this]
    have hk : kL[i]? = some (kL.getD i 0) := by rw [List.getD_eq_getElem?_getD, List.getElem?_eq_getElem (show i < kL.length from hi)]; rfl
    rw [List.getD_eq_getElem?_getD, List.getElem?_map, hk]; rfl
  refine ⟨fun j v hv => ?_, World.block_lt_of_cell? w _ (hc 0 (by decide))⟩
  have hj : j < 64 := by
    have := (List.getElem?_eq_some_iff.1 hv).1
    simpa [K64, kL] using this
  rw [Nat.zero_add, hc j hj, ← hv]
  unfold K64
  have hk : kL[j]? = some (kL.getD j 0) := by rw [List.getD_eq_getElem?_getD, List.getElem?_eq_getElem (show j < kL.length from hj)]; rfl
  rw [List.getElem?_map, hk]; rfl
end Go.Proofs.YtklknkmeljjmgaaGreatDoor
/- The witness of the rows that list the variable. -/
namespace Go.Proofs.YtklknkmeljjmgaaGreatDoor
open Go Go.V Go.ChangeShapes Go.WideShapes Go.ChangeAt Go.RowKit
/-- the settled world, the variable holding what its initialiser lays -/
noncomputable def laidWorld (os : Os) : World :=
  { World.holding Tryz.prog os ⟨#[], #[], []⟩ with heap := (World.holding Tryz.prog os ⟨#[], #[], []⟩).heap.modify 0 fun
      | .cells _ t frozen => .cells K64.toArray t frozen
      | o => o }
end Go.Proofs.YtklknkmeljjmgaaGreatDoor
/- Arguments that are relays, packets, dispatches, opened. -/
set_option linter.unusedSimpArgs false
set_option linter.unusedVariables false
namespace Go.Proofs.YtklknkmeljjmgaaGreatDoor
open Go Go.V Go.RowKit Go.ChangeShapes Go.WideShapes Go.ChangeAt Go.Deep
section
variable {H : Type} {enc : TypeId × Value → H} {w : World} {base : Nat} {spare : Nat → Bool} {held : Bool}
theorem cells9' : Tryz.prog.cellsOf 9 = 1 := by kernel_rfl
theorem cells24' : Tryz.prog.cellsOf 24 = 1 := by kernel_rfl
theorem cells25' : Tryz.prog.cellsOf 25 = 1 := by kernel_rfl
theorem cells31' : Tryz.prog.cellsOf 31 = 4 := by kernel_rfl
theorem cells63' : Tryz.prog.cellsOf 63 = 4 := by kernel_rfl
theorem cells27' : Tryz.prog.cellsOf 27 = 4 := by kernel_rfl
theorem cells29' : Tryz.prog.cellsOf 29 = 3 := by kernel_rfl
theorem und24' : Tryz.prog.underlying 24 = some (.slice 31) := by kernel_rfl
theorem und25' : Tryz.prog.underlying 25 = some (.slice 63) := by kernel_rfl
theorem sa31 : structAt Tryz.prog 31 = some [(3, 0), (3, 1), (3, 2), (9, 3)] := by kernel_rfl
theorem sa63 : structAt Tryz.prog 63 = some [(3, 0), (3, 1), (3, 2), (9, 3)] := by kernel_rfl
theorem sa27 : structAt Tryz.prog 27 = some [(3, 0), (3, 1), (24, 2), (25, 3)] := by kernel_rfl
theorem sa29 : structAt Tryz.prog 29 = some [(3, 0), (24, 1), (25, 2)] := by kernel_rfl
theorem take_one {cs : List Value} {off : Nat} (h : off < cs.length) : (cs.drop off).take 1 = [cs[off]] := by
  rw [List.drop_eq_getElem_cons h]; rfl
theorem field_str {cs : List Value} {m off : Nat} {y : DataW H × List MemPlace} (hi : off < cs.length) (h : DataW.trod enc Tryz.prog w base spare held m 9 ((cs.drop off).take 1) = some y) : ∃ s, cs[off]? = some (.string s) := by
  obtain ⟨s, hs, _, _⟩ := DataW.trod_string (by kernel_rfl) h
  rw [take_one hi] at hs
  simp at hs
  exact ⟨s, by rw [List.getElem?_eq_getElem hi, hs]⟩
set_option maxRecDepth 100000 in
theorem elem31 (cs : List Value) (m : Nat) (y : DataW H × List MemPlace) (h : DataW.trod enc Tryz.prog w base spare held m 31 cs = some y) : ∃ z : Disp, cs = fD.e z ∧ True := by
  obtain ⟨hl, m', hf⟩ := trod_fields sa31 h
  rw [cells31'] at hl
  have get : ∀ i, (3, i) ∈ [(3, 0), (3, 1), (3, 2), (9, 3)] → i < 4 → ∃ n, cs[i]? = some (I n) ∧ in64 n := fun i hm hi => by
    obtain ⟨y, hy⟩ := hf (3, i) hm
    rw [cells3'] at hy
    exact field_int (by omega) hy
  obtain ⟨a, ha, _⟩ := get 0 (by simp) (by decide)
  obtain ⟨b, hb, _⟩ := get 1 (by simp) (by decide)
  obtain ⟨c, hc, _⟩ := get 2 (by simp) (by decide)
  obtain ⟨y, hy⟩ := hf (9, 3) (by simp)
  rw [cells9'] at hy
  obtain ⟨s, hs⟩ := field_str (by omega) hy
  refine ⟨⟨a, b, c, s⟩, ?_, trivial⟩
  match cs, hl with
  | [x, y, z, t], _ => simp at ha hb hc hs; subst ha; subst hb; subst hc; subst hs; rfl
set_option maxRecDepth 100000 in
theorem elem63 (cs : List Value) (m : Nat) (y : DataW H × List MemPlace) (h : DataW.trod enc Tryz.prog w base spare held m 63 cs = some y) : ∃ z : Slp, cs = fP.e z ∧ True := by
  obtain ⟨hl, m', hf⟩ := trod_fields sa63 h
  rw [cells63'] at hl
  have get : ∀ i, (3, i) ∈ [(3, 0), (3, 1), (3, 2), (9, 3)] → i < 4 → ∃ n, cs[i]? = some (I n) ∧ in64 n := fun i hm hi => by
    obtain ⟨y, hy⟩ := hf (3, i) hm
    rw [cells3'] at hy
    exact field_int (by omega) hy
  obtain ⟨a, ha, _⟩ := get 0 (by simp) (by decide)
  obtain ⟨b, hb, _⟩ := get 1 (by simp) (by decide)
  obtain ⟨c, hc, _⟩ := get 2 (by simp) (by decide)
  obtain ⟨y, hy⟩ := hf (9, 3) (by simp)
  rw [cells9'] at hy
  obtain ⟨s, hs⟩ := field_str (by omega) hy
  refine ⟨⟨a, b, c, s⟩, ?_, trivial⟩
  match cs, hl with
  | [x, y, z, t], _ => simp at ha hb hc hs; subst ha; subst hb; subst hc; subst hs; rfl
end
section
variable {H : Type} {enc : TypeId × Value → H} {w : World}
theorem open24 {m : Nat} {v : Value} {y : DataW H × List MemPlace} (h : DataW.trod enc Tryz.prog w 0 (fun _ => true) true m 24 [v] = some y) : ∃ l : List Disp, IsSl fD w v l := by
  obtain ⟨l, h1, _, _⟩ := sl_of_trod und24' cells31' (by decide) elem31 h
  exact ⟨l, h1⟩
theorem open25 {m : Nat} {v : Value} {y : DataW H × List MemPlace} (h : DataW.trod enc Tryz.prog w 0 (fun _ => true) true m 25 [v] = some y) : ∃ l : List Slp, IsSl fP w v l := by
  obtain ⟨l, h1, _, _⟩ := sl_of_trod und25' cells63' (by decide) elem63 h
  exact ⟨l, h1⟩
set_option maxRecDepth 100000 in
theorem openRel {m : Nat} {cs : Array Value} {y : DataW H × List MemPlace} (h : DataW.trod enc Tryz.prog w 0 (fun _ => true) true m 27 cs.toList = some y) : ∃ r : Rel, RelV w (.agg cs) r := by
  obtain ⟨hl, m', hf⟩ := trod_fields sa27 h
  rw [cells27'] at hl
  obtain ⟨cs⟩ := cs
  have get : ∀ i, (3, i) ∈ [(3, 0), (3, 1), (24, 2), (25, 3)] → i < 4 → ∃ n, cs[i]? = some (I n) ∧ in64 n := fun i hm hi => by
    obtain ⟨y, hy⟩ := hf (3, i) hm
    rw [cells3'] at hy
    exact field_int (by have : cs.length = 4 := hl; show i < cs.length; omega) hy
  obtain ⟨a, ha, _⟩ := get 0 (by simp) (by decide)
  obtain ⟨b, hb, _⟩ := get 1 (by simp) (by decide)
  obtain ⟨y2, hy2⟩ := hf (24, 2) (by simp)
  obtain ⟨y3, hy3⟩ := hf (25, 3) (by simp)
  rw [cells24'] at hy2
  rw [cells25'] at hy3
  match cs, hl with
  | [x0, x1, x2, x3], _ =>
    simp at ha hb
    subst ha; subst hb
    obtain ⟨l, h1⟩ := open24 (v := x2) hy2
    obtain ⟨s, h2⟩ := open25 (v := x3) hy3
    exact ⟨⟨a, b, l, s⟩, x2, x3, rfl, h1, h2⟩
set_option maxRecDepth 100000 in
theorem openPack {m : Nat} {cs : Array Value} {y : DataW H × List MemPlace} (h : DataW.trod enc Tryz.prog w 0 (fun _ => true) true m 29 cs.toList = some y) : ∃ p : Pack, PackV w (.agg cs) p := by
  obtain ⟨hl, m', hf⟩ := trod_fields sa29 h
  rw [cells29'] at hl
  obtain ⟨cs⟩ := cs
  obtain ⟨y1, hy1⟩ := hf (3, 0) (by simp)
  obtain ⟨y2, hy2⟩ := hf (24, 1) (by simp)
  obtain ⟨y3, hy3⟩ := hf (25, 2) (by simp)
  rw [cells3'] at hy1
  rw [cells24'] at hy2
  rw [cells25'] at hy3
  match cs, hl with
  | [x0, x2, x3], _ =>
    obtain ⟨a, ha, _⟩ := field_int (off := 0) (by simp) hy1
    simp at ha
    subst ha
    obtain ⟨l, h1⟩ := open24 (v := x2) hy2
    obtain ⟨s, h2⟩ := open25 (v := x3) hy3
    exact ⟨⟨a, l, s⟩, x2, x3, rfl, h1, h2⟩
theorem openDisp {m : Nat} {cs : Array Value} {y : DataW H × List MemPlace} (h : DataW.trod enc Tryz.prog w 0 (fun _ => true) true m 31 cs.toList = some y) : ∃ d : Disp, (.agg cs : Value) = agD d := by
  obtain ⟨z, hz, _⟩ := elem31 _ _ _ h
  refine ⟨z, ?_⟩
  obtain ⟨cs⟩ := cs
  simp only at hz
  subst hz; rfl
end
end Go.Proofs.YtklknkmeljjmgaaGreatDoor
/- Plain: relays that know what those of a list know. -/
set_option linter.unusedSimpArgs false
set_option linter.unusedVariables false
namespace Go.Proofs.YtklknkmeljjmgaaGreatDoor
open Go Go.V Go.RowKit
def packOf (r : Rel) : Pack := ⟨r.id, r.kept, r.slips⟩
end Go.Proofs.YtklknkmeljjmgaaGreatDoor
/- Short lists of dispatches. -/
set_option linter.unusedSimpArgs false
set_option linter.unusedVariables false
namespace Go.Proofs.YtklknkmeljjmgaaGreatDoor
open Go Go.V Go.RowKit
def cutD (d : Disp) : Disp := ⟨d.story, d.ed, d.cls, d.text.extract 0 (min d.text.size 30)⟩
section
variable {k : Value → World → Prop} {w : World}
theorem min30 {n : Nat} : (if (30 : Int) < (n : Int) then (30 : Int) else (n : Int)) = ((min n 30 : Nat) : Int) := by split <;> omega
theorem c11 {v : Value} {l : List Disp} (hs : IsSl fD w v l) (hk : ∀ v' w', Below w.heap.size w w' → Mine fD 31 w' w.heap.size v' ((l.take 4).map cutD) → k v' w') : callW Tryz.prog (.func (.func 11) #[] #[]) #[v] k w := C11 _ _ _ (by
  unfold S11
  refine Loop2.intro (fun n o a w' => ∃ i : Nat, a = I i ∧ i ≤ 4 ∧ n = 4 - i ∧ Below w.heap.size w w' ∧ Mine fD 31 w' w.heap.size o ((l.take i).map cutD)) _ ⟨0, rfl, by omega, rfl, Below.refl _ _, by simpa using Mine.nil _ _⟩ ?_
  rintro n o _ w1 ⟨i, rfl, hi, rfl, hb1, ho⟩
  refine (len24 (hs.below hb1)).mpr ?_
  rw [w_lss]
  by_cases h1 : i < l.length
  case' neg =>
    rw [decide_eq_false (by omega)]
    simp only [guardW_ft, guardW_u, pickW_false, condW_false]
    refine hk _ _ hb1 ?_
    rw [List.take_of_length_le (by omega)] at ho
    rw [List.take_of_length_le (by omega)]; exact ho
  rw [decide_eq_true (by omega)]
  simp only [guardW_tt]
  rw [w_lss]
  by_cases h4 : i < 4
  case' neg =>
    rw [decide_eq_false (by omega)]
    simp only [pickW_true, condW_false]
    obtain rfl : i = 4 := by omega
    exact hk _ _ hb1 ho
  rw [decide_eq_true (by omega)]
  simp only [pickW_true, condW_true]
  obtain ⟨d, hd⟩ : ∃ d, l[i]? = some d := ⟨_, List.getElem?_eq_getElem h1⟩
  rw [na24 rfl (hs.below hb1) hd]
  refine nvD (d := d) fun w2 hb2 hsz2 hr2 => ?_
  rw [rw31_3 (hr2.cell (i := 3) rfl), rw31_3 (hr2.cell (i := 3) rfl), w_lenStr str9, w_min, min30, w_headStr str9 (by omega) (by show ((min d.text.size 30 : Nat) : Int) ≤ (d.text.size : Nat); omega), fl31_3]
  refine (st9 rfl (hr2.cell (i := 3) rfl) (hr2.free 3)).mpr ?_
  have hr3 : RowAt (w2.setCell ⟨w1.heap.size, 3, none⟩ (.string (d.text.extract 0 (min d.text.size 30)))) w1.heap.size 31 (fD.e (cutD d)) := hr2.set 3 _
  have hb13 : Below w1.heap.size w1 (w2.setCell ⟨w1.heap.size, 3, none⟩ (.string (d.text.extract 0 (min d.text.size 30)))) := hb2.setCell (Nat.le_refl _) _
  simp only [Int.toNat_natCast]
  generalize w2.setCell ⟨w1.heap.size, 3, none⟩ (.string (d.text.extract 0 (min d.text.size 30))) = w3 at *
  rw [ld31 (vs := fD.e (cutD d)) rfl hr3.cells]
  have ho3 := ho.below hb13
  have hb03 := hb1.trans (hb13.mono hb1.size)
  refine Mine.push sty24 (eD.one (cutD d)) rfl (by decide) ho3 hb03.size (by simp; unfold maxLen; omega) (by simp; omega) fun o2 w4 ho4 hb4 _ _ => ?_
  rw [w_add, wrap_id (by omega), loopK_self]
  refine ⟨4 - (i + 1), by omega, i + 1, by simp [I], by omega, rfl, hb03.trans hb4, ?_⟩
  rw [List.take_add_one, hd]; simpa using ho4)
end
end Go.Proofs.YtklknkmeljjmgaaGreatDoor
/- A relay cut short. -/
set_option linter.unusedSimpArgs false
set_option linter.unusedVariables false
namespace Go.Proofs.YtklknkmeljjmgaaGreatDoor
open Go Go.V Go.RowKit
def shortR (r : Rel) : Rel := ⟨r.id, r.paper, (r.kept.take 4).map cutD, r.slips.take (min r.slips.length 4)⟩
section
variable {k : Value → World → Prop} {w : World}
theorem min4 {n : Nat} : (if (4 : Int) < (n : Int) then (4 : Int) else (n : Int)) = ((min n 4 : Nat) : Int) := by split <;> omega
end
end Go.Proofs.YtklknkmeljjmgaaGreatDoor
/- Plain: the program and the reference answer alike. -/
set_option linter.unusedSimpArgs false
set_option linter.unusedVariables false
namespace Go.Proofs.YtklknkmeljjmgaaGreatDoor
open Go Go.V Go.RowKit
theorem store_merge {a b o : List Disp} (ha : StoreP a) (hb : StoreP b) (h : mergeG cmpD newerD a b = some o) : StoreP o := by
  have sa := storeP_iff.1 ha
  have sb := storeP_iff.1 hb
  obtain ⟨h1, h2, h3⟩ := (merge_spec CD (comb := newerD) (fun x y => newer_story) sa.2 sb.2).1 o h
  refine storeP_iff.2 ⟨fun d hd => ?_, h1⟩
  rcases (h2 d).1 hd with ⟨h, _⟩ | ⟨h, _⟩ | ⟨x, hx, y, hy, _, rfl⟩
  · exact sa.1 d h
  · exact sb.1 d h
  · rcases newer_mem x y with e | e <;> rw [e]
    · exact sa.1 x hx
    · exact sb.1 y hy
theorem put_alike {r : Rel} {d : Disp} {e f : Int} {a b : Rel} (h : putR r d e a) (g : putRef r d f b) : e = f ∧ a = b := by
  rcases h with ⟨hv, hd, h⟩ | ⟨hn, rfl, rfl⟩
  · have hk := keptF_merge (d := d) (storeP_iff.1 hv.2.2.2.1).2
    rcases g with ⟨_, _, ⟨o, ho, rfl, rfl⟩ | ⟨ho, rfl, rfl⟩⟩ | ⟨hn, _⟩
    · rw [hk] at ho
      rcases h with ⟨o', s', h4, h5, h6⟩ | ⟨h4 | h4, _⟩
      · rw [ho] at h4; rw [merge_nil] at h5; cases h4; cases h5
        have hst : StoreP o := store_merge hv.2.2.2.1 (storeP_iff.2 ⟨by simpa using hd, List.pairwise_singleton _ _⟩) ho
        rcases h6 with ⟨_, rfl, rfl⟩ | ⟨h6, _⟩
        · exact ⟨rfl, rfl⟩
        · exact absurd ⟨hv.1, hv.2.1, hv.2.2.1, hst, hv.2.2.2.2⟩ h6
      · rw [ho] at h4; cases h4
      · rw [merge_nil] at h4; cases h4
    · rw [hk] at ho
      rcases h with ⟨o', s', h4, _⟩ | ⟨_, rfl, rfl⟩
      · rw [ho] at h4; cases h4
      · exact ⟨rfl, rfl⟩
    · exact absurd ⟨hv, hd⟩ hn
  · rcases g with ⟨hv, hd, _⟩ | ⟨_, rfl, rfl⟩
    · exact absurd ⟨hv, hd⟩ hn
    · exact ⟨rfl, rfl⟩
theorem hear_alike {r : Rel} {p : Pack} {e f : Int} {a b : Rel} (h : hearR r p e a) (g : hearRef r p f b) : e = f ∧ a = b := by
  rcases h with ⟨hv, hd, h⟩ | ⟨hn, rfl, rfl⟩
  · have hk := keptsF_merge (storeP_iff.1 hv.2.2.2.1).2 (storeP_iff.1 hd.2.2.1).2
    rcases g with ⟨_, _, ⟨⟨o, s, h1, h2, rfl, h3⟩, rfl⟩ | ⟨hno, rfl, rfl⟩⟩ | ⟨hn, _⟩
    · rw [hk] at h1
      rcases h with ⟨o', s', h4, h5, h6⟩ | ⟨h4 | h4, _⟩
      · rw [h1] at h4; rw [h2] at h5; cases h4; cases h5
        rcases h6 with ⟨_, rfl, rfl⟩ | ⟨h6, _⟩
        · exact ⟨rfl, rfl⟩
        · exact absurd h3 h6
      · rw [h1] at h4; cases h4
      · rw [h2] at h4; cases h4
    · rcases h with ⟨o', s', h4, h5, h6⟩ | ⟨_, rfl, rfl⟩
      · rcases h6 with ⟨h6, rfl, rfl⟩ | ⟨_, rfl, rfl⟩
        · exact absurd ⟨_, o', s', by rw [hk]; exact h4, h5, rfl, h6⟩ hno
        · exact ⟨rfl, rfl⟩
      · exact ⟨rfl, rfl⟩
    · exact absurd ⟨hv, hd⟩ hn
  · rcases g with ⟨hv, hd, _⟩ | ⟨_, rfl, rfl⟩
    · exact absurd ⟨hv, hd⟩ hn
    · exact ⟨rfl, rfl⟩
theorem tell_alike {r : Rel} {e f : Int} {a b : Pack} (h : tellR r e a) (g : tellR r f b) : e = f ∧ a = b := by
  rcases h with ⟨h1, rfl, rfl⟩ | ⟨h1, rfl, rfl⟩ <;> rcases g with ⟨h2, rfl, rfl⟩ | ⟨h2, rfl, rfl⟩
  · exact ⟨rfl, rfl⟩
  · exact absurd h1 h2
  · exact absurd h2 h1
  · exact ⟨rfl, rfl⟩
theorem refill_alike {r : Rel} {n e f : Int} {a b : Rel} (h : refillR r n e a) (g : refillR r n f b) : e = f ∧ a = b := by
  rcases h with ⟨h1, rfl, rfl⟩ | ⟨h1, rfl, rfl⟩ <;> rcases g with ⟨h2, rfl, rfl⟩ | ⟨h2, rfl, rfl⟩
  · exact ⟨rfl, rfl⟩
  · exact absurd h1 h2
  · exact absurd h2 h1
  · exact ⟨rfl, rfl⟩
theorem chk_alike {r : Rel} {e f : Int} {a b : Rel} (h : chk r e a) (g : chk r f b) : e = f ∧ a = b := by
  rcases h with ⟨h1, rfl, rfl⟩ | ⟨h1, rfl, rfl⟩ <;> rcases g with ⟨h2, rfl, rfl⟩ | ⟨h2, rfl, rfl⟩
  · exact ⟨rfl, rfl⟩
  · exact absurd h1 h2
  · exact absurd h2 h1
  · exact ⟨rfl, rfl⟩
end Go.Proofs.YtklknkmeljjmgaaGreatDoor
/- Plain: Print of the program and of the reference. -/
set_option linter.unusedSimpArgs false
set_option linter.unusedVariables false
namespace Go.Proofs.YtklknkmeljjmgaaGreatDoor
open Go Go.V Go.RowKit
/-- slips without a common key -/
theorem merge_apart {a b : List Slp} (ha : Asc cmpP a) (hb : Asc cmpP b) (h : ∀ x ∈ a, ∀ y ∈ b, cmpP x y ≠ 0) : ∃ o, mergeG cmpP joinP a b = some o ∧ Asc cmpP o ∧ ∀ z, z ∈ o ↔ z ∈ a ∨ z ∈ b := by
  have hs := merge_spec CP (comb := joinP) (fun x y => join_key) ha hb
  cases hm : mergeG cmpP joinP a b with
  | none =>
    obtain ⟨x, hx, y, hy, h0, _⟩ := hs.2 hm
    exact absurd h0 (h x hx y hy)
  | some o =>
    obtain ⟨h1, h2, _⟩ := hs.1 o hm
    refine ⟨o, rfl, h1, fun z => ?_⟩
    rw [h2 z]
    constructor
    · rintro (⟨h, _⟩ | ⟨h, _⟩ | ⟨x, hx, y, hy, h0, _⟩)
      · exact .inl h
      · exact .inr h
      · exact absurd h0 (h x hx y hy)
    · rintro (hz | hz)
      · exact .inl ⟨hz, fun y hy => h z hz y hy⟩
      · exact .inr (.inl ⟨hz, fun x hx => h x hx z hz⟩)
theorem prF_eq {r : Rel} : ∀ {L : List Disp} {pp : Int} {cur : List Slp}, Asc cmpP cur → L.Pairwise (fun x y => x.story ≠ y.story) → (∀ d ∈ L, ∀ x ∈ cur, cmpP x (slipOf r d) ≠ 0) →
    ∃ s, prF r pp cur L = some ((printT pp L).2, s, (printT pp L).1) ∧ Asc cmpP s ∧ ∀ z, z ∈ s ↔ z ∈ cur ∨ z ∈ (printT pp L).1.map (slipOf r)
  | [], pp, cur, ha, _, _ => ⟨cur, by simp [prF, printT], ha, by simp [printT]⟩
  | d :: L, pp, cur, ha, hL, hn => by
    obtain ⟨hd, hL'⟩ := List.pairwise_cons.1 hL
    by_cases hp : pp < pagesD d
    · exact ⟨cur, by rw [prF, if_neg (by omega), printT, if_pos hp], ha, by rw [printT, if_pos hp]; simp⟩
    · obtain ⟨o, ho, h1, h2⟩ := merge_apart ha (List.pairwise_singleton _ (slipOf r d)) fun x hx y hy => by simp at hy; subst hy; exact hn d (by simp) x hx
      obtain ⟨s, i1, i2, i3⟩ := prF_eq (r := r) (L := L) (pp := pp - pagesD d) (cur := o) h1 hL' fun x hx z hz => by
        rcases (h2 z).1 hz with h | h
        · exact hn x (by simp [hx]) z h
        · simp at h; subst h
          intro h0
          exact hd x hx (cmpP_eq.1 h0).2.1
      refine ⟨s, ?_, i2, fun z => ?_⟩
      · rw [prF, if_pos (by omega), ho, Option.bind_some, i1, printT, if_neg hp]; rfl
      · rw [i3 z, h2 z, printT, if_neg hp]
        simp [or_assoc]
theorem print_alike {r : Rel} {e f : Int} {a b : Rel} {dn dm : List Disp} (h : printR r e a dn) (g : printRef r f b dm) : e = f ∧ a = b ∧ dn = dm := by
  rcases h with ⟨hv, S, r1, h1, h2, h3, h4⟩ | ⟨hn, rfl, rfl, rfl⟩
  case' inr =>
    rcases g with ⟨hv, _⟩ | ⟨_, rfl, rfl, rfl⟩
    · exact absurd hv hn
    · exact ⟨rfl, rfl, rfl⟩
  rcases g with ⟨_, g⟩ | ⟨hn, _⟩
  case' inr => exact absurd hv hn
  have hst := hv.2.2.2.1
  have hsh := sheafP_iff.1 hv.2.2.2.2
  have hws := wait_stories hst
  have hno : ∀ d ∈ waitL r, ∀ x ∈ r.slips, cmpP x (slipOf r d) ≠ 0 := fun d hd x hx h0 => by
    have hnp := ((waitL_mem hst).1 hd).2
    unfold printedB at hnp
    rw [List.any_eq_false] at hnp
    exact absurd (decide_eq_true (show x.relay = r.id ∧ x.story = d.story ∧ x.ed = d.ed from cmpP_eq.1 h0)) (hnp x hx)
  obtain ⟨s, i1, i2, i3⟩ := prF_eq (r := r) (pp := r.paper) hsh.2 hws hno
  obtain ⟨l', hl⟩ := printT_prefix (waitL r) r.paper
  have hrng := printT_range (waitL r) r.paper hv.2.1.1
  generalize hD : (printT r.paper (waitL r)).1 = D at *
  generalize hq : (printT r.paper (waitL r)).2 = pp at *
  have hDw : ∀ d ∈ D, d ∈ waitL r := fun d hd => by rw [hl]; simp [hd]
  have hDne : D.Pairwise fun x y => x.story ≠ y.story := by rw [hl] at hws; exact (List.pairwise_append.1 hws).1
  have hSne : S.Pairwise fun x y => cmpP x y ≠ 0 := by
    refine (h1.symm.pairwise_iff (fun {a b} (hh : cmpP a b ≠ 0) => fun h0 => hh (CP.symm h0))).1 ?_
    rw [List.pairwise_map]
    exact hDne.imp fun hss h0 => hss (cmpP_eq.1 h0).2.1
  have hSa : Asc cmpP S := by
    show S.Pairwise _
    rw [List.pairwise_iff_getElem] at hSne ⊢
    intro i j hi hj hij
    have g1 := hSne i j hi hj hij
    have g2 := h2 i j _ _ hij (by omega) (by omega) (List.getElem?_eq_getElem hi) (List.getElem?_eq_getElem hj)
    have g3 := CP.gt S[i] S[j]
    omega
  obtain ⟨o, ho, j1, j2⟩ := merge_apart hsh.2 hSa fun x hx y hy => by
    obtain ⟨d, hd, rfl⟩ := List.mem_map.1 (h1.mem_iff.1 hy)
    exact hno d (hDw d hd) x hx
  have hos : o = s := asc_ext CP j1 i2 fun z => by rw [j2 z, i3 z, h1.mem_iff]
  subst hos
  have hvv : ValidR ⟨r.id, r.paper, r.kept, o⟩ ↔ ValidR ⟨r.id, pp, r.kept, o⟩ :=
    ⟨fun h => ⟨h.1, ⟨hrng.1, by have := h.2.1.2; show pp ≤ 10000; have h5 : r.paper ≤ 10000 := this; omega⟩, h.2.2⟩, fun h => ⟨h.1, hv.2.1, h.2.2⟩⟩
  rcases h3 with ⟨o', s', q1, q2, q3⟩ | ⟨q1 | q1, _⟩
  case' inr.inl => rw [merge_nil] at q1; cases q1
  case' inr.inr => rw [ho] at q1; cases q1
  rw [merge_nil] at q1; rw [ho] at q2; cases q1; cases q2
  rcases q3 with ⟨q3, rfl, rfl⟩ | ⟨q3, rfl, rfl⟩
  · rcases h4 with ⟨h4, _⟩ | ⟨_, rfl, rfl⟩
    · exact absurd rfl h4
    · rcases g with ⟨pp', s', g1, g2, rfl, rfl⟩ | ⟨g1, _⟩
      · rw [i1] at g1; cases g1
        exact ⟨rfl, rfl, rfl⟩
      · exact absurd ⟨_, _, _, i1, hvv.1 q3⟩ g1
  · rcases h4 with ⟨_, rfl, rfl⟩ | ⟨h4, _⟩
    · rcases g with ⟨pp', s', g1, g2, _⟩ | ⟨g1, rfl, rfl, rfl⟩
      · rw [i1] at g1; cases g1
        exact absurd (hvv.2 g2) q3
      · exact ⟨rfl, rfl, rfl⟩
    · omega
end Go.Proofs.YtklknkmeljjmgaaGreatDoor
/- RelayMatchesReference. -/
set_option linter.unusedSimpArgs false
set_option linter.unusedVariables false
namespace Go.Proofs.YtklknkmeljjmgaaGreatDoor
open Go Go.V Go.RowKit
def shortK (p : Pack) : Pack := ⟨p.src, (p.kept.take 4).map cutD, p.slips.take (min p.slips.length 4)⟩
theorem shortR_small (r : Rel) : (shortR r).kept.length ≤ 4 ∧ (shortR r).slips.length ≤ 4 := by
  unfold shortR
  simp only [List.length_map, List.length_take]
  omega
theorem shortK_small (p : Pack) : (shortK p).kept.length ≤ 4 ∧ (shortK p).slips.length ≤ 4 := by
  unfold shortK
  simp only [List.length_map, List.length_take]
  omega
end Go.Proofs.YtklknkmeljjmgaaGreatDoor
/- The reference's relays, with the slice that one owns; a relay cut short, its lists told apart. -/
set_option linter.unusedSimpArgs false
set_option linter.unusedVariables false
namespace Go.Proofs.YtklknkmeljjmgaaGreatDoor
open Go Go.V Go.RowKit
theorem slOld {α : Type} {F : Fl α} {n : Nat} {w w' : World} {v : Value} {l : List α} (h : IsSl F w v l) (hp : 0 < F.sz) (hn : w.heap.size ≤ n) (ho : Off (fun b => n ≤ b) w w') : IsSl F w' v l := by
  obtain ⟨a, c, rfl, hc, hx⟩ := h
  refine ⟨a, c, rfl, hc, fun i x hi => ?_⟩
  obtain ⟨b, o, ha, hcell⟩ := hx i x hi
  refine ⟨b, o, ha, fun j u hu => ?_⟩
  have hlt := World.block_lt_of_cell? w _ (hcell j u hu)
  rw [World.cell?_of_block (a := ⟨b, _, none⟩) (ho.block b hlt (by simp only at hlt; omega))]; exact hcell j u hu
theorem RelV.old {w w' : World} {v : Value} {r : Rel} (h : RelV w v r) (ho : Off (fun b => w.heap.size ≤ b) w w') : RelV w' v r := by
  obtain ⟨kv, sv, rfl, h1, h2⟩ := h
  exact ⟨kv, sv, rfl, slOld h1 (by decide) (Nat.le_refl _) ho, slOld h2 (by decide) (Nat.le_refl _) ho⟩
theorem RLs.rels {B : Nat} {w : World} {v : Value} {rs : List Rel} (h : RLs B w v rs) : RelsV w v rs := by
  obtain ⟨xs, h1, h2, h3⟩ := h
  exact ⟨xs, h1.sl, h2, fun i x r hx hr => (h3 i x r hx hr).now⟩
theorem RLs.base {B B' : Nat} {w : World} {v : Value} {rs : List Rel} (h : RLs B w v rs) (hb : B' ≤ B) : RLs B' w v rs := by
  obtain ⟨xs, h1, h2, h3⟩ := h
  exact ⟨xs, h1.base hb, h2, h3⟩
section
variable {k : Value → World → Prop} {w : World}
theorem c42R {lv : Value} {rs : List Rel} {q : Q4} {n : Nat} (hl : RelsV w lv rs) (h3 : Three n rs) (hq : okQ q) (hk : ∀ v' w' rs', Below w.heap.size w w' → RLs w.heap.size w' v' rs' → Three (n + 1) rs' → k v' w') (hn : n ≤ 1000) :
    callW Tryz.prog (.func (.func 42) #[] #[]) #[lv, .agg (fQ.e q).toArray] k w := C42 _ _ _ _ (by
  unfold S42
  have old : ∀ {x : RW} {r : Rel} {w6 w7 : World} {p : Nat → Prop}, RelV w (agR x) r → Below w.heap.size w w6 → Off p w6 w7 → (∀ b, p b → w.heap.size ≤ b) → RelV w7 (agR x) r := fun hv hb ho hp => by
    have hof : Off (fun b => w.heap.size ≤ b) w _ := (Off.below hb).trans (ho.mono fun b _ h => hp b h)
    exact hv.old hof
  obtain ⟨xs, hsl, hx⟩ := hl
  have hlen := h3.len
  have hxl : xs.length = 3 := by rw [hx.1, hlen]
  obtain ⟨qa, qb, qc, qd⟩ := hq
  refine w_boxN (v := .agg (fQ.e q).toArray) fun w1 hb1 hsz1 hr1 => ?_
  replace hr1 : RowAt w1 w.heap.size 59 (fQ.e q) := by simpa [Value.cells] using hr1
  refine mkSl (F := fR) sty34 fun a w2 hb2 ha2 hf2 hs2 => ?_
  have hb02 := below_trans hb1 hb2
  refine Mine.append (F := fR) sty34 eR.one ha2 (hsl.below hb02) hb2.size (by simp [hxl]; unfold maxLen; omega) (by simp [hxl]) fun ov w3 hm3 hb3 hof3 hn3 => ?_
  have hs1 := hb1.size
  have hb03 := hb02.trans (hb3.mono hb1.size)
  replace hm3 : Mine fR 27 w3 w1.heap.size ov xs := by simpa using hm3
  have hr3 := (hr1.below hb2).off hof3 fun hh => by have := hf2 _ hh; have := hr1.lt; omega
  have hlt1 := hr1.lt
  rw [bx59 (i := 1) (j := 1) rfl hr3 (by omega) rfl]
  refine (len34 (hsl.below hb03)).mpr ?_
  rw [hxl]
  refine c52 (by decide) ?_
  have hpk := pickI_range (c := q.b) (n := 3) (by omega) qb
  obtain ⟨kk, hkk⟩ := Int.eq_ofNat_of_zero_le hpk.1
  rw [show ((3 : Nat) : Int) = 3 from rfl, hkk]
  have hk3 : kk < 3 := by omega
  obtain ⟨r, hr⟩ : ∃ r, rs[kk]? = some r := ⟨_, List.getElem?_eq_getElem (by omega)⟩
  obtain ⟨x, hxk, hrv⟩ := hx.at hr
  have hgood := h3.good r (List.mem_of_getElem? hr)
  have hpap := h3.paper r (List.mem_of_getElem? hr)
  rw [na34 rfl (hsl.below hb03) hxk]
  refine w_var (vs := fR.e x) hz27 (by rw [zc27]; rfl) (oneRW x) size27 known27 fun w4 hb4 hsz4 hr4 => ?_
  have hb04 := below_trans hb03 hb4
  have hm4 := hm3.below hb4
  have hq4 := hr3.below hb4
  have hs3 := hb03.size
  rw [bx59 (i := 0) (j := 0) rfl hq4 (by omega) rfl]
  refine c52 (by decide) ?_
  have hof : ∀ {b}, isOf ov b → w1.heap.size ≤ b ∧ b < w3.heap.size := fun hb => hm3.ge hb
  refine joinW_use1 (Pre := fun ev w' => ∃ e x' r', ev = I e ∧ (e = 0 → GoodR r' ∧ r'.id = r.id ∧ r'.paper ≤ 5 + 4 * (n + 1)) ∧ Below w.heap.size w w' ∧ RowAt w' w3.heap.size 27 (fR.e x') ∧ RelV w' (agR x') r' ∧ ((∀ b, relOf (agR x') b → ¬ isOf ov b) ∨ RelV w (agR x') r') ∧ Mine fR 27 w' w1.heap.size ov xs) ?_ ?_
  · rintro _ w5 ⟨e, x', r', rfl, hg, hb5, hr5, hv5, hfr5, hm5⟩
    refine joinW_use0 (Pre := fun w' => ∃ rs', Below w.heap.size w w' ∧ RLs w.heap.size w' ov rs' ∧ Three (n + 1) rs') ?_ ?_
    · rintro w6 ⟨rs', h1, h2, h3'⟩
      exact hk _ _ rs' h1 h2 h3'
    intro J hJ
    rw [w_eql]
    by_cases he : e = 0
    · rw [decide_eq_true he, condW_true, ld27 (vs := fR.e x') rfl hr5.cells]
      refine Mine.setA (F := fR) (t := 34) (by kernel_rfl) (by kernel_rfl) (by kernel_rfl) size27 known27 hm5 (by omega) (i := (kk : Int)) (by simpa using hxk) (oneRW x') fun w6 hm6 hb6 hof6 => ?_
      simp only [Int.toNat_natCast] at hm6
      obtain ⟨g1, g2, g3⟩ := hg he
      have hb06 := hb5.trans (hb6.mono hb1.size)
      refine hJ w6 ⟨rs.set kk r', hb06, ⟨xs.set kk x', hm6.base (by omega), by simp [hx.1], fun i y s hy hs w7 ho7 => ?_⟩, h3.set hr g1 g2 g3⟩
      have hof6' : ∀ b, isOf ov b → w.heap.size ≤ b := fun b hb => by have := (hof hb).1; omega
      rw [List.getElem?_set] at hy hs
      by_cases hi : kk = i
      · rw [if_pos hi, if_pos (by omega)] at hy hs
        cases hy; cases hs
        exact hfr5.elim (fun h => hv5.off (hof6.trans ho7) h) fun h => old h hb06 ho7 hof6'
      · rw [if_neg hi] at hy hs
        exact old (hx.2 i y s hy hs) hb06 ho7 hof6'
    · rw [decide_eq_false he, condW_false]
      exact hJ w5 ⟨rs, hb5, ⟨xs, hm5.base (by omega), hx.1, fun i y s hy hs w7 ho7 => old (hx.2 i y s hy hs) hb5 ho7 fun b hb => by have := (hof hb).1; omega⟩, h3.mono⟩
  intro J hJ
  -- the end of each way: the new relay, into its variable
  have fin : ∀ (w5 : World) (v5 : Value) (e : Int) (r' : Rel), Below w4.heap.size w4 w5 → RelV w5 v5 r' → Fr w4.heap.size v5 → (e = 0 → GoodR r' ∧ r'.id = r.id ∧ r'.paper ≤ 5 + 4 * (n + 1)) → opU Tryz.prog (Instr.storeAt 27 (.pointer (some ⟨w3.heap.size, 0, none⟩)) v5) (fun _ w => J (I e) w) w5 := fun w5 v5 e r' hb5 hv5 hf5 hg5 => by
    obtain ⟨x5, rfl⟩ := hv5.raw
    have hr5 := hr4.below hb5
    refine sr27 (vs := fR.e x5) rfl hr5 rfl (oneRW x5) fun w6 ho6 hr6 => ?_
    have hof6 : Off (· = w3.heap.size) w5 w6 := Off.only ho6 rfl
    refine hJ _ _ ⟨e, x5, r', rfl, hg5, (below_trans hb04 hb5).trans (ho6.rest _ hs3), hr6, hv5.off hof6 fun b hb he => by have := hf5 b hb; omega, (.inl fun b hb hh => by have := hf5 b hb; have := (hof hh).2; omega), (hm4.below hb5).off hof6 fun b hb he => by have := (hof hb).2; omega⟩
  have same : ∀ w5, Below w4.heap.size w4 w5 → J (I 0) w5 := fun w5 hb5 => hJ _ _ ⟨0, x, r, rfl, fun _ => ⟨hgood, rfl, by omega⟩, below_trans hb04 hb5, hr4.below hb5, hrv.below (below_trans hb04 hb5), .inr hrv, hm4.below hb5⟩
  have hsl4 := hsl.below hb04
  have hrv4 := hrv.below hb04
  have hpo := pickI_range (c := q.a) (n := 5) (by omega) qa
  generalize hpa : pickI q.a 5 = op at *
  refine joinW_use1 (Pre := fun tv w' => w4 = w' ∧ tv = .bool (decide (op = 0 ∨ op = 1))) ?_ ?_
  · rintro _ _ ⟨rfl, rfl⟩
    by_cases h01 : op = 0 ∨ op = 1
    · rw [decide_eq_true h01, condW_true, drewW_eq]
      have hb5 := below_drew w4
      have hsl5 := hsl4.drew
      have hq5 := hq4.drew
      have hrv5 := hrv4.below hb5
      generalize w4.drew = w5 at *
      refine ⟨after w5, after_refl _, ?_⟩
      rw [getA eR hsl5 hxk (after_refl _) (by decide), bx59A (i := 2) (j := 2) rfl hq5 (by omega) rfl (after_refl _), bx59A (i := 3) (j := 3) rfl hq5 (by omega) rfl (after_refl _), b23, keepS_eq]
      refine ⟨after_refl _, c22 (x0 := q.c) (x1 := q.d) qc qd fun w6 hb6 => ?_⟩
      rw [keepS_eq]
      refine ⟨hb6, c24 (r := r) (d := madeD q.c q.d) (hrv5.below hb6) hgood.small fun v' w7 e r' hb7 hp hv' hf => ?_⟩
      have hb57 := below_trans hb6 hb7
      have hb47 := below_trans hb5 hb57
      rw [keepS_eq, t_extract (v := v') rfl, t_extract (v := I e) rfl]
      obtain ⟨g0, g1, g2, g3, g4, g5⟩ := putRef_good hgood (madeD_made qc qd) hp
      exact ⟨hb57, fin w7 v' e r' hb47 hv' (fun b hb => Nat.le_trans (below_trans hb5 hb6).size (hf b hb)) fun _ => ⟨g1, g4, by omega⟩⟩
    · rw [decide_eq_false h01, condW_false, w_eql]
      by_cases h2 : op = 2
      · rw [decide_eq_true h2, condW_true, bx59 (i := 2) (j := 2) rfl hq4 (by omega) rfl]
        refine (len34 hsl4).mpr ?_
        rw [hxl]
        refine c52 (by decide) ?_
        have hpj := pickI_range (c := q.c) (n := 3) (by omega) qc
        obtain ⟨j, hj⟩ := Int.eq_ofNat_of_zero_le hpj.1
        rw [show ((3 : Nat) : Int) = 3 from rfl, hj]
        obtain ⟨s, hs⟩ : ∃ s, rs[j]? = some s := ⟨_, List.getElem?_eq_getElem (by omega)⟩
        obtain ⟨y, hyk, hsv⟩ := hx.at hs
        have hgs := h3.good s (List.mem_of_getElem? hs)
        rw [na34 rfl hsl4 hyk]
        refine c13 (r := s) (hsv.below hb04) hgs.small fun v5 w5 e p hb5 htl hv5 hf5 => ?_
        obtain ⟨rfl, rfl, hgk⟩ := tell_good hgs htl
        obtain ⟨k5, s5, rfl, h5, h5'⟩ := hv5
        rw [w_extract (v := .agg #[I s.id, k5, s5]) rfl, w_extract (v := I 0) rfl]
        refine w_var (vs := [I s.id, k5, s5]) hz29 (by rw [zc29]; rfl) (oneK h5 h5') size29 known29 fun w6 hb6 hsz6 hr6 => ?_
        have hb46 := below_trans hb5 hb6
        rw [w_eql, decide_eq_true rfl, condW_true, drewW_eq]
        have hb47 := below_trans hb46 (below_drew w6)
        have hr7 := hr6.drew
        have h7 := (h5.below hb6).drew
        have h7' := (h5'.below hb6).drew
        generalize w6.drew = w7 at *
        rw [nta34 rfl (hsl4.below hb47) hxk, xld29 (vs := [I s.id, k5, s5]) rfl hr7.cells]
        refine c28 (r := r) (p := ⟨s.id, s.kept, s.slips⟩) (hrv4.below hb47) ⟨k5, s5, rfl, h7, h7'⟩ hgood.small hgk.small fun v' w8 e r' hb8 hh hv' hf => ?_
        rw [t_extract (v := v') rfl, t_extract (v := I e) rfl]
        obtain ⟨g0, g1, g2, g3⟩ := hearRef_good hgood hgk hh
        exact fin w8 v' e r' (below_trans hb47 hb8) hv' (fun b hb => Nat.le_trans hb47.size (hf b hb)) fun _ => ⟨g1, g2, by omega⟩
      rw [decide_eq_false h2, condW_false, w_eql]
      by_cases h3' : op = 3
      · rw [decide_eq_true h3', condW_true, na34 rfl hsl4 hxk]
        refine c30 (r := r) hrv4 hgood.small fun v' dv w5 e r' dn hb5 hp hv' hdv hf hfd => ?_
        rw [w_extract (v := v') rfl, w_extract (v := dv) rfl, w_extract (v := I e) rfl]
        exact fin w5 v' e r' hb5 hv' hf fun he => by
          obtain ⟨g1, g2, g3⟩ := printRef_good hgood hp he
          exact ⟨g1, g2, by omega⟩
      rw [decide_eq_false h3', condW_false, w_eql]
      by_cases h4' : op = 4
      · rw [decide_eq_true h4', condW_true, drewW_eq]
        have hb5 := below_drew w4
        have hsl5 := hsl4.drew
        have hq5 := hq4.drew
        have hrv5 := hrv4.below hb5
        generalize w4.drew = w5 at *
        refine ⟨after w5, after_refl _, ?_⟩
        rw [getA eR hsl5 hxk (after_refl _) (by decide), bx59A (i := 2) (j := 2) rfl hq5 (by omega) rfl (after_refl _)]
        refine c52 (by decide) ?_
        rw [keepS_eq]
        have hpc := pickI_range (c := q.c) (n := 5) (by omega) qc
        refine ⟨after_refl _, c35 (r := r) hrv5 hgood.small fun v' w6 e r' hb6 hp hv' hf => ?_⟩
        rw [keepS_eq, t_extract (v := v') rfl, t_extract (v := I e) rfl]
        obtain ⟨g0, g1, g2⟩ := refill_good hgood (by omega) hp
        refine ⟨hb6, fin w6 v' e r' (below_trans hb5 hb6) hv' (fun b hb => Nat.le_trans hb5.size (hf b hb)) fun _ => ⟨g2, by rw [g1], by rw [g1]; show r.paper + _ ≤ _; omega⟩⟩
      · omega
  intro J2 hJ2
  rw [w_eql]
  by_cases h0 : op = 0
  · rw [decide_eq_true h0, condW_true]
    exact hJ2 _ _ ⟨rfl, by rw [decide_eq_true (.inl h0)]⟩
  · rw [decide_eq_false h0, condW_false, w_eql]
    refine hJ2 _ _ ⟨rfl, ?_⟩
    by_cases h1 : op = 1
    · rw [decide_eq_true h1, decide_eq_true (.inr h1)]
    · rw [decide_eq_false h1, decide_eq_false (by omega)])
theorem c12R {xv : Value} {xs : List Q4} (hx : IsSl fQ w xv xs) (hok : ∀ q ∈ xs, okQ q) (hk : ∀ v' w' rs, Below w.heap.size w w' → RLs w.heap.size w' v' rs → Three 20 rs → k v' w') : callW Tryz.prog (.func (.func 12) #[] #[]) #[xv] k w := C12 _ _ _ (by
  unfold S12
  rw [b27_2, b27_2, b27_2]
  refine w_parts (F := fR) (l := [⟨0, 3, none, 0, 0, none, 0, 0⟩, ⟨1, 5, none, 0, 0, none, 0, 0⟩, ⟨4, 1, none, 0, 0, none, 0, 0⟩]) sty34 rfl (by decide) (by decide) (by kernel_rfl) rfl fun w1 hb1 hsz1 hm1 => ?_
  refine Loop2.intro (fun n l a w' => ∃ (i : Nat) (rs : List Rel), a = I i ∧ i ≤ 20 ∧ n = 20 - i ∧ Below w.heap.size w w' ∧ RLs w.heap.size w' l rs ∧ Three i rs) _ ⟨0, first3, rfl, by omega, rfl, hb1, ⟨_, hm1, rfl, fun i x r hx hr w2 _ => ?_⟩, three_first⟩ ?_
  · match i, hx, hr with
    | 0, hx, hr => cases hx; cases hr; exact ⟨_, _, rfl, IsSl.nil _, IsSl.nil _⟩
    | 1, hx, hr => cases hx; cases hr; exact ⟨_, _, rfl, IsSl.nil _, IsSl.nil _⟩
    | 2, hx, hr => cases hx; cases hr; exact ⟨_, _, rfl, IsSl.nil _, IsSl.nil _⟩
    | i + 3, hx, hr => cases hx
  rintro n l _ w2 ⟨i, rs, rfl, hi, rfl, hb2, hrs, h3⟩
  have fin : k l w2 := hk _ _ rs hb2 hrs ⟨h3.good, fun r hr => by have := h3.paper r hr; omega, h3.ids⟩
  refine (len22 (hx.below hb2)).mpr ?_
  rw [w_lss]
  by_cases h1 : i < xs.length
  · rw [decide_eq_true (by omega)]
    simp only [guardW_tt]
    rw [w_lss]
    by_cases h2 : i < 20
    · rw [decide_eq_true (by omega)]
      simp only [pickW_true, condW_true]
      obtain ⟨q, hq⟩ : ∃ q, xs[i]? = some q := ⟨_, List.getElem?_eq_getElem h1⟩
      rw [na22 rfl (hx.below hb2) hq]
      refine c42R (q := q) hrs.rels h3 (hok q (List.mem_of_getElem? hq)) (fun v' w3 rs' hb3 hrs' h3' => ?_) (by omega)
      rw [w_add, wrap_id (by omega), loopK_self]
      exact ⟨20 - (i + 1), by omega, i + 1, rs', by simp [I], by omega, rfl, hb2.trans (hb3.mono hb2.size), hrs'.base hb2.size, h3'⟩
    · rw [decide_eq_false (by omega)]
      simp only [pickW_true, condW_false]
      exact fin
  · rw [decide_eq_false (by omega)]
    simp only [guardW_ft, guardW_u, pickW_false, condW_false]
    exact fin)
end
end Go.Proofs.YtklknkmeljjmgaaGreatDoor
/- A relay cut short, its lists told apart; packets that a further block may change beside. -/
set_option linter.unusedSimpArgs false
set_option linter.unusedVariables false
namespace Go.V
open Go Go.RowKit
theorem w_headX {P : Program} {k : Value → World → Prop} {w : World} {t : TypeId} {α : Type} {F : Fl α} {v : Value} {l : List α} {q : IntKind} {x : Int} {m : Nat} (hx : x = m) (ht : P.underlying t = some (.slice (P.elem t))) (hkn : known P (P.elem t) = true) (hz : sizeT P (P.elem t) = F.sz) (hs : IsSl F w v l) (hm : m ≤ l.length)
    (hk : ∀ v', (∀ w1, IsSl F w1 v l → IsSl F w1 v' (l.take m)) → k v' w) : opW P (Instr.sliceAt t v none (some (.int q x)) none) k w := by
  subst hx
  obtain ⟨a, c, rfl, hc, _⟩ := hs
  rw [opW_ok (show (Instr.sliceAt t (.slice a l.length c) none (some (.int q m)) none).run P w = .ok (sliced a 0 m c (sizeT P (P.elem t))) w by
    rw [run_sliceAt_slice _ _ _ _ _ _ ht, run_slice_h w t _ _ c ht q m (by omega) (by omega), run_sizeOf hkn]
    simp [Result.andThen])]
  rw [hz]
  exact hk _ fun w1 h1 => by simpa using h1.slicedTo (lo := 0) (hi := m) (mx := c) (by omega) hm (by omega)
end Go.V
namespace Go.Proofs.YtklknkmeljjmgaaGreatDoor
open Go Go.V Go.RowKit
section
variable {k : Value → World → Prop} {w w' : World} {B : Nat} {v : Value} {q : Nat → Prop}
theorem c14R {k0 s0 : Value} {r : Rel} (h0 : IsSl fD w k0 r.kept) (hs0 : IsSl fP w s0 r.slips) (hk : ∀ u sv w', Below w.heap.size w w' → IsSl fD w' u ((r.kept.take 4).map cutD) → (∀ b, isOf u b → w.heap.size ≤ b) → (∀ w1, IsSl fP w1 s0 r.slips → IsSl fP w1 sv (r.slips.take (min r.slips.length 4))) → k (.agg #[I r.id, I r.paper, u, sv]) w') :
    callW Tryz.prog (.func (.func 14) #[] #[]) #[.agg #[I r.id, I r.paper, k0, s0]] k w := C14 _ _ _ (by
  unfold S14
  refine w_boxN (v := .agg #[I r.id, I r.paper, k0, s0]) fun w1 hb1 hsz1 hr1 => ?_
  replace hr1 : RowAt w1 w.heap.size 27 [I r.id, I r.paper, k0, s0] := hr1
  refine al27 fun w2 hb2 hsz2 hr2 => ?_
  have hr1 := hr1.below hb2
  have hb02 := below_trans hb1 hb2
  rw [rw27_2 (hr1.cell (i := 2) rfl)]
  refine c11 (h0.below hb02) fun u w3 hb3 hu => ?_
  have hb03 := below_trans hb02 hb3
  have hr1 := hr1.below hb3
  have hr2 := hr2.below hb3
  have hl2 := hr2.lt
  have hs1 := hb1.size
  have hs2 := hb2.size
  have hug : ∀ b, isOf u b → w.heap.size ≤ b := fun b hb => by have := (hu.ge hb).1; omega
  rw [fl27_2]
  refine (st24 hu.sl.one (hr1.cell (i := 2) rfl) (hr1.free 2)).mpr ?_
  have o1 := Only.setCell w.heap.size 2 w3 u
  have hr1 := hr1.set 2 u
  have hb04 := hb03.trans (o1.rest _ (Nat.le_refl _))
  have hof : Off (· = w.heap.size) w3 (w3.setCell ⟨w.heap.size, 2, none⟩ u) := Off.only o1 rfl
  have hu := hu.off hof fun b hb he => by have := (hu.ge hb).1; omega
  have hr2 := hr2.off hof (by omega)
  generalize w3.setCell ⟨w.heap.size, 2, none⟩ u = w4 at *
  rw [rw27_3 (hr1.cell (i := 3) rfl), rw27_3 (hr1.cell (i := 3) rfl)]
  refine (len25 (hs0.below hb04)).mpr ?_
  rw [w_min, min4]
  refine w_headX (F := fP) rfl (by kernel_rfl) (by kernel_rfl) (by kernel_rfl) (hs0.below hb04) (Nat.min_le_left _ _) fun sv hsx => ?_
  have hsv := hsx _ (hs0.below hb04)
  rw [fl27_3]
  refine (st25 hsv.one (hr1.cell (i := 3) rfl) (hr1.free 3)).mpr ?_
  have o2 := Only.setCell w.heap.size 3 w4 sv
  have hr1 := hr1.set 3 sv
  have hb05 := hb04.trans (o2.rest _ (Nat.le_refl _))
  have hof2 : Off (· = w.heap.size) w4 (w4.setCell ⟨w.heap.size, 3, none⟩ sv) := Off.only o2 rfl
  have hu5 := (hu.off hof2 fun b hb he => by have := (hu.ge hb).1; omega)
  have hr2 := hr2.off hof2 (by omega)
  generalize w4.setCell ⟨w.heap.size, 3, none⟩ sv = w5 at *
  have hsv5 := hsx _ (hs0.below hb05)
  rw [ld27 (vs := [I r.id, I r.paper, u, sv]) rfl hr1.cells]
  refine sr27 (vs := [I r.id, I r.paper, u, sv]) rfl hr2 rfl (oneR hu5.sl hsv5) fun w6 ho6 hr6 => ?_
  rw [rc27 rfl hr6.cells]
  exact hk _ _ _ (hb05.trans (ho6.rest _ hb1.size)) (hu5.off (Off.only (p := (· = w1.heap.size)) ho6 rfl) fun b hb he => by have := (hu5.ge hb).1; omega).sl hug hsx)
/-- an own slice of packets, beside which the blocks q may change -/
structure PKQ (q : Nat → Prop) (B : Nat) (w : World) (v : Value) (ps : List Pack) : Prop where
  v : ∃ xs, Mine fK 29 w B v xs ∧ xs.length = ps.length ∧ ∀ (i : Nat) x p, xs[i]? = some x → ps[i]? = some p → AV (fun w => PackV w (agK x) p) (fun b => isOf v b ∨ q b) w
theorem PKQ.below {ps : List Pack} (h : PKQ q B w v ps) (hb : Below w.heap.size w w') : PKQ q B w' v ps := by
  obtain ⟨xs, h1, h2, h3⟩ := h
  exact ⟨xs, h1.below hb, h2, fun i x p hx hp => (h3 i x p hx hp).below hb⟩
theorem PKQ.off {ps : List Pack} (h : PKQ q B w v ps) (ho : Off q w w') (hd : ∀ b, isOf v b → ¬ q b) : PKQ q B w' v ps := by
  obtain ⟨xs, h1, h2, h3⟩ := h
  exact ⟨xs, h1.off ho hd, h2, fun i x p hx hp => (h3 i x p hx hp).off (ho.mono fun b _ hb => .inr hb)⟩
theorem PKQ.one {u : Value} {p : Pack} {K : Value → World → Prop} (hu : ∃ x, u = agK x) (ha : ∀ w', Off (fun b => w.heap.size ≤ b ∨ q b) w w' → PackV w' u p) (hk : ∀ v' w', PKQ q w.heap.size w' v' [p] → Below w.heap.size w w' → w'.heap.size = w.heap.size + 1 → K v' w') :
    opW Tryz.prog (Instr.buildSlice 36 1 #[(0, u)]) K w := by
  obtain ⟨x, rfl⟩ := hu
  refine w_parts (F := fK) (l := [x]) sty36 rfl (by decide) (by decide) (by kernel_rfl) rfl fun w1 hb1 hsz1 hm1 => ?_
  refine hk _ _ ⟨[x], hm1, rfl, fun i y s hy hs w2 ho => ?_⟩ hb1 hsz1
  match i, hy, hs with
  | 0, hy, hs =>
    cases hy; cases hs
    refine ha w2 ((Off.below hb1).trans (ho.mono fun b _ hb => hb.elim (fun h => .inl ?_) .inr))
    exact (hm1.ge h).1
  | i + 1, hy, hs => cases hy
theorem PKQ.push {ps : List Pack} {u : Value} {p : Pack} {K : Value → World → Prop} (h : PKQ q B w v ps) (hu : PackV w u p) (hf : ∀ c, relOf u c → ¬ isOf v c ∧ ¬ q c) (hB : B ≤ w.heap.size) (hl : ps.length ≤ 1000)
    (hk : ∀ v' w', PKQ q B w' v' (ps ++ [p]) → Below B w w' → K v' w') :
    opW Tryz.prog (Instr.buildSlice 36 1 #[(0, u)]) (fun s w => opW Tryz.prog (Builtin.append_ #[36, 36] 36 #[v, s]) (fun r w => K r w) w) w := by
  obtain ⟨xs, h1, h2, h3⟩ := h
  obtain ⟨x, rfl⟩ := hu.raw
  refine Mine.push sty36 (eK.one x) rfl (by decide) h1 hB (by unfold maxLen; omega) (by omega) fun v' w' hm hb hof hnew => ?_
  refine hk v' w' ⟨xs ++ [x], hm, by simp [h2], fun i y t hy ht => ?_⟩ hb
  have old : ∀ y t, AV (fun w => PackV w (agK y) t) (fun b => isOf v b ∨ q b) w → AV (fun w => PackV w (agK y) t) (fun b => isOf v' b ∨ q b) w' := fun y t ha =>
    ha.grow (hof.mono fun b _ hb => .inl hb) fun b hb => hb.elim (fun h => (hnew b h).elim (fun h => .inl (.inl h)) .inr) fun h => .inl (.inr h)
  rw [List.getElem?_append] at hy ht
  by_cases hi : i < xs.length
  · rw [if_pos hi] at hy; rw [if_pos (by omega)] at ht
    exact old y t (h3 i y t hy ht)
  · rw [if_neg hi] at hy; rw [if_neg (by omega)] at ht
    have e : i - xs.length = 0 := by
      rcases Nat.eq_zero_or_pos (i - xs.length) with h | h
      · exact h
      · rw [List.getElem?_eq_none (by simp; omega)] at hy; cases hy
    rw [e] at hy; rw [← h2, e] at ht
    cases hy; cases ht
    exact old _ _ fun w'' ho => hu.off ho fun b hb hh => hh.elim (hf b hb).1 (hf b hb).2
end
end Go.Proofs.YtklknkmeljjmgaaGreatDoor
/- RelayMatchesReference: its parts, out of the printed condition. -/
set_option linter.unusedVariables false
set_option maxRecDepth 100000
namespace Go.Proofs.YtklknkmeljjmgaaGreatDoor
open Go Go.V Go.RowKit
def G3 (pages_6 y_7 d_10 t75_34 packets_38 t102_60 t103_61 t104_63 r_70 : Value) (k : Value → World → Prop) (K : World → Prop) (w : World) : Prop :=
   callW Tryz.prog (Value.func (Fn.func 33) #[] #[]) #[pages_6, (Value.int IntKind.i64 20)] (fun t267_225 w =>
   opW Tryz.prog (Instr.buildSlice 54 2 #[(0, pages_6), (1, t267_225)]) (fun t268_226 w =>
   opW Tryz.prog (Builtin.len_ #[54] 3 #[t268_226]) (fun t269_227 w =>
   Loop1 (fun t270_229 w K_230 =>
   opW Tryz.prog (binS BinOp.lss 3 (Operand.tmp 270) (Operand.tmp 269) t270_229 t269_227) (fun t271_231 w =>
   condW t271_231
   (opW Tryz.prog (Instr.indexAt 54 t268_226 t270_229) (fun t272_234 w =>
   opW Tryz.prog (Instr.loadAt 3 t272_234) (fun t273_235 w =>
   opW Tryz.prog (Instr.loadAt 27 r_70) (fun t275_236 w =>
   callW Tryz.prog (Value.func (Fn.func 34) #[] #[]) #[t275_236, t273_235] (fun t277_237 w =>
   opW Tryz.prog (Instr.extract t277_237 0) (fun t278_238 w =>
   opW Tryz.prog (Instr.extract t277_237 1) (fun t279_239 w =>
   opW Tryz.prog (Instr.alloc 27 true (Value.tuple #[])) (fun a_240 w =>
   opU Tryz.prog (Instr.storeAt 27 a_240 t278_238) (fun _ w =>
   opW Tryz.prog (Instr.loadAt 27 r_70) (fun t281_241 w =>
   callW Tryz.prog (Value.func (Fn.func 35) #[] #[]) #[t281_241, t273_235] (fun t283_242 w =>
   opW Tryz.prog (Instr.extract t283_242 0) (fun t284_243 w =>
   opW Tryz.prog (Instr.extract t283_242 1) (fun t285_244 w =>
   opW Tryz.prog (Instr.alloc 27 true (Value.tuple #[])) (fun b_245 w =>
   opU Tryz.prog (Instr.storeAt 27 b_245 t284_243) (fun _ w =>
   opW Tryz.prog (Instr.fieldAt 27 r_70 0) (fun t287_246 w =>
   opW Tryz.prog (Instr.loadAt 3 t287_246) (fun t288_247 w =>
   callW Tryz.prog (Value.func (Fn.func 36) #[] #[]) #[t288_247, t273_235] (fun t290_248 w =>
   opW Tryz.prog (Instr.extract t290_248 0) (fun t291_249 w =>
   opW Tryz.prog (Instr.extract t290_248 1) (fun t292_250 w =>
   opW Tryz.prog (Instr.alloc 27 true (Value.tuple #[])) (fun c_251 w =>
   opU Tryz.prog (Instr.storeAt 27 c_251 t291_249) (fun _ w =>
   opW Tryz.prog (Instr.fieldAt 27 r_70 0) (fun t294_252 w =>
   opW Tryz.prog (Instr.loadAt 3 t294_252) (fun t295_253 w =>
   callW Tryz.prog (Value.func (Fn.func 37) #[] #[]) #[t295_253, t273_235] (fun t297_254 w =>
   opW Tryz.prog (Instr.extract t297_254 0) (fun t298_255 w =>
   opW Tryz.prog (Instr.extract t297_254 1) (fun t299_256 w =>
   opW Tryz.prog (Instr.alloc 27 true (Value.tuple #[])) (fun d_257 w =>
   opU Tryz.prog (Instr.storeAt 27 d_257 t298_255) (fun _ w =>
   opW Tryz.prog (binS BinOp.neq 37 (Operand.tmp 300) (Operand.tmp 301) t279_239 t285_244) (fun t302_258 w =>
   guardW (some t302_258, false) (fun k w => k t292_250 w) (fun t304_259 w =>
   guardW (some t302_258, false) (fun k w => k t299_256 w) (fun t305_260 w =>
   guardW (some t302_258, false) (fun k w => opW Tryz.prog (binS BinOp.neq 37 (Operand.tmp 304) (Operand.tmp 305) t304_259 t305_260) k w) (fun t306_261 w =>
   pickW t302_258 (Value.bool true) t306_261 (fun t307_262 w =>
   guardW (some t307_262, false) (fun k w => opW Tryz.prog (Instr.loadAt 27 a_240) k w) (fun t309_263 w =>
   guardW (some t307_262, false) (fun k w => opW Tryz.prog (Instr.loadAt 27 b_245) k w) (fun t310_264 w =>
   guardW (some t307_262, false) (fun k w => callW Tryz.prog (Value.func (Fn.func 18) #[] #[]) #[t309_263, t310_264] k w) (fun t311_265 w =>
   guardW (some t307_262, false) (fun k w => opW Tryz.prog (Op.unary UnOp.not t311_265) k w) (fun t312_266 w =>
   pickW t307_262 (Value.bool true) t312_266 (fun t313_267 w =>
   guardW (some t313_267, false) (fun k w => opW Tryz.prog (Instr.loadAt 27 c_251) k w) (fun t315_268 w =>
   guardW (some t313_267, false) (fun k w => opW Tryz.prog (Instr.loadAt 27 d_257) k w) (fun t316_269 w =>
   guardW (some t313_267, false) (fun k w => callW Tryz.prog (Value.func (Fn.func 18) #[] #[]) #[t315_268, t316_269] k w) (fun t317_270 w =>
   guardW (some t313_267, false) (fun k w => opW Tryz.prog (Op.unary UnOp.not t317_270) k w) (fun t318_271 w =>
   pickW t313_267 (Value.bool true) t318_271 (fun t319_272 w =>
   condW t319_272
   (k (Value.bool false) w)
   (opW Tryz.prog (binS BinOp.add 3 (Operand.tmp 270) (Operand.const (Value.int IntKind.i64 1)) t270_229 (Value.int IntKind.i64 1)) (fun t320_273 w =>
   loopK [] [] [pages_6, y_7, d_10, t75_34, packets_38, r_70, t102_60, t103_61, t104_63, t268_226, t269_227] [pages_6, y_7, d_10, t75_34, packets_38, r_70, t102_60, t103_61, t104_63, t268_226, t269_227] (K_230 t320_273 w)) w)) w) w) w) w) w) w) w) w) w) w) w) w) w) w) w) w) w) w) w) w) w) w) w) w) w) w) w) w) w) w) w) w) w) w) w) w) w) w) w) w) w) w) w)
   (K w)) w) (Value.int IntKind.i64 0) w) w) w) w
def H3 (pages_6 y_7 d_10 t75_34 packets_38 t102_60 t103_61 t104_63 r_70 : Value) (k : Value → World → Prop) (K : World → Prop) (w : World) : Prop :=
   opW Tryz.prog (Instr.loadAt 27 r_70) (fun t201_167 w =>
   callW Tryz.prog (Value.func (Fn.func 29) #[] #[]) #[t201_167] (fun t202_168 w =>
   opW Tryz.prog (Instr.extract t202_168 0) (fun t203_169 w =>
   opW Tryz.prog (Instr.extract t202_168 1) (fun t204_170 w =>
   opW Tryz.prog (Instr.extract t202_168 2) (fun t205_171 w =>
   opW Tryz.prog (Instr.alloc 27 true (Value.tuple #[])) (fun a_172 w =>
   opU Tryz.prog (Instr.storeAt 27 a_172 t203_169) (fun _ w =>
   opW Tryz.prog (Instr.loadAt 27 r_70) (fun t207_173 w =>
   callW Tryz.prog (Value.func (Fn.func 30) #[] #[]) #[t207_173] (fun t208_174 w =>
   opW Tryz.prog (Instr.extract t208_174 0) (fun t209_175 w =>
   opW Tryz.prog (Instr.extract t208_174 1) (fun t210_176 w =>
   opW Tryz.prog (Instr.extract t208_174 2) (fun t211_177 w =>
   opW Tryz.prog (Instr.alloc 27 true (Value.tuple #[])) (fun b_178 w =>
   opU Tryz.prog (Instr.storeAt 27 b_178 t209_175) (fun _ w =>
   opW Tryz.prog (Instr.loadAt 27 r_70) (fun t213_179 w =>
   callW Tryz.prog (Value.func (Fn.func 31) #[] #[]) #[t213_179] (fun t214_180 w =>
   opW Tryz.prog (Instr.extract t214_180 0) (fun t215_181 w =>
   opW Tryz.prog (Instr.extract t214_180 1) (fun t216_182 w =>
   opW Tryz.prog (Instr.alloc 29 true (Value.tuple #[])) (fun p_183 w =>
   opU Tryz.prog (Instr.storeAt 29 p_183 t215_181) (fun _ w =>
   opW Tryz.prog (Instr.loadAt 27 r_70) (fun t218_184 w =>
   callW Tryz.prog (Value.func (Fn.func 13) #[] #[]) #[t218_184] (fun t219_185 w =>
   opW Tryz.prog (Instr.extract t219_185 0) (fun t220_186 w =>
   opW Tryz.prog (Instr.extract t219_185 1) (fun t221_187 w =>
   opW Tryz.prog (Instr.alloc 29 true (Value.tuple #[])) (fun q_188 w =>
   opU Tryz.prog (Instr.storeAt 29 q_188 t220_186) (fun _ w =>
   opW Tryz.prog (binS BinOp.neq 37 (Operand.tmp 222) (Operand.tmp 223) t205_171 t211_177) (fun t224_190 w =>
   guardW (some t224_190, false) (fun k w => k t216_182 w) (fun t226_191 w =>
   guardW (some t224_190, false) (fun k w => k t221_187 w) (fun t227_192 w =>
   guardW (some t224_190, false) (fun k w => opW Tryz.prog (binS BinOp.neq 37 (Operand.tmp 226) (Operand.tmp 227) t226_191 t227_192) k w) (fun t228_193 w =>
   pickW t224_190 (Value.bool true) t228_193 (fun t229_194 w =>
   guardW (some t229_194, false) (fun k w => opW Tryz.prog (Instr.loadAt 27 a_172) k w) (fun t231_195 w =>
   guardW (some t229_194, false) (fun k w => opW Tryz.prog (Instr.loadAt 27 b_178) k w) (fun t232_196 w =>
   guardW (some t229_194, false) (fun k w => callW Tryz.prog (Value.func (Fn.func 18) #[] #[]) #[t231_195, t232_196] k w) (fun t233_197 w =>
   guardW (some t229_194, false) (fun k w => opW Tryz.prog (Op.unary UnOp.not t233_197) k w) (fun t234_198 w =>
   pickW t229_194 (Value.bool true) t234_198 (fun t235_199 w =>
   guardW (some t235_199, false) (fun k w => k t204_170 w) (fun t237_200 w =>
   guardW (some t235_199, false) (fun k w => k t210_176 w) (fun t238_201 w =>
   guardW (some t235_199, false) (fun k w => callW Tryz.prog (Value.func (Fn.func 19) #[] #[]) #[t237_200, t238_201] k w) (fun t239_202 w =>
   guardW (some t235_199, false) (fun k w => opW Tryz.prog (Op.unary UnOp.not t239_202) k w) (fun t240_203 w =>
   pickW t235_199 (Value.bool true) t240_203 (fun t241_204 w =>
   guardW (some t241_204, false) (fun k w => opW Tryz.prog (Instr.fieldAt 29 p_183 0) k w) (fun t243_205 w =>
   guardW (some t241_204, false) (fun k w => opW Tryz.prog (Instr.loadAt 3 t243_205) k w) (fun t244_206 w =>
   guardW (some t241_204, false) (fun k w => opW Tryz.prog (Instr.fieldAt 29 q_188 0) k w) (fun t245_207 w =>
   guardW (some t241_204, false) (fun k w => opW Tryz.prog (Instr.loadAt 3 t245_207) k w) (fun t246_208 w =>
   guardW (some t241_204, false) (fun k w => opW Tryz.prog (binS BinOp.neq 3 (Operand.tmp 244) (Operand.tmp 246) t244_206 t246_208) k w) (fun t247_209 w =>
   pickW t241_204 (Value.bool true) t247_209 (fun t248_210 w =>
   guardW (some t248_210, false) (fun k w => opW Tryz.prog (Instr.fieldAt 29 p_183 1) k w) (fun t250_211 w =>
   guardW (some t248_210, false) (fun k w => opW Tryz.prog (Instr.loadAt 24 t250_211) k w) (fun t251_212 w =>
   guardW (some t248_210, false) (fun k w => opW Tryz.prog (Instr.fieldAt 29 q_188 1) k w) (fun t252_213 w =>
   guardW (some t248_210, false) (fun k w => opW Tryz.prog (Instr.loadAt 24 t252_213) k w) (fun t253_214 w =>
   guardW (some t248_210, false) (fun k w => callW Tryz.prog (Value.func (Fn.func 19) #[] #[]) #[t251_212, t253_214] k w) (fun t254_215 w =>
   guardW (some t248_210, false) (fun k w => opW Tryz.prog (Op.unary UnOp.not t254_215) k w) (fun t255_216 w =>
   pickW t248_210 (Value.bool true) t255_216 (fun t256_217 w =>
   guardW (some t256_217, false) (fun k w => opW Tryz.prog (Instr.fieldAt 29 p_183 2) k w) (fun t258_218 w =>
   guardW (some t256_217, false) (fun k w => opW Tryz.prog (Instr.loadAt 25 t258_218) k w) (fun t259_219 w =>
   guardW (some t256_217, false) (fun k w => opW Tryz.prog (Instr.fieldAt 29 q_188 2) k w) (fun t260_220 w =>
   guardW (some t256_217, false) (fun k w => opW Tryz.prog (Instr.loadAt 25 t260_220) k w) (fun t261_221 w =>
   guardW (some t256_217, false) (fun k w => callW Tryz.prog (Value.func (Fn.func 32) #[] #[]) #[t259_219, t261_221] k w) (fun t262_222 w =>
   guardW (some t256_217, false) (fun k w => opW Tryz.prog (Op.unary UnOp.not t262_222) k w) (fun t263_223 w =>
   pickW t256_217 (Value.bool true) t263_223 (fun t264_224 w =>
   condW t264_224
   (k (Value.bool false) w)
   (callW Tryz.prog (Value.func (Fn.func 33) #[] #[]) #[pages_6, (Value.int IntKind.i64 20)] (fun t267_225 w =>
   opW Tryz.prog (Instr.buildSlice 54 2 #[(0, pages_6), (1, t267_225)]) (fun t268_226 w =>
   opW Tryz.prog (Builtin.len_ #[54] 3 #[t268_226]) (fun t269_227 w =>
   Loop1 (fun t270_229 w K_230 =>
   opW Tryz.prog (binS BinOp.lss 3 (Operand.tmp 270) (Operand.tmp 269) t270_229 t269_227) (fun t271_231 w =>
   condW t271_231
   (opW Tryz.prog (Instr.indexAt 54 t268_226 t270_229) (fun t272_234 w =>
   opW Tryz.prog (Instr.loadAt 3 t272_234) (fun t273_235 w =>
   opW Tryz.prog (Instr.loadAt 27 r_70) (fun t275_236 w =>
   callW Tryz.prog (Value.func (Fn.func 34) #[] #[]) #[t275_236, t273_235] (fun t277_237 w =>
   opW Tryz.prog (Instr.extract t277_237 0) (fun t278_238 w =>
   opW Tryz.prog (Instr.extract t277_237 1) (fun t279_239 w =>
   opW Tryz.prog (Instr.alloc 27 true (Value.tuple #[])) (fun a_240 w =>
   opU Tryz.prog (Instr.storeAt 27 a_240 t278_238) (fun _ w =>
   opW Tryz.prog (Instr.loadAt 27 r_70) (fun t281_241 w =>
   callW Tryz.prog (Value.func (Fn.func 35) #[] #[]) #[t281_241, t273_235] (fun t283_242 w =>
   opW Tryz.prog (Instr.extract t283_242 0) (fun t284_243 w =>
   opW Tryz.prog (Instr.extract t283_242 1) (fun t285_244 w =>
   opW Tryz.prog (Instr.alloc 27 true (Value.tuple #[])) (fun b_245 w =>
   opU Tryz.prog (Instr.storeAt 27 b_245 t284_243) (fun _ w =>
   opW Tryz.prog (Instr.fieldAt 27 r_70 0) (fun t287_246 w =>
   opW Tryz.prog (Instr.loadAt 3 t287_246) (fun t288_247 w =>
   callW Tryz.prog (Value.func (Fn.func 36) #[] #[]) #[t288_247, t273_235] (fun t290_248 w =>
   opW Tryz.prog (Instr.extract t290_248 0) (fun t291_249 w =>
   opW Tryz.prog (Instr.extract t290_248 1) (fun t292_250 w =>
   opW Tryz.prog (Instr.alloc 27 true (Value.tuple #[])) (fun c_251 w =>
   opU Tryz.prog (Instr.storeAt 27 c_251 t291_249) (fun _ w =>
   opW Tryz.prog (Instr.fieldAt 27 r_70 0) (fun t294_252 w =>
   opW Tryz.prog (Instr.loadAt 3 t294_252) (fun t295_253 w =>
   callW Tryz.prog (Value.func (Fn.func 37) #[] #[]) #[t295_253, t273_235] (fun t297_254 w =>
   opW Tryz.prog (Instr.extract t297_254 0) (fun t298_255 w =>
   opW Tryz.prog (Instr.extract t297_254 1) (fun t299_256 w =>
   opW Tryz.prog (Instr.alloc 27 true (Value.tuple #[])) (fun d_257 w =>
   opU Tryz.prog (Instr.storeAt 27 d_257 t298_255) (fun _ w =>
   opW Tryz.prog (binS BinOp.neq 37 (Operand.tmp 300) (Operand.tmp 301) t279_239 t285_244) (fun t302_258 w =>
   guardW (some t302_258, false) (fun k w => k t292_250 w) (fun t304_259 w =>
   guardW (some t302_258, false) (fun k w => k t299_256 w) (fun t305_260 w =>
   guardW (some t302_258, false) (fun k w => opW Tryz.prog (binS BinOp.neq 37 (Operand.tmp 304) (Operand.tmp 305) t304_259 t305_260) k w) (fun t306_261 w =>
   pickW t302_258 (Value.bool true) t306_261 (fun t307_262 w =>
   guardW (some t307_262, false) (fun k w => opW Tryz.prog (Instr.loadAt 27 a_240) k w) (fun t309_263 w =>
   guardW (some t307_262, false) (fun k w => opW Tryz.prog (Instr.loadAt 27 b_245) k w) (fun t310_264 w =>
   guardW (some t307_262, false) (fun k w => callW Tryz.prog (Value.func (Fn.func 18) #[] #[]) #[t309_263, t310_264] k w) (fun t311_265 w =>
   guardW (some t307_262, false) (fun k w => opW Tryz.prog (Op.unary UnOp.not t311_265) k w) (fun t312_266 w =>
   pickW t307_262 (Value.bool true) t312_266 (fun t313_267 w =>
   guardW (some t313_267, false) (fun k w => opW Tryz.prog (Instr.loadAt 27 c_251) k w) (fun t315_268 w =>
   guardW (some t313_267, false) (fun k w => opW Tryz.prog (Instr.loadAt 27 d_257) k w) (fun t316_269 w =>
   guardW (some t313_267, false) (fun k w => callW Tryz.prog (Value.func (Fn.func 18) #[] #[]) #[t315_268, t316_269] k w) (fun t317_270 w =>
   guardW (some t313_267, false) (fun k w => opW Tryz.prog (Op.unary UnOp.not t317_270) k w) (fun t318_271 w =>
   pickW t313_267 (Value.bool true) t318_271 (fun t319_272 w =>
   condW t319_272
   (k (Value.bool false) w)
   (opW Tryz.prog (binS BinOp.add 3 (Operand.tmp 270) (Operand.const (Value.int IntKind.i64 1)) t270_229 (Value.int IntKind.i64 1)) (fun t320_273 w =>
   loopK [] [] [pages_6, y_7, d_10, t75_34, packets_38, r_70, t102_60, t103_61, t104_63, t268_226, t269_227] [pages_6, y_7, d_10, t75_34, packets_38, r_70, t102_60, t103_61, t104_63, t268_226, t269_227] (K_230 t320_273 w)) w)) w) w) w) w) w) w) w) w) w) w) w) w) w) w) w) w) w) w) w) w) w) w) w) w) w) w) w) w) w) w) w) w) w) w) w) w) w) w) w) w) w) w) w)
   (K w)) w) (Value.int IntKind.i64 0) w) w) w) w)) w) w) w) w) w) w) w) w) w) w) w) w) w) w) w) w) w) w) w) w) w) w) w) w) w) w) w) w) w) w) w) w) w) w) w) w) w) w) w) w) w) w) w) w) w) w) w) w) w) w) w) w) w) w) w) w) w) w) w) w) w
def Q3 (pages_6 y_7 d_10 t75_34 packets_38 t102_60 t103_61 t104_63 r_70 : Value) (k : Value → World → Prop) (K : World → Prop) (w : World) : Prop :=
   opW Tryz.prog (Builtin.len_ #[36] 3 #[packets_38]) (fun t173_138 w =>
   Loop1 (fun t174_140 w K_141 =>
   opW Tryz.prog (binS BinOp.lss 3 (Operand.tmp 174) (Operand.tmp 173) t174_140 t173_138) (fun t175_142 w =>
   condW t175_142
   (opW Tryz.prog (Instr.indexAt 36 packets_38 t174_140) (fun t176_145 w =>
   opW Tryz.prog (Instr.loadAt 29 t176_145) (fun t177_146 w =>
   opW Tryz.prog (Instr.alloc 29 true (Value.tuple #[])) (fun p_147 w =>
   opU Tryz.prog (Instr.storeAt 29 p_147 t177_146) (fun _ w =>
   opW Tryz.prog (Instr.loadAt 27 r_70) (fun t179_148 w =>
   opW Tryz.prog (Instr.loadAt 29 p_147) (fun t180_149 w =>
   callW Tryz.prog (Value.func (Fn.func 27) #[] #[]) #[t179_148, t180_149] (fun t181_150 w =>
   opW Tryz.prog (Instr.extract t181_150 0) (fun t182_151 w =>
   opW Tryz.prog (Instr.extract t181_150 1) (fun t183_152 w =>
   opW Tryz.prog (Instr.alloc 27 true (Value.tuple #[])) (fun a_153 w =>
   opU Tryz.prog (Instr.storeAt 27 a_153 t182_151) (fun _ w =>
   opW Tryz.prog (Instr.loadAt 27 r_70) (fun t185_154 w =>
   opW Tryz.prog (Instr.loadAt 29 p_147) (fun t186_155 w =>
   callW Tryz.prog (Value.func (Fn.func 28) #[] #[]) #[t185_154, t186_155] (fun t187_156 w =>
   opW Tryz.prog (Instr.extract t187_156 0) (fun t188_157 w =>
   opW Tryz.prog (Instr.extract t187_156 1) (fun t189_158 w =>
   opW Tryz.prog (Instr.alloc 27 true (Value.tuple #[])) (fun b_159 w =>
   opU Tryz.prog (Instr.storeAt 27 b_159 t188_157) (fun _ w =>
   opW Tryz.prog (binS BinOp.neq 37 (Operand.tmp 190) (Operand.tmp 191) t183_152 t189_158) (fun t192_160 w =>
   guardW (some t192_160, false) (fun k w => opW Tryz.prog (Instr.loadAt 27 a_153) k w) (fun t194_161 w =>
   guardW (some t192_160, false) (fun k w => opW Tryz.prog (Instr.loadAt 27 b_159) k w) (fun t195_162 w =>
   guardW (some t192_160, false) (fun k w => callW Tryz.prog (Value.func (Fn.func 18) #[] #[]) #[t194_161, t195_162] k w) (fun t196_163 w =>
   guardW (some t192_160, false) (fun k w => opW Tryz.prog (Op.unary UnOp.not t196_163) k w) (fun t197_164 w =>
   pickW t192_160 (Value.bool true) t197_164 (fun t198_165 w =>
   condW t198_165
   (k (Value.bool false) w)
   (opW Tryz.prog (binS BinOp.add 3 (Operand.tmp 174) (Operand.const (Value.int IntKind.i64 1)) t174_140 (Value.int IntKind.i64 1)) (fun t199_166 w =>
   loopK [] [] [pages_6, y_7, d_10, t75_34, packets_38, r_70, t102_60, t103_61, t104_63, packets_38, t173_138] [pages_6, y_7, d_10, t75_34, packets_38, r_70, t102_60, t103_61, t104_63, packets_38, t173_138] (K_141 t199_166 w)) w)) w) w) w) w) w) w) w) w) w) w) w) w) w) w) w) w) w) w) w) w) w) w) w) w)
   (opW Tryz.prog (Instr.loadAt 27 r_70) (fun t201_167 w =>
   callW Tryz.prog (Value.func (Fn.func 29) #[] #[]) #[t201_167] (fun t202_168 w =>
   opW Tryz.prog (Instr.extract t202_168 0) (fun t203_169 w =>
   opW Tryz.prog (Instr.extract t202_168 1) (fun t204_170 w =>
   opW Tryz.prog (Instr.extract t202_168 2) (fun t205_171 w =>
   opW Tryz.prog (Instr.alloc 27 true (Value.tuple #[])) (fun a_172 w =>
   opU Tryz.prog (Instr.storeAt 27 a_172 t203_169) (fun _ w =>
   opW Tryz.prog (Instr.loadAt 27 r_70) (fun t207_173 w =>
   callW Tryz.prog (Value.func (Fn.func 30) #[] #[]) #[t207_173] (fun t208_174 w =>
   opW Tryz.prog (Instr.extract t208_174 0) (fun t209_175 w =>
   opW Tryz.prog (Instr.extract t208_174 1) (fun t210_176 w =>
   opW Tryz.prog (Instr.extract t208_174 2) (fun t211_177 w =>
   opW Tryz.prog (Instr.alloc 27 true (Value.tuple #[])) (fun b_178 w =>
   opU Tryz.prog (Instr.storeAt 27 b_178 t209_175) (fun _ w =>
   opW Tryz.prog (Instr.loadAt 27 r_70) (fun t213_179 w =>
   callW Tryz.prog (Value.func (Fn.func 31) #[] #[]) #[t213_179] (fun t214_180 w =>
   opW Tryz.prog (Instr.extract t214_180 0) (fun t215_181 w =>
   opW Tryz.prog (Instr.extract t214_180 1) (fun t216_182 w =>
   opW Tryz.prog (Instr.alloc 29 true (Value.tuple #[])) (fun p_183 w =>
   opU Tryz.prog (Instr.storeAt 29 p_183 t215_181) (fun _ w =>
   opW Tryz.prog (Instr.loadAt 27 r_70) (fun t218_184 w =>
   callW Tryz.prog (Value.func (Fn.func 13) #[] #[]) #[t218_184] (fun t219_185 w =>
   opW Tryz.prog (Instr.extract t219_185 0) (fun t220_186 w =>
   opW Tryz.prog (Instr.extract t219_185 1) (fun t221_187 w =>
   opW Tryz.prog (Instr.alloc 29 true (Value.tuple #[])) (fun q_188 w =>
   opU Tryz.prog (Instr.storeAt 29 q_188 t220_186) (fun _ w =>
   opW Tryz.prog (binS BinOp.neq 37 (Operand.tmp 222) (Operand.tmp 223) t205_171 t211_177) (fun t224_190 w =>
   guardW (some t224_190, false) (fun k w => k t216_182 w) (fun t226_191 w =>
   guardW (some t224_190, false) (fun k w => k t221_187 w) (fun t227_192 w =>
   guardW (some t224_190, false) (fun k w => opW Tryz.prog (binS BinOp.neq 37 (Operand.tmp 226) (Operand.tmp 227) t226_191 t227_192) k w) (fun t228_193 w =>
   pickW t224_190 (Value.bool true) t228_193 (fun t229_194 w =>
   guardW (some t229_194, false) (fun k w => opW Tryz.prog (Instr.loadAt 27 a_172) k w) (fun t231_195 w =>
   guardW (some t229_194, false) (fun k w => opW Tryz.prog (Instr.loadAt 27 b_178) k w) (fun t232_196 w =>
   guardW (some t229_194, false) (fun k w => callW Tryz.prog (Value.func (Fn.func 18) #[] #[]) #[t231_195, t232_196] k w) (fun t233_197 w =>
   guardW (some t229_194, false) (fun k w => opW Tryz.prog (Op.unary UnOp.not t233_197) k w) (fun t234_198 w =>
   pickW t229_194 (Value.bool true) t234_198 (fun t235_199 w =>
   guardW (some t235_199, false) (fun k w => k t204_170 w) (fun t237_200 w =>
   guardW (some t235_199, false) (fun k w => k t210_176 w) (fun t238_201 w =>
   guardW (some t235_199, false) (fun k w => callW Tryz.prog (Value.func (Fn.func 19) #[] #[]) #[t237_200, t238_201] k w) (fun t239_202 w =>
   guardW (some t235_199, false) (fun k w => opW Tryz.prog (Op.unary UnOp.not t239_202) k w) (fun t240_203 w =>
   pickW t235_199 (Value.bool true) t240_203 (fun t241_204 w =>
   guardW (some t241_204, false) (fun k w => opW Tryz.prog (Instr.fieldAt 29 p_183 0) k w) (fun t243_205 w =>
   guardW (some t241_204, false) (fun k w => opW Tryz.prog (Instr.loadAt 3 t243_205) k w) (fun t244_206 w =>
   guardW (some t241_204, false) (fun k w => opW Tryz.prog (Instr.fieldAt 29 q_188 0) k w) (fun t245_207 w =>
   guardW (some t241_204, false) (fun k w => opW Tryz.prog (Instr.loadAt 3 t245_207) k w) (fun t246_208 w =>
   guardW (some t241_204, false) (fun k w => opW Tryz.prog (binS BinOp.neq 3 (Operand.tmp 244) (Operand.tmp 246) t244_206 t246_208) k w) (fun t247_209 w =>
   pickW t241_204 (Value.bool true) t247_209 (fun t248_210 w =>
   guardW (some t248_210, false) (fun k w => opW Tryz.prog (Instr.fieldAt 29 p_183 1) k w) (fun t250_211 w =>
   guardW (some t248_210, false) (fun k w => opW Tryz.prog (Instr.loadAt 24 t250_211) k w) (fun t251_212 w =>
   guardW (some t248_210, false) (fun k w => opW Tryz.prog (Instr.fieldAt 29 q_188 1) k w) (fun t252_213 w =>
   guardW (some t248_210, false) (fun k w => opW Tryz.prog (Instr.loadAt 24 t252_213) k w) (fun t253_214 w =>
   guardW (some t248_210, false) (fun k w => callW Tryz.prog (Value.func (Fn.func 19) #[] #[]) #[t251_212, t253_214] k w) (fun t254_215 w =>
   guardW (some t248_210, false) (fun k w => opW Tryz.prog (Op.unary UnOp.not t254_215) k w) (fun t255_216 w =>
   pickW t248_210 (Value.bool true) t255_216 (fun t256_217 w =>
   guardW (some t256_217, false) (fun k w => opW Tryz.prog (Instr.fieldAt 29 p_183 2) k w) (fun t258_218 w =>
   guardW (some t256_217, false) (fun k w => opW Tryz.prog (Instr.loadAt 25 t258_218) k w) (fun t259_219 w =>
   guardW (some t256_217, false) (fun k w => opW Tryz.prog (Instr.fieldAt 29 q_188 2) k w) (fun t260_220 w =>
   guardW (some t256_217, false) (fun k w => opW Tryz.prog (Instr.loadAt 25 t260_220) k w) (fun t261_221 w =>
   guardW (some t256_217, false) (fun k w => callW Tryz.prog (Value.func (Fn.func 32) #[] #[]) #[t259_219, t261_221] k w) (fun t262_222 w =>
   guardW (some t256_217, false) (fun k w => opW Tryz.prog (Op.unary UnOp.not t262_222) k w) (fun t263_223 w =>
   pickW t256_217 (Value.bool true) t263_223 (fun t264_224 w =>
   condW t264_224
   (k (Value.bool false) w)
   (callW Tryz.prog (Value.func (Fn.func 33) #[] #[]) #[pages_6, (Value.int IntKind.i64 20)] (fun t267_225 w =>
   opW Tryz.prog (Instr.buildSlice 54 2 #[(0, pages_6), (1, t267_225)]) (fun t268_226 w =>
   opW Tryz.prog (Builtin.len_ #[54] 3 #[t268_226]) (fun t269_227 w =>
   Loop1 (fun t270_229 w K_230 =>
   opW Tryz.prog (binS BinOp.lss 3 (Operand.tmp 270) (Operand.tmp 269) t270_229 t269_227) (fun t271_231 w =>
   condW t271_231
   (opW Tryz.prog (Instr.indexAt 54 t268_226 t270_229) (fun t272_234 w =>
   opW Tryz.prog (Instr.loadAt 3 t272_234) (fun t273_235 w =>
   opW Tryz.prog (Instr.loadAt 27 r_70) (fun t275_236 w =>
   callW Tryz.prog (Value.func (Fn.func 34) #[] #[]) #[t275_236, t273_235] (fun t277_237 w =>
   opW Tryz.prog (Instr.extract t277_237 0) (fun t278_238 w =>
   opW Tryz.prog (Instr.extract t277_237 1) (fun t279_239 w =>
   opW Tryz.prog (Instr.alloc 27 true (Value.tuple #[])) (fun a_240 w =>
   opU Tryz.prog (Instr.storeAt 27 a_240 t278_238) (fun _ w =>
   opW Tryz.prog (Instr.loadAt 27 r_70) (fun t281_241 w =>
   callW Tryz.prog (Value.func (Fn.func 35) #[] #[]) #[t281_241, t273_235] (fun t283_242 w =>
   opW Tryz.prog (Instr.extract t283_242 0) (fun t284_243 w =>
   opW Tryz.prog (Instr.extract t283_242 1) (fun t285_244 w =>
   opW Tryz.prog (Instr.alloc 27 true (Value.tuple #[])) (fun b_245 w =>
   opU Tryz.prog (Instr.storeAt 27 b_245 t284_243) (fun _ w =>
   opW Tryz.prog (Instr.fieldAt 27 r_70 0) (fun t287_246 w =>
   opW Tryz.prog (Instr.loadAt 3 t287_246) (fun t288_247 w =>
   callW Tryz.prog (Value.func (Fn.func 36) #[] #[]) #[t288_247, t273_235] (fun t290_248 w =>
   opW Tryz.prog (Instr.extract t290_248 0) (fun t291_249 w =>
   opW Tryz.prog (Instr.extract t290_248 1) (fun t292_250 w =>
   opW Tryz.prog (Instr.alloc 27 true (Value.tuple #[])) (fun c_251 w =>
   opU Tryz.prog (Instr.storeAt 27 c_251 t291_249) (fun _ w =>
   opW Tryz.prog (Instr.fieldAt 27 r_70 0) (fun t294_252 w =>
   opW Tryz.prog (Instr.loadAt 3 t294_252) (fun t295_253 w =>
   callW Tryz.prog (Value.func (Fn.func 37) #[] #[]) #[t295_253, t273_235] (fun t297_254 w =>
   opW Tryz.prog (Instr.extract t297_254 0) (fun t298_255 w =>
   opW Tryz.prog (Instr.extract t297_254 1) (fun t299_256 w =>
   opW Tryz.prog (Instr.alloc 27 true (Value.tuple #[])) (fun d_257 w =>
   opU Tryz.prog (Instr.storeAt 27 d_257 t298_255) (fun _ w =>
   opW Tryz.prog (binS BinOp.neq 37 (Operand.tmp 300) (Operand.tmp 301) t279_239 t285_244) (fun t302_258 w =>
   guardW (some t302_258, false) (fun k w => k t292_250 w) (fun t304_259 w =>
   guardW (some t302_258, false) (fun k w => k t299_256 w) (fun t305_260 w =>
   guardW (some t302_258, false) (fun k w => opW Tryz.prog (binS BinOp.neq 37 (Operand.tmp 304) (Operand.tmp 305) t304_259 t305_260) k w) (fun t306_261 w =>
   pickW t302_258 (Value.bool true) t306_261 (fun t307_262 w =>
   guardW (some t307_262, false) (fun k w => opW Tryz.prog (Instr.loadAt 27 a_240) k w) (fun t309_263 w =>
   guardW (some t307_262, false) (fun k w => opW Tryz.prog (Instr.loadAt 27 b_245) k w) (fun t310_264 w =>
   guardW (some t307_262, false) (fun k w => callW Tryz.prog (Value.func (Fn.func 18) #[] #[]) #[t309_263, t310_264] k w) (fun t311_265 w =>
   guardW (some t307_262, false) (fun k w => opW Tryz.prog (Op.unary UnOp.not t311_265) k w) (fun t312_266 w =>
   pickW t307_262 (Value.bool true) t312_266 (fun t313_267 w =>
   guardW (some t313_267, false) (fun k w => opW Tryz.prog (Instr.loadAt 27 c_251) k w) (fun t315_268 w =>
   guardW (some t313_267, false) (fun k w => opW Tryz.prog (Instr.loadAt 27 d_257) k w) (fun t316_269 w =>
   guardW (some t313_267, false) (fun k w => callW Tryz.prog (Value.func (Fn.func 18) #[] #[]) #[t315_268, t316_269] k w) (fun t317_270 w =>
   guardW (some t313_267, false) (fun k w => opW Tryz.prog (Op.unary UnOp.not t317_270) k w) (fun t318_271 w =>
   pickW t313_267 (Value.bool true) t318_271 (fun t319_272 w =>
   condW t319_272
   (k (Value.bool false) w)
   (opW Tryz.prog (binS BinOp.add 3 (Operand.tmp 270) (Operand.const (Value.int IntKind.i64 1)) t270_229 (Value.int IntKind.i64 1)) (fun t320_273 w =>
   loopK [] [] [pages_6, y_7, d_10, t75_34, packets_38, r_70, t102_60, t103_61, t104_63, t268_226, t269_227] [pages_6, y_7, d_10, t75_34, packets_38, r_70, t102_60, t103_61, t104_63, t268_226, t269_227] (K_230 t320_273 w)) w)) w) w) w) w) w) w) w) w) w) w) w) w) w) w) w) w) w) w) w) w) w) w) w) w) w) w) w) w) w) w) w) w) w) w) w) w) w) w) w) w) w) w) w)
   (K w)) w) (Value.int IntKind.i64 0) w) w) w) w)) w) w) w) w) w) w) w) w) w) w) w) w) w) w) w) w) w) w) w) w) w) w) w) w) w) w) w) w) w) w) w) w) w) w) w) w) w) w) w) w) w) w) w) w) w) w) w) w) w) w) w) w) w) w) w) w) w) w) w) w) w)) w) (Value.int IntKind.i64 0) w) w
def R3 (pages_6 y_7 d_10 t75_34 packets_38 t102_60 t103_61 t104_63 r_70 : Value) (k : Value → World → Prop) (K : World → Prop) (w : World) : Prop :=
   drewW w (fun w =>
   ∃ S : World → Prop, S w ∧
   takeW Tryz.prog S (Instr.loadAt 27 r_70) (fun t108_73 =>
   takeW Tryz.prog S (Instr.loadAt 27 r_70) (fun t110_74 =>
   callW Tryz.prog (Value.func (Fn.func 15) #[] #[]) #[t108_73] (fun t109_75 w => keepS S (fun w =>
   callW Tryz.prog (Value.func (Fn.func 16) #[] #[]) #[t110_74] (fun t111_76 w => keepS S (fun w =>
   takeW Tryz.prog anyW (binS BinOp.neq 4 (Operand.tmp 109) (Operand.tmp 111) t109_75 t111_76) (fun t112_77 =>
   guardT (some t112_77, false) (fun k => takeW Tryz.prog S (Instr.loadAt 27 r_70) k w) (fun t114_78 =>
   guardT (some t112_77, false) (fun k => k t75_34) (fun t115_79 =>
   guardT (some t112_77, false) (fun k => takeW Tryz.prog anyW (Instr.indexAt 34 t115_79 (Value.int IntKind.i64 0)) k w) (fun t116_80 =>
   guardT (some t112_77, false) (fun k => takeW Tryz.prog S (Instr.loadAt 27 t116_80) k w) (fun t117_81 =>
   guardT (some t112_77, false) (fun k => takeW Tryz.prog S (Instr.loadAt 27 r_70) k w) (fun t119_82 =>
   guardT (some t112_77, false) (fun k => k t75_34) (fun t120_83 =>
   guardT (some t112_77, false) (fun k => takeW Tryz.prog anyW (Instr.indexAt 34 t120_83 (Value.int IntKind.i64 0)) k w) (fun t121_84 =>
   guardT (some t112_77, false) (fun k => takeW Tryz.prog S (Instr.loadAt 27 t121_84) k w) (fun t122_85 =>
   guardW (some t112_77, false) (fun k w => callW Tryz.prog (Value.func (Fn.func 17) #[] #[]) #[t114_78, t117_81] k w) (fun t118_86 w => keepS S (fun w =>
   guardW (some t112_77, false) (fun k w => callW Tryz.prog (Value.func (Fn.func 18) #[] #[]) #[t119_82, t122_85] k w) (fun t123_87 w => keepS S (fun w =>
   guardT (some t112_77, false) (fun k => takeW Tryz.prog anyW (binS BinOp.neq 4 (Operand.tmp 118) (Operand.tmp 123) t118_86 t123_87) k w) (fun t124_88 =>
   pickT t112_77 (Value.bool true) t124_88 (fun t125_89 =>
   guardT (some t125_89, false) (fun k => takeW Tryz.prog S (Instr.loadAt 27 r_70) k w) (fun t127_90 =>
   guardT (some t125_89, false) (fun k => takeW Tryz.prog S (Instr.loadAt 27 r_70) k w) (fun t129_91 =>
   guardW (some t125_89, false) (fun k w => callW Tryz.prog (Value.func (Fn.func 20) #[] #[]) #[t127_90] k w) (fun t128_92 w => keepS S (fun w =>
   guardW (some t125_89, false) (fun k w => callW Tryz.prog (Value.func (Fn.func 21) #[] #[]) #[t129_91] k w) (fun t130_93 w => keepS S (fun w =>
   guardW (some t125_89, false) (fun k w => callW Tryz.prog (Value.func (Fn.func 19) #[] #[]) #[t128_92, t130_93] k w) (fun t131_94 w => keepS S (fun w =>
   guardT (some t125_89, false) (fun k => takeW Tryz.prog anyW (Op.unary UnOp.not t131_94) k w) (fun t132_95 =>
   pickT t125_89 (Value.bool true) t132_95 (fun t133_96 =>
   condW t133_96
   (k (Value.bool false) w)
   (drewW w (fun w =>
   ∃ S : World → Prop, S w ∧
   takeW Tryz.prog S (Instr.loadAt 31 d_10) (fun t134_98 =>
   takeW Tryz.prog S (Instr.loadAt 23 y_7) (fun t135_99 =>
   callW Tryz.prog (Value.func (Fn.func 22) #[] #[]) #[t135_99] (fun t136_100 w => keepS S (fun w =>
   opW Tryz.prog (Instr.buildSlice 24 2 #[(0, t134_98), (1, t136_100)]) (fun t137_101 w => keepS S (fun w =>
   takeW Tryz.prog anyW (Builtin.len_ #[24] 3 #[t137_101]) (fun t138_102 =>
   Loop1 (fun t139_104 w K_105 =>
   opW Tryz.prog (binS BinOp.lss 3 (Operand.tmp 139) (Operand.tmp 138) t139_104 t138_102) (fun t140_106 w =>
   condW t140_106
   (opW Tryz.prog (Instr.indexAt 24 t137_101 t139_104) (fun t141_109 w =>
   opW Tryz.prog (Instr.loadAt 31 t141_109) (fun t142_110 w =>
   opW Tryz.prog (Instr.alloc 31 true (Value.tuple #[])) (fun z_111 w =>
   opU Tryz.prog (Instr.storeAt 31 z_111 t142_110) (fun _ w =>
   opW Tryz.prog (Instr.loadAt 27 r_70) (fun t144_112 w =>
   opW Tryz.prog (Instr.loadAt 31 z_111) (fun t145_113 w =>
   callW Tryz.prog (Value.func (Fn.func 23) #[] #[]) #[t144_112, t145_113] (fun t146_114 w =>
   opW Tryz.prog (Instr.extract t146_114 0) (fun t147_115 w =>
   opW Tryz.prog (Instr.extract t146_114 1) (fun t148_116 w =>
   opW Tryz.prog (Instr.alloc 27 true (Value.tuple #[])) (fun a_117 w =>
   opU Tryz.prog (Instr.storeAt 27 a_117 t147_115) (fun _ w =>
   opW Tryz.prog (Instr.loadAt 27 r_70) (fun t150_118 w =>
   opW Tryz.prog (Instr.loadAt 31 z_111) (fun t151_119 w =>
   callW Tryz.prog (Value.func (Fn.func 24) #[] #[]) #[t150_118, t151_119] (fun t152_120 w =>
   opW Tryz.prog (Instr.extract t152_120 0) (fun t153_121 w =>
   opW Tryz.prog (Instr.extract t152_120 1) (fun t154_122 w =>
   opW Tryz.prog (Instr.alloc 27 true (Value.tuple #[])) (fun b_123 w =>
   opU Tryz.prog (Instr.storeAt 27 b_123 t153_121) (fun _ w =>
   drewW w (fun w =>
   ∃ S : World → Prop, S w ∧
   takeW Tryz.prog anyW (binS BinOp.neq 37 (Operand.tmp 155) (Operand.tmp 156) t148_116 t154_122) (fun t157_125 =>
   guardT (some t157_125, false) (fun k => takeW Tryz.prog S (Instr.loadAt 27 a_117) k w) (fun t159_126 =>
   guardT (some t157_125, false) (fun k => takeW Tryz.prog S (Instr.loadAt 27 b_123) k w) (fun t160_127 =>
   guardW (some t157_125, false) (fun k w => callW Tryz.prog (Value.func (Fn.func 18) #[] #[]) #[t159_126, t160_127] k w) (fun t161_128 w => keepS S (fun w =>
   guardT (some t157_125, false) (fun k => takeW Tryz.prog anyW (Op.unary UnOp.not t161_128) k w) (fun t162_129 =>
   pickT t157_125 (Value.bool true) t162_129 (fun t163_130 =>
   guardT (some t163_130, false) (fun k => takeW Tryz.prog S (Instr.loadAt 31 z_111) k w) (fun t165_131 =>
   guardT (some t163_130, false) (fun k => takeW Tryz.prog S (Instr.loadAt 31 z_111) k w) (fun t167_132 =>
   guardW (some t163_130, false) (fun k w => callW Tryz.prog (Value.func (Fn.func 25) #[] #[]) #[t165_131] k w) (fun t166_133 w => keepS S (fun w =>
   guardW (some t163_130, false) (fun k w => callW Tryz.prog (Value.func (Fn.func 26) #[] #[]) #[t167_132] k w) (fun t168_134 w => keepS S (fun w =>
   guardT (some t163_130, false) (fun k => takeW Tryz.prog anyW (binS BinOp.neq 3 (Operand.tmp 166) (Operand.tmp 168) t166_133 t168_134) k w) (fun t169_135 =>
   pickT t163_130 (Value.bool true) t169_135 (fun t170_136 =>
   condW t170_136
   (k (Value.bool false) w)
   (opW Tryz.prog (binS BinOp.add 3 (Operand.tmp 139) (Operand.const (Value.int IntKind.i64 1)) t139_104 (Value.int IntKind.i64 1)) (fun t171_137 w =>
   loopK [] [] [pages_6, y_7, d_10, t75_34, packets_38, r_70, t102_60, t103_61, t104_63, t137_101, t138_102] [pages_6, y_7, d_10, t75_34, packets_38, r_70, t102_60, t103_61, t104_63, t137_101, t138_102] (K_105 t171_137 w)) w)))) w) w) w) w))))) w) w))) w)) w) w) w) w) w) w) w) w) w) w) w) w) w) w) w) w) w) w)
   (opW Tryz.prog (Builtin.len_ #[36] 3 #[packets_38]) (fun t173_138 w =>
   Loop1 (fun t174_140 w K_141 =>
   opW Tryz.prog (binS BinOp.lss 3 (Operand.tmp 174) (Operand.tmp 173) t174_140 t173_138) (fun t175_142 w =>
   condW t175_142
   (opW Tryz.prog (Instr.indexAt 36 packets_38 t174_140) (fun t176_145 w =>
   opW Tryz.prog (Instr.loadAt 29 t176_145) (fun t177_146 w =>
   opW Tryz.prog (Instr.alloc 29 true (Value.tuple #[])) (fun p_147 w =>
   opU Tryz.prog (Instr.storeAt 29 p_147 t177_146) (fun _ w =>
   opW Tryz.prog (Instr.loadAt 27 r_70) (fun t179_148 w =>
   opW Tryz.prog (Instr.loadAt 29 p_147) (fun t180_149 w =>
   callW Tryz.prog (Value.func (Fn.func 27) #[] #[]) #[t179_148, t180_149] (fun t181_150 w =>
   opW Tryz.prog (Instr.extract t181_150 0) (fun t182_151 w =>
   opW Tryz.prog (Instr.extract t181_150 1) (fun t183_152 w =>
   opW Tryz.prog (Instr.alloc 27 true (Value.tuple #[])) (fun a_153 w =>
   opU Tryz.prog (Instr.storeAt 27 a_153 t182_151) (fun _ w =>
   opW Tryz.prog (Instr.loadAt 27 r_70) (fun t185_154 w =>
   opW Tryz.prog (Instr.loadAt 29 p_147) (fun t186_155 w =>
   callW Tryz.prog (Value.func (Fn.func 28) #[] #[]) #[t185_154, t186_155] (fun t187_156 w =>
   opW Tryz.prog (Instr.extract t187_156 0) (fun t188_157 w =>
   opW Tryz.prog (Instr.extract t187_156 1) (fun t189_158 w =>
   opW Tryz.prog (Instr.alloc 27 true (Value.tuple #[])) (fun b_159 w =>
   opU Tryz.prog (Instr.storeAt 27 b_159 t188_157) (fun _ w =>
   opW Tryz.prog (binS BinOp.neq 37 (Operand.tmp 190) (Operand.tmp 191) t183_152 t189_158) (fun t192_160 w =>
   guardW (some t192_160, false) (fun k w => opW Tryz.prog (Instr.loadAt 27 a_153) k w) (fun t194_161 w =>
   guardW (some t192_160, false) (fun k w => opW Tryz.prog (Instr.loadAt 27 b_159) k w) (fun t195_162 w =>
   guardW (some t192_160, false) (fun k w => callW Tryz.prog (Value.func (Fn.func 18) #[] #[]) #[t194_161, t195_162] k w) (fun t196_163 w =>
   guardW (some t192_160, false) (fun k w => opW Tryz.prog (Op.unary UnOp.not t196_163) k w) (fun t197_164 w =>
   pickW t192_160 (Value.bool true) t197_164 (fun t198_165 w =>
   condW t198_165
   (k (Value.bool false) w)
   (opW Tryz.prog (binS BinOp.add 3 (Operand.tmp 174) (Operand.const (Value.int IntKind.i64 1)) t174_140 (Value.int IntKind.i64 1)) (fun t199_166 w =>
   loopK [] [] [pages_6, y_7, d_10, t75_34, packets_38, r_70, t102_60, t103_61, t104_63, packets_38, t173_138] [pages_6, y_7, d_10, t75_34, packets_38, r_70, t102_60, t103_61, t104_63, packets_38, t173_138] (K_141 t199_166 w)) w)) w) w) w) w) w) w) w) w) w) w) w) w) w) w) w) w) w) w) w) w) w) w) w) w)
   (opW Tryz.prog (Instr.loadAt 27 r_70) (fun t201_167 w =>
   callW Tryz.prog (Value.func (Fn.func 29) #[] #[]) #[t201_167] (fun t202_168 w =>
   opW Tryz.prog (Instr.extract t202_168 0) (fun t203_169 w =>
   opW Tryz.prog (Instr.extract t202_168 1) (fun t204_170 w =>
   opW Tryz.prog (Instr.extract t202_168 2) (fun t205_171 w =>
   opW Tryz.prog (Instr.alloc 27 true (Value.tuple #[])) (fun a_172 w =>
   opU Tryz.prog (Instr.storeAt 27 a_172 t203_169) (fun _ w =>
   opW Tryz.prog (Instr.loadAt 27 r_70) (fun t207_173 w =>
   callW Tryz.prog (Value.func (Fn.func 30) #[] #[]) #[t207_173] (fun t208_174 w =>
   opW Tryz.prog (Instr.extract t208_174 0) (fun t209_175 w =>
   opW Tryz.prog (Instr.extract t208_174 1) (fun t210_176 w =>
   opW Tryz.prog (Instr.extract t208_174 2) (fun t211_177 w =>
   opW Tryz.prog (Instr.alloc 27 true (Value.tuple #[])) (fun b_178 w =>
   opU Tryz.prog (Instr.storeAt 27 b_178 t209_175) (fun _ w =>
   opW Tryz.prog (Instr.loadAt 27 r_70) (fun t213_179 w =>
   callW Tryz.prog (Value.func (Fn.func 31) #[] #[]) #[t213_179] (fun t214_180 w =>
   opW Tryz.prog (Instr.extract t214_180 0) (fun t215_181 w =>
   opW Tryz.prog (Instr.extract t214_180 1) (fun t216_182 w =>
   opW Tryz.prog (Instr.alloc 29 true (Value.tuple #[])) (fun p_183 w =>
   opU Tryz.prog (Instr.storeAt 29 p_183 t215_181) (fun _ w =>
   opW Tryz.prog (Instr.loadAt 27 r_70) (fun t218_184 w =>
   callW Tryz.prog (Value.func (Fn.func 13) #[] #[]) #[t218_184] (fun t219_185 w =>
   opW Tryz.prog (Instr.extract t219_185 0) (fun t220_186 w =>
   opW Tryz.prog (Instr.extract t219_185 1) (fun t221_187 w =>
   opW Tryz.prog (Instr.alloc 29 true (Value.tuple #[])) (fun q_188 w =>
   opU Tryz.prog (Instr.storeAt 29 q_188 t220_186) (fun _ w =>
   opW Tryz.prog (binS BinOp.neq 37 (Operand.tmp 222) (Operand.tmp 223) t205_171 t211_177) (fun t224_190 w =>
   guardW (some t224_190, false) (fun k w => k t216_182 w) (fun t226_191 w =>
   guardW (some t224_190, false) (fun k w => k t221_187 w) (fun t227_192 w =>
   guardW (some t224_190, false) (fun k w => opW Tryz.prog (binS BinOp.neq 37 (Operand.tmp 226) (Operand.tmp 227) t226_191 t227_192) k w) (fun t228_193 w =>
   pickW t224_190 (Value.bool true) t228_193 (fun t229_194 w =>
   guardW (some t229_194, false) (fun k w => opW Tryz.prog (Instr.loadAt 27 a_172) k w) (fun t231_195 w =>
   guardW (some t229_194, false) (fun k w => opW Tryz.prog (Instr.loadAt 27 b_178) k w) (fun t232_196 w =>
   guardW (some t229_194, false) (fun k w => callW Tryz.prog (Value.func (Fn.func 18) #[] #[]) #[t231_195, t232_196] k w) (fun t233_197 w =>
   guardW (some t229_194, false) (fun k w => opW Tryz.prog (Op.unary UnOp.not t233_197) k w) (fun t234_198 w =>
   pickW t229_194 (Value.bool true) t234_198 (fun t235_199 w =>
   guardW (some t235_199, false) (fun k w => k t204_170 w) (fun t237_200 w =>
   guardW (some t235_199, false) (fun k w => k t210_176 w) (fun t238_201 w =>
   guardW (some t235_199, false) (fun k w => callW Tryz.prog (Value.func (Fn.func 19) #[] #[]) #[t237_200, t238_201] k w) (fun t239_202 w =>
   guardW (some t235_199, false) (fun k w => opW Tryz.prog (Op.unary UnOp.not t239_202) k w) (fun t240_203 w =>
   pickW t235_199 (Value.bool true) t240_203 (fun t241_204 w =>
   guardW (some t241_204, false) (fun k w => opW Tryz.prog (Instr.fieldAt 29 p_183 0) k w) (fun t243_205 w =>
   guardW (some t241_204, false) (fun k w => opW Tryz.prog (Instr.loadAt 3 t243_205) k w) (fun t244_206 w =>
   guardW (some t241_204, false) (fun k w => opW Tryz.prog (Instr.fieldAt 29 q_188 0) k w) (fun t245_207 w =>
   guardW (some t241_204, false) (fun k w => opW Tryz.prog (Instr.loadAt 3 t245_207) k w) (fun t246_208 w =>
   guardW (some t241_204, false) (fun k w => opW Tryz.prog (binS BinOp.neq 3 (Operand.tmp 244) (Operand.tmp 246) t244_206 t246_208) k w) (fun t247_209 w =>
   pickW t241_204 (Value.bool true) t247_209 (fun t248_210 w =>
   guardW (some t248_210, false) (fun k w => opW Tryz.prog (Instr.fieldAt 29 p_183 1) k w) (fun t250_211 w =>
   guardW (some t248_210, false) (fun k w => opW Tryz.prog (Instr.loadAt 24 t250_211) k w) (fun t251_212 w =>
   guardW (some t248_210, false) (fun k w => opW Tryz.prog (Instr.fieldAt 29 q_188 1) k w) (fun t252_213 w =>
   guardW (some t248_210, false) (fun k w => opW Tryz.prog (Instr.loadAt 24 t252_213) k w) (fun t253_214 w =>
   guardW (some t248_210, false) (fun k w => callW Tryz.prog (Value.func (Fn.func 19) #[] #[]) #[t251_212, t253_214] k w) (fun t254_215 w =>
   guardW (some t248_210, false) (fun k w => opW Tryz.prog (Op.unary UnOp.not t254_215) k w) (fun t255_216 w =>
   pickW t248_210 (Value.bool true) t255_216 (fun t256_217 w =>
   guardW (some t256_217, false) (fun k w => opW Tryz.prog (Instr.fieldAt 29 p_183 2) k w) (fun t258_218 w =>
   guardW (some t256_217, false) (fun k w => opW Tryz.prog (Instr.loadAt 25 t258_218) k w) (fun t259_219 w =>
   guardW (some t256_217, false) (fun k w => opW Tryz.prog (Instr.fieldAt 29 q_188 2) k w) (fun t260_220 w =>
   guardW (some t256_217, false) (fun k w => opW Tryz.prog (Instr.loadAt 25 t260_220) k w) (fun t261_221 w =>
   guardW (some t256_217, false) (fun k w => callW Tryz.prog (Value.func (Fn.func 32) #[] #[]) #[t259_219, t261_221] k w) (fun t262_222 w =>
   guardW (some t256_217, false) (fun k w => opW Tryz.prog (Op.unary UnOp.not t262_222) k w) (fun t263_223 w =>
   pickW t256_217 (Value.bool true) t263_223 (fun t264_224 w =>
   condW t264_224
   (k (Value.bool false) w)
   (callW Tryz.prog (Value.func (Fn.func 33) #[] #[]) #[pages_6, (Value.int IntKind.i64 20)] (fun t267_225 w =>
   opW Tryz.prog (Instr.buildSlice 54 2 #[(0, pages_6), (1, t267_225)]) (fun t268_226 w =>
   opW Tryz.prog (Builtin.len_ #[54] 3 #[t268_226]) (fun t269_227 w =>
   Loop1 (fun t270_229 w K_230 =>
   opW Tryz.prog (binS BinOp.lss 3 (Operand.tmp 270) (Operand.tmp 269) t270_229 t269_227) (fun t271_231 w =>
   condW t271_231
   (opW Tryz.prog (Instr.indexAt 54 t268_226 t270_229) (fun t272_234 w =>
   opW Tryz.prog (Instr.loadAt 3 t272_234) (fun t273_235 w =>
   opW Tryz.prog (Instr.loadAt 27 r_70) (fun t275_236 w =>
   callW Tryz.prog (Value.func (Fn.func 34) #[] #[]) #[t275_236, t273_235] (fun t277_237 w =>
   opW Tryz.prog (Instr.extract t277_237 0) (fun t278_238 w =>
   opW Tryz.prog (Instr.extract t277_237 1) (fun t279_239 w =>
   opW Tryz.prog (Instr.alloc 27 true (Value.tuple #[])) (fun a_240 w =>
   opU Tryz.prog (Instr.storeAt 27 a_240 t278_238) (fun _ w =>
   opW Tryz.prog (Instr.loadAt 27 r_70) (fun t281_241 w =>
   callW Tryz.prog (Value.func (Fn.func 35) #[] #[]) #[t281_241, t273_235] (fun t283_242 w =>
   opW Tryz.prog (Instr.extract t283_242 0) (fun t284_243 w =>
   opW Tryz.prog (Instr.extract t283_242 1) (fun t285_244 w =>
   opW Tryz.prog (Instr.alloc 27 true (Value.tuple #[])) (fun b_245 w =>
   opU Tryz.prog (Instr.storeAt 27 b_245 t284_243) (fun _ w =>
   opW Tryz.prog (Instr.fieldAt 27 r_70 0) (fun t287_246 w =>
   opW Tryz.prog (Instr.loadAt 3 t287_246) (fun t288_247 w =>
   callW Tryz.prog (Value.func (Fn.func 36) #[] #[]) #[t288_247, t273_235] (fun t290_248 w =>
   opW Tryz.prog (Instr.extract t290_248 0) (fun t291_249 w =>
   opW Tryz.prog (Instr.extract t290_248 1) (fun t292_250 w =>
   opW Tryz.prog (Instr.alloc 27 true (Value.tuple #[])) (fun c_251 w =>
   opU Tryz.prog (Instr.storeAt 27 c_251 t291_249) (fun _ w =>
   opW Tryz.prog (Instr.fieldAt 27 r_70 0) (fun t294_252 w =>
   opW Tryz.prog (Instr.loadAt 3 t294_252) (fun t295_253 w =>
   callW Tryz.prog (Value.func (Fn.func 37) #[] #[]) #[t295_253, t273_235] (fun t297_254 w =>
   opW Tryz.prog (Instr.extract t297_254 0) (fun t298_255 w =>
   opW Tryz.prog (Instr.extract t297_254 1) (fun t299_256 w =>
   opW Tryz.prog (Instr.alloc 27 true (Value.tuple #[])) (fun d_257 w =>
   opU Tryz.prog (Instr.storeAt 27 d_257 t298_255) (fun _ w =>
   opW Tryz.prog (binS BinOp.neq 37 (Operand.tmp 300) (Operand.tmp 301) t279_239 t285_244) (fun t302_258 w =>
   guardW (some t302_258, false) (fun k w => k t292_250 w) (fun t304_259 w =>
   guardW (some t302_258, false) (fun k w => k t299_256 w) (fun t305_260 w =>
   guardW (some t302_258, false) (fun k w => opW Tryz.prog (binS BinOp.neq 37 (Operand.tmp 304) (Operand.tmp 305) t304_259 t305_260) k w) (fun t306_261 w =>
   pickW t302_258 (Value.bool true) t306_261 (fun t307_262 w =>
   guardW (some t307_262, false) (fun k w => opW Tryz.prog (Instr.loadAt 27 a_240) k w) (fun t309_263 w =>
   guardW (some t307_262, false) (fun k w => opW Tryz.prog (Instr.loadAt 27 b_245) k w) (fun t310_264 w =>
   guardW (some t307_262, false) (fun k w => callW Tryz.prog (Value.func (Fn.func 18) #[] #[]) #[t309_263, t310_264] k w) (fun t311_265 w =>
   guardW (some t307_262, false) (fun k w => opW Tryz.prog (Op.unary UnOp.not t311_265) k w) (fun t312_266 w =>
   pickW t307_262 (Value.bool true) t312_266 (fun t313_267 w =>
   guardW (some t313_267, false) (fun k w => opW Tryz.prog (Instr.loadAt 27 c_251) k w) (fun t315_268 w =>
   guardW (some t313_267, false) (fun k w => opW Tryz.prog (Instr.loadAt 27 d_257) k w) (fun t316_269 w =>
   guardW (some t313_267, false) (fun k w => callW Tryz.prog (Value.func (Fn.func 18) #[] #[]) #[t315_268, t316_269] k w) (fun t317_270 w =>
   guardW (some t313_267, false) (fun k w => opW Tryz.prog (Op.unary UnOp.not t317_270) k w) (fun t318_271 w =>
   pickW t313_267 (Value.bool true) t318_271 (fun t319_272 w =>
   condW t319_272
   (k (Value.bool false) w)
   (opW Tryz.prog (binS BinOp.add 3 (Operand.tmp 270) (Operand.const (Value.int IntKind.i64 1)) t270_229 (Value.int IntKind.i64 1)) (fun t320_273 w =>
   loopK [] [] [pages_6, y_7, d_10, t75_34, packets_38, r_70, t102_60, t103_61, t104_63, t268_226, t269_227] [pages_6, y_7, d_10, t75_34, packets_38, r_70, t102_60, t103_61, t104_63, t268_226, t269_227] (K_230 t320_273 w)) w)) w) w) w) w) w) w) w) w) w) w) w) w) w) w) w) w) w) w) w) w) w) w) w) w) w) w) w) w) w) w) w) w) w) w) w) w) w) w) w) w) w) w) w)
   (K w)) w) (Value.int IntKind.i64 0) w) w) w) w)) w) w) w) w) w) w) w) w) w) w) w) w) w) w) w) w) w) w) w) w) w) w) w) w) w) w) w) w) w) w) w) w) w) w) w) w) w) w) w) w) w) w) w) w) w) w) w) w) w) w) w) w) w) w) w) w) w) w) w) w) w)) w) (Value.int IntKind.i64 0) w) w)) w) (Value.int IntKind.i64 0) w) w) w) w) w) w) w) w))))) w) w) w) w) w) w))))) w) w) w) w))))))))) w) w) w) w) w) w) w)
end Go.Proofs.YtklknkmeljjmgaaGreatDoor
/- RelayMatchesReference: Refill and New; Print and Tell. -/
set_option linter.unusedSimpArgs false
set_option linter.unusedVariables false
set_option maxRecDepth 100000
namespace Go.Proofs.YtklknkmeljjmgaaGreatDoor
open Go Go.V Go.RowKit
theorem zeroR_small : small zeroR := ⟨by simp [zeroR], by simp [zeroR]⟩
theorem valid_sm {r : Rel} (h : ValidR r) : small r := by
  have := h.small
  exact ⟨by omega, by omega⟩
theorem chk_small {r a : Rel} {e : Int} (h : chk r e a) : small a := by
  rcases h with ⟨h, _, rfl⟩ | ⟨_, _, rfl⟩
  · exact valid_sm h
  · exact zeroR_small
theorem join_small {r a : Rel} {l : List Disp} {m : List Slp} {e : Int} (h : joinR r l m e a) : small a := by
  rcases h with ⟨o, s, _, _, h⟩ | ⟨_, _, rfl⟩
  · exact chk_small h
  · exact zeroR_small
theorem put_small {r a : Rel} {d : Disp} {e : Int} (h : putR r d e a) : small a := by
  rcases h with ⟨_, _, h⟩ | ⟨_, _, rfl⟩
  · exact join_small h
  · exact zeroR_small
theorem hear_small {r a : Rel} {p : Pack} {e : Int} (h : hearR r p e a) : small a := by
  rcases h with ⟨_, _, h⟩ | ⟨_, _, rfl⟩
  · exact join_small h
  · exact zeroR_small
theorem refill_small {r a : Rel} {n e : Int} (h : refillR r n e a) : small a := by
  rcases h with ⟨⟨h, _⟩, _, rfl⟩ | ⟨_, _, rfl⟩
  · have := valid_sm h; exact ⟨this.1, this.2⟩
  · exact zeroR_small
theorem print_small {r a : Rel} {e : Int} {dn : List Disp} (h : printR r e a dn) : small a := by
  rcases h with ⟨_, S, r1, _, _, h, h' | h'⟩ | ⟨_, _, rfl, _⟩
  · rw [h'.2.1]; exact zeroR_small
  · rw [h'.2.1]; have := join_small h; exact ⟨this.1, this.2⟩
  · exact zeroR_small
section
variable {k : Value → World → Prop} {K : World → Prop} {w : World} {yv dv lv pv tv nv iv : Value}
theorem g3 {pg : Int} {n b : Nat} {r : Rel} (R : RV n b w r) (hsm : small r) (hk : ∀ w', Below w.heap.size w w' → K w') : G3 (I pg) yv dv lv pv tv nv iv (.pointer (some ⟨b, 0, none⟩)) k K w := by
  unfold G3
  refine c33 (by decide) ?_
  generalize pickI pg 20 = pg2
  refine w_parts (F := fI) (l := [pg, pg2]) sty54 rfl (by decide) (by decide) (by kernel_rfl) rfl fun w1 hb1 hsz1 hm1 => ?_
  refine (len54 hm1.sl).mpr ?_
  have R1 := R.below hb1
  refine Loop1.intro (fun n a w' => ∃ i : Nat, a = I i ∧ i ≤ 2 ∧ n = 2 - i ∧ Below w1.heap.size w1 w') _ ⟨0, rfl, by omega, rfl, Below.refl _ _⟩ ?_
  rintro m _ w2 ⟨i, rfl, hi, rfl, hb2⟩
  rw [w_lss]
  have hl2 : ([pg, pg2] : List Int).length = 2 := rfl
  by_cases hlt : i < 2
  case' neg =>
    rw [decide_eq_false (by omega), condW_false]
    exact hk w2 (below_trans hb1 hb2)
  rw [decide_eq_true (by omega), condW_true]
  obtain ⟨pn, hpn⟩ : ∃ pn, ([pg, pg2] : List Int)[i]? = some pn := ⟨_, List.getElem?_eq_getElem (by omega)⟩
  rw [w_getE (a := pn) (u := I pn) (by kernel_rfl) (by kernel_rfl) (by kernel_rfl) (by kernel_rfl) (by kernel_rfl) (hm1.sl.below hb2) (by omega) (by simpa using hpn) rfl]
  have R2 := R1.below hb2
  refine R2.ld fun v2 hv2 => ?_
  refine c34 (pages := pn) hv2 hsm fun v3 w3 e3 r3 hb3 hp3 hv3 hf3 => ?_
  rw [w_extract (v := v3) rfl, w_extract (v := I e3) rfl]
  refine RV.new (n := 0) hv3 (fun _ _ => Nat.zero_le _) fun w4 hb4 hsz4 A4 => ?_
  have hb24 := below_trans hb3 hb4
  refine (R2.below hb24).ld fun v4 hv4 => ?_
  refine c35 (pages := pn) hv4 hsm fun v5 w5 e5 r5 hb5 hp5 hv5 hf5 => ?_
  rw [w_extract (v := v5) rfl, w_extract (v := I e5) rfl]
  refine RV.new (n := 0) hv5 (fun _ _ => Nat.zero_le _) fun w6 hb6 hsz6 B6 => ?_
  have hb46 := below_trans hb5 hb6
  have A6 := A4.below hb46
  obtain ⟨kR, sR, rR, _, _⟩ := (R2.below (below_trans hb24 hb46)).open
  rw [rw27_0 (rR.cell (i := 0) rfl)]
  refine c36 fun v7 w7 e7 r7 hb7 hp7 hv7 hf7 => ?_
  rw [w_extract (v := v7) rfl, w_extract (v := I e7) rfl]
  refine RV.new (n := 0) hv7 (fun _ _ => Nat.zero_le _) fun w8 hb8 hsz8 C8 => ?_
  have hb68 := below_trans hb7 hb8
  rw [rw27_0 ((rR.below hb68).cell (i := 0) rfl)]
  refine c37 fun v9 w9 e9 r9 hb9 hp9 hv9 hf9 => ?_
  rw [w_extract (v := v9) rfl, w_extract (v := I e9) rfl]
  refine RV.new (n := 0) hv9 (fun _ _ => Nat.zero_le _) fun w10 hb10 hsz10 D10 => ?_
  have hb810 := below_trans hb9 hb10
  have A10 := (A6.below hb68).below hb810
  have B10 := (B6.below hb68).below hb810
  have C10 := C8.below hb810
  obtain ⟨rfl, rfl⟩ := refill_alike hp3 hp5
  obtain ⟨rfl, rfl⟩ := chk_alike hp7 hp9
  simp only [w_neq, decide_true, Bool.not_true, guardW_ff, pickW_false]
  refine A10.ld fun va hva => ?_
  refine B10.ld fun vb hvb => ?_
  refine c18 hva hvb (refill_small hp3) fun w11 hb11 => ?_
  rw [decide_eq_true rfl]
  simp only [w_not, Bool.not_true, guardW_ff, pickW_false]
  refine (C10.below hb11).ld fun vc hvc => ?_
  refine (D10.below hb11).ld fun vd hvd => ?_
  refine c18 hvc hvd (chk_small hp7) fun w12 hb12 => ?_
  rw [decide_eq_true rfl]
  simp only [w_not, Bool.not_true, guardW_ff, pickW_false, condW_false]
  rw [w_add, wrap_id (by omega), loopK_self]
  exact ⟨2 - (i + 1), by omega, i + 1, by simp [I], by omega, rfl, below_trans hb2 (below_trans hb24 (below_trans hb46 (below_trans hb68 (below_trans hb810 (below_trans hb11 hb12)))))⟩
end
end Go.Proofs.YtklknkmeljjmgaaGreatDoor
/- RelayMatchesReference: Print and Tell; what is heard. -/
set_option linter.unusedSimpArgs false
set_option linter.unusedVariables false
set_option maxRecDepth 100000
namespace Go.Proofs.YtklknkmeljjmgaaGreatDoor
open Go Go.V Go.RowKit
theorem tell_small {r : Rel} {e : Int} {p : Pack} (h : tellR r e p) : p.kept.length ≤ 10000 ∧ p.slips.length ≤ 10000 := by
  rcases h with ⟨h, _, rfl⟩ | ⟨_, _, rfl⟩
  · have := valid_sm h; exact ⟨this.1, this.2⟩
  · exact ⟨Nat.zero_le _, Nat.zero_le _⟩
theorem print_done {r a : Rel} {e : Int} {dn : List Disp} (h : printR r e a dn) : dn.length ≤ 10000 := by
  rcases h with ⟨hv, S, r1, _, _, h, h' | h'⟩ | ⟨_, _, _, rfl⟩
  · rw [h'.2.2]; simp
  · rw [h'.2.2]
    have h1 := printT_len (waitL r) r.paper
    have h2 := waitL_len r
    have h3 := (valid_sm hv).1
    have h4 := hv.small
    omega
  · simp
section
variable {k : Value → World → Prop} {K : World → Prop} {w : World} {yv dv lv pv tv nv iv : Value}
theorem h3 {pg : Int} {n b : Nat} {r : Rel} (hg : Gl w) (R : RV n b w r) (hsm : small r) (h12 : r.kept.length ≤ 12) (hk : ∀ w', Below w.heap.size w w' → K w') : H3 (I pg) yv dv lv pv tv nv iv (.pointer (some ⟨b, 0, none⟩)) k K w := by
  unfold H3
  refine R.ld fun v0 hv0 => ?_
  refine c29 hv0 hg hsm h12 fun v1 d1 w1 e1 r1 dn1 hb1 hp1 hv1 hd1 hf1 hfd1 => ?_
  rw [w_extract (v := v1) rfl, w_extract (v := d1) rfl, w_extract (v := I e1) rfl]
  refine RV.new (n := 0) hv1 (fun _ _ => Nat.zero_le _) fun w2 hb2 hsz2 A2 => ?_
  have hb02 := below_trans hb1 hb2
  have hd2 := hd1.below hb2
  refine (R.below hb02).ld fun v2 hv2 => ?_
  refine c30 hv2 hsm fun v3 d3 w3 e3 r3 dn3 hb3 hp3 hv3 hd3 hf3 hfd3 => ?_
  rw [w_extract (v := v3) rfl, w_extract (v := d3) rfl, w_extract (v := I e3) rfl]
  refine RV.new (n := 0) hv3 (fun _ _ => Nat.zero_le _) fun w4 hb4 hsz4 B4 => ?_
  have hb24 := below_trans hb3 hb4
  have hd4 := hd3.below hb4
  have hd2' := hd2.below hb24
  have A4 := A2.below hb24
  obtain ⟨rfl, rfl, rfl⟩ := print_alike hp1 hp3
  refine ((R.below hb02).below hb24).ld fun v4 hv4 => ?_
  refine c31 hv4 hsm fun v5 w5 e5 p5 hb5 hp5 hv5 hf5 => ?_
  obtain ⟨k5, s5, rfl, h5, h5'⟩ := hv5
  rw [w_extract (v := .agg #[I p5.src, k5, s5]) rfl, w_extract (v := I e5) rfl]
  refine w_var (vs := [I p5.src, k5, s5]) hz29 (by rw [zc29]; rfl) (oneK h5 h5') size29 known29 fun w6 hb6 hsz6 hr6 => ?_
  have hb46 := below_trans hb5 hb6
  refine (((R.below hb02).below hb24).below hb46).ld fun v6 hv6 => ?_
  refine c13 hv6 hsm fun v7 w7 e7 p7 hb7 hp7 hv7 hf7 => ?_
  obtain ⟨k7, s7, rfl, h7, h7'⟩ := hv7
  rw [w_extract (v := .agg #[I p7.src, k7, s7]) rfl, w_extract (v := I e7) rfl]
  refine w_var (vs := [I p7.src, k7, s7]) hz29 (by rw [zc29]; rfl) (oneK h7 h7') size29 known29 fun w8 hb8 hsz8 hr8 => ?_
  have hb68 := below_trans hb7 hb8
  have hb48 := below_trans hb46 hb68
  have hb28 := below_trans hb24 hb48
  have hb08 := below_trans hb02 hb28
  obtain ⟨rfl, rfl⟩ := tell_alike hp5 hp7
  have hr6' := hr6.below hb68
  have h6 := (h5.below hb6).below hb68
  have h6' := (h5'.below hb6).below hb68
  have h8 := h7.below hb8
  have h8' := h7'.below hb8
  have hts := tell_small hp5
  simp only [w_neq, decide_true, Bool.not_true, guardW_ff, pickW_false]
  refine (A4.below hb48).ld fun va hva => ?_
  refine (B4.below hb48).ld fun vb hvb => ?_
  refine c18 hva hvb (print_small hp1) fun w9 hb9 => ?_
  rw [decide_eq_true rfl]
  simp only [w_not, Bool.not_true, guardW_ff, pickW_false]
  refine c19 (hd2'.below (below_trans hb48 hb9)) (hd4.below (below_trans hb48 hb9)) (by have := print_done hp1; unfold maxLen; omega) fun w10 hb10 => ?_
  have hb810 := below_trans hb9 hb10
  rw [decide_eq_true rfl]
  simp only [w_not, Bool.not_true, guardW_ff, pickW_false]
  rw [rw29_0 ((hr6'.below hb810).cell (i := 0) rfl), rw29_0 ((hr8.below hb810).cell (i := 0) rfl)]
  simp only [w_neq, decide_true, Bool.not_true, guardW_ff, pickW_false]
  rw [rw29_1 ((hr6'.below hb810).cell (i := 1) rfl), rw29_1 ((hr8.below hb810).cell (i := 1) rfl)]
  refine c19 (h6.below hb810) (h8.below hb810) (by have := hts.1; unfold maxLen; omega) fun w11 hb11 => ?_
  have hb811 := below_trans hb810 hb11
  rw [decide_eq_true rfl]
  simp only [w_not, Bool.not_true, guardW_ff, pickW_false]
  rw [rw29_2 ((hr6'.below hb811).cell (i := 2) rfl), rw29_2 ((hr8.below hb811).cell (i := 2) rfl)]
  refine c32 (h6'.below hb811) (h8'.below hb811) (by have := hts.2; unfold maxLen; omega) fun w12 hb12 => ?_
  have hb812 := below_trans hb811 hb12
  rw [decide_eq_true rfl]
  simp only [w_not, Bool.not_true, guardW_ff, pickW_false, condW_false]
  exact g3 (R.below (below_trans hb08 hb812)) hsm fun w13 hb13 => hk w13 (below_trans (below_trans hb08 hb812) hb13)
theorem q3 {pg : Int} {n b B : Nat} {r : Rel} {ps : List Pack} {q : Nat → Prop} (hg : Gl w) (R : RV n b w r) (hsm : small r) (h12 : r.kept.length ≤ 12) (hp : PKQ q B w pv ps) (hps : ∀ p ∈ ps, p.kept.length ≤ 5000 ∧ p.slips.length ≤ 5000) (hpl : ps.length ≤ 1000) (hk : ∀ w', Below w.heap.size w w' → K w') :
    Q3 (I pg) yv dv lv pv tv nv iv (.pointer (some ⟨b, 0, none⟩)) k K w := by
  unfold Q3
  obtain ⟨xs, hx1, hx2, hx3⟩ := hp.v
  refine (len36 hx1.sl).mpr ?_
  refine Loop1.intro (fun n a w' => ∃ i : Nat, a = I i ∧ i ≤ xs.length ∧ n = xs.length - i ∧ Below w.heap.size w w') _ ⟨0, rfl, by omega, rfl, Below.refl _ _⟩ ?_
  rintro m _ w2 ⟨i, rfl, hi, rfl, hb2⟩
  rw [w_lss]
  by_cases hlt : i < xs.length
  case' neg =>
    rw [decide_eq_false (by omega), condW_false]
    exact h3 (hg.below hb2 hg.2) (R.below hb2) hsm h12 fun w3 hb3 => hk w3 (below_trans hb2 hb3)
  rw [decide_eq_true (by omega), condW_true]
  obtain ⟨p, hpk⟩ : ∃ p, ps[i]? = some p := ⟨_, List.getElem?_eq_getElem (by omega)⟩
  obtain ⟨x, hxk⟩ : ∃ x, xs[i]? = some x := ⟨_, List.getElem?_eq_getElem hlt⟩
  have hpv := (hx3 i x p hxk hpk).now
  have hpm := hps p (List.mem_of_getElem? hpk)
  rw [na36 rfl (hx1.sl.below hb2) hxk]
  obtain ⟨kp, sp, hpe, hkp, hsp⟩ := hpv
  have hpe' : fK.e x = [I p.src, kp, sp] := by
    have := congrArg (fun v : Value => v.cells.toList) hpe
    simpa [Value.cells] using this
  refine w_var (vs := fK.e x) hz29 (by rw [zc29]; rfl) (eK.one x) size29 known29 fun w3 hb3 hsz3 hr3 => ?_
  rw [hpe'] at hr3
  have hb03 := below_trans hb2 hb3
  have R3 := R.below hb03
  refine R3.ld fun v3 hv3 => ?_
  rw [ld29 (vs := [I p.src, kp, sp]) rfl hr3.cells]
  refine c27 (p := p) hv3 ⟨kp, sp, rfl, hkp.below hb03, hsp.below hb03⟩ hsm hpm fun v4 w4 e4 r4 hb4 hp4 hv4 hf4 => ?_
  rw [w_extract (v := v4) rfl, w_extract (v := I e4) rfl]
  refine RV.new (n := 0) hv4 (fun _ _ => Nat.zero_le _) fun w5 hb5 hsz5 A5 => ?_
  have hb35 := below_trans hb4 hb5
  have hb05 := below_trans hb03 hb35
  refine (R3.below hb35).ld fun v5 hv5 => ?_
  rw [ld29 (vs := [I p.src, kp, sp]) rfl (hr3.below hb35).cells]
  refine c28 (p := p) hv5 ⟨kp, sp, rfl, hkp.below hb05, hsp.below hb05⟩ hsm hpm fun v6 w6 e6 r6 hb6 hp6 hv6 hf6 => ?_
  rw [w_extract (v := v6) rfl, w_extract (v := I e6) rfl]
  refine RV.new (n := 0) hv6 (fun _ _ => Nat.zero_le _) fun w7 hb7 hsz7 B7 => ?_
  have hb57 := below_trans hb6 hb7
  obtain ⟨rfl, rfl⟩ := hear_alike hp4 hp6
  simp only [w_neq, decide_true, Bool.not_true, guardW_ff, pickW_false]
  refine (A5.below hb57).ld fun va hva => ?_
  refine B7.ld fun vb hvb => ?_
  refine c18 hva hvb (hear_small hp4) fun w8 hb8 => ?_
  rw [decide_eq_true rfl]
  simp only [w_not, Bool.not_true, guardW_ff, pickW_false, condW_false]
  rw [w_add, wrap_id (by omega), loopK_self]
  exact ⟨xs.length - (i + 1), by omega, i + 1, by simp [I], by omega, rfl, below_trans hb05 (below_trans hb57 hb8)⟩
end
end Go.Proofs.YtklknkmeljjmgaaGreatDoor
/- RelayMatchesReference: one relay. -/
set_option linter.unusedSimpArgs false
set_option linter.unusedVariables false
set_option maxRecDepth 100000
namespace Go.Proofs.YtklknkmeljjmgaaGreatDoor
open Go Go.V Go.RowKit
section
variable {k : Value → World → Prop} {K : World → Prop} {w : World} {tv nv iv : Value}
theorem t_neqB {S : World → Prop} {KK : Value → Prop} {ox oy : Operand} {x y : Bool} : takeW Tryz.prog S (binS .neq 4 ox oy (.bool x) (.bool y)) KK w = KK (.bool (!decide (x = y))) := takeW_pure fun w => run_of_eq fun k => w_neqB (by kernel_rfl)
theorem p3 {pg : Int} {n b B yb db : Nat} {r r0 : Rel} {ps : List Pack} {q : Nat → Prop} {lv pv : Value} {ys : List RW} {x0 : RW} {d : Disp} {y0 y1 : Int} (hg : Gl w) (R : RV n b w r) (hsm : small r) (h12 : r.kept.length ≤ 12) (hp : PKQ q B w pv ps) (hps : ∀ p ∈ ps, p.kept.length ≤ 5000 ∧ p.slips.length ≤ 5000) (hpl : ps.length ≤ 1000)
    (hl : IsSl fR w lv ys) (hx0 : ys[0]? = some x0) (hv0 : RelV w (agR x0) r0) (hd : RowAt w db 31 (fD.e d)) (hy : RowAt w yb 23 [I y0, I y1]) (h0 : in64 y0) (h1 : in64 y1) (hk : ∀ w', Below w.heap.size w w' → K w') :
    R3 (I pg) (.pointer (some ⟨yb, 0, none⟩)) (.pointer (some ⟨db, 0, none⟩)) lv pv tv nv iv (.pointer (some ⟨b, 0, none⟩)) k K w := by
  unfold R3
  rw [drewW_eq]
  have hb01 := below_drew w
  have R1 := R.below hb01
  have hl1 := hl.below hb01
  have hv1 := hv0.below hb01
  have hd1 := hd.below hb01
  have hy1 := hy.below hb01
  have hg1 := hg.below hb01 hg.2
  have hp1 := hp.below hb01
  generalize w.drew = w1 at *
  have a1 := after_refl w1
  refine ⟨after w1, a1, ?_⟩
  refine R1.la a1 fun va hva => ?_
  refine R1.la a1 fun vb hvb => ?_
  refine c15 hva hsm fun b1 w2 hb2 hi1 => ?_
  rw [keepS_eq]
  refine ⟨hb2, c16 (hvb.below hb2) hsm fun b2 w3 hb3 hi2 => ?_⟩
  have a3 := below_trans hb2 hb3
  rw [keepS_eq]
  refine ⟨a3, ?_⟩
  have hbe : b1 = b2 := by
    cases b1 <;> cases b2 <;> simp_all
  subst hbe
  rw [t_neqB, decide_eq_true rfl]
  simp only [Bool.not_true, guardT_ff, guardW_ff]
  refine R1.la a3 fun vc hvc => ?_
  rw [getAi eR (m := 0) (i := 0) rfl hl1 hx0 a3 (by decide)]
  refine R1.la a3 fun vd hvd => ?_
  rw [getAi eR (m := 0) (i := 0) rfl hl1 hx0 a3 (by decide)]
  refine c17 (hvc.below a3) (hv1.below a3) hsm fun w4 hb4 => ?_
  have a4 := below_trans a3 hb4
  rw [keepS_eq]
  refine ⟨a4, c18 (hvd.below a4) (hv1.below a4) hsm fun w5 hb5 => ?_⟩
  have a5 := below_trans a4 hb5
  rw [keepS_eq]
  refine ⟨a5, ?_⟩
  rw [t_neqB, decide_eq_true rfl]
  simp only [Bool.not_true, pickT_false, guardT_ff, guardW_ff]
  refine R1.la a5 fun ve hve => ?_
  refine R1.la a5 fun vf hvf => ?_
  refine c20 (hve.below a5) hsm h12 fun wv1 w6 hb6 hw1 _ => ?_
  have a6 := below_trans a5 hb6
  rw [keepS_eq]
  refine ⟨a6, c21 (hvf.below a6) hsm fun wv2 w7 hb7 hw2 => ?_⟩
  have a7 := below_trans a6 hb7
  rw [keepS_eq]
  refine ⟨a7, c19 (hw1.below hb7) hw2 ?_ fun w8 hb8 => ?_⟩
  · unfold waitV
    have h1 := waitL_len r
    split
    · have h4 := (‹ValidR r› : ValidR r).small; unfold maxLen; omega
    · unfold maxLen; simp
  have a8 := below_trans a7 hb8
  rw [keepS_eq, decide_eq_true rfl]
  refine ⟨a8, ?_⟩
  rw [t_not]
  simp only [Bool.not_true, pickT_false, condW_false]
  rw [drewW_eq]
  have hb19 := below_trans a8 (below_drew w8)
  clear hw1 hw2 hve hvf hvc hvd hva hvb
  have R9 := R1.below hb19
  have hd9 := hd1.below hb19
  have hy9 := hy1.below hb19
  have hg9 := hg1.below hb19 hg1.2
  have hp9 := hp1.below hb19
  generalize w8.drew = w9 at *
  refine ⟨after w9, after_refl _, ?_⟩
  rw [la31 (vs := fD.e d) rfl hd9.cells (after_refl _), la23 (vs := [I y0, I y1]) rfl hy9.cells (after_refl _)]
  refine c22 h0 h1 fun w10 hb10 => ?_
  rw [keepS_eq]
  refine ⟨hb10, ?_⟩
  generalize madeD y0 y1 = d2
  refine w_parts (F := fD) (l := [d, d2]) sty24 rfl (by decide) (by decide) (by kernel_rfl) rfl fun w11 hb11 hsz11 hm11 => ?_
  have hb911 := below_trans hb10 hb11
  rw [keepS_eq]
  refine ⟨hb911, ?_⟩
  rw [tlen24 hm11.sl]
  have R11 := R9.below hb911
  have hlen2 : ([d, d2] : List Disp).length = 2 := rfl
  refine Loop1.intro (fun n a w' => ∃ i : Nat, a = I i ∧ i ≤ 2 ∧ n = 2 - i ∧ Below w11.heap.size w11 w') _ ⟨0, rfl, by omega, rfl, Below.refl _ _⟩ ?_
  rintro m _ w12 ⟨i, rfl, hi, rfl, hb12⟩
  rw [w_lss]
  by_cases hlt : i < 2
  case' neg =>
    rw [decide_eq_false (by omega), condW_false]
    have hb912 := below_trans hb911 hb12
    exact q3 (hg9.below hb912 hg9.2) (R11.below hb12) hsm h12 (hp9.below hb912) hps hpl fun w13 hb13 => hk w13 (below_trans hb01 (below_trans hb19 (below_trans hb912 hb13)))
  rw [decide_eq_true (by omega), condW_true]
  obtain ⟨z, hz⟩ : ∃ z, ([d, d2] : List Disp)[i]? = some z := ⟨_, List.getElem?_eq_getElem (by omega)⟩
  rw [na24 rfl (hm11.sl.below hb12) hz]
  refine nvD (d := z) fun w13 hb13 hsz13 hz13 => ?_
  have hb1113 := below_trans hb12 hb13
  have R13 := R11.below hb1113
  refine R13.ld fun v13 hv13 => ?_
  rw [ld31 (vs := fD.e z) rfl hz13.cells]
  refine c23 (d := z) hv13 hsm fun v14 w14 e14 r14 hb14 hp14 hv14 hf14 => ?_
  rw [w_extract (v := v14) rfl, w_extract (v := I e14) rfl]
  refine RV.new (n := 0) hv14 (fun _ _ => Nat.zero_le _) fun w15 hb15 hsz15 A15 => ?_
  have hb1315 := below_trans hb14 hb15
  refine (R13.below hb1315).ld fun v15 hv15 => ?_
  rw [ld31 (vs := fD.e z) rfl (hz13.below hb1315).cells]
  refine c24 (d := z) hv15 hsm fun v16 w16 e16 r16 hb16 hp16 hv16 hf16 => ?_
  rw [w_extract (v := v16) rfl, w_extract (v := I e16) rfl]
  refine RV.new (n := 0) hv16 (fun _ _ => Nat.zero_le _) fun w17 hb17 hsz17 B17 => ?_
  have hb1517 := below_trans hb16 hb17
  obtain ⟨rfl, rfl⟩ := put_alike hp14 hp16
  rw [drewW_eq]
  have hb1518 := below_trans hb1517 (below_drew w17)
  have hb1318 := below_trans hb1315 hb1518
  have A18 := A15.below hb1518
  have B18 := B17.below (below_drew w17)
  have hz18 := hz13.below hb1318
  generalize w17.drew = w18 at *
  have a18 := after_refl w18
  refine ⟨after w18, a18, ?_⟩
  rw [t_neq, decide_eq_true rfl]
  simp only [Bool.not_true, guardT_ff, guardW_ff]
  refine A18.la a18 fun v18 hv18 => ?_
  refine B18.la a18 fun v18' hv18' => ?_
  refine c18 hv18 hv18' (put_small hp14) fun w19 hb19' => ?_
  rw [keepS_eq, decide_eq_true rfl]
  refine ⟨hb19', ?_⟩
  rw [t_not]
  simp only [Bool.not_true, pickT_false, guardT_ff, guardW_ff]
  rw [la31 (vs := fD.e z) rfl hz18.cells hb19', la31 (vs := fD.e z) rfl hz18.cells hb19']
  refine c25 (d := z) fun w20 hb20 => ?_
  have a20 := below_trans hb19' hb20
  rw [keepS_eq]
  refine ⟨a20, c26 (d := z) fun w21 hb21 => ?_⟩
  have a21 := below_trans a20 hb21
  rw [keepS_eq]
  refine ⟨a21, ?_⟩
  rw [t_neq, decide_eq_true rfl]
  simp only [Bool.not_true, pickT_false, condW_false]
  rw [w_add, wrap_id (by omega), loopK_self]
  exact ⟨2 - (i + 1), by omega, i + 1, by simp [I], by omega, rfl, below_trans hb1113 (below_trans hb1318 a21)⟩
end
end Go.Proofs.YtklknkmeljjmgaaGreatDoor
/- RelayMatchesReference: what is made ready. -/
set_option linter.unusedSimpArgs false
set_option linter.unusedVariables false
set_option maxRecDepth 100000
namespace Go.Proofs.YtklknkmeljjmgaaGreatDoor
open Go Go.V Go.RowKit
section
variable {k : Value → World → Prop} {w : World}
theorem s3 {xv rv ov : Value} {xs : List Q4} {y0 y1 pg : Int} {r : Rel} {p : Pack} {d : Disp} (hg : Gl w) (hx : IsSl fQ w xv xs) (hr : RelV w rv r) (ho : PackV w ov p) (hok : ∀ q ∈ xs, okQ q) (h0 : in64 y0) (h1 : in64 y1) (h2 : in64 pg)
    (hk : ∀ w', Below w.heap.size w w' → k (.bool true) w') : S3 xv (.agg #[I y0, I y1]) rv ov (agD d) (I pg) k w := by
  unfold S3
  have hA0 := hg.2
  refine w_boxN (v := .agg #[I y0, I y1]) fun w1 hb1 hsz1 hy1 => ?_
  replace hy1 : RowAt w1 w.heap.size 23 [I y0, I y1] := hy1
  refine boxR (hr.below hb1) fun kr sr w2 hre hkr hsr hb2 hsz2 hr2 => ?_
  have hb02 := below_trans hb1 hb2
  refine boxK (ho.below hb02) fun ko so w3 hoe hko hso hb3 hsz3 ho3 => ?_
  have hb03 := below_trans hb02 hb3
  refine boxD (d := d) fun w4 hb4 hsz4 hd4 => ?_
  have hb04 := below_trans hb03 hb4
  refine c10 (hg.below hb04 hA0) fun w5 hb5 => ?_
  have hb05 := below_trans hb04 hb5
  rw [w_not, Bool.not_true, condW_false]
  have hy5 := (((hy1.below hb2).below hb3).below hb4).below hb5
  have hr5 := ((hr2.below hb3).below hb4).below hb5
  have ho5 := (ho3.below hb4).below hb5
  have hd5 := hd4.below hb5
  generalize hA1 : w1.heap.size = A1 at *
  generalize hA2 : w2.heap.size = A2 at *
  generalize hA3 : w3.heap.size = A3 at *
  have hA : w.heap.size < A1 ∧ A1 < A2 ∧ A2 < A3 ∧ A3 < w4.heap.size := by omega
  -- the odd packet, cut
  rw [rw29_1 (ho5.cell (i := 1) rfl)]
  have hko5 : IsSl fD w5 ko p.kept := by
    obtain ⟨kv, sv, e, h2, _⟩ := ho
    cases (hoe.symm.trans e)
    exact h2.below hb05
  refine c11 hko5 fun u w6 hb6 hu => ?_
  have hb06 := below_trans hb05 hb6
  have hs5 := hb05.size
  have hs45 := hb5.size
  have hs6 := hb6.size
  have ho6 := ho5.below hb6
  rw [fl29_1]
  refine (st24 hu.sl.one (ho6.cell (i := 1) rfl) (ho6.free 1)).mpr ?_
  have hbo : Below A2 w6 (w6.setCell ⟨A2, 1, none⟩ u) := (Below.refl _ _).setCell (p := ⟨A2, 1, none⟩) (Nat.le_refl _) _
  have hoo : Off (· = A2) w6 (w6.setCell ⟨A2, 1, none⟩ u) := Off.set rfl
  have ho7 : RowAt (w6.setCell ⟨A2, 1, none⟩ u) A2 29 [I p.src, u, so] := ho6.set 1 u
  have hu7 := hu.off hoo fun b hb he => by have := (hu.ge hb).1; omega
  have hy7 := (hy5.below hb6).off hoo (by omega)
  have hr7 := (hr5.below hb6).off hoo (by omega)
  have hd7 := (hd5.below hb6).off hoo (by omega)
  have hb07 : Below w.heap.size w (w6.setCell ⟨A2, 1, none⟩ u) := hb06.trans (hbo.mono (by omega))
  have hs7 : (w6.setCell ⟨A2, 1, none⟩ u).heap.size = w6.heap.size := by simp
  generalize w6.setCell ⟨A2, 1, none⟩ u = w7 at *
  -- its slips
  have hsoL : ∀ w', Below w.heap.size w w' → IsSl fP w' so p.slips := fun w' hb => by
    obtain ⟨kv, sv, e, _, h2⟩ := ho
    cases (hoe.symm.trans e)
    exact h2.below hb
  have hsrL : ∀ w', Below w.heap.size w w' → IsSl fP w' sr r.slips := fun w' hb => by
    obtain ⟨kv, sv, e, _, h2⟩ := hr
    cases (hre.symm.trans e)
    exact h2.below hb
  have hkrL : ∀ w', Below w.heap.size w w' → IsSl fD w' kr r.kept := fun w' hb => by
    obtain ⟨kv, sv, e, h2, _⟩ := hr
    cases (hre.symm.trans e)
    exact h2.below hb
  rw [rw29_2 (ho7.cell (i := 2) rfl), rw29_2 (ho7.cell (i := 2) rfl)]
  refine (len25 (hsoL _ hb07)).mpr ?_
  rw [w_min, min4]
  refine w_headX (F := fP) rfl (by kernel_rfl) (by kernel_rfl) (by kernel_rfl) (hsoL _ hb07) (Nat.min_le_left _ _) fun sv hsx => ?_
  have hsvL : ∀ w', Below w.heap.size w w' → IsSl fP w' sv (p.slips.take (min p.slips.length 4)) := fun w' hb => hsx _ (hsoL w' hb)
  rw [fl29_2]
  refine (st25 (hsvL _ hb07).one (ho7.cell (i := 2) rfl) (ho7.free 2)).mpr ?_
  have hbo8 : Below A2 w7 (w7.setCell ⟨A2, 2, none⟩ sv) := (Below.refl _ _).setCell (p := ⟨A2, 2, none⟩) (Nat.le_refl _) _
  have hoo8 : Off (· = A2) w7 (w7.setCell ⟨A2, 2, none⟩ sv) := Off.set rfl
  have ho8 : RowAt (w7.setCell ⟨A2, 2, none⟩ sv) A2 29 [I p.src, u, sv] := ho7.set 2 sv
  have hu8 := hu7.off hoo8 fun b hb he => by have := (hu7.ge hb).1; omega
  have hy8 := hy7.off hoo8 (by omega)
  have hr8 := hr7.off hoo8 (by omega)
  have hd8 := hd7.off hoo8 (by omega)
  have hb08 : Below w.heap.size w (w7.setCell ⟨A2, 2, none⟩ sv) := hb07.trans (hbo8.mono (by omega))
  have hs8 : (w7.setCell ⟨A2, 2, none⟩ sv).heap.size = w7.heap.size := by simp
  generalize w7.setCell ⟨A2, 2, none⟩ sv = w8 at *
  -- the dispatch's text
  rw [rw31_3 (hd8.cell (i := 3) rfl), rw31_3 (hd8.cell (i := 3) rfl), w_lenStr str9, w_min, min30, w_headStr str9 (by omega) (by show ((min d.text.size 30 : Nat) : Int) ≤ (d.text.size : Nat); omega), fl31_3]
  refine (st9 rfl (hd8.cell (i := 3) rfl) (hd8.free 3)).mpr ?_
  simp only [Int.toNat_natCast]
  have hbo9 : Below A3 w8 (w8.setCell ⟨A3, 3, none⟩ (.string (d.text.extract 0 (min d.text.size 30)))) := (Below.refl _ _).setCell (p := ⟨A3, 3, none⟩) (Nat.le_refl _) _
  have hoo9 : Off (· = A3) w8 (w8.setCell ⟨A3, 3, none⟩ (.string (d.text.extract 0 (min d.text.size 30)))) := Off.set rfl
  have hd9 : RowAt (w8.setCell ⟨A3, 3, none⟩ (.string (d.text.extract 0 (min d.text.size 30)))) A3 31 (fD.e (cutD d)) := hd8.set 3 _
  have hu9 := hu8.off hoo9 fun b hb he => by have := (hu8.ge hb).1; omega
  have hy9 := hy8.off hoo9 (by omega)
  have hr9 := hr8.off hoo9 (by omega)
  have ho9 := ho8.off hoo9 (by omega)
  have hb09 : Below w.heap.size w (w8.setCell ⟨A3, 3, none⟩ (.string (d.text.extract 0 (min d.text.size 30)))) := hb08.trans (hbo9.mono (by omega))
  have hs9 : (w8.setCell ⟨A3, 3, none⟩ (.string (d.text.extract 0 (min d.text.size 30)))).heap.size = w8.heap.size := by simp
  generalize w8.setCell ⟨A3, 3, none⟩ (.string (d.text.extract 0 (min d.text.size 30))) = w9 at *
  generalize cutD d = d' at *
  clear hy8 hr8 ho8 hu8 hd8 hy7 hr7 ho7 hu7 hd7 hoo hoo8 hoo9 hbo hbo8 hbo9 hb08 hb07 ho6 hy5 hr5 ho5 hd5 hko5 hu
  -- the relays
  refine c12R (hx.below hb09) hok fun lv w10 rs hb10 hrs h3 => ?_
  have hb010 := below_trans hb09 hb10
  have hs10 := hb10.size
  have hy10 := hy9.below hb10
  have hr10 := hr9.below hb10
  have ho10 := ho9.below hb10
  have hd10 := hd9.below hb10
  have hu10 := hu9.below hb10
  obtain ⟨ys, hl1, hl2, hl3⟩ := hrs
  have hlvG : ∀ b, isOf lv b → w9.heap.size ≤ b ∧ b < w10.heap.size := fun b hb => hl1.ge hb
  rw [ld29 (vs := [I p.src, u, sv]) rfl ho10.cells]
  obtain ⟨ua, uc, rfl, _⟩ := hu10.sl
  obtain ⟨sa, sc, rfl, _⟩ := hsvL _ hb010
  refine PKQ.one (q := isOf lv) (p := shortK p) ⟨⟨p.src, ua, _, uc, sa, _, sc⟩, rfl⟩ (fun w' hof => ?_) fun pv w11 hp11 hb11 hsz11 => ?_
  · refine ⟨_, _, rfl, (hu10.off hof fun b hb hh => ?_).sl, hsx _ (slOld (hsoL w (Below.refl _ _)) (by decide) (Nat.le_refl _) ((Off.below hb010).trans (hof.mono fun b _ hb => ?_)))⟩
    · have := hu10.ge hb
      rcases hh with hh | hh
      · omega
      · have := hlvG b hh; have := hu9.ge hb; omega
    · rcases hb with hh | hh
      · omega
      · have := hlvG b hh; omega
  have hrl := h3.len
  have hs11 := hb11.size
  refine Loop2.intro (fun n pv a w' => ∃ i : Nat, a = I i ∧ i ≤ 3 ∧ n = 3 - i ∧ Below w10.heap.size w10 w' ∧ PKQ (isOf lv) w10.heap.size w' pv (shortK p :: (rs.take i).map packOf)) _ ⟨0, rfl, by omega, rfl, hb11, by simpa using hp11⟩ ?_
  rintro n pv2 _ w12 ⟨i, rfl, hi, rfl, hb12, hp12⟩
  have hs12 := hb12.size
  have hsl12 : IsSl fR w12 lv ys := hl1.sl.below hb12
  refine (len34 hsl12).mpr ?_
  rw [hl2, hrl, w_lss]
  by_cases hi3 : i < 3
  · rw [decide_eq_true (by omega), condW_true]
    obtain ⟨r1, hr1k, hgr, _⟩ := h3.at hi3
    obtain ⟨x, hxk⟩ : ∃ x, ys[i]? = some x := ⟨_, List.getElem?_eq_getElem (by omega)⟩
    have hrv : RelV w10 (agR x) r1 := (hl3 i x r1 hxk hr1k).now
    rw [na34 rfl hsl12 hxk]
    refine c13 (r := r1) (hrv.below hb12) hgr.small fun v13 w13 e q hb13 htl hv13 hf13 => ?_
    obtain ⟨rfl, rfl, hgk⟩ := tell_good hgr htl
    obtain ⟨k4, s4, rfl, h4, h4'⟩ := hv13
    rw [w_extract (v := .agg #[I r1.id, k4, s4]) rfl, w_extract (v := I 0) rfl]
    refine w_var (vs := [I r1.id, k4, s4]) hz29 (by rw [zc29]; rfl) (oneK h4 h4') size29 known29 fun w14 hb14 hsz14 hr14 => ?_
    have hb1214 := below_trans hb13 hb14
    rw [w_neq]
    simp only [decide_true, Bool.not_true, condW_false]
    rw [ld29 (vs := [I r1.id, k4, s4]) rfl hr14.cells]
    have hb1014 := hb12.trans (hb1214.mono hs12)
    obtain ⟨ks, hk1, hk2, hk3⟩ := hp12.v
    refine (hp12.below hb1214).push (p := packOf r1) ⟨k4, s4, rfl, h4.below hb14, h4'.below hb14⟩ (fun c hc => ?_) hb1014.size (by simp; omega) fun pv3 w15 hp15 hb15 => ?_
    · have := hf13 c hc
      exact ⟨fun hh => by have := (hk1.ge hh).2; omega, fun hh => by have := (hlvG c hh).2; omega⟩
    rw [w_add, wrap_id (by omega), loopK_self]
    refine ⟨3 - (i + 1), by omega, i + 1, by simp [I], by omega, rfl, hb1014.trans hb15, ?_⟩
    rw [List.take_add_one, hr1k]; simpa using hp15
  rw [decide_eq_false (by omega), condW_false]
  rw [List.take_of_length_le (by omega)] at hp12
  clear hp11 hb11 hsz11
  -- the raw relay, cut; one list more
  have hb012 := below_trans hb010 hb12
  have hr12 := hr10.below hb12
  rw [ld27 (vs := [I r.id, I r.paper, kr, sr]) rfl hr12.cells]
  refine c14R (hkrL _ hb012) (hsrL _ hb012) fun u' sv' w13 hb13 hu13 huG hsx' => ?_
  have hb1013 := hb12.trans (hb13.mono hs12)
  have hb013 := below_trans hb012 hb13
  have hp13 := hp12.below hb13
  have hs13 := hb13.size
  obtain ⟨pks, hpk1, hpk2, hpk3⟩ := hp13.v
  have hpvd : ∀ b, isOf pv2 b → ¬ isOf lv b := fun b hb hh => by have := (hpk1.ge hb).1; have := (hlvG b hh).2; omega
  have hsvL' : ∀ w', Below w.heap.size w w' → IsSl fP w' sv' (r.slips.take (min r.slips.length 4)) := fun w' hb => hsx' _ (hsrL w' hb)
  obtain ⟨uaa, ucc, rfl, _⟩ := id hu13
  obtain ⟨saa, scc, rfl, _⟩ := hsvL' _ hb013
  refine Mine.pushK (F := fR) (x := ⟨r.id, r.paper, uaa, ((r.kept.take 4).map cutD).length, ucc, saa, (r.slips.take (min r.slips.length 4)).length, scc⟩) sty34 (oneRW _) rfl (by decide) (hl1.below hb1013) (by have := hb1013.size; omega) (by rw [hl2, hrl]; unfold maxLen; omega) (by rw [hl2, hrl]; omega) fun l4 w14 hm14 hb14 hof14 hnew14 hsl14 => ?_
  have hs14 := hb14.size
  have hb014 : Below w.heap.size w w14 := hb013.trans (hb14.mono (by omega))
  have hlvlt : ∀ b, isOf lv b → A3 < b := fun b hb => by have := (hlvG b hb).1; omega
  have hp14 := hp13.off hof14 hpvd
  have hy14 := (hy10.below hb1013).off hof14 (fun hh => by have := hlvlt _ hh; omega)
  have hd14 := (hd10.below hb1013).off hof14 (fun hh => by have := hlvlt _ hh; omega)
  have hg14 := hg.below hb014 hA0
  have hx4 : RelsX w14 (ys ++ [⟨r.id, r.paper, uaa, ((r.kept.take 4).map cutD).length, ucc, saa, (r.slips.take (min r.slips.length 4)).length, scc⟩]) (rs ++ [shortR r]) := by
    refine ⟨by simp [hl2], fun i x s hx hs => ?_⟩
    rw [List.getElem?_append] at hx hs
    by_cases hi : i < ys.length
    · rw [if_pos hi] at hx; rw [if_pos (by omega)] at hs
      exact hl3 i x s hx hs w14 ((Off.below hb1013).trans hof14)
    · rw [if_neg hi] at hx; rw [if_neg (by omega)] at hs
      have e : i - ys.length = 0 := by
        rcases Nat.eq_zero_or_pos (i - ys.length) with h | h
        · exact h
        · rw [List.getElem?_eq_none (by simp; omega)] at hx; cases hx
      rw [e] at hx; rw [← hl2, e] at hs
      cases hx; cases hs
      exact ⟨_, _, rfl, hu13.off hof14 fun b hb hh => by have := huG b hb; have := (hlvG b hh).2; omega, hsvL' _ hb014⟩
  have hps : ∀ q ∈ shortK p :: rs.map packOf, q.kept.length ≤ 5000 ∧ q.slips.length ≤ 5000 := fun q hq => by
    rcases List.mem_cons.1 hq with rfl | hq
    · have := shortK_small p; omega
    · obtain ⟨s, hs, rfl⟩ := List.mem_map.1 hq
      have h5 := (h3.good s hs).k12
      have h6 := (h3.good s hs).valid.2.2.1
      constructor
      · show s.kept.length ≤ 5000; omega
      · show s.slips.length ≤ 5000; omega
  have hrs4 : ∀ s ∈ rs ++ [shortR r], small s ∧ s.kept.length ≤ 12 := fun s hs => by
    rcases List.mem_append.1 hs with hs | hs
    · exact ⟨(h3.good s hs).small, (h3.good s hs).k12⟩
    · simp only [List.mem_singleton] at hs
      subst hs
      have := shortR_small r
      exact ⟨⟨by omega, by omega⟩, by omega⟩
  obtain ⟨r0, hr0k⟩ : ∃ r0, rs[0]? = some r0 := ⟨_, List.getElem?_eq_getElem (by omega)⟩
  obtain ⟨x0, hx0k⟩ : ∃ x0, ys[0]? = some x0 := ⟨_, List.getElem?_eq_getElem (by omega)⟩
  have hv0 : RelV w14 (agR x0) r0 := hl3 0 x0 r0 hx0k hr0k w14 ((Off.below hb1013).trans hof14)
  have hplen : (shortK p :: rs.map packOf).length ≤ 1000 := by simp; omega
  generalize hrs' : rs ++ [shortR r] = R4 at *
  generalize hys' : ys ++ [(⟨r.id, r.paper, uaa, ((r.kept.take 4).map cutD).length, ucc, saa, (r.slips.take (min r.slips.length 4)).length, scc⟩ : RW)] = Y4 at *
  have hY4 : Y4.length = 4 := by rw [← hys']; simp; omega
  have hR4 : R4.length = 4 := by rw [← hrs']; simp; omega
  clear hp13 hpk3 hp12 hl3 hu13 hu10 hu9
  refine (len34 hm14.sl).mpr ?_
  rw [hY4]
  refine Loop1.intro (fun n a w' => ∃ i : Nat, a = I i ∧ i ≤ 4 ∧ n = 4 - i ∧ Below w14.heap.size w14 w') _ ⟨0, rfl, by omega, rfl, Below.refl _ _⟩ ?_
  rintro m _ w15 ⟨i, rfl, hi, rfl, hb15⟩
  rw [w_lss]
  by_cases hlt : i < 4
  case' neg =>
    rw [decide_eq_false (by omega), condW_false]
    exact hk w15 (below_trans hb014 hb15)
  rw [decide_eq_true (by omega), condW_true]
  obtain ⟨s, hsk⟩ : ∃ s, R4[i]? = some s := ⟨_, List.getElem?_eq_getElem (by omega)⟩
  obtain ⟨x, hxk⟩ : ∃ x, Y4[i]? = some x := ⟨_, List.getElem?_eq_getElem (by omega)⟩
  have hsv := hx4.2 i x s hxk hsk
  obtain ⟨hsm, h12⟩ := hrs4 s (List.mem_of_getElem? hsk)
  rw [na34 rfl (hm14.sl.below hb15) hxk]
  refine RV.new (n := 0) (v := agR x) (hsv.below hb15) (fun _ _ => Nat.zero_le _) fun w16 hb16 hsz16 R16 => ?_
  have hb1416 := below_trans hb15 hb16
  refine p3 (tv := l4) (hg14.below hb1416 hg14.2) R16 hsm h12 (hp14.below hb1416) hps hplen (hsl14.below hb1416) hx0k (hv0.below hb1416) (hd14.below hb1416) (hy14.below hb1416) h0 h1 fun w17 hb17 => ?_
  rw [w_add, wrap_id (by omega), loopK_self]
  exact ⟨4 - (i + 1), by omega, i + 1, by simp [I], by omega, rfl, below_trans hb1416 hb17⟩
end
end Go.Proofs.YtklknkmeljjmgaaGreatDoor
/- RelayMatchesReference answers true for every input, and the input reads as it did; its card ties the one listed variable to the program's text: no condition of its own. -/
namespace Go.Proofs.YtklknkmeljjmgaaGreatDoor.relayMatchesReference
open Go Go.V Go.ChangeShapes Go.WideShapes Go.ChangeAt Go.RowKit
set_option linter.unusedVariables false
theorem laid_met (os : Os) (args : Array Value) : laidMet Tryz.prog Rows.relayMatchesReferenceRow.laid ((laidWorld os).forCall (fun _ _ => 0) ⟨#[], args, []⟩).memory :=
  laidMet_of_run' 8 (by kernel_rfl) (by kernel_rfl)
theorem witness_row (os : Os) {H : Type} (enc : TypeId × Value → H) :
    (OpenSpec.ofChange Rows.relayMatchesReferenceSpec).preRow enc Tryz.prog Tryz.f3 Rows.relayMatchesReferenceRow.domain false Rows.relayMatchesReferenceRow.laid ((laidWorld os).forCall (fun _ _ => 0) ⟨#[], #[.slice none 0 0, .agg #[.int .i64 0, .int .i64 0], .agg #[.int .i64 0, .int .i64 0, .slice none 0 0, .slice none 0 0], .agg #[.int .i64 0, .slice none 0 0, .slice none 0 0], .agg #[.int .i64 0, .int .i64 0, .int .i64 0, .string ⟨#[]⟩], .int .i64 0], []⟩).memory #[.slice none 0 0, .agg #[.int .i64 0, .int .i64 0], .agg #[.int .i64 0, .int .i64 0, .slice none 0 0, .slice none 0 0], .agg #[.int .i64 0, .slice none 0 0, .slice none 0 0], .agg #[.int .i64 0, .int .i64 0, .int .i64 0, .string ⟨#[]⟩], .int .i64 0] := by
  have hw : (DataW.whole enc Tryz.prog ((laidWorld os).forCall (fun _ _ => 0) ⟨#[], #[.slice none 0 0, .agg #[.int .i64 0, .int .i64 0], .agg #[.int .i64 0, .int .i64 0, .slice none 0 0, .slice none 0 0], .agg #[.int .i64 0, .slice none 0 0, .slice none 0 0], .agg #[.int .i64 0, .int .i64 0, .int .i64 0, .string ⟨#[]⟩], .int .i64 0], []⟩).memory Tryz.f3.params.toList (OpenSpec.ofChange Rows.relayMatchesReferenceSpec).vars false (#[.slice none 0 0, .agg #[.int .i64 0, .int .i64 0], .agg #[.int .i64 0, .int .i64 0, .slice none 0 0, .slice none 0 0], .agg #[.int .i64 0, .slice none 0 0, .slice none 0 0], .agg #[.int .i64 0, .int .i64 0, .int .i64 0, .string ⟨#[]⟩], .int .i64 0] : Array Value).toList 8).map (fun x => (x.1, x.2.1)) =
      some ([.nil, .agg [.lit (.int .i64 0), .lit (.int .i64 0)], .agg [.lit (.int .i64 0), .lit (.int .i64 0), .nil, .nil], .agg [.lit (.int .i64 0), .nil, .nil], .agg [.lit (.int .i64 0), .lit (.int .i64 0), .lit (.int .i64 0), .lit (.string [])], .lit (.int .i64 0)], []) := by kernel_rfl
  obtain ⟨⟨x1, x2, x3⟩, hx, hx1⟩ := Option.map_eq_some_iff.1 hw
  simp only [Prod.mk.injEq] at hx1
  obtain ⟨rfl, rfl⟩ := hx1
  exact OpenSpec.preRow_of_cond 8 hx (by kernel_rfl) (fun k hk => by cases hk) (by kernel_rfl) (laid_met os _)
set_option maxRecDepth 100000 in
theorem lifted (os : Os) (started : os.Started) (H : Type) (enc : TypeId × Value → H) (F : Stop.Interp) :
    ReturnsInHanded {} Tryz.checked os 3 .any ((OpenSpec.ofChange Rows.relayMatchesReferenceSpec).preRow enc Tryz.prog Tryz.f3 Rows.relayMatchesReferenceRow.domain false Rows.relayMatchesReferenceRow.laid) (((OpenSpec.ofChange Rows.relayMatchesReferenceSpec).at F).post enc Tryz.prog Tryz.f3 false true false false) := by
  refine returnsInHanded_of_row (C := Tryz.checked) (s := OpenSpec.ofChange Rows.relayMatchesReferenceSpec) own started (by kernel_rfl) Tryz.func3
    (witness_row_at (enc := enc) (C := Tryz.checked) false (laidWorld os) #[.slice none 0 0, .agg #[.int .i64 0, .int .i64 0], .agg #[.int .i64 0, .int .i64 0, .slice none 0 0, .slice none 0 0], .agg #[.int .i64 0, .slice none 0 0, .slice none 0 0], .agg #[.int .i64 0, .int .i64 0, .int .i64 0, .string ⟨#[]⟩], .int .i64 0] rfl (by kernel_rfl) (by kernel_rfl) (by kernel_rfl) (witness_row os enc)) ?_
  intro W base args ds gs before hval0 hW _ _ _ hL _ _
  have hgl : Gl W := gl_of_laid rfl hL
  have hval : ∀ (j : Nat) t v, Tryz.f3.params[j]? = some t → args[j]? = some v → Value.okWide Tryz.prog W .any base t v := hval0
  have hW' := hW
  obtain ⟨p, q, hA0, hV, rfl, hfz, hnd⟩ := hW
  have hA : DataW.TrodAll enc Tryz.prog W 0 (fun _ => true) true Tryz.f3.params.toList args.toList ds p := hA0
  rw [Tryz.params3] at hA hval
  obtain ⟨v0, vs0, d0, ds0, p0, q0, hargs, rfl, rfl, h0, r0⟩ := trodAll_cons hA
  obtain ⟨v1, vs1, d1, ds1, p1, q1, rfl, rfl, rfl, h1, r1⟩ := trodAll_cons r0
  obtain ⟨v2, vs2, d2, ds2, p2, q2, rfl, rfl, rfl, h2, r2⟩ := trodAll_cons r1
  obtain ⟨v3, vs3, d3, ds3, p3, q3, rfl, rfl, rfl, h3, r3⟩ := trodAll_cons r2
  obtain ⟨v4, vs4, d4, ds4, p4, q4, rfl, rfl, rfl, h4, r4⟩ := trodAll_cons r3
  obtain ⟨v5, vs5, d5, ds5, p5, q5, rfl, rfl, rfl, h5, r5⟩ := trodAll_cons r4
  obtain ⟨rfl, rfl, rfl⟩ := trodAll_nil r5
  obtain rfl : args = #[v0, v1, v2, v3, v4, v5] := by cases args; simp_all
  obtain ⟨rfl, rfl⟩ := trodVars_none hV
  obtain ⟨a0, len0, cap0, rfl⟩ := okWide_slice und22 (hval 0 22 v0 rfl rfl)
  obtain ⟨e1, f1, rfl⟩ := WideMaps.okWide_pair pairT.arr (hval 1 23 v1 rfl rfl)
  obtain ⟨c2, rfl, _⟩ := okWide_struct Tryz.underlying27 (hval 2 27 v2 rfl rfl)
  obtain ⟨c3, rfl, _⟩ := okWide_struct Tryz.underlying29 (hval 3 29 v3 rfl rfl)
  obtain ⟨c4, rfl, _⟩ := okWide_struct Tryz.underlying31 (hval 4 31 v4 rfl rfl)
  obtain ⟨a5, rfl, rfl, rfl, wa5⟩ := open_int Tryz.underlying3 (hval 5 3 v5 rfl rfl) h5
  have k0 := h0
  have lt0 : ∀ x ∈ p0, x.block < W.heap.size := by obtain ⟨m, hm⟩ := k0; exact DataW.trod_lt m _ _ _ hm
  have k1 := h1
  have lt1 : ∀ x ∈ p1, x.block < W.heap.size := by obtain ⟨m, hm⟩ := k1; exact DataW.trod_lt m _ _ _ hm
  have k2 := h2
  have lt2 : ∀ x ∈ p2, x.block < W.heap.size := by obtain ⟨m, hm⟩ := k2; exact DataW.trod_lt m _ _ _ hm
  have k3 := h3
  have lt3 : ∀ x ∈ p3, x.block < W.heap.size := by obtain ⟨m, hm⟩ := k3; exact DataW.trod_lt m _ _ _ hm
  have k4 := h4
  have lt4 : ∀ x ∈ p4, x.block < W.heap.size := by obtain ⟨m, hm⟩ := k4; exact DataW.trod_lt m _ _ _ hm
  obtain ⟨l0, s0, _, b0⟩ : ∃ l : List Q4, IsSl fQ W (.slice a0 len0 cap0) l ∧ l.length ≤ maxLen ∧ ∀ z, z ∈ l → okQ z := by
    obtain ⟨fuel, hf⟩ := h0
    exact sl_of_trod und22 cells59 (by decide) elem59 hf
  obtain ⟨x1, y1, hxy1, wx1, wy1⟩ : ∃ a b, [e1, f1] = [I a, I b] ∧ in64 a ∧ in64 b := by
    obtain ⟨fuel, hf⟩ := h1
    exact arr23 hf
  obtain ⟨rfl, rfl⟩ : e1 = I x1 ∧ f1 = I y1 := by simpa using hxy1
  obtain ⟨z2, hz2⟩ : ∃ r : Rel, RelV W (.agg c2) r := by
    obtain ⟨fuel, hf⟩ := h2
    exact openRel hf
  obtain ⟨z3, hz3⟩ : ∃ p : Pack, PackV W (.agg c3) p := by
    obtain ⟨fuel, hf⟩ := h3
    exact openPack hf
  obtain ⟨z4, hz4⟩ : ∃ d : Disp, (.agg c4 : Value) = agD d := by
    obtain ⟨fuel, hf⟩ := h4
    exact openDisp hf
  obtain rfl : c4 = (fD.e z4).toArray := by injection hz4
  clear hA0 hval0
  have walk : Calls Tryz.prog 3 #[.slice a0 len0 cap0, .agg #[I x1, I y1], .agg c2, .agg c3, agD z4, .int .i64 a5] W fun e w' => e = .returned (.bool true) ∧ Below W.heap.size W w' :=
    (S3_calls _ _ _ _ _ _ _ W (s3 (k := fun v w' => v = .bool true ∧ Below W.heap.size W w') hgl s0 hz2 hz3 b0 wx1 wy1 (in64_of_wf wa5) fun w' hb => ⟨rfl, hb⟩)).mono fun e w' h => by
      cases e <;> first | exact h.elim | exact ⟨by rw [h.1], h.2⟩
  refine walk.mono fun e W' ⟨he, bel⟩ => ?_
  subst he
  exact ⟨_, rfl, _, _, _, [], _, [], hW', trodAll_mk1 (shut_bool Tryz.underlying4 _), (trodAll_cons_mk (Below.trod laidOut (by kernel_rfl) (of_decide_eq_true (by kernel_rfl)) k0 bel lt0) (trodAll_cons_mk (Below.trod laidOut (by kernel_rfl) (of_decide_eq_true (by kernel_rfl)) k1 bel lt1) (trodAll_cons_mk (Below.trod laidOut (by kernel_rfl) (of_decide_eq_true (by kernel_rfl)) k2 bel lt2) (trodAll_cons_mk (Below.trod laidOut (by kernel_rfl) (of_decide_eq_true (by kernel_rfl)) k3 bel lt3) (trodAll_cons_mk (Below.trod laidOut (by kernel_rfl) (of_decide_eq_true (by kernel_rfl)) k4 bel lt4) (trodAll_cons_mk (shut_int Tryz.underlying3 wa5) trodAll_mk0)))))), rfl, bel.frame _, fun h => by cases h⟩
theorem row_holds : Rows.RelayMatchesReferenceSaid :=
  OpenClaim.holds_of_cond 3 Tryz.f3 rfl rfl rfl rfl rfl rfl rfl ⟨rfl, rfl, rfl, rfl, rfl⟩ rfl rfl rfl rfl rfl (by kernel_rfl) Tryz.func3 (by kernel_rfl)
    (of_decide_eq_true (by kernel_rfl)) (by unfold Func.isWrapper; first | (rw [if_pos (by decide +kernel)]; kernel_rfl) | (rw [if_neg (by decide +kernel)]; exact ⟨rfl, rfl⟩))
    (fun os started H enc _ F0 => by rw [OpenClaim.pre_eq_preRow]; exact lifted os started H enc F0)
theorem wants (t : TypeId) (ht : t ∈ [22, 23, 27, 29, 31, 3]) : Tryz.prog.wantsStandIn t = false := by
  simp only [List.mem_cons, List.not_mem_nil, or_false] at ht
  rcases ht with rfl | rfl | rfl | rfl | rfl | rfl <;> kernel_rfl
theorem proved : Rows.RelayMatchesReferenceCardSaid :=
  Claim7.holds_tied_plain_at .later [] [.data] true (true, "51406d0c7899d6db3014da037ff4d91b9abc5020012ce40afda720a4616556c1") false
    row_holds (fun _ h => by cases h) (by kernel_rfl) (fun _ h => by cases h) relayMatchesReference_row_tie rfl ⟨rfl, rfl⟩ (by kernel_rfl) rfl
    (fun f fn hf hfn => by
      obtain rfl : f = 3 := Option.some.inj ((show Tryz.prog.funcNamed "newswire/newswirelaw25.RelayMatchesReference" = some 3 by kernel_rfl).symm.trans hf) |>.symm
      obtain rfl : fn = Tryz.f3 := (Option.some.inj (Tryz.func3.symm.trans hfn)).symm
      exact ⟨by kernel_rfl, fun j t ht => wants t (by
        rw [Tryz.params3] at ht
        exact List.mem_of_getElem? (by simpa using ht))⟩)
    (by kernel_rfl)
end Go.Proofs.YtklknkmeljjmgaaGreatDoor.relayMatchesReference
