/- Part 6 of the proof of flowMatchesReference: lemmas for it; no condition beyond the statement. -/
import Derived.Test.YtfkfkldhcignbaaGreatDoorFm4
import Derived.WalkKit
import Derived.ProofKit
import Derived.OpenShut
import Derived.ShutString
import Derived.ChangeMaps5
import Derived.ChangeOld
import Derived.Deep.Slices
import Derived.Deep.DeepHandedRow
import Derived.LaidMore
import Derived.LaidHandle
import Derived.Test.YtfkfkldhcignbaaGreatDoorTie
import Derived.Test.YtfkfkldhcignbaaGreatDoorCards
import Derived.SevenTiedAt
import Derived.Deep.DeepWitnessRowRef
import Derived.Shelf.Strings.Repeat
import Derived.Shelf.Strings.Trim
import Derived.Shelf.Small.Bits
/- Arguments opened; the package's tables. -/
set_option linter.unusedSimpArgs false
set_option linter.unusedVariables false
namespace Go.Proofs.YtfkfkldhcignbaaGreatDoor
open Go Go.V Go.RowKit Go.ChangeShapes Go.WideShapes Go.ChangeAt Go.Deep
theorem own : ownKnob Tryz.prog.godebug = none := by kernel_rfl
theorem laidOut : laidOutB Tryz.prog = true := by kernel_rfl
theorem in64_of_wf {n : Int} (h : (Lit.int .i64 n).wf = true) : in64 n := bounds_i64 h
section
variable {H : Type} {enc : TypeId × Value → H} {P : Program} {w : World} {base : Nat} {spare : Nat → Bool} {held : Bool}
theorem spot_of_cell {x : Addr} {v : Value} (h : w.cell? x = some v) : x.spot = none := by
  unfold World.cell? at h
  cases hs : x.spot with
  | none => rfl
  | some s =>
    exfalso
    split at h
    · rw [hs] at h; simp at h
    · cases h
/-- a slice of flat elements that came in; Q i z: what is known of the i-th -/
theorem sl_of_trodI {α : Type} {F : Fl α} {Q : Nat → α → Prop} {t e : TypeId} {fuel : Nat} {v : Value} {x : DataW H × List MemPlace} (ht : P.underlying t = some (.slice e)) (hc : P.cellsOf e = F.sz) (hp : 0 < F.sz)
    (helem : ∀ i cs m (y : DataW H × List MemPlace), DataW.trod enc P w base spare held m e cs = some y → (∀ ds p, x = (.slice ds [], p) → ds[i]? = some y.1) → ∃ z, cs = F.e z ∧ Q i z) (h : DataW.trod enc P w base spare held fuel t [v] = some x) (hnn : held = held) :
    ∃ l : List α, IsSl F w v l ∧ l.length ≤ maxLen ∧ (∀ i z, l[i]? = some z → Q i z) ∧ ∀ ds p, x = (.slice ds [], p) → l.length = ds.length := by
  rcases open_slice ht h with ⟨hcs, hx0⟩ | ⟨a, len, cap, m, n, D, Pl, hcs, _, hl, hm, hmm, hxx, hel⟩
  · simp at hcs; subst hcs
    exact ⟨[], .nil _, by simp, by simp, fun ds p hh => by rw [hx0] at hh; cases hh⟩
  · simp at hcs; subst hcs
    have hlm : len ≤ m := by rw [hmm]; split <;> omega
    have each : ∀ i, i < len → ∃ z, Q i z ∧ ∀ j u, (F.e z)[j]? = some u → w.cell? ((a.add (i * F.sz)).add j) = some u := fun i hi => by
      obtain ⟨cs, h1, h2⟩ := hel i (by omega)
      obtain ⟨z, rfl, hq⟩ := helem i cs n _ h2 fun ds p hh => by
        rw [hxx] at hh
        simp only [Prod.mk.injEq, DataW.slice.injEq] at hh
        rw [← hh.1.1, List.getElem?_map, List.getElem?_range hi]; rfl
      rw [hc] at h1
      obtain ⟨_, hlen, hcell⟩ := World.cells?_some h1
      exact ⟨z, hq, fun j u hu => by rw [hcell j (by have := (List.getElem?_eq_some_iff.1 hu).1; rw [F.len] at this; exact this)]; exact hu⟩
    have mk : ∀ k, k ≤ len → ∃ l : List α, l.length = k ∧ (∀ i z, l[i]? = some z → Q i z) ∧ ∀ i z, l[i]? = some z → ∀ j u, (F.e z)[j]? = some u → w.cell? ((a.add (i * F.sz)).add j) = some u := by
      intro k
      induction k with
      | zero => intro _; exact ⟨[], rfl, by simp, by simp⟩
      | succ k ih =>
        intro hk
        obtain ⟨l, h1, h2, h3⟩ := ih (by omega)
        obtain ⟨z, hz, hzc⟩ := each k (by omega)
        refine ⟨l ++ [z], by simp [h1], fun i y hy => ?_, fun i y hy => ?_⟩
        · rcases Nat.lt_or_ge i l.length with h | h
          · rw [List.getElem?_append_left h] at hy; exact h2 i y hy
          · rw [List.getElem?_append_right h] at hy
            have := (List.getElem?_eq_some_iff.1 hy).1
            simp at this
            have h0 : i - l.length = 0 := by omega
            rw [h0] at hy; simp at hy; subst hy
            obtain rfl : i = k := by omega
            exact hz
        · rcases Nat.lt_or_ge i l.length with h | h
          · rw [List.getElem?_append_left h] at hy; exact h3 i y hy
          · rw [List.getElem?_append_right h] at hy
            have := (List.getElem?_eq_some_iff.1 hy).1
            simp at this
            have h0 : i - l.length = 0 := by omega
            rw [h0] at hy; simp at hy; subst hy
            obtain rfl : i = k := by omega
            exact hzc
    obtain ⟨l, h1, h2, h3⟩ := mk len (Nat.le_refl _)
    refine ⟨l, ⟨some a, cap, by rw [h1], by omega, fun i z hz => ?_⟩, by omega, h2, fun ds p hh => ?_⟩
    · obtain ⟨z0, hz0⟩ : ∃ z0, l[0]? = some z0 := ⟨l[0]'(by have := (List.getElem?_eq_some_iff.1 hz).1; omega), by simp⟩
      obtain ⟨u, hu⟩ : ∃ u, (F.e z0)[0]? = some u := ⟨(F.e z0)[0]'(by rw [F.len]; exact hp), by simp⟩
      have hsp := spot_of_cell (h3 0 z0 hz0 0 u hu)
      obtain ⟨b, o, sp⟩ := a
      have hsn : sp = none := by
        revert hsp
        simp [Addr.add]
      subst hsn
      refine ⟨b, o, rfl, fun j v hv => ?_⟩
      have := h3 i z hz j v hv
      rwa [add_none, add_none] at this
    · rw [hxx] at hh
      simp only [Prod.mk.injEq, DataW.slice.injEq] at hh
      rw [h1, ← hh.1.1]; simp
theorem sl_of_trod {α : Type} {F : Fl α} {Q : α → Prop} {t e : TypeId} {fuel : Nat} {v : Value} {x : DataW H × List MemPlace} (ht : P.underlying t = some (.slice e)) (hc : P.cellsOf e = F.sz) (hp : 0 < F.sz)
    (helem : ∀ cs m (y : DataW H × List MemPlace), DataW.trod enc P w base spare held m e cs = some y → ∃ z, cs = F.e z ∧ Q z) (h : DataW.trod enc P w base spare held fuel t [v] = some x) :
    ∃ l : List α, IsSl F w v l ∧ l.length ≤ maxLen ∧ ∀ z, z ∈ l → Q z := by
  obtain ⟨l, h1, h2, h3, _⟩ := sl_of_trodI (Q := fun _ z => Q z) ht hc hp (fun _ cs m y hy _ => helem cs m y hy) h rfl
  exact ⟨l, h1, h2, fun z hz => by obtain ⟨i, hi, rfl⟩ := List.getElem_of_mem hz; exact h3 i _ (List.getElem?_eq_getElem hi)⟩
theorem cells3' : Tryz.prog.cellsOf 3 = 1 := by kernel_rfl
theorem cell_of_trod {cs : List Value} {m : Nat} {y : DataW H × List MemPlace} {i : Nat} (hi : i < cs.length) (h : DataW.trod enc Tryz.prog w base spare held m 3 ((cs.drop (i * 1)).take 1) = some y) : ∃ n, cs[i]? = some (I n) ∧ in64 n := by
  obtain ⟨n, hn, _, hw⟩ := DataW.trod_int Tryz.underlying3 h
  refine ⟨n, ?_, in64_of_wf hw⟩
  have := congrArg (fun l : List Value => l[0]?) hn
  simp only [List.getElem?_take, List.getElem?_drop] at this
  simpa using this
/-- an array of integers that came in -/
theorem arr_of_trod {n t : Nat} {cs : List Value} {m : Nat} {y : DataW H × List MemPlace} (hu : Tryz.prog.underlying t = some (.array n 3)) (hc : Tryz.prog.cellsOf t = n) (h : DataW.trod enc Tryz.prog w base spare held m t cs = some y) : ∃ z : IntV n, cs = (fV n).e z ∧ ∀ y ∈ z.1, in64 y := by
  obtain ⟨xs, m', _, _, hl, hxl, he⟩ := DataW.trod_array hu h
  rw [hc] at hl
  have get : ∀ i, i < n → ∃ x, cs[i]? = some (I x) ∧ in64 x := fun i hi => by
    have h1 := he i hi
    rw [cells3', List.getElem?_eq_getElem (show i < xs.length by omega)] at h1
    exact cell_of_trod (by omega) h1
  have mk : ∀ k, k ≤ n → ∃ l : List Int, l.length = k ∧ cs.take k = l.map I ∧ ∀ y ∈ l, in64 y := by
    intro k
    induction k with
    | zero => intro _; exact ⟨[], rfl, by simp, by simp⟩
    | succ k ih =>
      intro hk
      obtain ⟨l, h1, h2, h3⟩ := ih (by omega)
      obtain ⟨x, hx, hw⟩ := get k (by omega)
      refine ⟨l ++ [x], by simp [h1], ?_, fun y hy => ?_⟩
      · rw [List.take_add_one, hx, h2]; simp
      · rcases List.mem_append.1 hy with h | h
        · exact h3 y h
        · simp at h; subst h; exact hw
  obtain ⟨l, h1, h2, h3⟩ := mk n (Nat.le_refl _)
  rw [List.take_of_length_le (by omega)] at h2
  exact ⟨⟨l, h1⟩, h2, h3⟩
def structAt (P : Program) (t : TypeId) : Option (List (Nat × Nat)) := match P.underlying t with
  | some (.struct fs) => some (mapL (fun f => (f.type, f.offset)) fs.toList)
  | _ => none
theorem structAt_spec {t : TypeId} {l : List (Nat × Nat)} (h : structAt P t = some l) : ∃ fs : Array Field, P.underlying t = some (.struct fs) ∧ fs.toList.map (fun f => (f.type, f.offset)) = l := by
  unfold structAt at h
  split at h
  · rename_i fs hfs
    cases h
    exact ⟨fs, hfs, (mapL_eq _ _).symm⟩
  · cases h
/-- the fields of a struct that came in, with their data -/
theorem trod_at {fuel : Nat} {t : TypeId} {cs : List Value} {l : List (Nat × Nat)} {x : DataW H × List MemPlace} (hl : structAt P t = some l) (h : DataW.trod enc P w base spare held fuel t cs = some x) :
    cs.length = P.cellsOf t ∧ ∃ (m : Nat) (ys : List (DataW H × List MemPlace)), x.1 = .agg (ys.map Prod.fst) ∧ ∀ (i : Nat) f, l[i]? = some f → ∃ y, ys[i]? = some y ∧ DataW.trod enc P w base spare held m f.1 ((cs.drop f.2).take (P.cellsOf f.1)) = some y := by
  obtain ⟨fs, hfs, hm⟩ := structAt_spec hl
  obtain ⟨xs, n, _, rfl, hcl, hxl, hf⟩ := DataW.trod_struct hfs h
  refine ⟨hcl, n, xs, rfl, fun i f hif => ?_⟩
  rw [← hm, List.getElem?_map] at hif
  cases hg : fs.toList[i]? with
  | none => rw [hg] at hif; cases hif
  | some g =>
    rw [hg] at hif
    simp only [Option.map_some, Option.some.injEq] at hif
    subst hif
    have hg' : fs[i]? = some g := by simpa using hg
    have := hf i g hg'
    have hlt : i < xs.length := by
      have := (Array.getElem?_eq_some_iff.1 hg').1
      omega
    rw [List.getElem?_eq_getElem hlt] at this
    exact ⟨_, List.getElem?_eq_getElem hlt, this⟩
theorem take_one {cs : List Value} {off : Nat} (h : off < cs.length) : (cs.drop off).take 1 = [cs[off]] := by
  rw [List.drop_eq_getElem_cons h]; rfl
end
end Go.Proofs.YtfkfkldhcignbaaGreatDoor
/- The witness of the rows that list the variables; the tables opened. -/
set_option linter.unusedSimpArgs false
set_option linter.unusedVariables false
namespace Go.Proofs.YtfkfkldhcignbaaGreatDoor
open Go Go.V Go.ChangeShapes Go.WideShapes Go.ChangeAt Go.RowKit Go.Deep
def laidL : List (String × DataW Unit) := [("unicode/utf8.acceptRanges", Rows.laid_unicode_utf8_acceptRanges), ("newswire/label.reasons", Rows.laid_newswire_label_reasons), ("newswire/flow.modes", Rows.laid_newswire_flow_modes), ("unicode/utf8.first", Rows.laid_unicode_utf8_first)]
theorem gReasons : Tryz.prog.globalNamed "newswire/label.reasons" = some 1 := by kernel_rfl
theorem tReasons : (Tryz.prog.globals[1]?).map (·.type) = some 158 := by kernel_rfl
theorem gModes : Tryz.prog.globalNamed "newswire/flow.modes" = some 0 := by kernel_rfl
theorem tModes : (Tryz.prog.globals[0]?).map (·.type) = some 112 := by kernel_rfl
theorem und158 : Tryz.prog.underlying 158 = some (.slice 161) := by kernel_rfl
theorem cells161 : Tryz.prog.cellsOf 161 = 2 := by kernel_rfl
theorem cells111 : Tryz.prog.cellsOf 111 = 3 := by kernel_rfl
theorem cells112 : Tryz.prog.cellsOf 112 = 9 := by kernel_rfl
theorem sa161 : structAt Tryz.prog 161 = some [(3, 0), (159, 1)] := by kernel_rfl
theorem sa111 : structAt Tryz.prog 111 = some [(107, 0), (108, 1), (109, 2)] := by kernel_rfl
theorem und112 : Tryz.prog.underlying 112 = some (.array 3 111) := by kernel_rfl
theorem c159 : Tryz.prog.cellsOf 159 = 1 := by kernel_rfl
theorem c107' : Tryz.prog.cellsOf 107 = 1 := by kernel_rfl
theorem c108' : Tryz.prog.cellsOf 108 = 1 := by kernel_rfl
theorem c109' : Tryz.prog.cellsOf 109 = 1 := by kernel_rfl
noncomputable def isFuncT (t : Nat) : Bool := match Tryz.prog.underlying t with | some (.func _ _ _) => true | _ => false
theorem isFuncT_spec {t : Nat} (h : isFuncT t = true) : ∃ ps rs va, Tryz.prog.underlying t = some (.func ps rs va) := by
  unfold isFuncT at h
  split at h
  · rename_i ps rs va hh; exact ⟨ps, rs, va, hh⟩
  · cases h
section
variable {W : World} {m : Nat} {cs : List Value}
theorem fn_cell {t o f0 : Nat} {b : UInt8} {r : List UInt8} {y : DataW (List UInt8) × List MemPlace} (hf : isFuncT t = true) (hc : Tryz.prog.cellsOf t = 1) (ho : o < cs.length)
    (hone : ((List.range Tryz.prog.funcs.size).filter fun f => (Tryz.prog.funcs[f]?).any (·.name.toUTF8.data.toList == b :: r)) = [f0]) (hy : y.1 = .held (b :: r))
    (h : DataW.trod (funcToken Tryz.prog) Tryz.prog W 0 (fun _ => true) true m t ((cs.drop o).take (Tryz.prog.cellsOf t)) = some y) : cs[o]? = some (fv f0) := by
  obtain ⟨ps, rs, va, hu⟩ := isFuncT_spec hf
  rw [hc, take_one ho] at h
  obtain ⟨y1, y2⟩ := y
  subst hy
  have := func_of_trod hu hone h
  rw [List.getElem?_eq_getElem ho, this]
set_option maxRecDepth 100000 in
theorem reason_elem {n f0 : Nat} {b : UInt8} {r : List UInt8} {y : DataW (List UInt8) × List MemPlace}
    (hone : ((List.range Tryz.prog.funcs.size).filter fun f => (Tryz.prog.funcs[f]?).any (·.name.toUTF8.data.toList == b :: r)) = [f0]) (hy : y.1 = .agg [.lit (.int .i64 n), .held (b :: r)])
    (h : DataW.trod (funcToken Tryz.prog) Tryz.prog W 0 (fun _ => true) true m 161 cs = some y) : cs = fRs.e ((n : Int), f0) := by
  obtain ⟨hl, m', ys, hys, hf⟩ := trod_at sa161 h
  rw [cells161] at hl
  rw [hy] at hys
  obtain ⟨y0, h0, t0⟩ := hf 0 _ rfl
  obtain ⟨y1, h1, t1⟩ := hf 1 _ rfl
  have hys' : ys.map Prod.fst = [.lit (.int .i64 n), .held (b :: r)] := by injection hys with hh; exact hh.symm
  have e0 : y0.1 = .lit (.int .i64 n) := by
    have := congrArg (fun l => l[0]?) hys'
    simp only [List.getElem?_map, h0] at this
    simpa using this
  have e1 : y1.1 = .held (b :: r) := by
    have := congrArg (fun l => l[1]?) hys'
    simp only [List.getElem?_map, h1] at this
    simpa using this
  have g1 := fn_cell (by kernel_rfl) c159 (by omega) hone e1 t1
  rw [cells3', take_one (show 0 < cs.length by omega)] at t0
  obtain ⟨k, hk, hk2, _⟩ := DataW.trod_int Tryz.underlying3 t0
  have hk3 : (k : Int) = n := by
    rw [hk2] at e0
    simp at e0
    exact e0
  simp only [List.cons.injEq, and_true] at hk
  match cs, hl with
  | [a, c], _ =>
    simp at g1 hk
    rw [hk, g1, hk3]; rfl
set_option maxRecDepth 100000 in
theorem mode_elem {f1 f2 f3 : Nat} {b1 b2 b3 : UInt8} {r1 r2 r3 : List UInt8} {y : DataW (List UInt8) × List MemPlace}
    (h1 : ((List.range Tryz.prog.funcs.size).filter fun f => (Tryz.prog.funcs[f]?).any (·.name.toUTF8.data.toList == b1 :: r1)) = [f1])
    (h2 : ((List.range Tryz.prog.funcs.size).filter fun f => (Tryz.prog.funcs[f]?).any (·.name.toUTF8.data.toList == b2 :: r2)) = [f2])
    (h3 : ((List.range Tryz.prog.funcs.size).filter fun f => (Tryz.prog.funcs[f]?).any (·.name.toUTF8.data.toList == b3 :: r3)) = [f3])
    (hy : y.1 = .agg [.held (b1 :: r1), .held (b2 :: r2), .held (b3 :: r3)])
    (h : DataW.trod (funcToken Tryz.prog) Tryz.prog W 0 (fun _ => true) true m 111 cs = some y) : cs = [fv f1, fv f2, fv f3] := by
  obtain ⟨hl, m', ys, hys, hf⟩ := trod_at sa111 h
  rw [cells111] at hl
  rw [hy] at hys
  obtain ⟨y0, g0, t0⟩ := hf 0 _ rfl
  obtain ⟨y1, g1, t1⟩ := hf 1 _ rfl
  obtain ⟨y2, g2, t2⟩ := hf 2 _ rfl
  have hys' : ys.map Prod.fst = [.held (b1 :: r1), .held (b2 :: r2), .held (b3 :: r3)] := by injection hys with hh; exact hh.symm
  have e0 : y0.1 = .held (b1 :: r1) := by
    have := congrArg (fun l => l[0]?) hys'
    simp only [List.getElem?_map, g0] at this
    simpa using this
  have e1 : y1.1 = .held (b2 :: r2) := by
    have := congrArg (fun l => l[1]?) hys'
    simp only [List.getElem?_map, g1] at this
    simpa using this
  have e2 : y2.1 = .held (b3 :: r3) := by
    have := congrArg (fun l => l[2]?) hys'
    simp only [List.getElem?_map, g2] at this
    simpa using this
  have k0 := fn_cell (by kernel_rfl) c107' (by omega) h1 e0 t0
  have k1 := fn_cell (by kernel_rfl) c108' (by omega) h2 e1 t1
  have k2 := fn_cell (by kernel_rfl) c109' (by omega) h3 e2 t2
  match cs, hl with
  | [a, c, d], _ =>
    simp at k0 k1 k2
    rw [k0, k1, k2]
set_option maxRecDepth 100000 in
theorem rs_of_laid (h : laidMetH Tryz.prog laidL W) : ∃ v, W.cell? ⟨1, 0, none⟩ = some v ∧ IsSl fRs W v rsT := by
  obtain ⟨g, t, cs, fuel, p, hg, ht, hv, hd⟩ := h.funcs (n := "newswire/label.reasons") (List.mem_cons_of_mem _ List.mem_cons_self)
  obtain rfl := Option.some.inj (gReasons.symm.trans hg)
  obtain rfl := Option.some.inj (tReasons.symm.trans ht)
  have hc1 : cs.toList.length = 1 := by
    rcases open_slice und158 hd with ⟨h, _⟩ | ⟨a, len, cap, m, n, D, Pl, h, _⟩ <;> rw [h] <;> rfl
  obtain ⟨v, hv1⟩ : ∃ v, cs.toList = [v] := by
    match cs.toList, hc1 with
    | [v], _ => exact ⟨v, rfl⟩
  rw [hv1] at hd
  have hcell := World.var?_cell hg hv 0
  rw [Array.eq_one_of_toList hv1] at hcell
  refine Exists.elim (sl_of_trodI (F := fRs) (Q := fun i z => rsT[i]? = some z) und158 cells161 (by decide) (fun i cs m y hy hx => ?_) hd rfl) ?_
  rotate_left
  · rintro l ⟨hl1, _, hl2, hl3⟩
    refine ⟨v, by simpa using hcell, ?_⟩
    have hlen := hl3 _ _ rfl
    have : l = rsT := by
      apply List.ext_getElem?
      intro i
      by_cases hi : i < l.length
      · rw [List.getElem?_eq_getElem hi]
        exact (hl2 i _ (List.getElem?_eq_getElem hi)).symm
      · rw [List.getElem?_eq_none (by omega), List.getElem?_eq_none (by rw [hlen] at hi; simpa [rsT, DataW.funcsOut, DataW.funcsOutAll] using hi)]
    rw [← this]; exact hl1
  · have hx2 := hx _ _ rfl
    match i, hx2 with
    | 0, hx2 => exact ⟨(2, 183), reason_elem (n := 2) (by kernel_rfl) (Option.some.inj hx2).symm hy, rfl⟩
    | 1, hx2 => exact ⟨(3, 184), reason_elem (n := 3) (by kernel_rfl) (Option.some.inj hx2).symm hy, rfl⟩
    | 2, hx2 => exact ⟨(4, 185), reason_elem (n := 4) (by kernel_rfl) (Option.some.inj hx2).symm hy, rfl⟩
    | 3, hx2 => exact ⟨(5, 186), reason_elem (n := 5) (by kernel_rfl) (Option.some.inj hx2).symm hy, rfl⟩
    | 4, hx2 => exact ⟨(6, 189), reason_elem (n := 6) (by kernel_rfl) (Option.some.inj hx2).symm hy, rfl⟩
    | 5, hx2 => exact ⟨(7, 193), reason_elem (n := 7) (by kernel_rfl) (Option.some.inj hx2).symm hy, rfl⟩
    | n + 6, hx2 => cases hx2
set_option maxRecDepth 100000 in
theorem md_of_laid (h : laidMetH Tryz.prog laidL W) : ∃ a b c, Cells W 0 0 [a, b, c, fv 163, fv 164, fv 165, fv 109, fv 161, fv 168] := by
  obtain ⟨g, t, cs, fuel, p, hg, ht, hv, hd⟩ := h.funcs (n := "newswire/flow.modes") (List.mem_cons_of_mem _ (List.mem_cons_of_mem _ List.mem_cons_self))
  obtain rfl := Option.some.inj (gModes.symm.trans hg)
  obtain rfl := Option.some.inj (tModes.symm.trans ht)
  have hd2 : DataW.trod (funcToken Tryz.prog) Tryz.prog W 0 (fun _ => true) true fuel 112 cs.toList = some (.agg [.agg [.nil, .nil, .nil], .agg [.held [110, 101, 119, 115, 119, 105, 114, 101, 47, 102, 108, 111, 119, 46, 109, 111, 100, 101, 115, 36, 49], .held [40, 42, 110, 101, 119, 115, 119, 105, 114, 101, 47, 102, 108, 111, 119, 46, 112, 101, 110, 100, 105, 110, 103, 41, 46, 115, 108, 111, 116, 116, 101, 100], .held [110, 101, 119, 115, 119, 105, 114, 101, 47, 102, 108, 111, 119, 46, 109, 111, 100, 101, 115, 36, 50]], .agg [.held [40, 110, 101, 119, 115, 119, 105, 114, 101, 47, 102, 108, 111, 119, 46, 115, 108, 111, 116, 41, 46, 114, 101, 97, 100, 121], .held [40, 42, 110, 101, 119, 115, 119, 105, 114, 101, 47, 102, 108, 111, 119, 46, 112, 101, 110, 100, 105, 110, 103, 41, 46, 108, 105, 115, 116, 101, 100], .held [110, 101, 119, 115, 119, 105, 114, 101, 47, 102, 108, 111, 119, 46, 109, 111, 100, 101, 115, 36, 51]]], p) := hd
  obtain ⟨xs, m, _, hx, hcl, hxl, he⟩ := DataW.trod_array und112 hd2
  rw [cells112] at hcl
  have hx1 := (DataW.agg.inj (Prod.mk.inj hx).1).symm
  have dat : ∀ i (hi : i < xs.length), some xs[i].1 = (xs.map Prod.fst)[i]? := fun i hi => by rw [List.getElem?_map, List.getElem?_eq_getElem hi]; rfl
  have e1 := he 1 (by decide)
  have e2 := he 2 (by decide)
  rw [cells111, List.getElem?_eq_getElem (by omega)] at e1 e2
  have d1 := dat 1 (by omega)
  have d2 := dat 2 (by omega)
  rw [hx1] at d1 d2
  have m1 := mode_elem (f1 := 163) (f2 := 164) (f3 := 165) (by kernel_rfl) (by kernel_rfl) (by kernel_rfl) (Option.some.inj d1) e1
  have m2 := mode_elem (f1 := 109) (f2 := 161) (f3 := 168) (by kernel_rfl) (by kernel_rfl) (by kernel_rfl) (Option.some.inj d2) e2
  obtain ⟨a, b, c, hc⟩ : ∃ a b c, cs.toList.take 3 = [a, b, c] := by
    match hh : cs.toList, hcl with
    | a :: b :: c :: r, _ => exact ⟨a, b, c, rfl⟩
  have hall : cs.toList = [a, b, c, fv 163, fv 164, fv 165, fv 109, fv 161, fv 168] := by
    rw [← List.take_append_drop 3 cs.toList, hc, ← List.take_append_drop 3 (cs.toList.drop 3), m1, List.drop_drop, ← List.take_append_drop 3 (cs.toList.drop (3 + 3)), m2, List.drop_drop, List.drop_of_length_le (by omega)]
    rfl
  refine ⟨a, b, c, fun j u hu => ?_⟩
  have := World.var?_cell hg hv j
  rw [Nat.zero_add]
  have hj : cs[j]? = some u := by rw [← hu, ← hall]; simp
  rw [hj] at this
  exact this
theorem gl_of_laid {l : List (String × DataW Unit)} (hl : l = laidL) (h : laidMetH Tryz.prog l W) : Gl W := by
  subst hl
  exact ⟨rs_of_laid h, md_of_laid h⟩
end
/-- the heap that the door's run leaves, utf8's table laid besides -/
noncomputable def laidWorld (os : Os) : World :=
  { World.doorLaid Tryz.prog 600 os with heap := (World.doorLaid Tryz.prog 600 os).heap.modify 2 fun
      | .cells _ t frozen => .cells (Go.Pinned.utf8FirstZ.map fun (z : Nat) => Value.int .u8 (z : Int)).toArray t frozen
      | o => o }
end Go.Proofs.YtfkfkldhcignbaaGreatDoor
/- Arguments of the feeds' laws, opened. -/
set_option linter.unusedSimpArgs false
set_option linter.unusedVariables false
namespace Go.Proofs.YtfkfkldhcignbaaGreatDoor
open Go Go.V Go.RowKit Go.ChangeShapes Go.WideShapes Go.ChangeAt Go.Deep
section
variable {H : Type} {enc : TypeId × Value → H} {w : World} {base : Nat} {spare : Nat → Bool} {held : Bool}
theorem und22 : Tryz.prog.underlying 22 = some (.slice 84) := by kernel_rfl
theorem und23 : Tryz.prog.underlying 23 = some (.slice 82) := by kernel_rfl
theorem und84 : Tryz.prog.underlying 84 = some (.array 9 3) := by kernel_rfl
theorem und82 : Tryz.prog.underlying 82 = some (.array 5 3) := by kernel_rfl
theorem cells84 : Tryz.prog.cellsOf 84 = 9 := by kernel_rfl
theorem cells82 : Tryz.prog.cellsOf 82 = 5 := by kernel_rfl
theorem sa30 : structAt Tryz.prog 30 = some [(3, 0), (3, 1)] := by kernel_rfl
theorem cells30 : Tryz.prog.cellsOf 30 = 2 := by kernel_rfl
theorem openN {fuel : Nat} {v : Value} {x : DataW H × List MemPlace} (h : DataW.trod enc Tryz.prog w base spare held fuel 22 [v] = some x) : ∃ l : List (IntV 9), IsSl (fV 9) w v l ∧ l.length ≤ maxLen ∧ okV l := by
  obtain ⟨l, h1, h2, h3⟩ := sl_of_trod (F := fV 9) (Q := fun z => ∀ y ∈ z.1, in64 y) und22 cells84 (by decide) (fun cs m y h => arr_of_trod und84 cells84 h) h
  exact ⟨l, h1, h2, fun x hx => h3 x hx⟩
theorem openF {fuel : Nat} {v : Value} {x : DataW H × List MemPlace} (h : DataW.trod enc Tryz.prog w base spare held fuel 23 [v] = some x) : ∃ l : List (IntV 5), IsSl (fV 5) w v l ∧ l.length ≤ maxLen ∧ okV l := by
  obtain ⟨l, h1, h2, h3⟩ := sl_of_trod (F := fV 5) (Q := fun z => ∀ y ∈ z.1, in64 y) und23 cells82 (by decide) (fun cs m y h => arr_of_trod und82 cells82 h) h
  exact ⟨l, h1, h2, fun x hx => h3 x hx⟩
set_option maxRecDepth 100000 in
theorem openR {m : Nat} {cs : Array Value} {y : DataW H × List MemPlace} (h : DataW.trod enc Tryz.prog w base spare held m 30 cs.toList = some y) : ∃ a b, cs = #[I a, I b] ∧ in64 a ∧ in64 b := by
  obtain ⟨hl, m', ys, _, hf⟩ := trod_at sa30 h
  rw [cells30] at hl
  obtain ⟨y0, _, t0⟩ := hf 0 _ rfl
  obtain ⟨y1, _, t1⟩ := hf 1 _ rfl
  obtain ⟨cs⟩ := cs
  rw [cells3'] at t0 t1
  have hl' : cs.length = 2 := hl
  obtain ⟨a, ha, wa⟩ := cell_of_trod (cs := cs) (i := 0) (by omega) t0
  obtain ⟨b, hb, wb⟩ := cell_of_trod (cs := cs) (i := 1) (by omega) t1
  match cs, hl' with
  | [x, y], _ =>
    simp at ha hb
    exact ⟨a, b, by rw [ha, hb], wa, wb⟩
end
end Go.Proofs.YtfkfkldhcignbaaGreatDoor
/- Arguments of the feeds' laws, opened: pairs. -/
set_option linter.unusedSimpArgs false
set_option linter.unusedVariables false
namespace Go.Proofs.YtfkfkldhcignbaaGreatDoor
open Go Go.V Go.RowKit Go.ChangeShapes Go.WideShapes Go.ChangeAt Go.Deep
section
variable {H : Type} {enc : TypeId × Value → H} {w : World} {base : Nat} {spare : Nat → Bool} {held : Bool}
theorem und25 : Tryz.prog.underlying 25 = some (.slice 3) := by kernel_rfl
theorem cells25 : Tryz.prog.cellsOf 25 = 1 := by kernel_rfl
theorem openW {fuel : Nat} {v : Value} {x : DataW H × List MemPlace} (h : DataW.trod enc Tryz.prog w base spare held fuel 25 [v] = some x) : ∃ l : List Int, IsSl fI w v l ∧ l.length ≤ maxLen ∧ ∀ x ∈ l, in64 x :=
  sl_of_trod (F := fI) (Q := fun z => in64 z) und25 cells3' (by decide) (fun cs m y h => by
    obtain ⟨n, hn, _, hw⟩ := DataW.trod_int Tryz.underlying3 h
    exact ⟨n, hn, in64_of_wf hw⟩) h
end
end Go.Proofs.YtfkfkldhcignbaaGreatDoor
/- Inputs that integers determine: Moments. -/
set_option linter.unusedSimpArgs false
set_option linter.unusedVariables false
set_option maxRecDepth 4000
namespace Go.Proofs.YtfkfkldhcignbaaGreatDoor
open Go Go.V Go.RowKit
/-- the state of Moments: the moment's row b, and what was gathered -/
structure MoS (b : Nat) (w : World) (m : Mom) (e c q ov : Value) (rs : List (RawV 5)) (ms : List Mom) : Prop where
  row : RowAt w b 28 [I m.now, I m.drift, e, c, q]
  ev : Mine fI 3 w (b + 1) e m.ev
  cf : Mine fC 121 w (b + 1) c m.conf
  ky : Mine fI 3 w (b + 1) q m.keys
  out : Mine (fR 5) 28 w (b + 1) ov rs
  len : rs.length = ms.length
  ms : ∀ (i : Nat) r m, rs[i]? = some r → ms[i]? = some m → MomM (b + 1) w r m
theorem MoS.below {b : Nat} {w w' : World} {m : Mom} {e c q ov : Value} {rs : List (RawV 5)} {ms : List Mom} (h : MoS b w m e c q ov rs ms) (hb : Below w.heap.size w w') : MoS b w' m e c q ov rs ms :=
  ⟨h.row.below hb, h.ev.below hb, h.cf.below hb, h.ky.below hb, h.out.below hb, h.len, fun i r m h1 h2 => (h.ms i r m h1 h2).below hb⟩
theorem MoS.store {b : Nat} {w : World} {m m' : Mom} {e c q ov e' c' q' : Value} {rs : List (RawV 5)} {ms : List Mom} (h : MoS b w m e c q ov rs ms) (j : Nat) (u : Value) (hr : [I m.now, I m.drift, e, c, q].set j u = [I m'.now, I m'.drift, e', c', q'])
    (he : Mine fI 3 w (b + 1) e' m'.ev) (hc : Mine fC 121 w (b + 1) c' m'.conf) (hq : Mine fI 3 w (b + 1) q' m'.keys) : MoS b (w.setCell ⟨b, j, none⟩ u) m' e' c' q' ov rs ms := by
  have ho : Off (fun x => x = b) w (w.setCell ⟨b, j, none⟩ u) := Off.set rfl
  have a3 : Apart w (fun x => x = b) 3 := apRow h.row (by decide)
  have a4 : Apart w (fun x => x = b) 121 := apRow h.row (by decide)
  exact ⟨by rw [← hr]; exact h.row.set j u, he.apart ho a3, hc.apart ho a4, hq.apart ho a3, h.out.off ho (fun x hx hh => by have := (h.out.ge hx).1; omega), h.len, fun i r m h1 h2 => (h.ms i r m h1 h2).apart ho a3 a4⟩
section
variable {k : Value → World → Prop} {K : Value → Prop} {w w0 : World} {n : Nat} {l : List (IntV 5)} {v : Value} {i j : Nat} {x : IntV 5} {y : Int} {m : Int}
theorem get23 (hs : IsSl (fV 5) w v l) (hx : l[i]? = some x) (hj : j < 5) (hy : x.1[j]? = some y) (hm : m = j) : opW Tryz.prog (Instr.indexAt 23 v (I i)) (fun p w => opW Tryz.prog (Instr.indexAt 82 p (I m)) (fun p w => opW Tryz.prog (Instr.loadAt 3 p) k w) w) w = k (I y) w :=
  w_getArr (F := fV 5) (e := 3) (n := 5) hm (by kernel_rfl) (by kernel_rfl) (by kernel_rfl) (by kernel_rfl) (by kernel_rfl) (by kernel_rfl) (by kernel_rfl) (by kernel_rfl) hs hx hj (by simp [fV, hy])
theorem tget23 (hs : IsSl (fV 5) w v l) (hx : l[i]? = some x) (hj : j < 5) (hy : x.1[j]? = some y) (hm : m = j) : takeW Tryz.prog anyW (Instr.indexAt 23 v (I i)) (fun p => takeW Tryz.prog anyW (Instr.indexAt 82 p (I m)) (fun p => takeW Tryz.prog (sameW w) (Instr.loadAt 3 p) K w) w) w = K (I y) := by
  subst hm
  obtain ⟨b, o, c, rfl, hlt, hcl⟩ := hs.at (i := (i : Int)) (by omega) (by simpa using hx)
  rw [takeW_pure (fun w => run_index (by kernel_rfl) (by kernel_rfl) (by omega) hlt w), show sizeT Tryz.prog (elemT Tryz.prog 23) = 5 by kernel_rfl, takeW_pure (run_indexArr (e := 3) (n := 5) (by kernel_rfl) (by kernel_rfl) (by omega) (by omega)), show sizeT Tryz.prog 3 = 1 by kernel_rfl, Nat.mul_one]
  simp only [Int.toNat_natCast] at hcl ⊢
  exact x_load (by kernel_rfl) (by kernel_rfl) (hcl j (I y) (by simp [fV, hy]))
end
section
variable {k : Value → World → Prop} {w : World}
set_option maxHeartbeats 1000000 in
theorem c11 {l : List (IntV 5)} {v : Value} (hs : IsSl (fV 5) w v l) (hl : l.length ≤ maxLen) (hi : okV l) (hk : ∀ v ms w', Below w.heap.size w w' → MomsV w' v ms → (∀ m ∈ ms, ValidMom m ∧ okMom m) → ms.length ≤ 14 → k v w') : callW Tryz.prog (.func (.func 11) #[] #[]) #[v] k w := C11 _ _ _ (by
  unfold S11
  have hml : 1000000 ≤ maxLen := by decide
  have hml2 : maxLen ≤ 9223372036854775807 := by decide
  rw [b28_0]
  refine al28 fun w1 hb1 hsz1 hr1 => ?_
  refine sr28 rfl hr1 rfl one5 fun w2 ho2 hr2 => ?_
  have hb2 : Below w.heap.size w w2 := hb1.trans (ho2.rest _ (Nat.le_refl _))
  have hbl : w.heap.size < w2.heap.size := hr2.lt
  obtain ⟨b, hb0⟩ : ∃ b, w.heap.size = b := ⟨_, rfl⟩
  rw [hb0] at hr2 hbl
  rw [hb0]
  refine Loop2.intro (fun n a p w' => ∃ (i : Nat) (m : Mom) (e c q : Value) (rs : List (RawV 5)) (ms : List Mom), p = I i ∧ i ≤ l.length ∧ i ≤ 14 ∧ n = l.length - i ∧ Below w.heap.size w w' ∧ w2.heap.size ≤ w'.heap.size ∧ MoS b w' m e c q a rs ms ∧ (0 ≤ m.now ∧ m.now ≤ 8 * i) ∧ (0 ≤ m.drift ∧ m.drift ≤ 2) ∧ RisingP m.ev 19 ∧ CountsP m.conf 0 ∧ m.conf.length ≤ 4 ∧ RisingP m.keys 19 ∧ ms.length ≤ i ∧ ∀ m ∈ ms, ValidMom m ∧ okMom m) _ ⟨0, ⟨0, 0, [], [], []⟩, _, _, _, [], [], rfl, by omega, by omega, rfl, hb2, Nat.le_refl _, ⟨hr2, Mine.nil _ _, Mine.nil _ _, Mine.nil _ _, Mine.nil _ _, rfl, fun i r m h => by simp at h⟩, by simp, by simp, RisingP.nil _, CountsP.nil _, by simp, RisingP.nil _, by simp, by simp⟩ ?_
  rintro n ov _ w3 ⟨i, m, e, c, q, rs, ms, rfl, hil, hi14, rfl, hb3, hsz3, hS, hnow, hdr, hev, hcf, hcl, hky, hmsl, hms⟩
  rw [len23 (hs.below hb3), w_lss]
  by_cases hlt : i < l.length
  case' neg =>
    rw [decide_eq_false (by omega)]
    simp only [guardW_ft, guardW_u, pickW_false, condW_false]
    exact hk _ ms _ hb3 ⟨rs, hS.out.sl, hS.len, fun j r m' h1 h2 => (hS.ms j r m' h1 h2).v⟩ hms (by omega)
  rw [decide_eq_true (by omega)]
  simp only [guardW_tt]
  rw [w_lss]
  simp only [pickW_true]
  by_cases hlt2 : i < 14
  case' neg =>
    rw [decide_eq_false (by omega), condW_false]
    exact hk _ ms _ hb3 ⟨rs, hS.out.sl, hS.len, fun j r m' h1 h2 => (hS.ms j r m' h1 h2).v⟩ hms (by omega)
  rw [decide_eq_true (by omega), condW_true]
  obtain ⟨x, hx⟩ : ∃ x, l[i]? = some x := ⟨_, List.getElem?_eq_getElem hlt⟩
  have hxi := hi x (List.mem_of_getElem? hx)
  have hx5 := x.2
  rw [ga23 (F := fV 5) rfl (hs.below hb3) (by omega) (by simpa using hx)]
  refine c37 hx5 hxi fun y ye yc yq w4 hb4 hye hyc hyq hyv hyl1 hyl2 hyl3 => ?_
  have hb04 := below_trans hb3 hb4
  refine al28 fun w5 hb5 hsz5 hr5 => ?_
  refine sr28 rfl hr5 rfl (oneM hye.sl hyc.sl hyq.sl) fun w6 ho6 hr6 => ?_
  have hb46 : Below w4.heap.size w4 w6 := hb5.trans (ho6.rest _ (Nat.le_refl _))
  have hb36 := below_trans hb4 hb46
  have hb06 := below_trans hb3 hb36
  have hbs3 : b < w3.heap.size := hS.row.lt
  have hle34 := hb4.size
  have hS6 := hS.below hb36
  have hye6 := (hye.below hb46).base (show b + 1 ≤ w3.heap.size by omega)
  have hyc6 := (hyc.below hb46).base (show b + 1 ≤ w3.heap.size by omega)
  have hyq6 := (hyq.below hb46).base (show b + 1 ≤ w3.heap.size by omega)
  have hyb : w4.heap.size ≠ b := by omega
  generalize w4.heap.size = yb at *
  rw [drewW_eq]
  have hb67 := below_drew w6
  have hS7 := hS6.below hb67
  have hye7 := hye6.below hb67
  have hyc7 := hyc6.below hb67
  have hyq7 := hyq6.below hb67
  have hr7 := hr6.drew
  have hb07 := below_trans hb06 hb67
  have hsz7 : w2.heap.size ≤ w6.drew.heap.size := Nat.le_trans hsz3 (Nat.le_trans hb36.size hb67.size)
  clear hS hS6 hye hye6 hyc hyc6 hyq hyq6 hr6 hb06 hb36 hb46 hb67 hr5 hb5 ho6 hb04 hb4
  generalize w6.drew = w7 at *
  have ha := after_refl w7
  refine ⟨after w7, ha, ?_⟩
  rw [ra28_0 (hS7.row.cell (i := 0 + 0) rfl) ha, tget23 (j := 0) (m := 0) (y := x.1[0]'(by omega)) (hs.below hb07) hx (by omega) (List.getElem?_eq_getElem _) rfl]
  refine c38 (n := 8) (hxi _ (List.getElem_mem _)) (by decide) fun r1 hr1' => ?_
  rw [keepS_eq]
  refine ⟨ha, ?_⟩
  rw [t_add, wrap_id (by omega), tfl28_0, st3 rfl (hS7.row.cell (i := 0) rfl) (hS7.row.free _)]
  have hS8 := hS7.store (m' := ⟨m.now + r1, m.drift, m.ev, m.conf, m.keys⟩) 0 (I (m.now + r1)) rfl hS7.ev hS7.cf hS7.ky
  have ho8 : Off (fun x => x = b) w7 (w7.setCell ⟨b, 0, none⟩ (I (m.now + r1))) := Off.set rfl
  have a3 : Apart w7 (fun x => x = b) 3 := apRow hS7.row (by decide)
  have a4 : Apart w7 (fun x => x = b) 121 := apRow hS7.row (by decide)
  have hye8 := hye7.apart ho8 a3
  have hyc8 := hyc7.apart ho8 a4
  have hyq8 := hyq7.apart ho8 a3
  have hr8 := hr7.off ho8 hyb
  have hb08 : Below w.heap.size w (w7.setCell ⟨b, 0, none⟩ (I (m.now + r1))) := hb07.setCell (by simp only; omega) _
  have hsz8 := Nat.le_trans hsz7 ho8.size
  clear hS7 hye7 hyc7 hyq7 hr7 hb07 hsz7 a3 a4 ho8 ha
  generalize w7.setCell ⟨b, 0, none⟩ (I (m.now + r1)) = w8 at *
  rw [get23 (j := 1) (m := 1) (y := x.1[1]'(by omega)) (hs.below hb08) hx (by omega) (List.getElem?_eq_getElem _) rfl]
  refine c38 (n := 3) (hxi _ (List.getElem_mem _)) (by decide) fun r2 hr2' => ?_
  rw [fl28_1, st3 rfl (hS8.row.cell (i := 1) rfl) (hS8.row.free _)]
  have hS9 := hS8.store (m' := ⟨m.now + r1, r2, m.ev, m.conf, m.keys⟩) 1 (I r2) rfl hS8.ev hS8.cf hS8.ky
  have ho9 : Off (fun x => x = b) w8 (w8.setCell ⟨b, 1, none⟩ (I r2)) := Off.set rfl
  have a3 : Apart w8 (fun x => x = b) 3 := apRow hS8.row (by decide)
  have a4 : Apart w8 (fun x => x = b) 121 := apRow hS8.row (by decide)
  have hye9 := hye8.apart ho9 a3
  have hyc9 := hyc8.apart ho9 a4
  have hyq9 := hyq8.apart ho9 a3
  have hr9 := hr8.off ho9 hyb
  have hb09 : Below w.heap.size w (w8.setCell ⟨b, 1, none⟩ (I r2)) := hb08.setCell (by simp only; omega) _
  have hsz9 := Nat.le_trans hsz8 ho9.size
  clear hS8 hye8 hyc8 hyq8 hr8 hb08 hsz8 a3 a4 ho9
  try simp only [Nat.zero_add]
  generalize w8.setCell ⟨b, 1, none⟩ (I r2) = w9 at *
  rw [rw28_2 (hS9.row.cell (i := 0 + 2) rfl), rw28_2 (hr9.cell (i := 0 + 2) rfl)]
  refine c39 hS9.ev.sl hye9.sl (Nat.le_trans hev.len (by decide)) (by omega) fun ue uev wa hba hue huev => ?_
  have hS9' := hS9.below hba
  have hba9 := hba.size
  have hb9b : b + 1 ≤ w9.heap.size := hS9.row.lt
  have hue' := hue.base hb9b
  obtain ⟨ua, uc, rfl, -⟩ := id hue.sl
  rw [fl28_2, st25 rfl (hS9'.row.cell (i := 0 + 2) rfl) (hS9'.row.free _)]
  try simp only [Nat.zero_add]
  have hSb := hS9'.store (m' := ⟨m.now + r1, r2, uev, m.conf, m.keys⟩) 2 (.slice ua uev.length uc) rfl hue' hS9'.cf hS9'.ky
  have hob : Off (fun x => x = b) wa (wa.setCell ⟨b, 2, none⟩ (.slice ua uev.length uc)) := Off.set rfl
  have a3 : Apart wa (fun x => x = b) 3 := apRow hS9'.row (by decide)
  have a4 : Apart wa (fun x => x = b) 121 := apRow hS9'.row (by decide)
  have hyeb := (hye9.below hba).apart hob a3
  have hycb := (hyc9.below hba).apart hob a4
  have hyqb := (hyq9.below hba).apart hob a3
  have hrb := (hr9.below hba).off hob hyb
  have hb0b : Below w.heap.size w (wa.setCell ⟨b, 2, none⟩ (.slice ua uev.length uc)) := (below_trans hb09 hba).setCell (by simp only; omega) _
  have hszb := Nat.le_trans (Nat.le_trans hsz9 hba9) hob.size
  clear hS9 hS9' hye9 hyc9 hyq9 hr9 hb09 hsz9 a3 a4 hob hue hue' hba hba9 hb9b
  generalize wa.setCell ⟨b, 2, none⟩ (.slice ua uev.length uc) = wb at *
  rw [rw28_4 (hSb.row.cell (i := 0 + 4) rfl), rw28_4 (hrb.cell (i := 0 + 4) rfl)]
  refine c39 hSb.ky.sl hyqb.sl (Nat.le_trans hky.len (by decide)) (by omega) fun uk uky wc hbc huk huky => ?_
  have hSb' := hSb.below hbc
  have hbc9 := hbc.size
  have hb9b : b + 1 ≤ wb.heap.size := hSb.row.lt
  have huk' := huk.base hb9b
  obtain ⟨va, vc, rfl, -⟩ := id huk.sl
  rw [fl28_4, st25 rfl (hSb'.row.cell (i := 0 + 4) rfl) (hSb'.row.free _)]
  try simp only [Nat.zero_add]
  have hSd := hSb'.store (m' := ⟨m.now + r1, r2, uev, m.conf, uky⟩) 4 (.slice va uky.length vc) rfl hSb'.ev hSb'.cf huk'
  have hod : Off (fun x => x = b) wc (wc.setCell ⟨b, 4, none⟩ (.slice va uky.length vc)) := Off.set rfl
  have a3 : Apart wc (fun x => x = b) 3 := apRow hSb'.row (by decide)
  have a4 : Apart wc (fun x => x = b) 121 := apRow hSb'.row (by decide)
  have hycd := (hycb.below hbc).apart hod a4
  have hrd := (hrb.below hbc).off hod hyb
  have hb0d : Below w.heap.size w (wc.setCell ⟨b, 4, none⟩ (.slice va uky.length vc)) := (below_trans hb0b hbc).setCell (by simp only; omega) _
  have hszd := Nat.le_trans (Nat.le_trans hszb hbc9) hod.size
  clear hSb hSb' hyeb hycb hyqb hrb hb0b hszb a3 a4 hod huk huk' hbc hbc9 hb9b
  generalize wc.setCell ⟨b, 4, none⟩ (.slice va uky.length vc) = wd at *
  refine joinW_use0 (fun w' => ∃ (cf : List CW) (c : Value), Below w.heap.size w w' ∧ w2.heap.size ≤ w'.heap.size ∧ MoS b w' ⟨m.now + r1, r2, uev, cf, uky⟩ (.slice ua uev.length uc) c (.slice va uky.length vc) ov rs ms ∧ CountsP cf 0 ∧ cf.length ≤ 4) ?_ ?_
  case refine_2 =>
    intro J hJ
    rw [rw28_3 (hrd.cell (i := 0 + 3) rfl), len26 hycd.sl, w_gtr]
    have hno : J wd := hJ _ ⟨m.conf, c, hb0d, hszd, hSd, hcf, hcl⟩
    by_cases h1 : 0 < y.conf.length
    case' neg =>
      rw [decide_eq_false (by omega)]
      simp only [guardW_ft, guardW_u, pickW_false, condW_false]
      exact hno
    rw [decide_eq_true (by omega)]
    simp only [guardW_tt]
    rw [rw28_3 (hSd.row.cell (i := 0 + 3) rfl), len26 hSd.cf.sl, w_eql]
    simp only [pickW_true]
    cases decide ((m.conf.length : Int) = 0) with
    | false => rw [condW_false]; exact hno
    | true =>
      rw [condW_true, rw28_3 (hrd.cell (i := 0 + 3) rfl)]
      obtain ⟨ca, cc, rfl, -⟩ := id hycd.sl
      rw [fl28_3, st26 rfl (hSd.row.cell (i := 0 + 3) rfl) (hSd.row.free _)]
      try simp only [Nat.zero_add]
      have hSe := hSd.store (m' := ⟨m.now + r1, r2, uev, y.conf, uky⟩) 3 (.slice ca y.conf.length cc) rfl hSd.ev hycd hSd.ky
      have hoe : Off (fun x => x = b) wd (wd.setCell ⟨b, 3, none⟩ (.slice ca y.conf.length cc)) := Off.set rfl
      exact hJ _ ⟨y.conf, _, hb0d.setCell (by simp only; omega) _, Nat.le_trans hszd hoe.size, hSe, hyv.2.2.2.1, hyl3⟩
  clear hycd hrd hb0d hszd hSd
  rintro we ⟨cf, c2, hb0e, hsze, hSe, hcf2, hcl2⟩
  refine joinW_use1 (fun a w' => ∃ (rs' : List (RawV 5)) (ms' : List Mom), Below w.heap.size w w' ∧ w2.heap.size ≤ w'.heap.size ∧ MoS b w' ⟨m.now + r1, r2, uev, cf, uky⟩ (.slice ua uev.length uc) c2 (.slice va uky.length vc) a rs' ms' ∧ ms'.length ≤ i + 1 ∧ ∀ m ∈ ms', ValidMom m ∧ okMom m) ?_ ?_
  · rintro a w' ⟨rs', ms', q1, q2, q3, q4, q5⟩
    rw [w_add, wrap_id (by omega), loopK_self]
    exact ⟨l.length - (i + 1), by omega, i + 1, _, _, _, _, rs', ms', by simp [I], by omega, by omega, rfl, q1, q2, q3, by simp only; omega, by simp only; omega, huev, hcf2, hcl2, huky, q4, q5⟩
  intro J hJ
  rw [drewW_eq]
  have hbef := below_drew we
  have hSf := hSe.below hbef
  have hb0f := below_trans hb0e hbef
  have hszf := Nat.le_trans hsze hbef.size
  clear hSe hb0e hsze hbef
  generalize we.drew = wf at *
  have ha := after_refl wf
  have hof : Off (isOf ov) wf wf := Off.refl _ _
  have hnb : ¬ isOf ov b := fun h => by have := (hSf.out.ge h).1; omega
  refine ⟨Off (isOf ov) wf, hof, ?_⟩
  rw [ro28_0 (hSf.row.cell (i := 0 + 0) rfl) hnb hof, ro28_1 (hSf.row.cell (i := 0 + 1) rfl) hnb hof, ro28_2 (hSf.row.cell (i := 0 + 2) rfl) hnb hof, ro28_3 (hSf.row.cell (i := 0 + 3) rfl) hnb hof, ro28_4 (hSf.row.cell (i := 0 + 4) rfl) hnb hof]
  have hE : IsSl fI wf (.slice ua uev.length uc) uev := hSf.ev.sl
  have hF : IsSl fC wf c2 cf := hSf.cf.sl
  have hQ : IsSl fI wf (.slice va uky.length vc) uky := hSf.ky.sl
  have hbB : b + 1 ≤ wf.heap.size := hSf.row.lt
  have hel : uev.length ≤ 20 := huev.len
  have hkl : uky.length ≤ 20 := huky.len
  have fin : ∀ (u : World) (ea fa ka : Option Addr) (ec fc kc : Nat), after wf u → Mine fI 3 u (b + 1) (.slice ea uev.length ec) uev → Mine fC 121 u (b + 1) (.slice fa cf.length fc) cf → Mine fI 3 u (b + 1) (.slice ka uky.length kc) uky →
      opW Tryz.prog (Instr.buildSlice 33 1 #[(0, .agg ([I (m.now + r1), I r2, .slice ea uev.length ec, .slice fa cf.length fc, .slice ka uky.length kc] : List Value).toArray)]) (fun t83_76 w => keepS (Off (isOf ov) wf) (fun w =>
        opW Tryz.prog (Builtin.append_ #[33, 33] 33 #[ov, t83_76]) (fun t84_77 w => keepS (Off (isOf ov) wf) (fun w => J t84_77 w) w) w) w) u := by
    intro u ea fa ka ec fc kc hau h1 h2 h3
    have hSu := hSf.below hau
    have hlen := hSf.len
    obtain ⟨rn, hrn⟩ : ∃ rn : RawV 5, rn.1 = [I (m.now + r1), I r2, .slice ea uev.length ec, .slice fa cf.length fc, .slice ka uky.length kc] := ⟨⟨_, rfl, one5⟩, rfl⟩
    refine Mine.pushS (F := fR 5) (x := rn) sty33 (fun u hu => rn.2.2 u hu) (by show _ = rn.1; rw [hrn]; rfl) (by decide) hSu.out (Nat.le_trans hbB hau.size) (by omega) (by omega) (fun w' h => (Off.below hau).trans (Off.below h)) fun v' w' hm' hb' ho' hu' => ?_
    refine ⟨(Off.below hau).trans ho', ?_⟩
    have hb'' : Below w.heap.size w w' := (hb0f.trans (hau.mono hb0f.size)).trans (hb'.mono (by omega))
    have a3 : Apart u (isOf ov) 3 := apMine hSu.out (by decide)
    have a4 : Apart u (isOf ov) 121 := apMine hSu.out (by decide)
    refine hJ _ _ ⟨_, ms ++ [(⟨m.now + r1, r2, uev, cf, uky⟩ : Mom)], hb'', Nat.le_trans hszf (Nat.le_trans hau.size ho'.size), ⟨hSu.row.off ho' hnb, hSu.ev.apart ho' a3, hSu.cf.apart ho' a4, hSu.ky.apart ho' a3, hm', by simp [hlen], fun j r m' g1 g2 => ?_⟩, by simp; omega, fun m' hm' => ?_⟩
    · rw [List.getElem?_append] at g1 g2
      split at g1
      · rename_i hj
        rw [if_pos (by omega)] at g2
        exact (hSu.ms j r m' g1 g2).apart ho' a3 a4
      · rename_i hj
        rw [if_neg (by omega)] at g2
        have hj0 : j - rs.length = 0 := by
          have := (List.getElem?_eq_some_iff.1 g1).1
          simp at this; omega
        rw [hj0] at g1
        rw [show j - ms.length = 0 by omega] at g2
        simp at g1 g2
        subst g1 g2
        exact ⟨_, _, _, hrn, h1.apart ho' a3, h2.apart ho' a4, h3.apart ho' a3⟩
    · rcases List.mem_append.1 hm' with h | h
      · exact hms m' h
      · simp at h
        subst h
        exact ⟨⟨by simp only; omega, by simp only; omega, huev, hcf2, huky⟩, by simp only; omega, by simp only; omega, by simp only; omega⟩
  clear hJ hk hSf hb0f hszf
  have o25 : ∀ (x : Int), ∀ u ∈ fI.e x, u.oneCell' = true := fun x u hu => by simp [fI] at hu; subst hu; rfl
  have o26 : ∀ (x : CW), ∀ u ∈ fC.e x, u.oneCell' = true := fun x u hu => by simp [fC] at hu; rcases hu with rfl | rfl <;> rfl
  obtain ⟨ea0, ec0, hee, -⟩ := id hE
  repeat' (first
    | refine And.intro ?_ ?_
    | (have hz := hA
       refine mkNil (F := fI) sty25 fun gb u hb hB => ?_
       clear hz
       rw [keepS_eq]
       replace hB := hB.base (Nat.le_trans hbB ha.size)
       replace hE := hE.below hb
       replace hF := hF.below hb
       replace hQ := hQ.below hb
       try replace hA := hA.below hb
       try replace hC := hC.below hb
       try replace hEr := hEr.below hb
       try replace hFr := hFr.below hb
       try replace hQr := hQr.below hb
       replace ha := below_trans ha hb
       refine ⟨Off.below ha, ?_⟩)
    | (refine mkNil (F := fI) sty25 fun ga u hb hA => ?_
       rw [keepS_eq]
       replace hA := hA.base (Nat.le_trans hbB ha.size)
       replace hE := hE.below hb
       replace hF := hF.below hb
       replace hQ := hQ.below hb
       try replace hC := hC.below hb
       try replace hFr := hFr.below hb
       replace ha := below_trans ha hb
       refine ⟨Off.below ha, ?_⟩)
    | (refine mkNil (F := fC) sty26 fun gc u hb hC => ?_
       rw [keepS_eq]
       replace hC := hC.base (Nat.le_trans hbB ha.size)
       replace hE := hE.below hb
       replace hF := hF.below hb
       replace hQ := hQ.below hb
       try replace hA := hA.below hb
       try replace hB := hB.below hb
       try replace hEr := hEr.below hb
       try replace hQr := hQr.below hb
       replace ha := below_trans ha hb
       refine ⟨Off.below ha, ?_⟩)
    | (refine appNil sty25 o25 (by first | exact hA | exact hB) hE (Nat.le_trans hbB ha.size) (by omega) (by decide) fun ve u hb hEr => ?_
       rw [keepS_eq]
       obtain ⟨ea, ec, rfl, -⟩ := id hEr.sl
       replace hE := hE.below hb
       replace hF := hF.below hb
       replace hQ := hQ.below hb
       try replace hA := hA.below hb
       try replace hB := hB.below hb
       try replace hC := hC.below hb
       try replace hFr := hFr.below hb
       try replace hQr := hQr.below hb
       replace ha := below_trans ha hb
       refine ⟨Off.below ha, ?_⟩)
    | (refine appNil sty25 o25 (by first | exact hA | exact hB) hQ (Nat.le_trans hbB ha.size) (by omega) (by decide) fun vq u hb hQr => ?_
       rw [keepS_eq]
       obtain ⟨qa, qc, rfl, -⟩ := id hQr.sl
       replace hE := hE.below hb
       replace hF := hF.below hb
       replace hQ := hQ.below hb
       try replace hA := hA.below hb
       try replace hB := hB.below hb
       try replace hC := hC.below hb
       try replace hFr := hFr.below hb
       try replace hEr := hEr.below hb
       replace ha := below_trans ha hb
       refine ⟨Off.below ha, ?_⟩)
    | (refine appNil sty26 o26 hC hF (Nat.le_trans hbB ha.size) (by omega) (by decide) fun vf u hb hFr => ?_
       rw [keepS_eq]
       obtain ⟨fa, fc, rfl, -⟩ := id hFr.sl
       replace hE := hE.below hb
       replace hF := hF.below hb
       replace hQ := hQ.below hb
       try replace hA := hA.below hb
       try replace hB := hB.below hb
       try replace hEr := hEr.below hb
       try replace hQr := hQr.below hb
       replace ha := below_trans ha hb
       refine ⟨Off.below ha, ?_⟩)
    | (rw [b28_5, keepS_eq]; refine ⟨Off.below ha, ?_⟩)
    | exact fin _ _ _ _ _ _ _ ha hEr hFr hQr))
end
end Go.Proofs.YtfkfkldhcignbaaGreatDoor
/- Inputs that integers determine: Items. -/
set_option linter.unusedSimpArgs false
set_option linter.unusedVariables false
set_option maxRecDepth 4000
namespace Go.Proofs.YtfkfkldhcignbaaGreatDoor
open Go Go.V Go.RowKit
structure ItW where
  at' : Int
  lab : Lab
  cls : Int
  text : ByteArray
def itemL (x : ItW) (e c q : Value) : List Value := [I x.at', I x.lab.til, e, c, I x.lab.terr, I x.lab.cls, q, I x.cls, .string x.text]
def ItemV (w : World) (v : Value) (x : ItW) : Prop := ∃ e c q, v = .agg (itemL x e c q).toArray ∧ IsSl fI w e x.lab.ev ∧ IsSl fC w c x.lab.ct ∧ LocksV w q x.lab.locks
theorem ItemV.below {w w' : World} {v : Value} {x : ItW} (h : ItemV w v x) (hb : Below w.heap.size w w') : ItemV w' v x := by
  obtain ⟨e, c, q, rfl, h1, h2, h3⟩ := h
  exact ⟨e, c, q, rfl, h1.below hb, h2.below hb, h3.below hb⟩
def ValidIt (x : ItW) : Prop := (0 ≤ x.at' ∧ x.at' ≤ 50000000) ∧ ValidLab x.lab ∧ (1 ≤ x.cls ∧ x.cls ≤ 3) ∧ (1 ≤ x.text.size ∧ x.text.size ≤ 60)
def ItemsX (w : World) (rs : List (RawV 9)) (xs : List ItW) : Prop := rs.length = xs.length ∧ ∀ (i : Nat) r x, rs[i]? = some r → xs[i]? = some x → ItemV w (agR r) x
def ItemsV (w : World) (v : Value) (xs : List ItW) : Prop := ∃ rs, IsSl (fR 9) w v rs ∧ ItemsX w rs xs
theorem ItemsX.below {w w' : World} {rs : List (RawV 9)} {xs : List ItW} (h : ItemsX w rs xs) (hb : Below w.heap.size w w') : ItemsX w' rs xs := ⟨h.1, fun i r m h1 h2 => (h.2 i r m h1 h2).below hb⟩
theorem ItemsV.below {w w' : World} {v : Value} {xs : List ItW} (h : ItemsV w v xs) (hb : Below w.heap.size w w') : ItemsV w' v xs := by
  obtain ⟨rs, h1, h2⟩ := h
  exact ⟨rs, h1.below hb, h2.below hb⟩
def ItemM (B : Nat) (w : World) (r : RawV 9) (x : ItW) : Prop := ∃ e c q xs, r.1 = itemL x e c q ∧ LabM B w x.lab e c q xs
theorem ItemM.v {B : Nat} {w : World} {r : RawV 9} {x : ItW} (h : ItemM B w r x) : ItemV w (agR r) x := by
  obtain ⟨e, c, q, xs, h0, h1⟩ := h
  exact ⟨e, c, q, by unfold agR; rw [h0], h1.ev.sl, h1.ct.sl, xs, h1.lk.sl, h1.ks.x⟩
theorem ItemM.below {B : Nat} {w w' : World} {r : RawV 9} {x : ItW} (h : ItemM B w r x) (hb : Below w.heap.size w w') : ItemM B w' r x := by
  obtain ⟨e, c, q, xs, h0, h1⟩ := h
  exact ⟨e, c, q, xs, h0, h1.below hb⟩
theorem ItemM.apart {B : Nat} {w w' : World} {r : RawV 9} {x : ItW} {p : Nat → Prop} (h : ItemM B w r x) (ho : Off p w w') (h3 : Apart w p 3) (h4 : Apart w p 121) (h5 : Apart w p 87) : ItemM B w' r x := by
  obtain ⟨e, c, q, xs, h0, h1⟩ := h
  exact ⟨e, c, q, xs, h0, h1.apart ho h3 h4 h5⟩
theorem one9 {a b c d e : Int} {s : ByteArray} {a1 a2 a3 : Option Addr} {n1 n2 n3 c1 c2 c3 : Nat} : ∀ v ∈ ([I a, I b, .slice a1 n1 c1, .slice a2 n2 c2, I c, I d, .slice a3 n3 c3, I e, .string s] : List Value), v.oneCell' = true := by simp [Value.oneCell']
theorem one9' {x : ItW} {e c q : Value} {w : World} {l1 : List Int} {l2 : List CW} {l3 : List QW} (he : IsSl fI w e l1) (hc : IsSl fC w c l2) (hq : IsSl fQW w q l3) : ∀ u ∈ itemL x e c q, u.oneCell' = true := by
  obtain ⟨a1, c1, rfl, -⟩ := id he
  obtain ⟨a2, c2, rfl, -⟩ := id hc
  obtain ⟨a3, c3, rfl, -⟩ := id hq
  exact one9
def fT : Fl ByteArray := ⟨1, fun s => [.string s], fun _ => rfl⟩
def five : List ByteArray := [⟨#[114, 97, 105, 110]⟩, ⟨#[119, 97, 114]⟩, ⟨#[120]⟩, ⟨#[97, 32, 102, 108, 97, 115, 104, 32, 111, 102, 32, 115, 111, 109, 101, 32, 108, 101, 110, 103, 116, 104]⟩, ⟨#[0, 1]⟩]
theorem five_size : ∀ s ∈ five, 1 ≤ s.size ∧ s.size ≤ 22 := by decide
abbrev nS : Value := .slice none 0 0
def onB (i : Nat) : ByteArray := ⟨#[bI (97 + i)]⟩
/-- a new item's row -/
def rowI (p c : Int) (s : ByteArray) : List Value := [I p, I 0, nS, nS, I 255, I 255, nS, I c, .string s]
def GoodRow (B i : Nat) (w : World) (b : Nat) : Prop := B ≤ b ∧ ∃ p c s, RowAt w b 63 (rowI p c (s ++ onB i)) ∧ (0 ≤ p ∧ p < 40) ∧ (1 ≤ c ∧ c ≤ 3) ∧ s.size ≤ 22
/-- what each operation of the region keeps -/
def PhI (B yb i : Nat) (ys : List Int) : Nat → Value → World → Prop
  | 0, v, _ => v = .pointer (some ⟨yb, 0, none⟩)
  | 1, v, _ => ∃ y, v = I y ∧ in64 y
  | 2, v, _ => ∃ p, v = I p ∧ (0 ≤ p ∧ p < 40)
  | 3, v, _ => v = noneV
  | 4, v, _ => v = .pointer (some ⟨yb, 1, none⟩)
  | 5, v, _ => ∃ y, v = I y ∧ in64 y
  | 6, v, _ => ∃ p, v = I p ∧ (0 ≤ p ∧ p < 3)
  | 7, v, _ => ∃ p, v = I p ∧ (1 ≤ p ∧ p ≤ 3)
  | 8, v, w => Mine fT 9 w B v five
  | 9, v, _ => v = .pointer (some ⟨yb, 1, none⟩)
  | 10, v, _ => ∃ y, v = I y ∧ in64 y
  | 11, v, _ => ∃ y, v = I y ∧ in64 y
  | 12, v, _ => ∃ p : Nat, v = I p ∧ p < 5
  | 13, v, w => ∃ a s, v = .pointer (some a) ∧ w.cell? a = some (.string s) ∧ s.size ≤ 22 ∧ Tag w a.block 9
  | 14, v, _ => ∃ s, v = .string s ∧ s.size ≤ 22
  | 15, v, _ => v = I i
  | 16, v, _ => v = I (97 + i)
  | 17, v, _ => v = bV (bI (97 + i))
  | 18, v, w => Mine fB 5 w B v [bI (97 + i)]
  | 19, v, _ => v = .string (onB i)
  | 20, v, _ => ∃ s, v = .string (s ++ onB i) ∧ s.size ≤ 22
  | 21, v, _ => ∃ p c s, v = .agg (rowI p c (s ++ onB i)).toArray ∧ (0 ≤ p ∧ p < 40) ∧ (1 ≤ c ∧ c ≤ 3) ∧ s.size ≤ 22
  | 22, v, w => ∃ b vs, v = .pointer (some ⟨b, 0, none⟩) ∧ B ≤ b ∧ vs.length = 9 ∧ RowAt w b 63 vs
  | 23, v, w => ∃ t b, v = .tuple #[t, .pointer (some ⟨b, 0, none⟩)] ∧ GoodRow B i w b
  | _, _, _ => True
theorem GoodRow.below {B i b : Nat} {w w' : World} (h : GoodRow B i w b) (hb : Below w.heap.size w w') : GoodRow B i w' b := by
  obtain ⟨h0, p, c, s, h1, h2⟩ := h
  exact ⟨h0, p, c, s, h1.below hb, h2⟩
theorem PhI.below {B yb i : Nat} {ys : List Int} {w w' : World} (hb : Below w.heap.size w w') : ∀ (j : Nat) (u : Value), PhI B yb i ys j u w → PhI B yb i ys j u w'
  | 0, _, h | 1, _, h | 2, _, h | 3, _, h | 4, _, h | 5, _, h | 6, _, h | 7, _, h | 9, _, h | 10, _, h | 11, _, h | 12, _, h | 14, _, h | 15, _, h | 16, _, h | 17, _, h | 19, _, h | 20, _, h | 21, _, h => h
  | 8, _, h => Go.V.Mine.below h hb
  | 18, _, h => Go.V.Mine.below h hb
  | 13, _, ⟨a, s, h1, h2, h3, h4⟩ => ⟨a, s, h1, by rw [hb.cell (World.block_lt_of_cell? w _ h2)]; exact h2, h3, by
      obtain ⟨cur, hc⟩ := h4
      exact ⟨cur, by rw [hb.block _ (World.block_lt_of_cell? w _ h2)]; exact hc⟩⟩
  | 22, _, ⟨b, vs, h1, h2, h3, h4⟩ => ⟨b, vs, h1, h2, h3, h4.below hb⟩
  | 23, _, ⟨t, b, h1, h2⟩ => ⟨t, b, h1, h2.below hb⟩
  | _ + 24, _, _ => trivial
theorem PhI.row {B yb i g : Nat} {ys : List Int} {w w' : World} (ho : Off (fun x => x = g) w w') (hg : Tag w g 63) (hgr : GoodRow B i w' g) : ∀ (j : Nat) (u : Value), PhI B yb i ys j u w → PhI B yb i ys j u w'
  | 0, _, h | 1, _, h | 2, _, h | 3, _, h | 4, _, h | 5, _, h | 6, _, h | 7, _, h | 9, _, h | 10, _, h | 11, _, h | 12, _, h | 14, _, h | 15, _, h | 16, _, h | 17, _, h | 19, _, h | 20, _, h | 21, _, h => h
  | 8, _, h => Go.V.Mine.apart h ho fun x hx => by subst hx; exact ⟨63, hg, by decide⟩
  | 18, _, h => Go.V.Mine.apart h ho fun x hx => by subst hx; exact ⟨63, hg, by decide⟩
  | 13, _, ⟨a, s, h1, h2, h3, h4⟩ => by
    have hne : ¬ a.block = g := fun hh => by rw [hh] at h4; exact absurd (h4.uniq hg) (by decide)
    refine ⟨a, s, h1, cell_off h2 hne ho, h3, ?_⟩
    obtain ⟨cur, hc⟩ := h4
    exact ⟨cur, by rw [ho.block _ (World.block_lt_of_cell? w _ h2) hne]; exact hc⟩
  | 22, _, ⟨b, vs, h1, h2, h3, h4⟩ => by
    by_cases hbg : b = g
    · subst hbg
      obtain ⟨_, p, c, s, q1, _⟩ := hgr
      exact ⟨b, _, h1, h2, rfl, q1⟩
    · exact ⟨b, vs, h1, h2, h3, h4.off ho hbg⟩
  | 23, _, ⟨t, b, h1, h2⟩ => by
    by_cases hbg : b = g
    · subst hbg; exact ⟨t, b, h1, hgr⟩
    · obtain ⟨h0, p, c, s, q1, q2⟩ := h2
      exact ⟨t, b, h1, h0, p, c, s, q1.off ho hbg, q2⟩
  | _ + 24, _, _ => trivial
end Go.Proofs.YtfkfkldhcignbaaGreatDoor
/- Inputs that integers determine: Items, the walk. -/
set_option linter.unusedSimpArgs false
set_option linter.unusedVariables false
set_option maxRecDepth 4000
namespace Go.Proofs.YtfkfkldhcignbaaGreatDoor
open Go Go.V Go.RowKit
section
variable {k : Value → World → Prop} {w w0 w' : World} {B yb i : Nat} {ys : List Int} {v : Value}
theorem bag_same {Φ : Nat → Value → World → Prop} {Ψ : World → Prop} {j : Nat} (hΨ : Ψ w) (h : Φ j v w) : bagK Φ Ψ j w v w := ⟨⟨hΨ, h, fun _ _ h => h⟩⟩
theorem bag_below {j : Nat} (ha : after w0 w) (hb : Below w.heap.size w w') (h : PhI B yb i ys j v w') : bagK (PhI B yb i ys) (after w0) j w v w' := ⟨⟨below_trans ha hb, h, PhI.below hb⟩⟩
theorem ix84 {b : Nat} {n : Int} {j : Nat} (hn : n = j) (hj : j < 9) : opW Tryz.prog (Instr.indexAt 84 (.pointer (some ⟨b, 0, none⟩)) (I n)) k w = k (.pointer (some ⟨b, j, none⟩)) w := by
  subst hn
  rw [opW_ok (run_indexArr (e := 3) (n := 9) (by kernel_rfl) (by kernel_rfl) (by omega) (by omega) w), show sizeT Tryz.prog 3 = 1 by kernel_rfl, Nat.mul_one, Nat.zero_add, Int.toNat_natCast]
theorem rw84 {b : Nat} {vs : List Value} {u : Value} {n : Int} {j : Nat} (hr : RowAt w b 84 vs) (hu : vs[j]? = some u) (hn : n = j) (hj : j < 9) : opW Tryz.prog (Instr.indexAt 84 (.pointer (some ⟨b, 0, none⟩)) (I n)) (fun p w => opW Tryz.prog (Instr.loadAt 3 p) k w) w = k u w := by
  rw [ix84 hn hj, ld3 (hr.cell hu)]
theorem b63 {p c : Int} {s : ByteArray} : opW Tryz.prog (Instr.build 63 #[(0, I p), (1, noneV), (2, I c), (3, .string s)]) k w = k (.agg (rowI p c s).toArray) w := opW_ok (by kernel_rfl)
theorem b71 {a b c d e f g : Int} : opW Tryz.prog (Instr.build 71 #[(0, I a), (1, I b), (2, I c), (3, I d), (4, I e), (5, I f), (6, I g)]) k w = k (.agg (([a, b, c, d, e, f, g] : List Int).map I).toArray) w := opW_ok (by kernel_rfl)
end
structure ItS (B : Nat) (w : World) (ov : Value) (rs : List (RawV 9)) (xs : List ItW) : Prop where
  out : Mine (fR 9) 63 w B ov rs
  len : rs.length = xs.length
  ms : ∀ (i : Nat) r x, rs[i]? = some r → xs[i]? = some x → ItemM B w r x
theorem ItS.below {B : Nat} {w w' : World} {ov : Value} {rs : List (RawV 9)} {xs : List ItW} (h : ItS B w ov rs xs) (hb : Below w.heap.size w w') : ItS B w' ov rs xs := ⟨h.out.below hb, h.len, fun i r x h1 h2 => (h.ms i r x h1 h2).below hb⟩
theorem ItS.row {B g : Nat} {w w' : World} {ov : Value} {rs : List (RawV 9)} {xs : List ItW} (h : ItS B w ov rs xs) (ho : Off (fun x => x = g) w w') (hg : Tag w g 63) (hn : ¬ isOf ov g) : ItS B w' ov rs xs :=
  ⟨h.out.off ho fun x hx hh => hn (hh ▸ hx), h.len, fun i r x h1 h2 => (h.ms i r x h1 h2).apart ho (fun x hx => by subst hx; exact ⟨63, hg, by decide⟩) (fun x hx => by subst hx; exact ⟨63, hg, by decide⟩) (fun x hx => by subst hx; exact ⟨63, hg, by decide⟩)⟩
section
variable {k : Value → World → Prop} {w : World}
set_option maxHeartbeats 1000000 in
theorem c14 {l : List (IntV 9)} {v : Value} {most : Nat} (hs : IsSl (fV 9) w v l) (hl : l.length ≤ maxLen) (hi : okV l) (hm : most ≤ 12) (hk : ∀ v xs w', Below w.heap.size w w' → ItemsV w' v xs → (∀ x ∈ xs, ValidIt x ∧ okLab x.lab) → xs.length ≤ most → (∀ (i : Nat) x, xs[i]? = some x → ∃ s, x.text = s ++ onB i) → k v w') : callW Tryz.prog (.func (.func 14) #[] #[]) #[v, I most] k w := C14 _ _ _ _ (by
  unfold S14
  have hml : 1000000 ≤ maxLen := by decide
  have hml2 : maxLen ≤ 9223372036854775807 := by decide
  refine Loop2.intro (fun n a p w' => ∃ (i : Nat) (rs : List (RawV 9)) (xs : List ItW), p = I i ∧ i ≤ l.length ∧ i ≤ most ∧ n = l.length - i ∧ Below w.heap.size w w' ∧ ItS w.heap.size w' a rs xs ∧ xs.length = i ∧ (∀ x ∈ xs, ValidIt x ∧ okLab x.lab) ∧ (∀ (i : Nat) x, xs[i]? = some x → ∃ s, x.text = s ++ onB i)) _ ⟨0, [], [], rfl, by omega, by omega, rfl, Below.refl _ _, ⟨Mine.nil _ _, rfl, fun i r m h => by simp at h⟩, rfl, by simp, by simp⟩ ?_
  rintro n ov _ w1 ⟨i, rs, xs, rfl, hil, him, rfl, hb1, hS, hxl, hv1, ht1⟩
  have fin : k ov w1 := hk _ xs _ hb1 ⟨rs, hS.out.sl, hS.len, fun j r x h1 h2 => (hS.ms j r x h1 h2).v⟩ hv1 (by omega) ht1
  rw [len22 (hs.below hb1), w_lss]
  by_cases hlt : i < l.length
  case' neg =>
    rw [decide_eq_false (by omega)]
    simp only [guardW_ft, guardW_u, pickW_false, condW_false]
    exact fin
  rw [decide_eq_true (by omega)]
  simp only [guardW_tt]
  rw [w_lss]
  simp only [pickW_true]
  by_cases hlt2 : i < most
  case' neg =>
    rw [decide_eq_false (by omega), condW_false]
    exact fin
  rw [decide_eq_true (by omega), condW_true]
  clear fin
  obtain ⟨y, hy⟩ : ∃ y, l[i]? = some y := ⟨_, List.getElem?_eq_getElem hlt⟩
  have hyi := hi y (List.mem_of_getElem? hy)
  obtain ⟨ys, hys9⟩ := y
  rw [ga22 (F := fV 9) rfl (hs.below hb1) (by omega) (by simpa using hy)]
  obtain ⟨y0, y1, y2, y3, y4, y5, y6, y7, y8, rfl⟩ : ∃ a b c d e f g h j, ys = [a, b, c, d, e, f, g, h, j] := by
    match ys, hys9 with
    | [a, b, c, d, e, f, g, h, j], _ => exact ⟨a, b, c, d, e, f, g, h, j, rfl⟩
  have i0 := hyi y0 (by simp)
  have i1 := hyi y1 (by simp)
  have i2 := hyi y2 (by simp)
  have i3 := hyi y3 (by simp)
  have i4 := hyi y4 (by simp)
  have i5 := hyi y5 (by simp)
  have i6 := hyi y6 (by simp)
  have i7 := hyi y7 (by simp)
  have i8 := hyi y8 (by simp)
  refine al84 fun w2 hb2 hsz2 hr2 => ?_
  refine sr84 (vs := [I y0, I y1, I y2, I y3, I y4, I y5, I y6, I y7, I y8]) rfl hr2 rfl (by simp [Value.oneCell']) fun w3 ho3 hr3 => ?_
  obtain ⟨yb, hyb⟩ : ∃ yb, w1.heap.size = yb := ⟨_, rfl⟩
  rw [hyb] at hr3 ⊢
  have hb13 : Below w1.heap.size w1 w3 := hb2.trans (ho3.rest _ (by omega))
  rw [drewW_eq]
  have hb14 := hb13.drew
  replace hr3 := hr3.drew
  have hS4 := hS.below hb14
  have hb04 := below_trans hb1 hb14
  have hyb4 : yb < w3.drew.heap.size := hr3.lt
  have hs14 := hb14.size
  clear hb13 ho3 hr2 hb2
  generalize w3.drew = w4 at *
  have hnb : ∀ b, w4.heap.size ≤ b → ¬ isOf ov b := fun b hb h => by have := (hS.out.ge h).2; omega
  clear hS
  refine ⟨after w4, PhI w4.heap.size yb i [], after_refl w4, ?_, ?_, ?_, ?_, ?_, ?_, ?_, ?_, ?_, ?_, ?_, ?_, ?_, ?_, ?_, ?_, ?_, ?_, ?_, ?_, ?_, ?_, ?_, ?_, ?_, trivial⟩
  · intro w5 ha5 v0 _ v1 _ v2 _ v3 _ v4 _ v5 _ v6 _ v7 _ v8 _ v9 _ v10 _ v11 _ v12 _ v13 _ v14 _ v15 _ v16 _ v17 _ v18 _ v19 _ v20 _ v21 _ v22 _ ⟨t, b, hv22, hbb, p, c, s, hr5, hp, hc, hss⟩
    simp only [Value.tuple.injEq, Array.mk.injEq, List.cons.injEq, and_true] at hv22
    obtain ⟨rfl, rfl⟩ := hv22
    have hS5 := hS4.below ha5
    have hr5y := hr3.below ha5
    have hb05 := hb04.trans (ha5.mono hb04.size)
    have hb0s := hb1.size
    have hnbb := hnb b hbb
    have htx : (s ++ onB i).size = s.size + 1 := by rw [ByteArray.size_append]; rfl
    refine joinW_use0 (fun w' => ∃ (L : Lab) (e c' q : Value) (qs : List QW), Below w.heap.size w w' ∧ RowAt w' b 63 (itemL ⟨p, L, c, s ++ onB i⟩ e c' q) ∧ LabM w.heap.size w' L e c' q qs ∧ ItS w.heap.size w' ov rs xs ∧ ValidLab L ∧ okLab L) ?_ ?_
    · rintro w6 ⟨L, e, c', q, qs, hb6, hr6, hL6, hS6, hVL, hokL⟩
      rw [ld63 (vs := itemL ⟨p, L, c, s ++ onB i⟩ e c' q) rfl hr6.cells]
      obtain ⟨rn, hrn⟩ : ∃ rn : RawV 9, rn.1 = itemL ⟨p, L, c, s ++ onB i⟩ e c' q := ⟨⟨_, rfl, one9' hL6.ev.sl hL6.ct.sl hL6.lk.sl⟩, rfl⟩
      have hlen := hS6.len
      refine Mine.push (F := fR 9) (x := rn) sty24 (fun u hu => rn.2.2 u hu) (by show _ = rn.1; rw [hrn]; rfl) (by decide) hS6.out hb6.size (by omega) (by omega) fun v7 w7 hm7 hb7 ho7 hu7 => ?_
      rw [w_add, wrap_id (by omega), loopK_self]
      have a3 : Apart w6 (isOf ov) 3 := apMine hS6.out (by decide)
      have a4 : Apart w6 (isOf ov) 121 := apMine hS6.out (by decide)
      have a5 : Apart w6 (isOf ov) 87 := apMine hS6.out (by decide)
      refine ⟨l.length - (i + 1), by omega, i + 1, rs ++ [rn], xs ++ [⟨p, L, c, s ++ onB i⟩], by simp [I], by omega, by omega, rfl, hb6.trans hb7, ⟨hm7, by simp [hlen], fun j r x h1 h2 => ?_⟩, by simp [hxl], fun x hx => ?_, fun j x hx => ?_⟩
      · rw [List.getElem?_append] at h1 h2
        split at h1
        · rename_i hj
          rw [if_pos (by omega)] at h2
          exact (hS6.ms j r x h1 h2).apart ho7 a3 a4 a5
        · rename_i hj
          rw [if_neg (by omega)] at h2
          have hj0 : j - rs.length = 0 := by
            have := (List.getElem?_eq_some_iff.1 h1).1
            simp at this; omega
          rw [hj0] at h1
          rw [show j - xs.length = 0 by omega] at h2
          simp at h1 h2
          subst h1 h2
          exact ⟨e, c', q, qs, hrn, hL6.apart ho7 a3 a4 a5⟩
      · rcases List.mem_append.1 hx with h | h
        · exact hv1 x h
        · simp at h
          subst h
          exact ⟨⟨by simp only; omega, hVL, hc, by simp only; omega⟩, hokL⟩
      · rw [List.getElem?_append] at hx
        split at hx
        · exact ht1 j x hx
        · rename_i hj
          have hj0 : j - xs.length = 0 := by
            have := (List.getElem?_eq_some_iff.1 hx).1
            simp at this; omega
          rw [hj0] at hx
          simp at hx
          subst hx
          exact ⟨s, by rw [show j = i by omega]⟩
    intro J hJ
    have hno : J w5 := hJ _ ⟨noneL, nS, nS, nS, [], hb05, hr5, ⟨Mine.nil _ _, Mine.nil _ _, Mine.nil _ _, rfl, fun i x p h => by simp at h⟩, hS5, noneL_valid, noneL_ok⟩
    rw [rw84 (n := 8) (j := 8) hr5y rfl rfl (by omega)]
    refine c38 (n := 3) i8 (by decide) fun z hz => ?_
    rw [w_gtr]
    cases decide (0 < z) with
    | false => rw [condW_false]; exact hno
    | true =>
      rw [condW_true, rw84 (n := 2) (j := 2) hr5y rfl rfl (by omega), rw84 (n := 3) (j := 3) hr5y rfl rfl (by omega), rw84 (n := 4) (j := 4) hr5y rfl rfl (by omega), rw84 (n := 5) (j := 5) hr5y rfl rfl (by omega), rw84 (n := 6) (j := 6) hr5y rfl rfl (by omega), rw84 (n := 7) (j := 7) hr5y rfl rfl (by omega), rw84 (n := 8) (j := 8) hr5y rfl rfl (by omega), b71]
      refine c32 rfl (fun x hx => by simp at hx; rcases hx with rfl | rfl | rfl | rfl | rfl | rfl | rfl <;> assumption) fun L e c' q qs w6 hb6 hL6 hVL hl1 hl2 => ?_
      have hokL : okLab L := ⟨⟨by have := hVL.2.2.2.2.2.1.len; omega, hVL.2.2.2.2.2.1.in64 (by decide)⟩, by omega, by omega, fun q hq => (hVL.2.2.2.2.1.ok hq).1⟩
      have hr6 := hr5.below hb6
      have hb06 := below_trans hb05 hb6
      have hS6 := hS5.below hb6
      have hL6' := hL6.base hb05.size
      rw [fl63_1, sta61 (b := b) (o := 0 + 1) rfl (by
        obtain ⟨a1, c1, rfl, -⟩ := id hL6.ev.sl
        obtain ⟨a2, c2, rfl, -⟩ := id hL6.ct.sl
        obtain ⟨a3, c3, rfl, -⟩ := id hL6.lk.sl
        exact one6) (fun j hj => ⟨(rowI p c (s ++ onB i))[0 + 1 + j]'(by simp [rowI]; omega), hr6.cell (List.getElem?_eq_getElem _)⟩) (fun j hj => hr6.free _)]
      have hr7 : RowAt (setCells w6 b 1 [I L.til, e, c', I L.terr, I L.cls, q]) b 63 (itemL ⟨p, L, c, s ++ onB i⟩ e c' q) := rowAt_setMid [I L.til, e, c', I L.terr, I L.cls, q] [I p] [I 0, nS, nS, I 255, I 255, nS] [I c, .string (s ++ onB i)] w6 hr6 rfl
      have ho7 := only_setCells (b := b) [I L.til, e, c', I L.terr, I L.cls, q] 1 w6
      have hof7 : Off (fun x => x = b) w6 (setCells w6 b 1 [I L.til, e, c', I L.terr, I L.cls, q]) := Off.only ho7 rfl
      have tg : Tag w6 b 63 := RowAt.tag hr6
      have ap : ∀ t, t ≠ 63 → Apart w6 (fun x => x = b) t := fun t ht => apRow hr6 (fun h => ht h.symm)
      have hL7 := hL6'.apart hof7 (ap 3 (by decide)) (ap 121 (by decide)) (ap 87 (by decide))
      have hS7 := hS6.row hof7 tg hnbb
      have hb07 : Below w.heap.size w (setCells w6 b 1 [I L.til, e, c', I L.terr, I L.cls, q]) := hb06.trans (ho7.rest _ (by omega))
      have hy7 : RowAt (setCells w6 b 1 [I L.til, e, c', I L.terr, I L.cls, q]) yb 84 _ := (hr5y.below hb6).off hof7 (fun h => by omega)
      have hsz7 : w6.heap.size ≤ (setCells w6 b 1 [I L.til, e, c', I L.terr, I L.cls, q]).heap.size := Nat.le_of_eq ho7.size.symm
      simp only [Nat.zero_add]
      clear hof7 tg ap ho7
      generalize setCells w6 b 1 [I L.til, e, c', I L.terr, I L.cls, q] = w7 at *
      have hyes : J w7 := hJ _ ⟨L, e, c', q, qs, hb07, hr7, hL7, hS7, hVL, hokL⟩
      rw [rw84 (n := 8) (j := 8) hy7 rfl rfl (by omega)]
      refine c38 (n := 6) i8 (by decide) fun z2 hz2 => ?_
      rw [w_lss]
      cases decide (z2 < 5) with
      | false => rw [condW_false]; exact hyes
      | true =>
        rw [condW_true, rw84 (n := 2) (j := 2) hy7 rfl rfl (by omega)]
        refine c38 (n := 60) i2 (by decide) fun tl htl => ?_
        rw [fl63_1, fl61_0, st3 rfl (hr7.cell (i := 0 + 1) rfl) (hr7.free _)]
        have hr8 := hr7.set 1 (I tl)
        have hof8 : Off (fun x => x = b) w7 (w7.setCell ⟨b, 1, none⟩ (I tl)) := Off.set rfl
        have tg : Tag w7 b 63 := RowAt.tag hr7
        have ap : ∀ t, t ≠ 63 → Apart w7 (fun x => x = b) t := fun t ht => apRow hr7 (fun h => ht h.symm)
        exact hJ _ ⟨⟨tl, L.ev, L.ct, L.terr, L.cls, L.locks⟩, e, c', q, qs, hb07.setCell (show w.heap.size ≤ b by omega) _, hr8, (hL7.til tl).apart hof8 (ap 3 (by decide)) (ap 121 (by decide)) (ap 87 (by decide)), hS7.row hof8 tg hnbb, ⟨by simp only; omega, hVL.2⟩, hokL⟩
  · intro u ha
    rw [ix84 (n := 0) (j := 0) rfl (by omega)]
    exact bag_same ha rfl
  · rintro u ha _ rfl
    rw [ld3 ((hr3.below ha).cell (i := 0) rfl)]
    exact bag_same ha ⟨_, rfl, i0⟩
  · rintro u ha _ ⟨z, rfl, hz⟩
    exact c38 (n := 40) hz (by decide) fun r hr => bag_same ha ⟨r, rfl, hr⟩
  · intro u ha
    exact c40 fun u' hb => bag_below ha hb rfl
  · intro u ha
    rw [ix84 (n := 1) (j := 1) rfl (by omega)]
    exact bag_same ha rfl
  · rintro u ha _ rfl
    rw [ld3 ((hr3.below ha).cell (i := 1) rfl)]
    exact bag_same ha ⟨_, rfl, i1⟩
  · rintro u ha _ ⟨z, rfl, hz⟩
    exact c38 (n := 3) hz (by decide) fun r hr => bag_same ha ⟨r, rfl, hr⟩
  · rintro u ha _ ⟨z, rfl, hz⟩
    rw [w_add, wrap_id (by omega)]
    exact bag_same ha ⟨_, rfl, by omega⟩
  · intro u ha
    refine w_parts (F := fT) (l := five) sty31 rfl (by decide) (by decide) (by kernel_rfl) rfl fun u' hb _ hm => ?_
    exact bag_below ha hb (hm.base ha.size)
  · intro u ha
    rw [ix84 (n := 1) (j := 1) rfl (by omega)]
    exact bag_same ha rfl
  · rintro u ha _ rfl
    rw [ld3 ((hr3.below ha).cell (i := 1) rfl)]
    exact bag_same ha ⟨_, rfl, i1⟩
  · rintro u ha _ ⟨z, rfl, hz⟩
    rw [w_quo (by decide)]
    exact bag_same ha ⟨_, rfl, wrap_in64 _⟩
  · rintro u ha _ ⟨z, rfl, hz⟩
    exact c38 (n := 5) hz (by decide) fun r hr => bag_same ha ⟨r.toNat, by rw [Int.toNat_of_nonneg hr.1], by omega⟩
  · rintro u ha v8 h8 _ ⟨z, rfl, hz⟩
    obtain ⟨s, hs5⟩ : ∃ s, five[z]? = some s := ⟨_, List.getElem?_eq_getElem (by simp [five]; omega)⟩
    have hm8 : Mine fT 9 u w4.heap.size v8 five := h8
    obtain ⟨g, c, rfl, hof, _⟩ := hm8.at (by simp [five])
    have htag := Mine.tag hm8 hof
    obtain ⟨b', o', c', he, hlt5, hcl⟩ := hm8.sl.at (i := (z : Int)) (by omega) (by simpa using hs5)
    simp only [Value.slice.injEq, Option.some.injEq, Addr.mk.injEq, and_true, true_and] at he
    obtain ⟨⟨rfl, rfl⟩, rfl⟩ := he
    rw [opW_ok (run_index (by kernel_rfl) (by kernel_rfl) (by omega) hlt5 u)]
    have hsz : sizeT Tryz.prog (elemT Tryz.prog 31) = 1 := by kernel_rfl
    rw [hsz]
    refine bag_same ha ⟨_, s, rfl, ?_, (five_size s (List.mem_of_getElem? hs5)).2, htag⟩
    have := hcl 0 (.string s) rfl
    simpa [fT] using this
  · rintro u ha _ ⟨a, s, rfl, hc, hss, _⟩
    rw [ld9 hc]
    exact bag_same ha ⟨s, rfl, hss⟩
  · intro u ha
    exact bag_same ha rfl
  · rintro u ha _ rfl
    rw [w_add, wrap_id (by omega)]
    exact bag_same ha rfl
  · rintro u ha _ rfl
    rw [w_conv (by kernel_rfl) (by kernel_rfl), conv_bI]
    exact bag_same ha rfl
  · rintro u ha _ rfl
    refine w_parts (F := fB) (l := [bI (97 + i)]) sty85 rfl (by decide) (by decide) (by kernel_rfl) rfl fun u' hb _ hm => ?_
    exact bag_below ha hb (hm.base ha.size)
  · rintro u ha v18 h18
    have hm8 : Mine fB 5 u w4.heap.size v18 [bI (97 + i)] := h18
    rw [w_toStr (e := 5) (by kernel_rfl) (by kernel_rfl) (by kernel_rfl) hm8.sl (by simp)]
    exact bag_same ha rfl
  · rintro u ha _ ⟨s, rfl, hss⟩ _ rfl
    rw [w_addStr (by have : (onB i).size = 1 := rfl; omega)]
    exact bag_same ha ⟨s, rfl, hss⟩
  · rintro u ha _ ⟨p, rfl, hp⟩ _ rfl _ ⟨c, rfl, hc⟩ _ ⟨s, rfl, hss⟩
    rw [b63]
    exact bag_same ha ⟨p, c, s, rfl, hp, hc, hss⟩
  · intro u ha
    refine al63 fun u' hb hsz hr => ?_
    exact bag_below ha hb ⟨_, _, rfl, ha.size, rfl, hr⟩
  · rintro u ha _ ⟨p, c, s, rfl, hp, hc, hss⟩ _ ⟨b, vs, rfl, hbb, h9, hr⟩
    refine sr63 (vs := rowI p c (s ++ onB i)) rfl hr h9 one9 fun u' ho hr' => ?_
    have hg : GoodRow w4.heap.size i u' b := ⟨hbb, p, c, s, hr', hp, hc, hss⟩
    exact ⟨⟨ha.trans (ho.rest _ hbb), ⟨_, b, rfl, hg⟩, PhI.row (Off.only ho rfl) (RowAt.tag hr) hg⟩⟩)
end
end Go.Proofs.YtfkfkldhcignbaaGreatDoor
/- Feeds: Valid, given; the reference's. -/
set_option linter.unusedSimpArgs false
set_option linter.unusedVariables false
set_option maxRecDepth 4000
namespace Go.Proofs.YtfkfkldhcignbaaGreatDoor
open Go Go.V Go.RowKit
def okIts (xs : List ItW) : Prop := xs.length ≤ maxLen ∧ ∀ x ∈ xs, okLab x.lab
def okMs (ms : List Mom) : Prop := ms.length ≤ maxLen ∧ ∀ m ∈ ms, okMom m
def ValidIts (xs : List ItW) : Prop := xs.length ≤ 12 ∧ ∀ x ∈ xs, ValidIt x
def GivenP (xs : List ItW) (r : Rdr) (ms : List Mom) : Prop := ValidIts xs ∧ (0 ≤ r.1 ∧ r.1 ≤ 7) ∧ (0 ≤ r.2 ∧ r.2 ≤ 7) ∧ ms.length ≤ 40 ∧ ∀ m ∈ ms, ValidMom m
noncomputable def bOf (P : Prop) : Bool := @decide P (Classical.propDecidable P)
theorem bOf_iff {P : Prop} : bOf P = true ↔ P := @decide_eq_true_iff P (Classical.propDecidable P)
theorem bOf_eq {P : Prop} {b : Bool} (h : b = true ↔ P) : b = bOf P := by
  cases b with
  | true => exact (bOf_iff.2 (h.1 rfl)).symm
  | false =>
    cases hb : bOf P with
    | false => rfl
    | true => have := h.2 (bOf_iff.1 hb); cases this
section
variable {k : Value → World → Prop} {w : World} {α : Type} {F : Fl α} {l : List α} {t e : Nat} {s f : Value}
theorem idxFI {el : α → Value} {p : Nat → Bool} (hR : Rd t e F el) (hs : IsSl F w s l) (hl : l.length ≤ maxLen) (hf : ∀ (i : Nat) x, l[i]? = some x → Asks f w (el x) (p i)) (hk : ∀ r w', Below w.heap.size w w' → (0 ≤ r ↔ ∃ i, i < l.length ∧ p i = true) → k (I r) w') : IdxFS t e s f k w := by
  unfold IdxFS
  have hml : maxLen ≤ 9223372036854775807 := by decide
  rw [hR.len hs]
  refine Loop1.intro (fun n a w' => ∃ i : Nat, a = I i ∧ i ≤ l.length ∧ n = l.length - i ∧ Below w.heap.size w w' ∧ ∀ j, j < i → p j = false) _ ⟨0, rfl, by omega, rfl, Below.refl _ _, by omega⟩ ?_
  rintro n _ w1 ⟨i, rfl, hi, rfl, hb1, hP⟩
  rw [w_lss]
  by_cases hlt : i < l.length
  case' neg =>
    rw [decide_eq_false (by omega), condW_false]
    refine hk _ _ hb1 ⟨(by omega), fun ⟨j, hj, hp⟩ => ?_⟩
    rw [hP j (by omega)] at hp; cases hp
  rw [decide_eq_true (by omega), condW_true]
  obtain ⟨x, hx⟩ : ∃ x, l[i]? = some x := ⟨_, List.getElem?_eq_getElem hlt⟩
  rw [hR.get (hs.below hb1) hx]
  refine hf i x hx w1 _ hb1 fun w2 hb2 => ?_
  have hb02 := below_trans hb1 hb2
  cases hpx : p i with
  | true =>
    rw [condW_true]
    exact hk _ _ hb02 ⟨fun _ => ⟨i, hlt, hpx⟩, fun _ => by omega⟩
  | false =>
    rw [condW_false, w_add, wrap_id (by omega), loopK_self]
    refine ⟨l.length - (i + 1), by omega, i + 1, by simp [I], by omega, rfl, hb02, fun j hj => ?_⟩
    by_cases hji : j = i
    · subst hji; exact hpx
    · exact hP j (by omega)
end
section
variable {k : Value → World → Prop} {w : World}
theorem rd24 : Rd 24 63 (fR 9) (fun r => agR r) := ⟨fun hs => len24 hs, fun hs hx => ga24 (F := fR 9) rfl hs (by omega) (by simpa using hx)⟩
theorem rd33 : Rd 33 28 (fR 5) (fun r => agR r) := ⟨fun hs => len33 hs, fun hs hx => ga33 (F := fR 5) rfl hs (by omega) (by simpa using hx)⟩
theorem c49 {l : List (RawV 9)} {p : Nat → Bool} {s f : Value} (hs : IsSl (fR 9) w s l) (hl : l.length ≤ maxLen) (hf : ∀ (i : Nat) x, l[i]? = some x → Asks f w (agR x) (p i)) (hk : ∀ b w', Below w.heap.size w w' → (b = true ↔ ∃ i, i < l.length ∧ p i = true) → k (.bool b) w') : callW Tryz.prog (.func (.func 49) #[] #[]) #[s, f] k w := C49 _ _ _ _ (by
  unfold S49
  refine C89 _ _ _ _ (idxFI rd24 hs hl hf fun r w1 hb1 hr => ?_)
  rw [w_geq]
  exact hk _ _ hb1 (by rw [decide_eq_true_eq]; exact hr))
theorem c75 {l : List (RawV 5)} {p : Nat → Bool} {s f : Value} (hs : IsSl (fR 5) w s l) (hl : l.length ≤ maxLen) (hf : ∀ (i : Nat) x, l[i]? = some x → Asks f w (agR x) (p i)) (hk : ∀ b w', Below w.heap.size w w' → (b = true ↔ ∃ i, i < l.length ∧ p i = true) → k (.bool b) w') : callW Tryz.prog (.func (.func 75) #[] #[]) #[s, f] k w := C75 _ _ _ _ (by
  unfold S75
  refine C108 _ _ _ _ (idxFI rd33 hs hl hf fun r w1 hb1 hr => ?_)
  rw [w_geq]
  exact hk _ _ hb1 (by rw [decide_eq_true_eq]; exact hr))
theorem c46 {n lo hi : Int} (hk : k (.bool (decide (lo ≤ n ∧ n ≤ hi))) w) : callW Tryz.prog (.func (.func 46) #[] #[]) #[I n, I lo, I hi] k w := C46 _ _ _ _ _ (by
  unfold S46
  rw [w_leq]
  by_cases h : lo ≤ n
  · rw [decide_eq_true h]
    simp only [guardW_tt]
    rw [w_leq, pickW_true]
    rwa [show decide (lo ≤ n ∧ n ≤ hi) = decide (n ≤ hi) by simp [h]] at hk
  · rw [decide_eq_false h]
    simp only [guardW_ft, guardW_u, pickW_false]
    rwa [show decide (lo ≤ n ∧ n ≤ hi) = false by simp [h]] at hk)
theorem c74 {n : Int} (hk : k (.bool (decide (0 ≤ n ∧ n ≤ 7))) w) : callW Tryz.prog (.func (.func 74) #[] #[]) #[I n] k w := C74 _ _ _ (by
  unfold S74
  rw [w_geq]
  by_cases h : 0 ≤ n
  · rw [decide_eq_true h]
    simp only [guardW_tt]
    rw [w_lss, pickW_true]
    rwa [show decide (0 ≤ n ∧ n ≤ 7) = decide (n < 8) by rw [decide_eq_decide]; omega] at hk
  · rw [decide_eq_false h]
    simp only [guardW_ft, guardW_u, pickW_false]
    rwa [show decide (0 ≤ n ∧ n ≤ 7) = false by simp [h]] at hk)
theorem cells_lab {w : World} {b : Nat} {x : ItW} {e c q : Value} (hr : RowAt w b 63 (itemL x e c q)) : Cells w b 1 [I x.lab.til, e, c, I x.lab.terr, I x.lab.cls, q] := fun j u hu => by
  have hlt := (List.getElem?_eq_some_iff.1 hu).1
  simp at hlt
  refine hr.cell (i := 1 + j) ?_
  unfold itemL
  match j, hlt, hu with
  | 0, _, hu | 1, _, hu | 2, _, hu | 3, _, hu | 4, _, hu | 5, _, hu => simpa using hu
theorem itLab {w : World} {x : ItW} {e c q : Value} (h1 : IsSl fI w e x.lab.ev) (h2 : IsSl fC w c x.lab.ct) (h3 : LocksV w q x.lab.locks) : LabV w (.agg ([I x.lab.til, e, c, I x.lab.terr, I x.lab.cls, q] : List Value).toArray) x.lab := ⟨e, c, q, rfl, h1, h2, h3⟩
theorem c47 {v : Value} {x : ItW} {p : Nat} (h : ItemV w v x) (hok : okLab x.lab) (hp : RowAt w p 101 [fv 46]) (hk : ∀ w', Below w.heap.size w w' → k (.bool (!bOf (ValidIt x))) w') : callW Tryz.prog (.func (.func 47) #[] #[.pointer (some ⟨p, 0, none⟩)]) #[v] k w := C47 _ _ _ _ (by
  unfold S47
  obtain ⟨e, c, q, rfl, h1, h2, h3⟩ := id h
  refine w_boxN (v := .agg (itemL x e c q).toArray) fun w1 hb1 hsz1 hr1 => ?_
  replace hr1 : RowAt w1 w.heap.size 63 (itemL x e c q) := hr1
  replace hp := hp.below hb1
  have no : ∀ w', Below w.heap.size w w' → ¬ ValidIt x → k (.bool true) w' := fun w' hb hn => by
    have := hk w' hb
    rwa [← bOf_eq (b := false) ⟨(by intro h; cases h), fun h => absurd h hn⟩] at this
  rw [ld101 (hp.cell (i := 0) rfl), rw63_0 (hr1.cell (i := 0) rfl)]
  refine c46 ?_
  rw [w_not]
  by_cases a1 : 0 ≤ x.at' ∧ x.at' ≤ 50000000
  case' neg =>
    rw [decide_eq_false a1]
    simp only [Bool.not_false, guardW_tf, guardW_u, pickW_true]
    exact no _ hb1 fun h => a1 h.1
  rw [decide_eq_true a1]
  simp only [Bool.not_true, guardW_ff, pickW_false]
  rw [fl63_1, ld61 rfl (cells_lab hr1)]
  refine c48 (itLab (h1.below hb1) (h2.below hb1) (h3.below hb1)) hok fun b2 w2 hb2 hv2 => ?_
  have hb02 := below_trans hb1 hb2
  replace hr1 := hr1.below hb2
  replace hp := hp.below hb2
  rw [w_not]
  cases b2 with
  | false =>
    simp only [Bool.not_false, guardW_tf, guardW_u, pickW_true, pickW_false]
    exact no _ hb02 fun h => by have := hv2.2 h.2.1; cases this
  | true =>
  simp only [Bool.not_true, guardW_ff, pickW_false]
  rw [ld101 (hp.cell (i := 0) rfl), rw63_2 (hr1.cell (i := 0 + 7) rfl)]
  refine c46 ?_
  rw [w_not]
  by_cases a3 : 1 ≤ x.cls ∧ x.cls ≤ 3
  case' neg =>
    rw [decide_eq_false a3]
    simp only [Bool.not_false, guardW_tf, guardW_u, pickW_true, pickW_false]
    exact no _ hb02 fun h => a3 h.2.2.1
  rw [decide_eq_true a3]
  simp only [Bool.not_true, guardW_ff, pickW_false]
  rw [ld101 (hp.cell (i := 0) rfl), rw63_3 (hr1.cell (i := 0 + 8) rfl), w_lenStr (by kernel_rfl)]
  refine c46 ?_
  rw [w_not]
  have hfin := hk w2 hb02
  rwa [show (!bOf (ValidIt x)) = !decide ((1 : Int) ≤ x.text.size ∧ (x.text.size : Int) ≤ 60) by
    rw [← bOf_eq (b := decide ((1 : Int) ≤ x.text.size ∧ (x.text.size : Int) ≤ 60))]
    rw [decide_eq_true_eq]
    exact ⟨fun h => ⟨a1, hv2.1 rfl, a3, by omega⟩, fun h => by have := h.2.2.2; omega⟩] at hfin)
theorem c76 {v : Value} {m : Mom} (h : MomV w v m) (hok : okMom m) (hk : ∀ w', Below w.heap.size w w' → k (.bool (!bOf (ValidMom m))) w') : callW Tryz.prog (.func (.func 76) #[] #[]) #[v] k w := C76 _ _ _ (by
  unfold S76
  obtain ⟨e, c, q, rfl, h1, h2, h3⟩ := id h
  refine w_boxN (v := .agg #[I m.now, I m.drift, e, c, q]) fun w1 hb1 hsz1 hr1 => ?_
  replace hr1 : RowAt w1 w.heap.size 28 [I m.now, I m.drift, e, c, q] := hr1
  rw [ld28 rfl hr1.cells]
  refine c77 (h.below hb1) hok fun b w2 hb2 hb => ?_
  rw [w_not, bOf_eq hb]
  exact hk _ (below_trans hb1 hb2))
theorem c19 {v : Value} {xs : List ItW} (h : ItemsV w v xs) (hok : okIts xs) (hk : ∀ b w', Below w.heap.size w w' → (b = true ↔ ValidIts xs) → k (.bool b) w') : callW Tryz.prog (.func (.func 19) #[] #[]) #[v] k w := C19 _ _ _ (by
  unfold S19
  obtain ⟨rs, hs, hx⟩ := h
  have hl := hx.1
  refine al101 fun w1 hb1 hsz1 hr1 => ?_
  rw [st101 rfl (hr1.cell (i := 0) rfl) (hr1.free _)]
  have hr2 := hr1.set 0 (fv 46)
  have hb2 : Below w.heap.size w (w1.setCell ⟨w.heap.size, 0, none⟩ (fv 46)) := hb1.setCell (Nat.le_refl _) _
  replace hr2 : RowAt (w1.setCell ⟨w.heap.size, 0, none⟩ (fv 46)) w.heap.size 101 [fv 46] := hr2
  generalize w1.setCell ⟨w.heap.size, 0, none⟩ (fv 46) = w2 at *
  rw [w_makeFunc, len24 (hs.below hb2), w_leq]
  by_cases h12 : rs.length ≤ 12
  case' neg =>
    rw [decide_eq_false (by omega)]
    simp only [guardW_ft, guardW_u, pickW_false]
    exact hk false _ hb2 (iffF fun h => h12 (by rw [hl]; exact h.1))
  rw [decide_eq_true (by omega)]
  simp only [guardW_tt]
  have hml : 1000000 ≤ maxLen := by decide
  refine c49 (p := fun i => match xs[i]? with | some x => !bOf (ValidIt x) | none => false) (hs.below hb2) (by omega) (fun i r hr => ?_) fun b w3 hb3 hb => ?_
  · obtain ⟨x, hxi⟩ : ∃ x, xs[i]? = some x := ⟨_, List.getElem?_eq_getElem (by have := (List.getElem?_eq_some_iff.1 hr).1; omega)⟩
    rw [hxi]
    exact fun w4 k4 ha4 hk4 => c47 (((hx.2 i r x hr hxi).below hb2).below ha4) (hok.2 x (List.mem_of_getElem? hxi)) (hr2.below ha4) hk4
  · rw [w_not, pickW_true]
    refine hk _ _ (below_trans hb2 hb3) ?_
    cases b with
    | true =>
      refine iffF fun h => ?_
      obtain ⟨i, hi, hp⟩ := hb.1 rfl
      obtain ⟨x, hxi⟩ : ∃ x, xs[i]? = some x := ⟨_, List.getElem?_eq_getElem (by omega)⟩
      rw [hxi] at hp
      have := bOf_iff.2 (h.2 x (List.mem_of_getElem? hxi))
      simp [this] at hp
    | false =>
      refine iffT ⟨by omega, fun x hxm => ?_⟩
      obtain ⟨i, hi, rfl⟩ := List.getElem_of_mem hxm
      apply Classical.byContradiction
      intro hn
      have hf : bOf (ValidIt xs[i]) = false := (bOf_eq (b := false) ⟨(by intro h; cases h), fun h => absurd h hn⟩).symm
      have := hb.2 ⟨i, by omega, by rw [List.getElem?_eq_getElem hi]; simp [hf]⟩
      cases this)
theorem c41 {u v z : Value} {xs : List ItW} {r : Rdr} {ms : List Mom} (h : ItemsV w u xs) (hr : RdrV v r) (hm : MomsV w z ms) (hok : okIts xs) (hom : okMs ms) (hk : ∀ b w', Below w.heap.size w w' → (b = true ↔ GivenP xs r ms) → k (.bool b) w') : callW Tryz.prog (.func (.func 41) #[] #[]) #[u, v, z] k w := C41 _ _ _ _ _ (by
  unfold S41
  cases hr
  obtain ⟨rs, hs, hx⟩ := id hm
  have hl := hx.1
  have hml : maxLen ≤ 9223372036854775807 := by decide
  have hol := hom.1
  refine w_boxN (v := .agg #[I r.1, I r.2]) fun w1 hb1 hsz1 hr1 => ?_
  replace hr1 : RowAt w1 w.heap.size 30 [I r.1, I r.2] := hr1
  refine c19 (h.below hb1) hok fun b1 w2 hb2 hV => ?_
  have hb02 := below_trans hb1 hb2
  replace hr1 := hr1.below hb2
  cases b1 with
  | false =>
    simp only [guardW_ft, guardW_u, pickW_false]
    exact hk false _ hb02 (iffF fun h => by have := hV.2 h.1; cases this)
  | true =>
  simp only [guardW_tt]
  rw [rw30_0 (hr1.cell (i := 0) rfl)]
  refine c74 ?_
  simp only [pickW_true]
  by_cases a1 : 0 ≤ r.1 ∧ r.1 ≤ 7
  case' neg =>
    rw [decide_eq_false a1]
    simp only [guardW_ft, guardW_u, pickW_false]
    exact hk false _ hb02 (iffF fun h => a1 h.2.1)
  rw [decide_eq_true a1]
  simp only [guardW_tt]
  rw [rw30_1 (hr1.cell (i := 1) rfl)]
  refine c74 ?_
  simp only [pickW_true]
  by_cases a2 : 0 ≤ r.2 ∧ r.2 ≤ 7
  case' neg =>
    rw [decide_eq_false a2]
    simp only [guardW_ft, guardW_u, pickW_false]
    exact hk false _ hb02 (iffF fun h => a2 h.2.2.1)
  rw [decide_eq_true a2]
  simp only [guardW_tt]
  rw [len33 (hs.below hb02), w_leq]
  simp only [pickW_true]
  by_cases a3 : rs.length ≤ 40
  case' neg =>
    rw [decide_eq_false (by omega)]
    simp only [guardW_ft, guardW_u, pickW_false]
    exact hk false _ hb02 (iffF fun h => a3 (by rw [hl]; exact h.2.2.2.1))
  rw [decide_eq_true (by omega)]
  simp only [guardW_tt]
  refine c75 (p := fun i => match ms[i]? with | some m => !bOf (ValidMom m) | none => false) (hs.below hb02) (by omega) (fun i r' hr' => ?_) fun b w3 hb3 hb => ?_
  · obtain ⟨m, hmi⟩ : ∃ m, ms[i]? = some m := ⟨_, List.getElem?_eq_getElem (by have := (List.getElem?_eq_some_iff.1 hr').1; omega)⟩
    rw [hmi]
    exact fun w4 k4 ha4 hk4 => c76 (((hx.2 i r' m hr' hmi).below hb02).below ha4) (hom.2 m (List.mem_of_getElem? hmi)) hk4
  · rw [w_not]
    simp only [pickW_true]
    refine hk _ _ (below_trans hb02 hb3) ?_
    cases b with
    | true =>
      refine iffF fun h => ?_
      obtain ⟨i, hi, hp⟩ := hb.1 rfl
      obtain ⟨x, hxi⟩ : ∃ x, ms[i]? = some x := ⟨_, List.getElem?_eq_getElem (by omega)⟩
      rw [hxi] at hp
      have := bOf_iff.2 (h.2.2.2.2 x (List.mem_of_getElem? hxi))
      simp [this] at hp
    | false =>
      refine iffT ⟨hV.1 rfl, a1, a2, by omega, fun x hxm => ?_⟩
      obtain ⟨i, hi, rfl⟩ := List.getElem_of_mem hxm
      apply Classical.byContradiction
      intro hn
      have hf : bOf (ValidMom ms[i]) = false := (bOf_eq (b := false) ⟨(by intro h; cases h), fun h => absurd h hn⟩).symm
      have := hb.2 ⟨i, by omega, by rw [List.getElem?_eq_getElem hi]; simp [hf]⟩
      cases this)
end
end Go.Proofs.YtfkfkldhcignbaaGreatDoor
/- Feeds: the reference's Valid and given. -/
set_option linter.unusedSimpArgs false
set_option linter.unusedVariables false
set_option maxRecDepth 4000
namespace Go.Proofs.YtfkfkldhcignbaaGreatDoor
open Go Go.V Go.RowKit
section
variable {k : Value → World → Prop} {w : World}
theorem ItemV.one {w : World} {r : RawV 9} {x : ItW} (h : ItemV w (agR r) x) : ∃ e c q, r.1 = itemL x e c q ∧ IsSl fI w e x.lab.ev ∧ IsSl fC w c x.lab.ct ∧ LocksV w q x.lab.locks := by
  obtain ⟨e, c, q, h0, h1⟩ := h
  exact ⟨e, c, q, by unfold agR at h0; simpa using h0, h1⟩
theorem c20 {v : Value} {xs : List ItW} (h : ItemsV w v xs) (hok : okIts xs) (hk : ∀ b w', Below w.heap.size w w' → (b = true ↔ ValidIts xs) → k (.bool b) w') : callW Tryz.prog (.func (.func 20) #[] #[]) #[v] k w := C20 _ _ _ (by
  unfold S20
  obtain ⟨rs, hs, hx⟩ := h
  have hl := hx.1
  have hml : maxLen ≤ 9223372036854775807 := by decide
  have hol := hok.1
  refine Loop1.intro (fun n a w' => ∃ i : Nat, a = I i ∧ i ≤ xs.length ∧ i ≤ 13 ∧ n = xs.length - i ∧ Below w.heap.size w w' ∧ ∀ x ∈ xs.take i, ValidIt x) _ ⟨0, rfl, by omega, by omega, rfl, Below.refl _ _, by simp⟩ ?_
  rintro n _ w1 ⟨i, rfl, hi, hi13, rfl, hb1, hP⟩
  rw [len24 (hs.below hb1), w_lss]
  have fin : ¬ (i < xs.length ∧ i < 13) → opW Tryz.prog (Builtin.len_ #[24] 3 #[v]) (fun t w => opW Tryz.prog (binS BinOp.leq 3 (Operand.tmp 56) (Operand.const (I 12)) t (I 12)) (fun t57_47 w => k t57_47 w) w) w1 := fun hn => by
    rw [len24 (hs.below hb1), w_leq]
    refine hk _ _ hb1 ?_
    rw [decide_eq_true_eq]
    constructor
    · intro h12
      refine ⟨by omega, ?_⟩
      rw [List.take_of_length_le (by omega)] at hP
      exact hP
    · intro h; have := h.1; omega
  by_cases hlt : i < xs.length
  case' neg =>
    rw [decide_eq_false (by omega)]
    simp only [guardW_ft, guardW_u, pickW_false, condW_false]
    exact fin (by omega)
  rw [decide_eq_true (by omega)]
  simp only [guardW_tt]
  rw [w_lss]
  simp only [pickW_true]
  by_cases hlt13 : i < 13
  case' neg =>
    rw [decide_eq_false (by omega), condW_false]
    exact fin (by omega)
  rw [decide_eq_true (by omega), condW_true]
  clear fin
  obtain ⟨x, hxi⟩ : ∃ x, xs[i]? = some x := ⟨_, List.getElem?_eq_getElem hlt⟩
  obtain ⟨r, hri⟩ : ∃ r, rs[i]? = some r := ⟨_, List.getElem?_eq_getElem (by omega)⟩
  have hxm := List.mem_of_getElem? hxi
  obtain ⟨e, c, q, hr0, he, hc, hq⟩ := (hx.2 i r x hri hxi).one
  rw [ga24 (F := fR 9) rfl (hs.below hb1) (by omega) (by simpa using hri)]
  refine w_var (vs := r.1) hz63 (by rw [zc63, r.2.1]; rfl) r.2.2 (by rw [size63, r.2.1]) known63 fun w2 hb2 hsz2 hr2 => ?_
  rw [hr0] at hr2
  have hb02 := below_trans hb1 hb2
  rw [rw63_0 (hr2.cell (i := 0) rfl), w_lss]
  by_cases a1 : x.at' < 0
  · rw [decide_eq_true a1]
    simp only [guardW_tf, guardW_u, pickW_true, pickW_false, condW_true]
    exact hk false _ hb02 (iffF fun h => by have := (h.2 x hxm).1; omega)
  rw [decide_eq_false a1]
  simp only [guardW_ff]
  rw [rw63_0 (hr2.cell (i := 0) rfl), w_gtr]
  simp only [pickW_false]
  by_cases a2 : 50000000 < x.at'
  · rw [decide_eq_true a2]
    simp only [guardW_tf, guardW_u, pickW_true, pickW_false, condW_true]
    exact hk false _ hb02 (iffF fun h => by have := (h.2 x hxm).1; omega)
  rw [decide_eq_false a2]
  simp only [guardW_ff]
  rw [fl63_1, ld61 rfl (cells_lab hr2)]
  refine c50 (itLab (he.below hb02) (hc.below hb02) (hq.below hb02)) (hok.2 x hxm) fun b3 w3 hb3 hv3 => ?_
  have hb03 := below_trans hb02 hb3
  have hb13 := below_trans hb2 hb3
  replace hr2 := hr2.below hb3
  rw [w_not]
  simp only [pickW_false]
  cases b3 with
  | false =>
    simp only [Bool.not_false, guardW_tf, guardW_u, pickW_true, pickW_false, condW_true]
    exact hk false _ hb03 (iffF fun h => by have := hv3.2 (h.2 x hxm).2.1; cases this)
  | true =>
  simp only [Bool.not_true, guardW_ff]
  rw [rw63_2 (hr2.cell (i := 0 + 7) rfl), w_lss]
  simp only [pickW_false]
  by_cases a3 : x.cls < 1
  · rw [decide_eq_true a3]
    simp only [guardW_tf, guardW_u, pickW_true, pickW_false, condW_true]
    exact hk false _ hb03 (iffF fun h => by have := (h.2 x hxm).2.2.1; omega)
  rw [decide_eq_false a3]
  simp only [guardW_ff]
  rw [rw63_2 (hr2.cell (i := 0 + 7) rfl), w_gtr]
  simp only [pickW_false]
  by_cases a4 : 3 < x.cls
  · rw [decide_eq_true a4]
    simp only [guardW_tf, guardW_u, pickW_true, pickW_false, condW_true]
    exact hk false _ hb03 (iffF fun h => by have := (h.2 x hxm).2.2.1; omega)
  rw [decide_eq_false a4]
  simp only [guardW_ff]
  rw [rw63_3 (hr2.cell (i := 0 + 8) rfl), w_lenStr (by kernel_rfl), w_lss]
  simp only [pickW_false]
  by_cases a5 : (x.text.size : Int) < 1
  · rw [decide_eq_true a5]
    simp only [guardW_tf, guardW_u, pickW_true, pickW_false, condW_true]
    exact hk false _ hb03 (iffF fun h => by have := (h.2 x hxm).2.2.2; omega)
  rw [decide_eq_false a5]
  simp only [guardW_ff]
  rw [rw63_3 (hr2.cell (i := 0 + 8) rfl), w_lenStr (by kernel_rfl), w_gtr]
  simp only [pickW_false]
  by_cases a6 : 60 < (x.text.size : Int)
  · rw [decide_eq_true a6, condW_true]
    exact hk false _ hb03 (iffF fun h => by have := (h.2 x hxm).2.2.2; omega)
  rw [decide_eq_false a6, condW_false, w_add, wrap_id (by omega), loopK_self]
  refine ⟨xs.length - (i + 1), by omega, i + 1, by simp [I], by omega, by omega, rfl, hb03, fun y hy => ?_⟩
  rw [List.take_add_one, hxi] at hy
  rcases List.mem_append.1 hy with h | h
  · exact hP y h
  · simp at h
    subst h
    exact ⟨by omega, hv3.1 rfl, by omega, by omega⟩)
theorem c44 {u v z : Value} {xs : List ItW} {r : Rdr} {ms : List Mom} (h : ItemsV w u xs) (hr : RdrV v r) (hm : MomsV w z ms) (hok : okIts xs) (hom : okMs ms) (hk : ∀ b w', Below w.heap.size w w' → (b = true ↔ GivenP xs r ms) → k (.bool b) w') : callW Tryz.prog (.func (.func 44) #[] #[]) #[u, v, z] k w := C44 _ _ _ _ _ (by
  unfold S44
  cases hr
  obtain ⟨rs, hs, hx⟩ := id hm
  have hl := hx.1
  have hml : maxLen ≤ 9223372036854775807 := by decide
  have hol := hom.1
  refine w_boxN (v := .agg #[I r.1, I r.2]) fun w1 hb1 hsz1 hr1 => ?_
  replace hr1 : RowAt w1 w.heap.size 30 [I r.1, I r.2] := hr1
  refine c20 (h.below hb1) hok fun b1 w2 hb2 hV => ?_
  have hb02 := below_trans hb1 hb2
  replace hr1 := hr1.below hb2
  rw [w_not]
  cases b1 with
  | false =>
    simp only [Bool.not_false, guardW_tf, guardW_u, pickW_true, condW_true]
    exact hk false _ hb02 (iffF fun h => by have := hV.2 h.1; cases this)
  | true =>
  simp only [Bool.not_true, guardW_ff]
  rw [rw30_0 (hr1.cell (i := 0) rfl), w_lss]
  simp only [pickW_false]
  by_cases a1 : r.1 < 0
  · rw [decide_eq_true a1]
    simp only [guardW_tf, guardW_u, pickW_true, condW_true]
    exact hk false _ hb02 (iffF fun h => by have := h.2.1; omega)
  rw [decide_eq_false a1]
  simp only [guardW_ff]
  rw [rw30_0 (hr1.cell (i := 0) rfl), w_gtr]
  simp only [pickW_false]
  by_cases a2 : 7 < r.1
  · rw [decide_eq_true a2]
    simp only [guardW_tf, guardW_u, pickW_true, condW_true]
    exact hk false _ hb02 (iffF fun h => by have := h.2.1; omega)
  rw [decide_eq_false a2]
  simp only [guardW_ff]
  rw [rw30_1 (hr1.cell (i := 1) rfl), w_lss]
  simp only [pickW_false]
  by_cases a3 : r.2 < 0
  · rw [decide_eq_true a3]
    simp only [guardW_tf, guardW_u, pickW_true, condW_true]
    exact hk false _ hb02 (iffF fun h => by have := h.2.2.1; omega)
  rw [decide_eq_false a3]
  simp only [guardW_ff]
  rw [rw30_1 (hr1.cell (i := 1) rfl), w_gtr]
  simp only [pickW_false]
  by_cases a4 : 7 < r.2
  · rw [decide_eq_true a4]
    simp only [guardW_tf, guardW_u, pickW_true, condW_true]
    exact hk false _ hb02 (iffF fun h => by have := h.2.2.1; omega)
  rw [decide_eq_false a4]
  simp only [guardW_ff]
  rw [len33 (hs.below hb02), w_gtr]
  simp only [pickW_false]
  by_cases a5 : 40 < rs.length
  · rw [decide_eq_true (by omega), condW_true]
    exact hk false _ hb02 (iffF fun h => by have := h.2.2.2.1; omega)
  rw [decide_eq_false (by omega), condW_false]
  refine Loop1.intro (fun n a w' => ∃ i : Nat, a = I i ∧ i ≤ ms.length ∧ n = ms.length - i ∧ Below w.heap.size w w' ∧ ∀ x ∈ ms.take i, ValidMom x) _ ⟨0, rfl, by omega, rfl, hb02, by simp⟩ ?_
  rintro n _ w3 ⟨i, rfl, hi, rfl, hb3, hP⟩
  rw [len33 (hs.below hb3), w_lss]
  by_cases hlt : i < ms.length
  case' neg =>
    rw [decide_eq_false (by omega), condW_false]
    rw [List.take_of_length_le (by omega)] at hP
    exact hk true _ hb3 (iffT ⟨hV.1 rfl, by omega, by omega, by omega, hP⟩)
  rw [decide_eq_true (by omega), condW_true]
  obtain ⟨m, hmi⟩ : ∃ x, ms[i]? = some x := ⟨_, List.getElem?_eq_getElem hlt⟩
  obtain ⟨r', hri⟩ : ∃ r, rs[i]? = some r := ⟨_, List.getElem?_eq_getElem (by omega)⟩
  have hmm := List.mem_of_getElem? hmi
  rw [ga33 (F := fR 5) rfl (hs.below hb3) (by omega) (by simpa using hri)]
  refine c83 ((hx.2 i r' m hri hmi).below hb3) (hom.2 m hmm) fun b4 w4 hb4 hv4 => ?_
  have hb04 := below_trans hb3 hb4
  rw [w_not]
  cases b4 with
  | false =>
    rw [Bool.not_false, condW_true]
    exact hk false _ hb04 (iffF fun h => by have := hv4.2 (h.2.2.2.2 m hmm); cases this)
  | true =>
    rw [Bool.not_true, condW_false, w_add, wrap_id (by omega), loopK_self]
    refine ⟨ms.length - (i + 1), by omega, i + 1, by simp [I], by omega, rfl, hb04, fun y hy => ?_⟩
    rw [List.take_add_one, hmi] at hy
    rcases List.mem_append.1 hy with h | h
    · exact hP y h
    · simp at h
      subst h
      exact hv4.1 rfl)
end
end Go.Proofs.YtfkfkldhcignbaaGreatDoor
/- Iterators that share rows with what they hand their values to. -/
set_option linter.unusedSimpArgs false
set_option linter.unusedVariables false
namespace Go.V
open Go Go.RowKit
/-- what an iterator hands its values to; Pre n g w a: the n-th call may come with a, where the rows X g are shared; Post n g w: what must hold of them then -/
structure YLawG {γ : Type} (P : Program) (wI : World) (yield : Value) (np : Nat) (Pre : Nat → γ → World → List Value → Prop) (Post : Nat → γ → World → Prop) (X : γ → Nat → Prop) (Inv : Nat → Bool → (Nat → Prop) → World → Prop) : Prop where
  stab : ∀ n b F w w' p, Inv n b F w → Off p w w' → (∀ b, F b → ¬ p b) → Inv n b F w'
  lt : ∀ n c F w b, Inv n c F w → F b → wI.heap.size ≤ b ∧ b < w.heap.size
  call : ∀ (n : Nat) (g : γ) (a : List Value) F w (kk : Value → World → Prop), Inv n true F w → Below wI.heap.size wI w → Pre n g w a → a.length = np → (∀ b, X g b → ¬ F b ∧ b < w.heap.size ∧ wI.heap.size ≤ b) →
    (∀ b F' w', Below wI.heap.size wI w' → Off (fun x => F x ∨ X g x) w w' → (∀ b, F' b → F b ∨ w.heap.size ≤ b) → Inv (n + 1) b F' w' → Post n g w' → kk (.bool b) w') → callW P yield ⟨a⟩ kk w
def IterLawG {γ : Type} (P : Program) (f : FuncId) (caps : Array Value) (np N : Nat) (Pre : Nat → γ → World → List Value → Prop) (Post : Nat → γ → World → Prop) (X : γ → Nat → Prop) (wI : World) (own : Nat → Prop) (w : World) : Prop :=
  ∀ yield Inv F0 k, YLawG P wI yield np Pre Post X Inv → (∀ b, own b → ¬ F0 b) → Inv 0 true F0 w → Below wI.heap.size wI w →
    (∀ n b F w', Below wI.heap.size wI w' → Inv n b F w' → (b = true → n = N) → k (.tuple #[]) w') → Calls P f (#[yield] ++ caps) w (retP k)
theorem range_ofG {γ : Type} {P : Program} {f : FuncId} {caps : Array Value} {np N : Nat} {Pre : Nat → γ → World → List Value → Prop} {Post : Nat → γ → World → Prop} {X : γ → Nat → Prop} {wI w : World} {own : Nat → Prop} {Inv : Nat → Option Code → (Nat → Prop) → World → Prop} {F0 : Nat → Prop}
    {B : Nat → (World → Prop) → (World → World) → List Value → World → (Option Code → World → Prop) → Prop} {Q : Nat → Option Code → World → Prop} (hf : callOk P f = true)
    (hi : ∀ w1, Below w.heap.size w w1 → IterLawG P f caps np N Pre Post X wI own w1) (hb : Below wI.heap.size wI w) (hown : ∀ b, own b → ¬ F0 b ∧ b < w.heap.size) (h0 : Inv 0 none F0 w)
    (stab : ∀ n j F w w' p, Inv n j F w → Off p w w' → (∀ b, F b → ¬ p b) → Inv n j F w') (lt : ∀ n j F w b, Inv n j F w → F b → wI.heap.size ≤ b ∧ b < w.heap.size)
    (pstab : ∀ n g w w' p, Post n g w → Off p w w' → (∀ b, X g b → ¬ p b) → Post n g w')
    (hB : ∀ (n : Nat) (g : γ) (a : List Value) F w' (d : Nat) (ready : World → Prop) (o : Obj) (kk : Option Code → World → Prop), Pre n g w' a → a.length = np → (∀ b, X g b → ¬ F b ∧ b < w'.heap.size ∧ wI.heap.size ≤ b) → Inv n none F w' → Below wI.heap.size wI w' → (∀ u, Below w'.heap.size w' u → ready u) → d < w'.heap.size → wI.heap.size ≤ d → ¬ F d → ¬ X g d →
      (∀ j F' u w'', Below w'.heap.size w' u → Below wI.heap.size wI w'' → Off (fun b => F b ∨ X g b ∨ w'.heap.size ≤ b) (u.putObj d o) w'' → (∀ b, F' b → F b ∨ w'.heap.size ≤ b) → Inv (n + 1) j F' w'' → Post n g w'' → kk j w'') → B d ready (fun w => w.putObj d o) a w' kk)
    (hQ : ∀ n j F w' d, (j = none → n = N) → Below wI.heap.size wI w' → Inv n j F w' → d < w'.heap.size → w.heap.size ≤ d → ¬ F d → w'.heap[d]? = some (.deferred (some [])) → Q d j w') :
    rangeW P (.func (.func f) #[] caps) np B Q w := by
  refine ⟨fun L hy => ?_⟩
  have hsz := hb.size
  let J : Nat → Bool → (Nat → Prop) → World → Prop := fun n b F w' => ∃ F' j, b = j.isNone ∧ (∀ b, F b ↔ F' b ∨ b = w.heap.size ∨ b = w.heap.size + 1) ∧ ¬ F' w.heap.size ∧ ¬ F' (w.heap.size + 1) ∧ w'.heap[w.heap.size]? = some (.deferred (some [])) ∧
    w'.heap[w.heap.size + 1]? = some (.loop (Loop.at L (if j.isNone then .ready else .done) j w.heap.size)) ∧ Inv n j F' w'
  have hJ : YLawG P wI (.func (.yield (w.heap.size + 1)) #[] #[]) np Pre Post X J := by
    constructor
    · rintro n b F u u' p ⟨F', j, hb', hF', n1, n2, hd, hr, hi'⟩ ho hp
      have l1 := (Array.getElem?_eq_some_iff.1 hd).1
      have l2 := (Array.getElem?_eq_some_iff.1 hr).1
      exact ⟨F', j, hb', hF', n1, n2, by rw [ho.block _ l1 (hp _ ((hF' _).2 (.inr (.inl rfl))))]; exact hd, by rw [ho.block _ l2 (hp _ ((hF' _).2 (.inr (.inr rfl))))]; exact hr, stab _ _ _ _ _ _ hi' ho fun b hb => hp b ((hF' b).2 (.inl hb))⟩
    · rintro n c F u b ⟨F', j, hb', hF', n1, n2, hd, hr, hi'⟩ hFb
      have l2 := (Array.getElem?_eq_some_iff.1 hr).1
      rcases (hF' b).1 hFb with h | h | h
      · exact lt _ _ _ _ _ hi' h
      · omega
      · omega
    · rintro n g a F u kk ⟨F', j, hb', hF', n1, n2, hd, hr, hi'⟩ hbu ha hal hX hkk
      cases j with
      | some j => cases hb'
      | none =>
      have l2 := (Array.getElem?_eq_some_iff.1 hr).1
      refine hy a u kk hal hr ?_
      have x1 : ¬ X g w.heap.size := fun h => (hX _ h).1 ((hF' _).2 (.inr (.inl rfl)))
      have x2 : ¬ X g (w.heap.size + 1) := fun h => (hX _ h).1 ((hF' _).2 (.inr (.inr rfl)))
      refine hB n g a F' u (w.heap.size + 1) _ _ _ ha hal (fun b hb => ⟨fun h => (hX b hb).1 ((hF' b).2 (.inl h)), (hX b hb).2⟩) hi' hbu (fun u' hu' => by rw [hu'.block _ l2]; exact hr) l2 (by omega) n2 x2 fun j F2 v u2 hv hb2 ho2 hF2 hi2 hpost => ?_
      have l1 := (Array.getElem?_eq_some_iff.1 hd).1
      have hvs := hv.size
      have hvd : v.heap[w.heap.size]? = some (.deferred (some [])) := by rw [hv.block _ l1]; exact hd
      have hd2 : u2.heap[w.heap.size]? = some (.deferred (some [])) := by rw [ho2.block _ (by simp; omega) (fun h => h.elim n1 fun h => h.elim x1 (by omega)), World.putObj_heap_other (by omega)]; exact hvd
      have hr2 : u2.heap[w.heap.size + 1]? = some (.loop (Loop.at L .busy none w.heap.size)) := by rw [ho2.block _ (by simp; omega) (fun h => h.elim n2 fun h => h.elim x2 (by omega)), World.putObj_heap_same (by omega)]
      refine ⟨hr2, ?_⟩
      have l3 := (Array.getElem?_eq_some_iff.1 hr2).1
      have hsz2 : v.heap.size ≤ u2.heap.size := by have := ho2.size; simpa using this
      have hn1 : ¬ F2 w.heap.size := fun h => by rcases hF2 _ h with h | h <;> first | exact n1 h | omega
      have hn2 : ¬ F2 (w.heap.size + 1) := fun h => by rcases hF2 _ h with h | h <;> first | exact n2 h | omega
      refine hkk j.isNone (fun b => F2 b ∨ b = w.heap.size ∨ b = w.heap.size + 1) _ (hb2.trans (below_putObj (by omega))) ?_ (fun b hb => ?_) ⟨F2, j, rfl, fun b => Iff.rfl, hn1, hn2, by rw [World.putObj_heap_other (by omega)]; exact hd2, World.putObj_heap_same l3, stab _ _ _ _ _ (fun b => b = w.heap.size + 1) hi2 (off_putObj rfl) fun b hb hh => hn2 (hh ▸ hb)⟩ (pstab _ _ _ _ (fun b => b = w.heap.size + 1) hpost (off_putObj rfl) fun b hb hh => x2 (hh ▸ hb))
      · refine ⟨by simp; omega, fun b hb hn => ?_⟩
        have hne : b ≠ w.heap.size + 1 := fun hh => hn (.inl ((hF' b).2 (.inr (.inr hh))))
        rw [World.putObj_heap_other (by omega), ho2.block _ (by simp; omega) (fun h => h.elim (fun h => hn (.inl ((hF' b).2 (.inl h)))) fun h => h.elim (fun h => hn (.inr h)) (by omega)), World.putObj_heap_other (by omega), hv.block _ hb]
      · rcases hb with h | h
        · rcases hF2 b h with h | h
          · exact .inl ((hF' b).2 (.inl h))
          · exact .inr h
        · exact .inl ((hF' b).2 (.inr h))
  have hw1 : Below w.heap.size w ((w.alloc (.deferred (some []))).alloc (.loop (Loop.at L .ready none w.heap.size))) := ((Below.refl _ _).alloc (Nat.le_refl _) _).trans (Below.alloc (Below.refl _ _) (by simp) _)
  refine enterW_calls hf ?_
  have hlt0 := fun b hb => (lt 0 none F0 w b h0 hb).2
  refine hi _ hw1 _ J (fun b => F0 b ∨ b = w.heap.size ∨ b = w.heap.size + 1) _ hJ (fun b hb' hh => ?_) ⟨F0, none, rfl, fun b => Iff.rfl, fun h => ?_, fun h => ?_, ?_, ?_, stab _ _ _ _ _ (fun _ => False) h0 (Off.below hw1) fun _ _ => id⟩ (hb.trans (hw1.mono hsz)) fun n b F w3 hb3 hinv hn => ?_
  · have := hown b hb'
    rcases hh with h | h | h
    · exact this.1 h
    · omega
    · omega
  · have := hlt0 _ h; omega
  · have := hlt0 _ h; omega
  · rw [Below.heap_alloc _ _ _ (by simp), World.alloc_heap_new]
  · rw [show w.heap.size + 1 = (w.alloc (.deferred (some []))).heap.size by simp, World.alloc_heap_new]; rfl
  · obtain ⟨F', j, hb', hF', n1, n2, hd, hr, hi'⟩ := hinv
    have l1 := (Array.getElem?_eq_some_iff.1 hd).1
    refine ⟨_, j, by cases j <;> simp, hr, ?_⟩
    exact hQ n j F' _ _ (fun hj => hn (by rw [hb', hj]; rfl)) (hb3.trans (below_putObj (by omega))) (stab _ _ _ _ _ (fun b => b = w.heap.size + 1) hi' (off_putObj rfl) fun b hb hh => n2 (hh ▸ hb)) (by simpa using l1) (Nat.le_refl _) n1 (by rw [World.putObj_heap_other (by omega)]; exact hd)
end Go.V
/- Feeds: slots, what is ready and open in one. -/
set_option linter.unusedSimpArgs false
set_option linter.unusedVariables false
set_option maxRecDepth 4000
namespace Go.Proofs.YtfkfkldhcignbaaGreatDoor
open Go Go.V Go.RowKit
def OpensP (x : ItW) (r : Rdr) (m : Mom) : Prop := x.at' ≤ m.now ∧ OpenP x.lab r m
/-- the slot in which an item is released, looking at the first n slots; -1 if there is none -/
noncomputable def relN (x : ItW) (r : Rdr) (ms : List Mom) : Nat → Int
  | 0 => -1
  | n + 1 => if 0 ≤ relN x r ms n then relN x r ms n else match ms[n]? with
    | some m => if bOf (OpensP x r m) = true then (n : Int) else -1
    | none => -1
def itLs (w : World) (x : ItW) (e c q : Value) : Prop := IsSl fI w e x.lab.ev ∧ IsSl fC w c x.lab.ct ∧ LocksV w q x.lab.locks
theorem itLs.below {w w' : World} {x : ItW} {e c q : Value} (h : itLs w x e c q) (hb : Below w.heap.size w w') : itLs w' x e c q := ⟨h.1.below hb, h.2.1.below hb, h.2.2.below hb⟩
def slotL (k : Nat) (m : Mom) (e c q : Value) (r : Rdr) : List Value := [I k, I m.now, I m.drift, e, c, q, I r.1, I r.2]
def SlotV (w : World) (v : Value) (k : Nat) (m : Mom) (r : Rdr) : Prop := ∃ e c q, v = .agg (slotL k m e c q r).toArray ∧ IsSl fI w e m.ev ∧ IsSl fC w c m.conf ∧ IsSl fI w q m.keys
/-- an item on its way: its row b -/
def PendR (wI w : World) (b : Nat) (x : ItW) (i : Nat) (rel : Int) (snt : Bool) : Prop := ∃ e c q, RowAt w b 98 (itemL x e c q ++ [I i, I rel, .bool snt]) ∧ itLs wI x e c q
theorem PendR.off {wI w w' : World} {b : Nat} {x : ItW} {i : Nat} {rel : Int} {snt : Bool} {p : Nat → Prop} (h : PendR wI w b x i rel snt) (ho : Off p w w') (hp : ¬ p b) : PendR wI w' b x i rel snt := by
  obtain ⟨e, c, q, h1, h2⟩ := h
  exact ⟨e, c, q, h1.off ho hp, h2⟩
theorem PendR.below {wI w w' : World} {b : Nat} {x : ItW} {i : Nat} {rel : Int} {snt : Bool} (h : PendR wI w b x i rel snt) (hb : Below w.heap.size w w') : PendR wI w' b x i rel snt := by
  obtain ⟨e, c, q, h1, h2⟩ := h
  exact ⟨e, c, q, h1.below hb, h2⟩
theorem PendR.tag {wI w : World} {b : Nat} {x : ItW} {i : Nat} {rel : Int} {snt : Bool} (h : PendR wI w b x i rel snt) : Tag w b 98 := by
  obtain ⟨e, c, q, h1, h2⟩ := h
  exact RowAt.tag h1
def PendAll (wI w : World) (bs : List Nat) (xs : List ItW) (rel : Nat → Int) (snt : Nat → Bool) : Prop := bs.length = xs.length ∧ bs.Nodup ∧ ∀ (i : Nat) b x, bs[i]? = some b → xs[i]? = some x → wI.heap.size ≤ b ∧ PendR wI w b x i (rel i) (snt i)
theorem PendAll.off {wI w w' : World} {bs : List Nat} {xs : List ItW} {rel : Nat → Int} {snt : Nat → Bool} {p : Nat → Prop} (h : PendAll wI w bs xs rel snt) (ho : Off p w w') (hp : ∀ b ∈ bs, ¬ p b) : PendAll wI w' bs xs rel snt :=
  ⟨h.1, h.2.1, fun i b x h1 h2 => ⟨(h.2.2 i b x h1 h2).1, (h.2.2 i b x h1 h2).2.off ho (hp b (List.mem_of_getElem? h1))⟩⟩
theorem PendAll.below {wI w w' : World} {bs : List Nat} {xs : List ItW} {rel : Nat → Int} {snt : Nat → Bool} (h : PendAll wI w bs xs rel snt) (hb : Below w.heap.size w w') : PendAll wI w' bs xs rel snt :=
  ⟨h.1, h.2.1, fun i b x h1 h2 => ⟨(h.2.2 i b x h1 h2).1, (h.2.2 i b x h1 h2).2.below hb⟩⟩
theorem PendAll.tag {wI w : World} {bs : List Nat} {xs : List ItW} {rel : Nat → Int} {snt : Nat → Bool} (h : PendAll wI w bs xs rel snt) : ∀ b ∈ bs, Tag w b 98 := fun b hb => by
  obtain ⟨i, hi, rfl⟩ := List.getElem_of_mem hb
  exact (h.2.2 i _ _ (List.getElem?_eq_getElem hi) (List.getElem?_eq_getElem (by rw [← h.1]; exact hi))).2.tag
theorem PendAll.ge {wI w : World} {bs : List Nat} {xs : List ItW} {rel : Nat → Int} {snt : Nat → Bool} (h : PendAll wI w bs xs rel snt) : ∀ b ∈ bs, wI.heap.size ≤ b := fun b hb => by
  obtain ⟨i, hi, rfl⟩ := List.getElem_of_mem hb
  exact (h.2.2 i _ _ (List.getElem?_eq_getElem hi) (List.getElem?_eq_getElem (by rw [← h.1]; exact hi))).1
theorem nodup_inj {l : List Nat} (h : l.Nodup) {i j b : Nat} (hi : l[i]? = some b) (hj : l[j]? = some b) : i = j := by
  obtain ⟨l1, e1⟩ := List.getElem?_eq_some_iff.1 hi
  obtain ⟨l2, e2⟩ := List.getElem?_eq_some_iff.1 hj
  have hp := List.pairwise_iff_getElem.1 h
  rcases Nat.lt_trichotomy i j with h' | h' | h'
  · exact absurd (e1.trans e2.symm) (hp i j l1 l2 h')
  · exact h'
  · exact absurd (e2.trans e1.symm) (hp j i l2 l1 h')
/-- one row is set anew -/
theorem PendAll.set {wI w w' : World} {bs : List Nat} {xs : List ItW} {rel rel' : Nat → Int} {snt snt' : Nat → Bool} {j b : Nat} {x : ItW} (h : PendAll wI w bs xs rel snt) (ho : Off (fun y => y = b) w w') (hj : bs[j]? = some b) (hxj : xs[j]? = some x) (hr : PendR wI w' b x j (rel' j) (snt' j)) (hrel : ∀ i, i ≠ j → rel' i = rel i) (hsnt : ∀ i, i ≠ j → snt' i = snt i) : PendAll wI w' bs xs rel' snt' := by
  refine ⟨h.1, h.2.1, fun i b' x' h1 h2 => ?_⟩
  obtain ⟨q1, q2⟩ := h.2.2 i b' x' h1 h2
  refine ⟨q1, ?_⟩
  by_cases hij : i = j
  · subst hij
    rw [hj] at h1; cases h1
    rw [hxj] at h2; cases h2
    exact hr
  · have hne : b' ≠ b := fun hh => by
      subst hh
      exact hij (nodup_inj h.2.1 h1 hj)
    rw [hrel i hij, hsnt i hij]
    exact q2.off ho hne
def fP : Fl Nat := ⟨1, fun b => [.pointer (some ⟨b, 0, none⟩)], fun _ => rfl⟩
theorem cells_it {w : World} {b i : Nat} {x : ItW} {e c q : Value} {rel : Int} {snt : Bool} (hr : RowAt w b 98 (itemL x e c q ++ [I i, I rel, .bool snt])) : Cells w b 1 [I x.lab.til, e, c, I x.lab.terr, I x.lab.cls, q] := fun j u hu => by
  have hlt := (List.getElem?_eq_some_iff.1 hu).1
  simp at hlt
  refine hr.cell (i := 1 + j) ?_
  unfold itemL
  match j, hlt, hu with
  | 0, _, hu | 1, _, hu | 2, _, hu | 3, _, hu | 4, _, hu | 5, _, hu => simpa using hu
section
variable {k : Value → World → Prop} {w wI : World}
theorem c109 {s : Value} {n b i : Nat} {m : Mom} {r : Rdr} {x : ItW} {rel : Int} {snt : Bool} (hs : SlotV wI s n m r) (hp : PendR wI w b x i rel snt) (hk : ∀ w', Below w.heap.size w w' → k (.bool (decide (x.at' ≤ m.now))) w') : callW Tryz.prog (.func (.func 109) #[] #[]) #[s, .pointer (some ⟨b, 0, none⟩)] k w := C109 _ _ _ _ (by
  unfold S109
  obtain ⟨e, c, q, rfl, h1, h2, h3⟩ := hs
  refine w_boxN (v := .agg (slotL n m e c q r).toArray) fun w1 hb1 hsz1 hr1 => ?_
  replace hr1 : RowAt w1 w.heap.size 94 (slotL n m e c q r) := hr1
  rw [drewW_eq]
  have hb2 := hb1.drew
  replace hr1 := hr1.drew
  obtain ⟨e', c', q', hrow, _⟩ := hp.below hb2
  generalize w1.drew = w2 at *
  rw [nilT_ptr, tfl98_0, rt63_0 (hrow.cell (i := 0) rfl), tfl94_1, rt28_0 (hr1.cell (i := 1) rfl), t_leq]
  exact hk _ hb2)
theorem c79 {s : Value} {n b i : Nat} {m : Mom} {r : Rdr} {x : ItW} {rel : Int} {snt : Bool} (hI : Below wI.heap.size wI w) (hg : Gl w) (hs : SlotV wI s n m r) (hp : PendR wI w b x i rel snt) (hok : okLab x.lab) (hom : okMom m) (hk : ∀ w', Below w.heap.size w w' → k (.bool (bOf (OpensP x r m))) w') : callW Tryz.prog (.func (.func 79) #[] #[]) #[s, .pointer (some ⟨b, 0, none⟩)] k w := C79 _ _ _ _ (by
  unfold S79
  obtain ⟨e, c, q, rfl, h1, h2, h3⟩ := id hs
  refine w_boxN (v := .agg (slotL n m e c q r).toArray) fun w1 hb1 hsz1 hr1 => ?_
  replace hr1 : RowAt w1 w.heap.size 94 (slotL n m e c q r) := hr1
  rw [drewW_eq]
  have hb2 := hb1.drew
  replace hr1 := hr1.drew
  replace hg := hg.below hb2
  have hp2 := hp.below hb2
  have hI2 := hI.trans (hb2.mono hI.size)
  generalize w1.drew = w2 at *
  have a2 := after_refl w2
  refine ⟨after w2, a2, ?_⟩
  rw [la94 (vs := slotL n m e c q r) rfl hr1.cells a2]
  refine c109 hs hp2 fun w3 hb3 => ?_
  have a3 := hb3
  by_cases ha : x.at' ≤ m.now
  case' neg =>
    rw [decide_eq_false ha]
    simp only [guardT_ft, guardT_u, guardW_ft, guardW_u, keepS_eq, pickT_false]
    refine ⟨a3, ?_⟩
    have := hk w3 (below_trans hb2 hb3)
    rwa [← bOf_eq (b := false) (iffF fun h => ha h.1)] at this
  rw [decide_eq_true ha]
  simp only [guardT_tt, guardW_tt]
  have hr3 := hr1.below hb3
  have hI3 := hI2.trans (hb3.mono hI2.size)
  obtain ⟨e', c', q', hrow, hls⟩ := hp2.below hb3
  have hcl : Cells w3 w.heap.size 1 [I m.now, I m.drift, e, c, q] := fun j u hu => by
    have hlt := (List.getElem?_eq_some_iff.1 hu).1
    simp at hlt
    refine hr3.cell (i := 1 + j) ?_
    unfold slotL
    match j, hlt, hu with
    | 0, _, hu | 1, _, hu | 2, _, hu | 3, _, hu | 4, _, hu => simpa using hu
  have hcr : Cells w3 w.heap.size 6 [I r.1, I r.2] := fun j u hu => by
    have hlt := (List.getElem?_eq_some_iff.1 hu).1
    simp at hlt
    refine hr3.cell (i := 6 + j) ?_
    unfold slotL
    match j, hlt, hu with
    | 0, _, hu | 1, _, hu => simpa using hu
  rw [nilT_ptr, tfl98_0, tfl63_1, xld61 rfl (cells_it hrow), tfl94_2, xld30 rfl hcr, tfl94_1, xld28 rfl hcl]
  have hls3 := hls.below hI3
  refine c34 (hg.below hb3) (itLab hls3.1 hls3.2.1 hls3.2.2) rfl (show MomV w3 (.agg ([I m.now, I m.drift, e, c, q] : List Value).toArray) m from ⟨e, c, q, rfl, h1.below hI3, h2.below hI3, h3.below hI3⟩) hok hom fun b w4 hb4 hb => ?_
  rw [keepS_eq]
  refine ⟨below_trans a3 hb4, ?_⟩
  simp only [pickT_true]
  have := hk w4 (below_trans (below_trans hb2 hb3) hb4)
  rwa [← bOf_eq (b := b) ⟨fun h => ⟨ha, hb.1 h⟩, fun h => hb.2 h.2⟩] at this)
theorem c80 {v : Value} {l : List Nat} (hs : IsSl fP w v l) (hl : l.length ≤ 1000000) (hk : ∀ u w', Mine fP 96 w' w.heap.size u l → Below w.heap.size w w' → k u w') : callW Tryz.prog (.func (.func 80) #[] #[]) #[v] k w := C80 _ _ _ (by
  unfold S80
  obtain ⟨a, c, rfl, hc⟩ := id hs
  rw [w_eqlNil (e := 96) (by kernel_rfl)]
  cases a with
  | none =>
    rw [Option.isNone_none, condW_true]
    have hl0 : l = [] := by
      cases l with
      | nil => rfl
      | cons x r => obtain ⟨b, o, h, _⟩ := hc.2 0 x rfl; cases h
    subst hl0
    exact hk _ _ (Mine.nil _ _) (Below.refl _ _)
  | some ad =>
    rw [Option.isNone_some, condW_false]
    refine mkNil (F := fP) sty95 fun g w1 hb1 hm1 => ?_
    refine appNil sty95 (fun x u hu => by simp [fP] at hu; subst hu; rfl) hm1 (hs.below hb1) hb1.size hl (by decide) fun v2 w2 hb2 hm2 => ?_
    exact hk _ _ hm2 (below_trans hb1 hb2))
end
end Go.Proofs.YtfkfkldhcignbaaGreatDoor
/- Feeds: the iteration over the slots. -/
set_option linter.unusedSimpArgs false
set_option linter.unusedVariables false
set_option maxRecDepth 4000
namespace Go.Proofs.YtfkfkldhcignbaaGreatDoor
open Go Go.V Go.RowKit
noncomputable def relI (xs : List ItW) (r : Rdr) (ms : List Mom) (n i : Nat) : Int := match xs[i]? with | some x => relN x r ms n | none => -1
def PreS (wI : World) (xs : List ItW) (r : Rdr) (ms : List Mom) (snt : Nat → Nat → Bool) (n : Nat) (g : List Nat × Value) (w : World) (a : List Value) : Prop :=
  ∃ m sv, ms[n]? = some m ∧ a = [sv, g.2] ∧ SlotV wI sv n m r ∧ Mine fP 96 w wI.heap.size g.2 g.1 ∧ PendAll wI w g.1 xs (relI xs r ms (n + 1)) (snt n)
def PostS (wI : World) (xs : List ItW) (r : Rdr) (ms : List Mom) (snt : Nat → Nat → Bool) (n : Nat) (g : List Nat × Value) (w : World) : Prop := PendAll wI w g.1 xs (relI xs r ms (n + 1)) (snt (n + 1))
def XS (g : List Nat × Value) (b : Nat) : Prop := b ∈ g.1 ∨ isOf g.2 b
theorem PendAll.congr {wI w : World} {bs : List Nat} {xs : List ItW} {rel rel' : Nat → Int} {snt snt' : Nat → Bool} (h : PendAll wI w bs xs rel snt) (hr : ∀ i, i < xs.length → rel' i = rel i) (hs : ∀ i, i < xs.length → snt' i = snt i) : PendAll wI w bs xs rel' snt' :=
  ⟨h.1, h.2.1, fun i b x h1 h2 => by
    have hlt := (List.getElem?_eq_some_iff.1 h2).1
    rw [hr i hlt, hs i hlt]; exact h.2.2 i b x h1 h2⟩
theorem PendAll.snoc {wI w : World} {bs : List Nat} {xs : List ItW} {rel : Nat → Int} {snt : Nat → Bool} {b : Nat} {x : ItW} (h : PendAll wI w bs xs rel snt) (hb : b ∉ bs) (hw : wI.heap.size ≤ b) (hr : PendR wI w b x xs.length (rel xs.length) (snt xs.length)) : PendAll wI w (bs ++ [b]) (xs ++ [x]) rel snt := by
  refine ⟨by simp [h.1], ?_, fun i b' x' h1 h2 => ?_⟩
  · rw [List.nodup_append]
    refine ⟨h.2.1, by simp, fun a ha c hc => ?_⟩
    simp at hc
    subst hc
    exact fun hh => hb (hh ▸ ha)
  · rw [List.getElem?_append] at h1 h2
    split at h1
    · rename_i hi
      rw [if_pos (by rw [← h.1]; exact hi)] at h2
      exact h.2.2 i b' x' h1 h2
    · rename_i hi
      have hl := h.1
      rw [if_neg (by omega)] at h2
      have hi0 : i - bs.length = 0 := by
        have := (List.getElem?_eq_some_iff.1 h1).1
        simp at this; omega
      rw [hi0] at h1
      rw [show i - xs.length = 0 by omega] at h2
      simp at h1 h2
      subst h1 h2
      rw [show i = xs.length by omega]
      exact ⟨hw, hr⟩
section
variable {k : Value → World → Prop} {w wI : World}
theorem b98 {a b c d e i : Int} {s : ByteArray} {a1 a2 a3 : Option Addr} {n1 n2 n3 c1 c2 c3 : Nat} : opW Tryz.prog (Instr.build 98 #[(0, .agg ([I a, I b, .slice a1 n1 c1, .slice a2 n2 c2, I c, I d, .slice a3 n3 c3, I e, .string s] : List Value).toArray), (1, I i), (2, I (-1)), (3, .bool false)]) k w =
    k (.agg ([I a, I b, .slice a1 n1 c1, .slice a2 n2 c2, I c, I d, .slice a3 n3 c3, I e, .string s, I i, I (-1), .bool false] : List Value).toArray) w := opW_ok (by kernel_rfl)
theorem b94 {i a c d f : Int} {a1 a2 a3 : Option Addr} {n1 n2 n3 c1 c2 c3 : Nat} : opW Tryz.prog (Instr.build 94 #[(0, I i), (1, .agg ([I a, I c, .slice a1 n1 c1, .slice a2 n2 c2, .slice a3 n3 c3] : List Value).toArray), (2, .agg ([I d, I f] : List Value).toArray)]) k w =
    k (.agg ([I i, I a, I c, .slice a1 n1 c1, .slice a2 n2 c2, .slice a3 n3 c3, I d, I f] : List Value).toArray) w := opW_ok (by kernel_rfl)
theorem oneP (b : Nat) : ∀ u ∈ fP.e b, u.oneCell' = true := fun u hu => by simp [fP] at hu; subst hu; rfl
theorem one8 {i a c d f : Int} {a1 a2 a3 : Option Addr} {n1 n2 n3 c1 c2 c3 : Nat} : ∀ v ∈ ([I i, I a, I c, .slice a1 n1 c1, .slice a2 n2 c2, .slice a3 n3 c3, I d, I f] : List Value), v.oneCell' = true := by simp [Value.oneCell']
theorem relI_succ {xs : List ItW} {r : Rdr} {ms : List Mom} {n i : Nat} {x : ItW} {m : Mom} (hx : xs[i]? = some x) (hm : ms[n]? = some m) : relI xs r ms (n + 1) i = if 0 ≤ relI xs r ms n i then relI xs r ms n i else if bOf (OpensP x r m) = true then (n : Int) else -1 := by
  unfold relI
  rw [hx]
  simp only [relN, hm]
set_option maxHeartbeats 1000000 in
theorem iter78 {iv mv : Value} {xs : List ItW} {r : Rdr} {ms : List Mom} {snt : Nat → Nat → Bool} {b1 b2 b3 : Nat} (hg : Gl wI) (hxs : ItemsV wI iv xs) (hms : MomsV wI mv ms) (hok : okIts xs) (hom : okMs ms) (hlx : xs.length ≤ 1000) (h1 : RowAt w b1 24 [iv]) (h2 : RowAt w b2 33 [mv]) (h3 : RowAt w b3 30 [I r.1, I r.2]) (hs0 : ∀ i, snt 0 i = false) :
    IterLawG Tryz.prog 78 #[.pointer (some ⟨b1, 0, none⟩), .pointer (some ⟨b2, 0, none⟩), .pointer (some ⟨b3, 0, none⟩)] 2 ms.length (PreS wI xs r ms snt) (PostS wI xs r ms snt) XS wI (fun b => b = b1 ∨ b = b2 ∨ b = b3) w := by
  intro yield Inv F0 k hY hF h0 hbI hk
  refine S78_calls yield (.pointer (some ⟨b1, 0, none⟩)) (.pointer (some ⟨b2, 0, none⟩)) (.pointer (some ⟨b3, 0, none⟩)) k w ?_
  unfold S78
  have hml : 1000000 ≤ maxLen := by decide
  have hml2 : maxLen ≤ 9223372036854775807 := by decide
  obtain ⟨rs, hrs, hrx⟩ := hxs
  obtain ⟨qs, hqs, hqx⟩ := hms
  have hrl := hrx.1
  have hql := hqx.1
  have hom1 := hom.1
  have hIs := hbI.size
  rw [ld24 (h1.cell (i := 0) rfl), len24 (hrs.below hbI)]
  refine Loop2.intro (fun n a p w' => ∃ (i : Nat) (bs : List Nat), p = I i ∧ i ≤ xs.length ∧ n = xs.length - i ∧ Below w.heap.size w w' ∧ Mine fP 96 w' w.heap.size a bs ∧ PendAll wI w' bs (xs.take i) (fun _ => -1) (fun _ => false) ∧ ∀ b ∈ bs, w.heap.size ≤ b) _ ⟨0, [], rfl, by omega, rfl, Below.refl _ _, Mine.nil _ _, ⟨by simp, by simp, fun i b x h => by simp at h⟩, by simp⟩ ?_
  rintro n av _ w1 ⟨i, bs, rfl, hil, rfl, hbw1, hm1, hpa1, hbs1⟩
  have hbI1 := hbI.trans (hbw1.mono hIs)
  rw [w_lss]
  by_cases hlt : i < xs.length
  case' pos =>
    rw [decide_eq_true (by omega), condW_true]
    obtain ⟨x, hx⟩ : ∃ x, xs[i]? = some x := ⟨_, List.getElem?_eq_getElem hlt⟩
    obtain ⟨rr, hr⟩ : ∃ r, rs[i]? = some r := ⟨_, List.getElem?_eq_getElem (by omega)⟩
    obtain ⟨e, c, q, hr0, he, hc, hq⟩ := (hrx.2 i rr x hr hx).one
    rw [ga24 (F := fR 9) rfl (hrs.below hbI1) (by omega) (by simpa using hr)]
    refine w_var (vs := rr.1) hz63 (by rw [zc63, rr.2.1]; rfl) rr.2.2 (by rw [size63, rr.2.1]) known63 fun w2 hb2 hsz2 hr2 => ?_
    rw [ld63 rr.2.1 hr2.cells, hr0]
    have hls : itLs wI x e c q := ⟨he, hc, hq⟩
    obtain ⟨a1, c1, rfl, -⟩ := id he
    obtain ⟨a2, c2, rfl, -⟩ := id hc
    obtain ⟨xq, hxq, hxq2⟩ := id hq
    obtain ⟨a3, c3, rfl, -⟩ := id hxq
    refine (b98 (k := _)).mpr ?_
    refine w_boxN fun w3 hb3 hsz3 hr3 => ?_
    have hb13 := below_trans hb2 hb3
    have hbw3 := below_trans hbw1 hb13
    have hbl := hbw1.size
    have hb2s := hb2.size
    have hpend : PendR wI w3 w2.heap.size x i (-1) false := ⟨_, _, _, hr3, hls⟩
    have hm3 := hm1.below hb13
    have hpa3 := hpa1.below hb13
    have hml1 : bs.length = i := by have := hpa1.1; rw [List.length_take] at this; omega
    refine Mine.push (x := w2.heap.size) sty95 (oneP _) rfl (by decide) hm3 hbw3.size (by omega) (by omega) fun v4 w4 hm4 hb4 ho4 hu4 => ?_
    rw [w_add, wrap_id (by omega), loopK_self]
    have hfresh : w2.heap.size ∉ bs := fun hh => by
      obtain ⟨j, hj, hjb⟩ := List.getElem_of_mem hh
      obtain ⟨cur, hcur⟩ := hpa1.tag _ hh
      have := (Array.getElem?_eq_some_iff.1 hcur).1
      omega
    have hne : ∀ b, Tag w3 b 98 → ¬ isOf av b := fun b ht hh => absurd (ht.uniq (Mine.tag hm3 hh)) (by decide)
    have hpa4 : PendAll wI w4 bs (xs.take i) (fun _ => -1) (fun _ => false) := hpa3.off ho4 fun b hb => hne b (hpa3.tag b hb)
    have hp4 : PendR wI w4 w2.heap.size x i (-1) false := hpend.off ho4 (hne _ hpend.tag)
    refine ⟨xs.length - (i + 1), by omega, i + 1, bs ++ [w2.heap.size], by simp [I], by omega, rfl, hbw3.trans hb4, hm4, ?_, fun b hb => ?_⟩
    · rw [List.take_add_one, hx]
      have := hpa4.snoc (b := w2.heap.size) (x := x) hfresh (by omega) (by rw [List.length_take, Nat.min_eq_left (by omega)]; exact hp4)
      simpa using this
    · rcases List.mem_append.1 hb with h | h
      · exact hbs1 b h
      · simp at h; omega
  rw [decide_eq_false (by omega), condW_false]
  have hi : i = xs.length := by omega
  subst hi
  rw [List.take_of_length_le (Nat.le_refl _)] at hpa1
  rw [ld33 ((h2.below hbw1).cell (i := 0) rfl), len33 (hqs.below hbI1)]
  have hF0lt := fun b (hb : F0 b) => hY.lt 0 true F0 w b h0 hb
  refine Loop1.intro (fun n a w' => ∃ (kk : Nat) (F : Nat → Prop), a = I kk ∧ kk ≤ ms.length ∧ n = ms.length - kk ∧ Below wI.heap.size wI w' ∧ w.heap.size ≤ w'.heap.size ∧ RowAt w' b3 30 [I r.1, I r.2] ∧ Mine fP 96 w' w.heap.size av bs ∧ PendAll wI w' bs xs (relI xs r ms kk) (snt kk) ∧ Inv kk true F w' ∧ ¬ F b3 ∧ (∀ b, isOf av b → ¬ F b) ∧ ∀ b ∈ bs, ¬ F b) _ ⟨0, F0, rfl, by omega, rfl, hbI1, hbw1.size, h3.below hbw1, hm1, hpa1.congr (fun i hi => by
    unfold relI
    rw [List.getElem?_eq_getElem hi]; rfl) (fun i hi => hs0 i), hY.stab _ _ _ _ _ (fun _ => False) h0 (Off.below hbw1) (fun _ _ => id), hF _ (.inr (.inr rfl)), fun b hb hh => by
      have := (hm1.ge hb).1; have := (hF0lt b hh).2; omega, fun b hb hh => by
      have := hbs1 b hb; have := (hF0lt b hh).2; omega⟩ ?_
  clear hm1 hpa1 hbw1 h3 hbI1
  rintro n _ w1 ⟨kk, F, rfl, hkl, rfl, hbI1, hsz1, h3, hm1, hpa1, hInv1, hF3, hFa, hFb⟩
  rw [w_lss]
  by_cases hlt2 : kk < ms.length
  case' neg =>
    rw [decide_eq_false (by omega), condW_false]
    exact hk kk true F w1 hbI1 hInv1 fun _ => by omega
  rw [decide_eq_true (by omega), condW_true]
  obtain ⟨m, hm⟩ : ∃ m, ms[kk]? = some m := ⟨_, List.getElem?_eq_getElem hlt2⟩
  obtain ⟨q0, hq0⟩ : ∃ r, qs[kk]? = some r := ⟨_, List.getElem?_eq_getElem (by omega)⟩
  obtain ⟨e, c, q, hqe, he, hc, hq⟩ := hqx.2 kk q0 m hq0 hm
  have hq1 : q0.1 = [I m.now, I m.drift, e, c, q] := by unfold agR at hqe; simpa using hqe
  rw [ga33 (F := fR 5) rfl (hqs.below hbI1) (by omega) (by simpa using hq0)]
  refine w_var (vs := q0.1) hz28 (by rw [zc28, q0.2.1]; rfl) q0.2.2 (by rw [size28, q0.2.1]) known28 fun w2 hb2 hsz2 hr2 => ?_
  rw [ld28 q0.2.1 hr2.cells, hq1, ld30 rfl (h3.below hb2).cells]
  have hslot : SlotV wI (.agg (slotL kk m e c q r).toArray) kk m r := ⟨e, c, q, rfl, he, hc, hq⟩
  have hone : ∀ v ∈ slotL kk m e c q r, v.oneCell' = true := by
    obtain ⟨a1, c1, rfl, -⟩ := id he
    obtain ⟨a2, c2, rfl, -⟩ := id hc
    obtain ⟨a3, c3, rfl, -⟩ := id hq
    exact one8
  have hbl : ∀ k', opW Tryz.prog (Instr.build 94 #[(0, I kk), (1, .agg ([I m.now, I m.drift, e, c, q] : List Value).toArray), (2, .agg ([I r.1, I r.2] : List Value).toArray)]) k' w2 = k' (.agg (slotL kk m e c q r).toArray) w2 := fun k' => by
    obtain ⟨a1, c1, rfl, -⟩ := id he
    obtain ⟨a2, c2, rfl, -⟩ := id hc
    obtain ⟨a3, c3, rfl, -⟩ := id hq
    exact b94
  rw [hbl]
  refine al94 fun w3 hb3 hsz3 hr3 => ?_
  refine sr94 rfl hr3 rfl hone fun w4 ho4 hr4 => ?_
  have hb34 : Below w2.heap.size w2 w4 := hb3.trans (ho4.rest _ (Nat.le_refl _))
  have hb14 := below_trans hb2 hb34
  have hm4 := hm1.below hb14
  have hpa4 := hpa1.below hb14
  have h34 := h3.below hb14
  have hbI4 := hbI1.trans (hb14.mono hbI1.size)
  have hI4 : Inv kk true F w4 := hY.stab _ _ _ _ _ (fun _ => False) hInv1 (Off.below hb14) (fun _ _ => id)
  have hsb : w1.heap.size ≤ w2.heap.size := hb2.size
  have hbs14 := hb14.size
  have hs94 : w2.heap.size < w4.heap.size := hr4.lt
  have hFlt : ∀ b, F b → b < w1.heap.size := fun b hb => (hY.lt _ _ _ _ _ hInv1 hb).2
  have h3lt : b3 < w1.heap.size := h3.lt
  have hav1 : ∀ b, isOf av b → b < w1.heap.size := fun b hb => (hm1.ge hb).2
  have hbl1 := hpa1.1
  obtain ⟨sb, hsbe⟩ : ∃ sb, w2.heap.size = sb := ⟨_, rfl⟩
  rw [hsbe] at hr4 hsb hs94 ⊢
  have hbst : ∀ b ∈ bs, b < w1.heap.size := fun b hb => by
    obtain ⟨cur, hcur⟩ := hpa1.tag b hb
    exact (Array.getElem?_eq_some_iff.1 hcur).1
  clear hr2 hr3 hb3 ho4 hb34 hbl hpa1 hm1 h3 hInv1
  rw [len95 hm4.sl]
  refine Loop1.intro (fun n a w' => ∃ j : Nat, a = I j ∧ j ≤ bs.length ∧ n = bs.length - j ∧ Below wI.heap.size wI w' ∧ w4.heap.size ≤ w'.heap.size ∧ RowAt w' b3 30 [I r.1, I r.2] ∧ RowAt w' sb 94 (slotL kk m e c q r) ∧ Mine fP 96 w' w.heap.size av bs ∧ PendAll wI w' bs xs (fun i => if i < j then relI xs r ms (kk + 1) i else relI xs r ms kk i) (snt kk) ∧ Inv kk true F w') _ ⟨0, rfl, by omega, rfl, hbI4, Nat.le_refl _, h34, hr4, hm4, hpa4.congr (fun i _ => by simp) (fun i _ => rfl), hI4⟩ ?_
  clear hm4 hpa4 h34 hr4 hbI4 hI4
  rintro n _ w5 ⟨j, rfl, hj, rfl, hbI5, hs5, h35, hr5, hm5, hpa5, hI5⟩
  rw [w_lss]
  by_cases hjt : j < bs.length
  case' pos =>
    rw [decide_eq_true (by omega), condW_true]
    obtain ⟨bj, hbj⟩ : ∃ b, bs[j]? = some b := ⟨_, List.getElem?_eq_getElem hjt⟩
    obtain ⟨x, hx⟩ : ∃ x, xs[j]? = some x := ⟨_, List.getElem?_eq_getElem (by omega)⟩
    have hbjm := List.mem_of_getElem? hbj
    obtain ⟨hbj1, hpj⟩ := hpa5.2.2 j bj x hbj hx
    simp only at hpj
    rw [if_neg (by omega)] at hpj
    refine joinW_use0 (fun w' => Below wI.heap.size wI w' ∧ w4.heap.size ≤ w'.heap.size ∧ RowAt w' b3 30 [I r.1, I r.2] ∧ RowAt w' sb 94 (slotL kk m e c q r) ∧ Mine fP 96 w' w.heap.size av bs ∧ PendAll wI w' bs xs (fun i => if i < j + 1 then relI xs r ms (kk + 1) i else relI xs r ms kk i) (snt kk) ∧ Inv kk true F w') ?_ ?_
    · rintro w' ⟨q1, q2, q3, q4, q5, q6, q7⟩
      rw [w_add, wrap_id (by omega), loopK_self]
      exact ⟨bs.length - (j + 1), by omega, j + 1, by simp [I], by omega, rfl, q1, q2, q3, q4, q5, q6, q7⟩
    intro J hJ
    have hrs := relI_succ (r := r) hx hm
    obtain ⟨e', c', q', hrow, hls⟩ := id hpj
    rw [gw95 (F := fP) rfl hm5.sl (by omega) (by simpa using hbj) rfl, nilW_ptr, rw98_2 (hrow.cell (i := 0 + 10) rfl), w_lss]
    by_cases h0 : relI xs r ms kk j < 0
    case' neg =>
      rw [decide_eq_false h0]
      simp only [guardW_ft, guardW_u, pickW_false, condW_false]
      refine hJ _ ⟨hbI5, hs5, h35, hr5, hm5, hpa5.congr (fun i _ => ?_) (fun i _ => rfl), hI5⟩
      by_cases hij : i = j
      · subst hij
        try simp only
        rw [if_pos (by omega), if_neg (by omega), hrs, if_pos (by omega)]
      · try simp only
        by_cases h : i < j
        · rw [if_pos (by omega), if_pos h]
        · rw [if_neg (by omega), if_neg h]
    rw [decide_eq_true h0]
    simp only [guardW_tt]
    rw [ld94 rfl hr5.cells]
    refine c79 hbI5 (hg.below hbI5) hslot hpj (hok.2 x (List.mem_of_getElem? hx)) (hom.2 m (List.mem_of_getElem? hm)) fun w6 hb6 => ?_
    have hbI6 := hbI5.trans (hb6.mono hbI5.size)
    have hs6 := Nat.le_trans hs5 hb6.size
    simp only [pickW_true]
    cases hop : bOf (OpensP x r m) with
    | false =>
      rw [condW_false]
      refine hJ _ ⟨hbI6, hs6, h35.below hb6, hr5.below hb6, hm5.below hb6, (hpa5.below hb6).congr (fun i _ => ?_) (fun i _ => rfl), hY.stab _ _ _ _ _ (fun _ => False) hI5 (Off.below hb6) (fun _ _ => id)⟩
      by_cases hij : i = j
      · subst hij
        try simp only
        rw [if_pos (by omega), if_neg (by omega), hrs, if_neg (by omega), hop]
        have hn1 : relI xs r ms kk i = -1 := by
          unfold relI at h0 ⊢
          rw [hx] at h0 ⊢
          simp only at h0 ⊢
          have key : ∀ n, relN x r ms n = -1 ∨ 0 ≤ relN x r ms n := by
            intro n
            induction n with
            | zero => exact .inl rfl
            | succ n ih =>
              unfold relN
              split
              · rename_i h; exact .inr h
              · split
                · split
                  · exact .inr (by omega)
                  · exact .inl rfl
                · exact .inl rfl
          rcases key kk with h | h
          · exact h
          · omega
        rw [hn1]; rfl
      · try simp only
        by_cases h : i < j
        · rw [if_pos (by omega), if_pos h]
        · rw [if_neg (by omega), if_neg h]
    | true =>
      have hrow6 := hrow.below hb6
      rw [condW_true, nilW_ptr, fl98_2, st3 rfl (hrow6.cell (i := 0 + 10) rfl) (hrow6.free _)]
      have hof : Off (fun y => y = bj) w6 (w6.setCell ⟨bj, 0 + 10, none⟩ (I kk)) := Off.set rfl
      have hrow7 := hrow6.set 10 (I kk)
      have tg := RowAt.tag hrow6
      refine hJ _ ⟨hbI6.setCell hbj1 _, Nat.le_trans hs6 hof.size, (h35.below hb6).off hof fun hh => ?_, (hr5.below hb6).off hof fun hh => ?_, (hm5.below hb6).apart hof (apRow hrow6 (by decide)), (hpa5.below hb6).set (x := x) hof hbj hx ?_ (fun i hi => ?_) (fun i _ => rfl), hY.stab _ _ _ _ _ _ (hY.stab _ _ _ _ _ (fun _ => False) hI5 (Off.below hb6) (fun _ _ => id)) hof fun b hb hh => ?_⟩
      · subst hh
        exact absurd (tg.uniq (RowAt.tag (h35.below hb6))) (by decide)
      · subst hh
        exact absurd (tg.uniq (RowAt.tag (hr5.below hb6))) (by decide)
      · refine ⟨e', c', q', ?_, hls⟩
        try simp only
        rw [if_pos (by omega), hrs, if_neg (by omega), hop]
        exact hrow7
      · try simp only
        by_cases h : i < j
        · rw [if_pos (by omega), if_pos h]
        · rw [if_neg (by omega), if_neg h]
      · exact hFb bj hbjm (hh ▸ hb)
  rw [decide_eq_false (by omega), condW_false, drewW_eq]
  have hj2 : j = bs.length := by omega
  have hbd := below_drew w5
  have hpa6 : PendAll wI w5.drew bs xs (relI xs r ms (kk + 1)) (snt kk) := (hpa5.below hbd).congr (fun i hi => by rw [if_pos (by omega)]) (fun i _ => rfl)
  have hI6 : Inv kk true F w5.drew := hY.stab _ _ _ _ _ (fun _ => False) hI5 (Off.below hbd) (fun _ _ => id)
  have hm6 := hm5.below hbd
  have h36 := h35.below hbd
  have hr6 := hr5.below hbd
  have hbI6 := hbI5.trans (hbd.mono hbI5.size)
  have hs6 := Nat.le_trans hs5 hbd.size
  clear hpa5 hI5 hm5 h35 hr5 hbI5 hbd
  generalize w5.drew = w6 at *
  have ha6 := after_refl w6
  refine ⟨after w6, ha6, ?_⟩
  rw [la94 (vs := slotL kk m e c q r) rfl hr6.cells ha6]
  refine c80 hm6.sl (by omega) fun u w7 hm7 hb7 => ?_
  rw [keepS_eq]
  refine ⟨hb7, ?_⟩
  have hI7 : Inv kk true F w7 := hY.stab _ _ _ _ _ (fun _ => False) hI6 (Off.below hb7) (fun _ _ => id)
  have hbI7 := hbI6.trans (hb7.mono hbI6.size)
  have hpa7 := hpa6.below hb7
  have hm7' := hm6.below hb7
  have h37 := h36.below hb7
  have hs7 := Nat.le_trans hs6 hb7.size
  have hu7 : ∀ b, isOf u b → w6.heap.size ≤ b ∧ b < w7.heap.size := fun b hb => hm7.ge hb
  have hI66 := hbI6.size
  refine hY.call kk (bs, u) [.agg (slotL kk m e c q r).toArray, u] F w7 _ hI7 hbI7 ⟨m, _, hm, rfl, hslot, hm7.base hbI6.size, hpa7⟩ rfl (fun b hb => ?_) fun b' F' w8 hb8 ho8 hF8 hI8 hpo8 => ?_
  · rcases hb with hb | hb
    · exact ⟨hFb b hb, Nat.lt_of_lt_of_le (hbst b hb) (by omega), hpa7.ge b hb⟩
    · have := hu7 b hb
      exact ⟨fun hf => by have := hFlt b hf; omega, this.2, by omega⟩
  rw [t_not]
  cases b' with
  | false =>
    rw [Bool.not_false, condW_true]
    exact hk _ _ _ _ hb8 hI8 (by intro h; cases h)
  | true =>
    rw [Bool.not_true, condW_false, w_add, wrap_id (by omega), loopK_self]
    have hX3 : ¬ XS (bs, u) b3 := fun h => by
      rcases h with h | h
      · exact absurd ((hpa7.tag b3 h).uniq (RowAt.tag h37)) (by decide)
      · have := hu7 _ h; omega
    have hXa : ∀ b, isOf av b → ¬ XS (bs, u) b := fun b hb h => by
      rcases h with h | h
      · exact absurd ((hpa7.tag b h).uniq (Mine.tag hm7' hb)) (by decide)
      · have := hu7 _ h; have := hav1 b hb; omega
    have hs78 := ho8.size
    exact ⟨ms.length - (kk + 1), by omega, kk + 1, F', by simp [I], by omega, rfl, hb8, by omega, h37.off ho8 fun h => h.elim hF3 hX3, hm7'.off ho8 fun b hb h => h.elim (hFa b hb) (hXa b hb), hpo8, hI8, fun h => (hF8 _ h).elim hF3 (fun h => by omega), fun b hb h => (hF8 _ h).elim (hFa b hb) (fun h => by have := hav1 b hb; omega), fun b hb h => (hF8 _ h).elim (hFb b hb) (fun h => by have := hbst b hb; omega)⟩
end
end Go.Proofs.YtfkfkldhcignbaaGreatDoor
/- Feeds: copies of items. -/
set_option linter.unusedSimpArgs false
set_option linter.unusedVariables false
set_option maxRecDepth 4000
namespace Go.Proofs.YtfkfkldhcignbaaGreatDoor
open Go Go.V Go.RowKit
theorem slNone {α : Type} {F : Fl α} {w : World} {n c : Nat} {l : List α} (h : IsSl F w (.slice none n c) l) : l = [] := by
  obtain ⟨a, c, e, _, hc⟩ := h
  cases l with
  | nil => rfl
  | cons x r =>
    obtain ⟨b, o, h, _⟩ := hc 0 x rfl
    simp only [Value.slice.injEq] at e
    rw [← e.1] at h; cases h
section
variable {k : Value → World → Prop} {w : World}
theorem oneC (x : CW) : ∀ u ∈ fC.e x, u.oneCell' = true := fun u hu => by simp [fC] at hu; rcases hu with rfl | rfl <;> rfl
theorem oneQ (x : QW) : ∀ u ∈ fQW.e x, u.oneCell' = true := fun u hu => by simp [fQW] at hu; rcases hu with rfl | rfl <;> rfl
theorem c81 {v : Value} {l : List CW} (hs : IsSl fC w v l) (hl : l.length ≤ 1000000) (hk : ∀ u w', Mine fC 121 w' w.heap.size u l → Below w.heap.size w w' → k u w') : callW Tryz.prog (.func (.func 81) #[] #[]) #[v] k w := C81 _ _ _ (by
  unfold S81
  obtain ⟨a, c, rfl, hc⟩ := id hs
  rw [w_eqlNil (e := 121) (by kernel_rfl)]
  cases a with
  | none =>
    rw [Option.isNone_none, condW_true]
    have hl0 := slNone hs
    subst hl0
    exact hk _ _ (Mine.nil _ _) (Below.refl _ _)
  | some ad =>
    rw [Option.isNone_some, condW_false]
    refine mkNil (F := fC) sty26 fun g w1 hb1 hm1 => ?_
    refine appNil sty26 oneC hm1 (hs.below hb1) hb1.size hl (by decide) fun v2 w2 hb2 hm2 => ?_
    exact hk _ _ hm2 (below_trans hb1 hb2))
theorem c82 {v : Value} {l : List QW} (hs : IsSl fQW w v l) (hl : l.length ≤ 1000000) (hk : ∀ u w', Mine fQW 87 w' w.heap.size u l → Below w.heap.size w w' → k u w') : callW Tryz.prog (.func (.func 82) #[] #[]) #[v] k w := C82 _ _ _ (by
  unfold S82
  obtain ⟨a, c, rfl, hc⟩ := id hs
  rw [w_eqlNil (e := 87) (by kernel_rfl)]
  cases a with
  | none =>
    rw [Option.isNone_none, condW_true]
    have hl0 := slNone hs
    subst hl0
    exact hk _ _ (Mine.nil _ _) (Below.refl _ _)
  | some ad =>
    rw [Option.isNone_some, condW_false]
    refine mkNil (F := fQW) sty59 fun g w1 hb1 hm1 => ?_
    refine appNil sty59 oneQ hm1 (hs.below hb1) hb1.size hl (by decide) fun v2 w2 hb2 hm2 => ?_
    exact hk _ _ hm2 (below_trans hb1 hb2))
theorem CountsP.len {l : List CW} {m : Int} (h : CountsP l m) : l.length ≤ 16 := by
  have key : ∀ (i : Nat) x, l[i]? = some x → (i : Int) ≤ x.fact := by
    intro i
    induction i with
    | zero => intro x hx; exact (h 0 x hx).1.1
    | succ i ih =>
      intro x hx
      obtain ⟨y, hy⟩ : ∃ y, l[i]? = some y := ⟨_, List.getElem?_eq_getElem (by have := (List.getElem?_eq_some_iff.1 hx).1; omega)⟩
      have h1 := ih y hy
      have h2 := (h (i + 1) x hx).2.2 y (by omega) (by simpa using hy)
      omega
  apply Decidable.byContradiction
  intro hc
  obtain ⟨y, hy⟩ : ∃ y, l[16]? = some y := ⟨_, List.getElem?_eq_getElem (by omega)⟩
  have h1 := key 16 y hy
  have h2 := (h 16 y hy).1.2
  omega
set_option maxHeartbeats 1000000 in
theorem c43 {v : Value} {x : ItW} (h : ItemV w v x) (hV : ValidLab x.lab) (hk : ∀ e c q xs w', Below w.heap.size w w' → LabM w.heap.size w' x.lab e c q xs → k (.agg (itemL x e c q).toArray) w') : callW Tryz.prog (.func (.func 43) #[] #[]) #[v] k w := C43 _ _ _ (by
  unfold S43
  have hml : 1000000 ≤ maxLen := by decide
  have hml2 : maxLen ≤ 9223372036854775807 := by decide
  obtain ⟨e0, c0, q0, rfl, he0, hc0, xs0, hq0, hqx0⟩ := h
  have hL1 := hV.2.2.2.2.2.1.len
  have hL2 := hV.2.2.2.2.2.2.len
  have hL3 := hV.2.2.2.1
  have hxl := hqx0.1
  refine w_boxN (v := .agg (itemL x e0 c0 q0).toArray) fun w1 hb1 hsz1 hr1 => ?_
  replace hr1 : RowAt w1 w.heap.size 63 (itemL x e0 c0 q0) := hr1
  obtain ⟨xb, hxb⟩ : ∃ b, w.heap.size = b := ⟨_, rfl⟩
  rw [hxb] at hr1 ⊢
  refine al63 fun w2 hb2 hsz2 hr2 => ?_
  obtain ⟨rb, hrb⟩ : ∃ b, w1.heap.size = b := ⟨_, rfl⟩
  rw [hrb] at hr2 ⊢
  replace hr1 := hr1.below hb2
  have hb02 := below_trans hb1 hb2
  have hrx : rb < w2.heap.size := hr2.lt
  have hxr : xb < rb := by have := hb1.size; omega
  rw [fl63_1, rw61_1 (hr1.cell (i := 1 + 1) rfl)]
  refine c72 (he0.below hb02) (by omega) fun e3 w3 hme hb3 => ?_
  have hb03 := below_trans hb02 hb3
  replace hr1 := hr1.below hb3
  obtain ⟨ea, ec, rfl, -⟩ := id hme.sl
  rw [fl63_1, fl61_1, st25 rfl (hr1.cell (i := 1 + 1) rfl) (hr1.free _)]
  have ho3 : ∀ u, Off (fun y => y = xb) w3 (w3.setCell ⟨xb, 1 + 1, none⟩ u) := fun u => Off.set rfl
  have hr1s : RowAt (w3.setCell ⟨xb, 1 + 1, none⟩ (.slice ea x.lab.ev.length ec)) xb 63 (itemL x (.slice ea x.lab.ev.length ec) c0 q0) := hr1.set 2 _
  have hme' := hme.apart (ho3 (.slice ea x.lab.ev.length ec)) (apRow hr1 (by decide))
  have hr2' := (hr2.below hb3).off (ho3 (.slice ea x.lab.ev.length ec)) (fun hh => by omega)
  have hb04 : Below w.heap.size w (w3.setCell ⟨xb, 1 + 1, none⟩ (.slice ea x.lab.ev.length ec)) := hb03.setCell (show w.heap.size ≤ xb by omega) _
  have hsz3 := (ho3 (.slice ea x.lab.ev.length ec)).size
  have hge3 : w.heap.size ≤ w2.heap.size := hb02.size
  have hs23 := hb3.size
  replace hme' := hme'.base (show rb + 1 ≤ w2.heap.size by omega)
  clear hr1 hme hr2 hb3 hb03 ho3 hb02 hb2 hb1
  generalize w3.setCell ⟨xb, 1 + 1, none⟩ (.slice ea x.lab.ev.length ec) = w4 at *
  rw [fl63_1, rw61_2 (hr1s.cell (i := 1 + 2) rfl)]
  refine c81 (hc0.below hb04) (by omega) fun c5 w5 hmc hb5 => ?_
  have hb05 := below_trans hb04 hb5
  replace hr1s := hr1s.below hb5
  have hs45 := hb5.size
  obtain ⟨ca, cc, rfl, -⟩ := id hmc.sl
  rw [fl63_1, fl61_2, st26 rfl (hr1s.cell (i := 1 + 2) rfl) (hr1s.free _)]
  have ho5 : ∀ u, Off (fun y => y = xb) w5 (w5.setCell ⟨xb, 1 + 2, none⟩ u) := fun u => Off.set rfl
  have hr1t : RowAt (w5.setCell ⟨xb, 1 + 2, none⟩ (.slice ca x.lab.ct.length cc)) xb 63 (itemL x (.slice ea x.lab.ev.length ec) (.slice ca x.lab.ct.length cc) q0) := hr1s.set 3 _
  have hme6 := (hme'.below hb5).apart (ho5 (.slice ca x.lab.ct.length cc)) (apRow hr1s (by decide))
  have hmc6 := (hmc.base (show rb + 1 ≤ w4.heap.size by omega)).apart (ho5 (.slice ca x.lab.ct.length cc)) (apRow hr1s (by decide))
  have hr26 := (hr2'.below hb5).off (ho5 (.slice ca x.lab.ct.length cc)) (fun hh => by omega)
  have hb06 : Below w.heap.size w (w5.setCell ⟨xb, 1 + 2, none⟩ (.slice ca x.lab.ct.length cc)) := hb05.setCell (show w.heap.size ≤ xb by omega) _
  have hsz5 := (ho5 (.slice ca x.lab.ct.length cc)).size
  clear hr1s hmc hr2' hb5 hb05 ho5 hb04 hme'
  generalize w5.setCell ⟨xb, 1 + 2, none⟩ (.slice ca x.lab.ct.length cc) = w6 at *
  rw [fl63_1, rw61_5 (hr1t.cell (i := 1 + 5) rfl)]
  refine c82 (hq0.below hb06) (by omega) fun q7 w7 hmq hb7 => ?_
  have hb07 := below_trans hb06 hb7
  replace hr1t := hr1t.below hb7
  have hs67 := hb7.size
  obtain ⟨qa, qc, rfl, -⟩ := id hmq.sl
  rw [fl63_1, fl61_5, st59 rfl (hr1t.cell (i := 1 + 5) rfl) (hr1t.free _)]
  have ho7 : ∀ u, Off (fun y => y = xb) w7 (w7.setCell ⟨xb, 1 + 5, none⟩ u) := fun u => Off.set rfl
  have hr1u : RowAt (w7.setCell ⟨xb, 1 + 5, none⟩ (.slice qa xs0.length qc)) xb 63 (itemL x (.slice ea x.lab.ev.length ec) (.slice ca x.lab.ct.length cc) (.slice qa xs0.length qc)) := hr1t.set 6 _
  have hme8 := (hme6.below hb7).apart (ho7 (.slice qa xs0.length qc)) (apRow hr1t (by decide))
  have hmc8 := (hmc6.below hb7).apart (ho7 (.slice qa xs0.length qc)) (apRow hr1t (by decide))
  have hmq8 := (hmq.base (show rb + 1 ≤ w6.heap.size by omega)).apart (ho7 (.slice qa xs0.length qc)) (apRow hr1t (by decide))
  have hr28 := (hr26.below hb7).off (ho7 (.slice qa xs0.length qc)) (fun hh => by omega)
  have hb08 : Below w.heap.size w (w7.setCell ⟨xb, 1 + 5, none⟩ (.slice qa xs0.length qc)) := hb07.setCell (show w.heap.size ≤ xb by omega) _
  have hsz7 := (ho7 (.slice qa xs0.length qc)).size
  clear hr1t hmq hr26 hb7 hb07 ho7 hb06 hme6 hmc6
  generalize w7.setCell ⟨xb, 1 + 5, none⟩ (.slice qa xs0.length qc) = w8 at *
  rw [fl63_1, rw61_5 (hr1u.cell (i := 1 + 5) rfl), len59 hmq8.sl]
  refine Loop1.intro (fun n a w' => ∃ (i : Nat) (ys : List QW), a = I i ∧ i ≤ xs0.length ∧ n = xs0.length - i ∧ Below w.heap.size w w' ∧ w8.heap.size ≤ w'.heap.size ∧ RowAt w' xb 63 (itemL x (.slice ea x.lab.ev.length ec) (.slice ca x.lab.ct.length cc) (.slice qa xs0.length qc)) ∧ (∃ vs, vs.length = 9 ∧ RowAt w' rb 63 vs) ∧
    Mine fI 3 w' (rb + 1) (.slice ea x.lab.ev.length ec) x.lab.ev ∧ Mine fC 121 w' (rb + 1) (.slice ca x.lab.ct.length cc) x.lab.ct ∧ Mine fQW 87 w' (rb + 1) (.slice qa xs0.length qc) ys ∧ ys.length = xs0.length ∧
    (∀ (j : Nat) y p, j < i → ys[j]? = some y → x.lab.locks[j]? = some p → y.need = p.1 ∧ Mine fI 3 w' (rb + 1) (.slice y.ka y.kn y.kc) p.2) ∧ ∀ j, i ≤ j → ys[j]? = xs0[j]?) _ ⟨0, xs0, rfl, by omega, rfl, hb08, Nat.le_refl _, hr1u, ⟨_, rfl, hr28⟩, hme8, hmc8, hmq8, rfl, fun j y p h => by omega, fun j _ => rfl⟩ ?_
  clear hr1u hr28 hme8 hmc8 hmq8 hb08
  rintro n _ w9 ⟨i, ys, rfl, hi, rfl, hb9, hs9, hr1, ⟨vs, hv9, hr2⟩, hme, hmc, hmq, hyl, hdone, hrest⟩
  rw [w_lss]
  by_cases hlt : i < xs0.length
  case' neg =>
    rw [decide_eq_false (by omega), condW_false, ld63 rfl hr1.cells]
    refine sr63 (vs := itemL x (.slice ea x.lab.ev.length ec) (.slice ca x.lab.ct.length cc) (.slice qa xs0.length qc)) rfl hr2 hv9 (one9' (x := x) hme.sl hmc.sl hmq.sl) fun w10 ho10 hr10 => ?_
    rw [rc63 rfl hr10.cells]
    have hx10 : Off (fun y => y = rb) w9 w10 := Off.only ho10 rfl
    have a3 : Apart w9 (fun y => y = rb) 3 := apRow hr2 (by decide)
    refine hk _ _ _ ys w10 (hb9.trans (ho10.rest _ (by omega))) (LabM.base (B := rb + 1) ⟨hme.apart hx10 a3, hmc.apart hx10 (apRow hr2 (by decide)), hmq.apart hx10 (apRow hr2 (by decide)), by omega, fun j y p h1 h2 => ?_⟩ (by omega))
    have := hdone j y p (by have := (List.getElem?_eq_some_iff.1 h1).1; omega) h1 h2
    exact ⟨this.1, this.2.apart hx10 a3⟩
  rw [decide_eq_true (by omega), condW_true, drewW_eq]
  have hbd := below_drew w9
  replace hr1 := hr1.drew
  replace hr2 := hr2.drew
  replace hme := hme.below hbd
  replace hmc := hmc.below hbd
  replace hmq := hmq.below hbd
  replace hdone : ∀ (j : Nat) y p, j < i → ys[j]? = some y → x.lab.locks[j]? = some p → y.need = p.1 ∧ Mine fI 3 w9.drew (rb + 1) (.slice y.ka y.kn y.kc) p.2 := fun j y p h1 h2 h3 => ⟨(hdone j y p h1 h2 h3).1, (hdone j y p h1 h2 h3).2.below hbd⟩
  replace hb9 : Below w.heap.size w w9.drew := below_trans hb9 hbd
  replace hs9 := Nat.le_trans hs9 hbd.size
  clear hbd
  generalize w9.drew = wa at *
  have haa := after_refl wa
  obtain ⟨y, hy⟩ : ∃ y, xs0[i]? = some y := ⟨_, List.getElem?_eq_getElem hlt⟩
  obtain ⟨p, hp⟩ : ∃ p, x.lab.locks[i]? = some p := ⟨_, List.getElem?_eq_getElem (by omega)⟩
  have hyi : ys[i]? = some y := by rw [hrest i (Nat.le_refl _)]; exact hy
  obtain ⟨kv, hkv, hks⟩ := hqx0.2 i y p hy hp
  obtain ⟨e1, e2⟩ : I y.need = I p.1 ∧ (.slice y.ka y.kn y.kc : Value) = kv := by simpa [fQW] using hkv
  have hkl : p.2.length ≤ 20 := (hV.2.2.2.2.1 i p hp).1.len
  refine ⟨after wa, haa, ?_⟩
  rw [tfl63_1, ra61_5 (hr1.cell (i := 1 + 5) rfl) haa, tfl63_1, ra61_5 (hr1.cell (i := 1 + 5) rfl) haa, gt59_1 (F := fQW) rfl hmq.sl (by omega) (by simpa using hyi) (u := kv) (by rw [← e2]; rfl)]
  refine c72 (hks.below hb9) (by omega) fun k9 wb hmk hbb => ?_
  rw [keepS_eq]
  refine ⟨hbb, ?_⟩
  obtain ⟨ka, kc, rfl, -⟩ := id hmk.sl
  have hbs := hbb.size
  have hmqb := hmq.below hbb
  refine Mine.setFT (F := fQW) (y := ⟨y.need, ka, p.2.length, kc⟩) (st := 87) (f := 1) (j := 1) rfl (by kernel_rfl) (by kernel_rfl) (by kernel_rfl) (by kernel_rfl) (by kernel_rfl) (by kernel_rfl) hmqb hyi (by decide) rfl rfl fun wc hmc2 hbc hoc => ?_
  rw [w_add, wrap_id (by omega), loopK_self]
  have a3 : Apart wb (isOf (.slice qa xs0.length qc)) 3 := apMine hmqb (by decide)
  have a63 : Apart wb (isOf (.slice qa xs0.length qc)) 63 := apMine hmqb (by decide)
  have a121 : Apart wb (isOf (.slice qa xs0.length qc)) 121 := apMine hmqb (by decide)
  have hb9c : Below w.heap.size w wc := (below_trans hb9 hbb).trans (hbc.mono (by omega))
  refine ⟨xs0.length - (i + 1), by omega, i + 1, ys.set i ⟨y.need, ka, p.2.length, kc⟩, by simp [I], by omega, rfl, hb9c, by have := hoc.size; omega, (hr1.below hbb).apart hoc a63, ⟨vs, hv9, (hr2.below hbb).apart hoc a63⟩, (hme.below hbb).apart hoc a3, (hmc.below hbb).apart hoc a121, hmc2, by simpa using hyl, fun j z p' hj h1 h2 => ?_, fun j hj => ?_⟩
  · by_cases hji : j = i
    · subst hji
      rw [List.getElem?_set_self (by omega)] at h1
      cases h1
      rw [hp] at h2; cases h2
      exact ⟨by simp [I] at e1; exact e1, (hmk.base (show rb + 1 ≤ wa.heap.size by omega)).apart hoc a3⟩
    · rw [List.getElem?_set_ne (by omega)] at h1
      have := hdone j z p' (by omega) h1 h2
      exact ⟨this.1, (this.2.below hbb).apart hoc a3⟩
  · rw [List.getElem?_set_ne (by omega)]; exact hrest j (by omega))
end
end Go.Proofs.YtfkfkldhcignbaaGreatDoor
/- Feeds: Seen. -/
set_option linter.unusedSimpArgs false
set_option linter.unusedVariables false
set_option maxRecDepth 4000
namespace Go.Proofs.YtfkfkldhcignbaaGreatDoor
open Go Go.V Go.RowKit
def fBo : Fl Bool := ⟨1, fun b => [.bool b], fun _ => rfl⟩
/-- what a reader sees -/
noncomputable def seenL (xs : List ItW) (r : Rdr) (ms : List Mom) : List ItW := xs.filter fun x => decide (0 ≤ relN x r ms ms.length)
noncomputable def blL (xs : List ItW) (r : Rdr) (ms : List Mom) (n : Nat) : List Bool := (List.range xs.length).map fun i => decide (0 ≤ relI xs r ms n i)
theorem blL_get {xs : List ItW} {r : Rdr} {ms : List Mom} {n i : Nat} (h : i < xs.length) : (blL xs r ms n)[i]? = some (decide (0 ≤ relI xs r ms n i)) := by
  unfold blL
  rw [List.getElem?_map, List.getElem?_range h]; rfl
theorem blL_len {xs : List ItW} {r : Rdr} {ms : List Mom} {n : Nat} : (blL xs r ms n).length = xs.length := by simp [blL]
theorem ItemM.offLt {B d : Nat} {w w' : World} {r : RawV 9} {x : ItW} (h : ItemM B w r x) (ho : Off (fun b => b = d) w w') (hd : d < B) : ItemM B w' r x := by
  obtain ⟨e, c, q, xs, h0, h1⟩ := h
  have key : ∀ {α : Type} {F : Fl α} {e : Nat} {v : Value} {l : List α}, Mine F e w B v l → Mine F e w' B v l := fun hm => hm.off ho fun b hb hh => by have := (hm.ge hb).1; omega
  exact ⟨e, c, q, xs, h0, key h1.ev, key h1.ct, key h1.lk, h1.ks.1, fun i y p h2 h3 => ⟨(h1.ks.2 i y p h2 h3).1, key (h1.ks.2 i y p h2 h3).2⟩⟩
section
variable {k : Value → World → Prop} {w : World}
theorem c42 {u v z : Value} {r : Rdr} (hr : RdrV v r) {rs : List (RawV 9)} {qs : List (RawV 5)} (hu : IsSl (fR 9) w u rs) (hz : IsSl (fR 5) w z qs) (hk : ∀ b1 b2 b3 w', Below w.heap.size w w' → RowAt w' b1 24 [u] → RowAt w' b2 33 [z] → RowAt w' b3 30 [I r.1, I r.2] → w.heap.size ≤ b1 → w.heap.size ≤ b2 → w.heap.size ≤ b3 → k (.func (.func 78) #[] #[.pointer (some ⟨b1, 0, none⟩), .pointer (some ⟨b2, 0, none⟩), .pointer (some ⟨b3, 0, none⟩)]) w') : callW Tryz.prog (.func (.func 42) #[] #[]) #[u, v, z] k w := C42 _ _ _ _ _ (by
  unfold S42
  cases hr
  obtain ⟨a1, c1, rfl, -⟩ := hu
  obtain ⟨a2, c2, rfl, -⟩ := hz
  refine w_boxN (v := .slice a1 rs.length c1) fun w1 hb1 hsz1 hr1 => ?_
  refine w_boxN (v := .agg #[I r.1, I r.2]) fun w2 hb2 hsz2 hr2 => ?_
  refine w_boxN (v := .slice a2 qs.length c2) fun w3 hb3 hsz3 hr3 => ?_
  rw [w_makeFunc]
  have h1 := hb1.size
  have h2 := hb2.size
  exact hk _ _ _ _ (below_trans (below_trans hb1 hb2) hb3) ((hr1.below hb2).below hb3) hr3 (hr2.below hb3) (by omega) (by omega) (by omega))
set_option maxHeartbeats 1000000 in
theorem c16 {u v z : Value} {xs : List ItW} {r : Rdr} {ms : List Mom} (hg : Gl w) (h : ItemsV w u xs) (hr : RdrV v r) (hm : MomsV w z ms) (hok : okIts xs) (hom : okMs ms)
    (hk : ∀ o e w', Below w.heap.size w w' → (¬ GivenP xs r ms → o = nS ∧ e = 260) → (GivenP xs r ms → e = 0 ∧ ItemsV w' o (seenL xs r ms)) → k (.tuple #[o, I e]) w') : callW Tryz.prog (.func (.func 16) #[] #[]) #[u, v, z] k w := C16 _ _ _ _ _ (by
  unfold S16
  have hml : 1000000 ≤ maxLen := by decide
  have hml2 : maxLen ≤ 9223372036854775807 := by decide
  cases hr
  refine w_boxN (v := .agg #[I r.1, I r.2]) fun w1 hb1 hsz1 hr1 => ?_
  replace hr1 : RowAt w1 w.heap.size 30 [I r.1, I r.2] := hr1
  rw [ld30 rfl hr1.cells]
  refine c41 (h.below hb1) rfl (hm.below hb1) hok hom fun b w2 hb2 hG => ?_
  have hb02 := below_trans hb1 hb2
  replace hr1 := hr1.below hb2
  rw [w_not]
  cases b with
  | false =>
    rw [Bool.not_false, condW_true]
    exact hk _ _ _ hb02 (fun _ => ⟨rfl, rfl⟩) fun hgv => by have := hG.2 hgv; cases this
  | true =>
  rw [Bool.not_true, condW_false]
  have HG := hG.1 rfl
  obtain ⟨rs, hrs, hrx⟩ := id h
  have hrl := hrx.1
  have hx12 := HG.1.1
  rw [len24 (hrs.below hb02)]
  refine w_zerosM (n := rs.length) (F := fBo) (x := false) rfl sty89 rfl rfl rfl (by omega) (by omega) fun w3 hb3 hm3 => ?_
  have hb03 := below_trans hb02 hb3
  refine al89 fun w4 hb4 hsz4 hr4 => ?_
  rw [st89 rfl (hr4.cell (i := 0) rfl) (hr4.free _)]
  have hr5 := hr4.set 0 (.slice (some ⟨w2.heap.size, 0, none⟩) rs.length rs.length)
  have ho5 : ∀ u, Off (fun y => y = w3.heap.size) w4 (w4.setCell ⟨w3.heap.size, 0, none⟩ u) := fun u => Off.set rfl
  have hm5 := (hm3.below hb4).apart (ho5 (.slice (some ⟨w2.heap.size, 0, none⟩) rs.length rs.length)) (apRow hr4 (by decide))
  have hb04 := below_trans hb03 hb4
  have hs02 := hb02.size
  have hs23 := hb3.size
  have hs34 := hb4.size
  have hb05 : Below w.heap.size w (w4.setCell ⟨w3.heap.size, 0, none⟩ (.slice (some ⟨w2.heap.size, 0, none⟩) rs.length rs.length)) := hb04.setCell (show w.heap.size ≤ w3.heap.size by omega) _
  have hrw := ((hr1.below hb3).below hb4).off (ho5 (.slice (some ⟨w2.heap.size, 0, none⟩) rs.length rs.length)) (fun hh => by have := hr1.lt; omega)
  have hsz5 := (ho5 (.slice (some ⟨w2.heap.size, 0, none⟩) rs.length rs.length)).size
  replace hr5 : RowAt (w4.setCell ⟨w3.heap.size, 0, none⟩ (.slice (some ⟨w2.heap.size, 0, none⟩) rs.length rs.length)) w3.heap.size 89 [.slice (some ⟨w2.heap.size, 0, none⟩) rs.length rs.length] := hr5
  obtain ⟨sb, hsb⟩ : ∃ sb, w2.heap.size = sb := ⟨_, rfl⟩
  obtain ⟨ib, hib⟩ : ∃ ib, w3.heap.size = ib := ⟨_, rfl⟩
  rw [hsb, hib] at hr5 hm5 hb05 hrw hsz5 ⊢
  have hiblt : ib < (w4.setCell ⟨ib, 0, none⟩ (.slice (some ⟨sb, 0, none⟩) rs.length rs.length)).heap.size := hr5.lt
  clear ho5 hr4 hr1 hm3
  generalize w4.setCell ⟨ib, 0, none⟩ (.slice (some ⟨sb, 0, none⟩) rs.length rs.length) = w5 at *
  rw [ld30 rfl hrw.cells]
  obtain ⟨qs, hqs, hqx⟩ := id hm
  refine c42 rfl (hrs.below hb05) (hqs.below hb05) fun b1 b2 b3 w6 hb6 h1 h2 h3 hl1 hl2 hl3 => ?_
  have hb06 := below_trans hb05 hb6
  have hm6 := hm5.below hb6
  have hr6 := hr5.below hb6
  have hof : ∀ b, isOf (.slice (some ⟨sb, 0, none⟩) rs.length rs.length) b ↔ b = sb := fun b => by
    simp [isOf, Value.ownBlock]
    exact eq_comm
  have hb0 : List.replicate rs.length false = blL xs r ms 0 := by
    apply List.ext_getElem?
    intro i
    by_cases hi : i < xs.length
    · rw [blL_get hi, List.getElem?_replicate, if_pos (by omega)]
      unfold relI
      rw [List.getElem?_eq_getElem hi]
      simp [relN]
    · rw [List.getElem?_eq_none (by simp; omega), List.getElem?_eq_none (by rw [blL_len]; omega)]
  rw [hb0] at hm6
  have hsbw : w.heap.size ≤ sb := by omega
  refine range_ofG (wI := w) (own := fun b => b = b1 ∨ b = b2 ∨ b = b3) (Inv := fun n j F w' => j = none ∧ (∀ b, F b ↔ b = sb ∨ b = ib) ∧ Mine fBo 4 w' sb (.slice (some ⟨sb, 0, none⟩) rs.length rs.length) (blL xs r ms n) ∧ RowAt w' ib 89 [.slice (some ⟨sb, 0, none⟩) rs.length rs.length]) (F0 := fun b => b = sb ∨ b = ib)
    ok78 (fun w7 hb7 => iter78 (snt := fun _ _ => false) hg h hm hok hom (by omega) (h1.below hb7) (h2.below hb7) (h3.below hb7) (fun _ => rfl)) hb06 (fun b hb => ?_) ⟨rfl, fun b => Iff.rfl, hm6, hr6⟩ ?_ ?_ ?_ ?_ ?_
  · have q1 := h1.lt
    have q2 := h2.lt
    have q3 := h3.lt
    refine ⟨fun hh => ?_, ?_⟩
    · have hsi : sb < w5.heap.size := by omega
      rcases hb with rfl | rfl | rfl <;> rcases hh with hh | hh <;> omega
    · rcases hb with rfl | rfl | rfl <;> assumption
  · rintro n j F a a' p ⟨rfl, hF, hm, hr⟩ ho hp
    exact ⟨rfl, hF, hm.off ho (fun b hb => hp b ((hF b).2 (.inl ((hof b).1 hb)))), hr.off ho (hp ib ((hF ib).2 (.inr rfl)))⟩
  · rintro n j F a b ⟨rfl, hF, hm, hr⟩ hb
    have := hr.lt
    have := (hm.ge ((hof sb).2 rfl)).2
    rcases (hF b).1 hb with rfl | rfl <;> omega
  · intro n g a a' p hP ho hp
    exact PendAll.off hP ho fun b hb => hp b (.inl hb)
  · rintro n g a F w7 d ready o kk ⟨m, sv, hmn, rfl, hsv, hmg, hpa⟩ _ hX ⟨_, hF, hM7, hR7⟩ hb7 hrdy hd hdI hdF hdX hkk
    refine ⟨hrdy w7 (Below.refl _ _), ?_⟩
    have hput : Off (fun b => b = d) w7 (w7.putObj d o) := off_putObj rfl
    have hdM : ∀ b, isOf (.slice (some ⟨sb, 0, none⟩) rs.length rs.length) b → ¬ b = d := fun b hb hh => hdF (hh ▸ (hF b).2 (.inl ((hof b).1 hb)))
    have hM8 := hM7.off hput hdM
    have hR8 := hR7.off hput (fun hh => hdF (hh ▸ (hF ib).2 (.inr rfl)))
    have hmg8 := hmg.off hput (fun b hb hh => hdX (hh ▸ .inr hb))
    have hpa8 := hpa.off hput (fun b hb hh => hdX (hh ▸ .inl hb))
    have hb8 : Below w.heap.size w (w7.putObj d o) := hb7.trans (below_putObj hdI)
    have hgl := hpa.1
    have hs78 := hput.size
    have hsN : (w7.putObj d o).heap.size = w7.heap.size := by simp
    show opW _ _ _ (w7.putObj d o)
    have kk2 := fun j F' w'' => hkk j F' w7 w'' (Below.refl _ _)
    clear hM7 hR7 hmg hpa hput hkk
    generalize w7.putObj d o = w8 at *
    show opW Tryz.prog (Builtin.len_ #[95] 3 #[g.2]) _ w8
    refine (len95 hmg8.sl).mpr ?_
    refine Loop1.intro (fun n' a w' => ∃ (i : Nat) (M : List Bool), a = I i ∧ i ≤ g.1.length ∧ n' = g.1.length - i ∧ Below w.heap.size w w' ∧ Off (fun b => b = sb) w8 w' ∧ Mine fBo 4 w' sb (.slice (some ⟨sb, 0, none⟩) rs.length rs.length) M ∧ M.length = xs.length ∧ ∀ j, j < i → M[j]? = (blL xs r ms (n + 1))[j]?) _ ⟨0, _, rfl, by omega, rfl, hb8, Off.refl _ _, hM8, blL_len, by omega⟩ ?_
    rintro n' _ w9 ⟨i, M, rfl, hi, rfl, hb9, ho9, hM9, hMl, hMd⟩
    have hR9 := hR8.apart ho9 (fun x hx => by subst hx; exact ⟨4, Mine.tag hM8 ((hof _).2 rfl), by decide⟩)
    have hmg9 := hmg8.apart ho9 (fun x hx => by subst hx; exact ⟨4, Mine.tag hM8 ((hof _).2 rfl), by decide⟩)
    have hpa9 := hpa8.off ho9 (fun b hb hh => absurd ((hpa8.tag b hb).uniq (hh ▸ Mine.tag hM8 ((hof _).2 rfl))) (by decide))
    rw [w_lss]
    by_cases hlt : i < g.1.length
    case' neg =>
      rw [decide_eq_false (by omega), condW_false]
      have hMe : M = blL xs r ms (n + 1) := by
        apply List.ext_getElem?
        intro j
        by_cases hj : j < i
        · exact hMd j hj
        · rw [List.getElem?_eq_none (by omega), List.getElem?_eq_none (by rw [blL_len]; omega)]
      refine kk2 none F w9 hb9 (ho9.mono fun b _ hb => .inl ((hF b).2 (.inl hb))) (fun b hb => .inl hb) ⟨rfl, hF, by rw [← hMe]; exact hM9, hR9⟩ ?_
      exact hpa9.congr (fun _ _ => rfl) (fun _ _ => rfl)
    rw [decide_eq_true (by omega), condW_true]
    obtain ⟨bi, hbi⟩ : ∃ b, g.1[i]? = some b := ⟨_, List.getElem?_eq_getElem hlt⟩
    obtain ⟨x, hx⟩ : ∃ x, xs[i]? = some x := ⟨_, List.getElem?_eq_getElem (by omega)⟩
    refine (gw95 (F := fP) rfl hmg9.sl (by omega) (by simpa using hbi) rfl).mpr ?_
    rw [drewW_eq]
    have hbd := below_drew w9
    have hMa := hM9.below hbd
    have hRa := hR9.below hbd
    obtain ⟨_, e', c', q', hrow, hls⟩ := (hpa9.below hbd).2.2 i bi x hbi hx
    have hba := below_trans hb9 hbd
    have hoa : Off (fun b => b = sb) w8 w9.drew := ho9.trans (Off.below hbd)
    generalize w9.drew = wa at *
    rw [xld89 (hRa.cell (i := 0) rfl), nilT_ptr, rt98_2 (hrow.cell (i := 0 + 10) rfl), t_geq]
    obtain ⟨y, hy⟩ : ∃ y, M[i]? = some y := ⟨_, List.getElem?_eq_getElem (by omega)⟩
    refine Mine.setET (F := fBo) (y := decide (0 ≤ relI xs r ms (n + 1) i)) rfl (by kernel_rfl) (by kernel_rfl) (by kernel_rfl) rfl size4 known4 hMa hy rfl rfl fun wb hMb hbb hob => ?_
    rw [w_add, wrap_id (by omega), loopK_self]
    refine ⟨g.1.length - (i + 1), by omega, i + 1, _, by simp [I], by omega, rfl, hba.trans (hbb.mono (by omega)), hoa.trans (hob.mono fun b _ hb => (hof b).1 hb), hMb, by simpa using hMl, fun j hj => ?_⟩
    by_cases hji : j = i
    · subst hji
      rw [List.getElem?_set_self (by omega), blL_get (by omega)]
    · rw [List.getElem?_set_ne (by omega)]; exact hMd j (by omega)
  · rintro n j F w7 d hn hb7 ⟨rfl, hF, hM7, hR7⟩ hd hdI hdF hdd
    have hnl := hn rfl
    subst hnl
    rw [jumpW_none, len24 (hrs.below hb7)]
    have hs67 := hb7.size
    refine Loop2.intro (fun n' a p w' => ∃ (i : Nat) (os : List (RawV 9)) , p = I i ∧ i ≤ rs.length ∧ n' = rs.length - i ∧ Below w7.heap.size w7 w' ∧ Mine (fR 9) 63 w' w7.heap.size a os ∧ os.length ≤ i ∧ os.length = (seenL (xs.take i) r ms).length ∧ ∀ (j : Nat) o x, os[j]? = some o → (seenL (xs.take i) r ms)[j]? = some x → ItemM w7.heap.size w' o x) _ ⟨0, [], rfl, by omega, rfl, Below.refl _ _, Mine.nil _ _, by simp, by simp [seenL], fun j o x h => by simp at h⟩ ?_
    rintro n' ov _ w8 ⟨i, os, rfl, hi, rfl, hb8, hO, hosl, hol, hoi⟩
    have hb08 := hb7.trans (hb8.mono hs67)
    rw [w_lss]
    by_cases hlt : i < rs.length
    case' neg =>
      rw [decide_eq_false (by omega), condW_false]
      have hit : xs.take i = xs := List.take_of_length_le (by omega)
      rw [hit] at hol hoi
      refine ⟨by rw [hb8.block _ hd]; exact hdd, ?_⟩
      have hput : Off (fun b => b = d) w8 (w8.putObj d (.deferred none)) := off_putObj rfl
      have hdw : w.heap.size ≤ d := by have := hb06.size; omega
      refine hk _ _ _ (hb08.trans (below_putObj hdw)) (fun hn => absurd HG hn) fun _ => ⟨rfl, os, (hO.off hput fun b hb hh => by have := (hO.ge hb).1; omega).sl, hol, fun j o x q1 q2 => (((hoi j o x q1 q2).offLt hput hd)).v⟩
    rw [decide_eq_true (by omega), condW_true]
    obtain ⟨x, hx⟩ : ∃ x, xs[i]? = some x := ⟨_, List.getElem?_eq_getElem (by omega)⟩
    obtain ⟨rr, hr⟩ : ∃ r, rs[i]? = some r := ⟨_, List.getElem?_eq_getElem hlt⟩
    have htk : seenL (xs.take (i + 1)) r ms = seenL (xs.take i) r ms ++ (if decide (0 ≤ relN x r ms ms.length) = true then [x] else []) := by
      unfold seenL
      rw [List.take_add_one, hx, List.filter_append]
      by_cases hh : 0 ≤ relN x r ms ms.length <;> simp [hh]
    refine joinW_use1 (fun a w' => ∃ os' : List (RawV 9), Below w7.heap.size w7 w' ∧ Mine (fR 9) 63 w' w7.heap.size a os' ∧ os'.length ≤ i + 1 ∧ os'.length = (seenL (xs.take (i + 1)) r ms).length ∧ ∀ (j : Nat) o x, os'[j]? = some o → (seenL (xs.take (i + 1)) r ms)[j]? = some x → ItemM w7.heap.size w' o x) ?_ ?_
    · rintro a w' ⟨os', q1, q2, q3, q4, q5⟩
      rw [w_add, wrap_id (by omega), loopK_self]
      exact ⟨rs.length - (i + 1), by omega, i + 1, os', by simp [I], by omega, rfl, q1, q2, q3, q4, q5⟩
    intro J hJ
    rw [ga24 (F := fR 9) rfl (hrs.below hb08) (by omega) (by simpa using hr)]
    refine w_var (vs := rr.1) hz63 (by rw [zc63, rr.2.1]; rfl) rr.2.2 (by rw [size63, rr.2.1]) known63 fun w9 hb9 hsz9 hr9 => ?_
    have hb79 := below_trans hb8 hb9
    have hO9 := hO.below hb9
    have hoi9 : ∀ (j : Nat) o x, os[j]? = some o → (seenL (xs.take i) r ms)[j]? = some x → ItemM w7.heap.size w9 o x := fun j o x q1 q2 => (hoi j o x q1 q2).below hb9
    have hcell : (blL xs r ms ms.length)[i]? = some (decide (0 ≤ relN x r ms ms.length)) := by
      rw [blL_get (by omega)]
      unfold relI
      rw [hx]
    rw [ld89 ((hR7.below hb79).cell (i := 0) rfl), gw89 (F := fBo) rfl (hM7.below hb79).sl (by omega) (by simpa using hcell) rfl]
    cases hdec : decide (0 ≤ relN x r ms ms.length) with
    | false =>
      rw [condW_false]
      rw [hdec] at htk
      simp only [Bool.false_eq_true, if_false, List.append_nil] at htk
      exact hJ _ _ ⟨os, hb79, hO9, by omega, by rw [htk]; exact hol, by rw [htk]; exact hoi9⟩
    | true =>
      rw [condW_true, ld63 rr.2.1 hr9.cells]
      rw [hdec] at htk
      simp only [if_true] at htk
      refine c43 (((hrx.2 i rr x hr hx).below hb08).below hb9) (HG.1.2 x (List.mem_of_getElem? hx)).2.1 fun e' c' q' ys wa hba hLa => ?_
      have hb7a := below_trans hb79 hba
      obtain ⟨rn, hrn⟩ : ∃ rn : RawV 9, rn.1 = itemL x e' c' q' := ⟨⟨_, rfl, one9' hLa.ev.sl hLa.ct.sl hLa.lk.sl⟩, rfl⟩
      have hOa := hO9.below hba
      refine Mine.push (F := fR 9) (x := rn) sty24 (fun u hu => rn.2.2 u hu) (by show _ = rn.1; rw [hrn]; rfl) (by decide) hOa hb7a.size (by omega) (by omega) fun vb wb hmb hbb hob hub => ?_
      have a3 : Apart wa (isOf ov) 3 := apMine hOa (by decide)
      have a4 : Apart wa (isOf ov) 121 := apMine hOa (by decide)
      have a5 : Apart wa (isOf ov) 87 := apMine hOa (by decide)
      refine hJ _ _ ⟨os ++ [rn], hb7a.trans hbb, hmb, by simp; omega, by rw [htk]; simp [hol], fun j o x' q1 q2 => ?_⟩
      rw [htk] at q2
      rw [List.getElem?_append] at q1 q2
      split at q1
      · rename_i hj
        rw [if_pos (by omega)] at q2
        exact ((hoi9 j o x' q1 q2).below hba).apart hob a3 a4 a5
      · rename_i hj
        rw [if_neg (by omega)] at q2
        have hj0 : j - os.length = 0 := by
          have := (List.getElem?_eq_some_iff.1 q1).1
          simp at this; omega
        rw [hj0] at q1
        rw [show j - (seenL (xs.take i) r ms).length = 0 by omega] at q2
        simp at q1 q2
        subst q1 q2
        exact ⟨e', c', q', ys, hrn, (hLa.base hb79.size).apart hob a3 a4 a5⟩)
end
end Go.Proofs.YtfkfkldhcignbaaGreatDoor
/- strings.Repeat, strings.Trim, bits.Len by the library's contracts: laid at this program by the kit's tools. -/
set_option linter.unusedSimpArgs false
set_option linter.unusedVariables false
namespace Go.Proofs
open Go.Shelf Go.RowKit
def Tryz.lays160_ren : Go.Shelf.Ren := ⟨fun | 160 => 59 | 232 => 99 | 231 => 98 | 227 => 100 | 234 => 102 | 233 => 101 | 236 => 104 | 235 => 103 | 228 => 125 | 271 => 128 | 151 => 127 | 197 => 126 | 120 => 138 | 152 => 137 | 260 => 136 | 137 => 140 | 119 => 141 | 224 => 142 | 225 => 143 | 217 => 144 | 266 => 145 | n => n, fun | 9 => 9 | 4 => 4 | 3 => 3 | 5 => 5 | 117 => 150 | 116 => 149 | 0 => 0 | 124 => 153 | 21 => 21 | 105 => 179 | 46 => 146 | 119 => 193 | 139 => 196 | 138 => 195 | n => n, fun | 3 => 2 | 4 => 3 | n => n⟩
theorem Tryz.lays160 : Go.Proofs.Lays.n160 Tryz.prog Tryz.lays160_ren := {
  mixed := by kernel_rfl
  f119 := Tryz.func141.trans (congrArg some (by kernel_rfl))
  f120 := Tryz.func138.trans (congrArg some (by kernel_rfl))
  f137 := Tryz.func140.trans (congrArg some (by kernel_rfl))
  f151 := Tryz.func127.trans (congrArg some (by kernel_rfl))
  f152 := Tryz.func137.trans (congrArg some (by kernel_rfl))
  f160 := Tryz.func59.trans (congrArg some (by kernel_rfl))
  f197 := Tryz.func126.trans (congrArg some (by kernel_rfl))
  f217 := Tryz.func144.trans (congrArg some (by kernel_rfl))
  f224 := Tryz.func142.trans (congrArg some (by kernel_rfl))
  f225 := Tryz.func143.trans (congrArg some (by kernel_rfl))
  f227 := Tryz.func100.trans (congrArg some (by kernel_rfl))
  f228 := Tryz.func125.trans (congrArg some (by kernel_rfl))
  f231 := Tryz.func98.trans (congrArg some (by kernel_rfl))
  f232 := Tryz.func99.trans (congrArg some (by kernel_rfl))
  f233 := Tryz.func101.trans (congrArg some (by kernel_rfl))
  f234 := Tryz.func102.trans (congrArg some (by kernel_rfl))
  f235 := Tryz.func103.trans (congrArg some (by kernel_rfl))
  f236 := Tryz.func104.trans (congrArg some (by kernel_rfl))
  f260 := Tryz.func136.trans (congrArg some (by kernel_rfl))
  f266 := Tryz.func145.trans (congrArg some (by kernel_rfl))
  f271 := Tryz.func128.trans (congrArg some (by kernel_rfl))
  t0 := Tryz.underlying0
  a0 := Tryz.isAgg0
  z0 := Tryz.sizeOf0
  v0 := Tryz.zeroValue0
  t3 := Tryz.underlying3
  a3 := Tryz.isAgg3
  z3 := Tryz.sizeOf3
  v3 := Tryz.zeroValue3
  t4 := Tryz.underlying4
  a4 := Tryz.isAgg4
  z4 := Tryz.sizeOf4
  v4 := Tryz.zeroValue4
  t5 := Tryz.underlying5
  a5 := Tryz.isAgg5
  z5 := Tryz.sizeOf5
  v5 := Tryz.zeroValue5
  t9 := Tryz.underlying9
  a9 := Tryz.isAgg9
  z9 := Tryz.sizeOf9
  v9 := Tryz.zeroValue9
  t21 := Tryz.underlying21
  a21 := Tryz.isAgg21
  z21 := Tryz.sizeOf21
  v21 := Tryz.zeroValue21
  t46 := Tryz.underlying146
  a46 := Tryz.isAgg146
  z46 := Tryz.sizeOf146
  v46 := Tryz.zeroValue146
  t105 := Tryz.underlying179
  a105 := Tryz.isAgg179
  z105 := Tryz.sizeOf179
  v105 := Tryz.zeroValue179
  t116 := Tryz.underlying149
  a116 := Tryz.isAgg149
  z116 := Tryz.sizeOf149
  t117 := Tryz.underlying150
  a117 := Tryz.isAgg150
  z117 := Tryz.sizeOf150
  v117 := Tryz.zeroValue150
  t119 := Tryz.underlying193
  a119 := Tryz.isAgg193
  z119 := Tryz.sizeOf193
  t124 := Tryz.underlying153
  a124 := Tryz.isAgg153
  z124 := Tryz.sizeOf153
  v124 := Tryz.zeroValue153
  t138 := Tryz.underlying195
  a138 := Tryz.isAgg195
  z138 := Tryz.sizeOf195
  v138 := Tryz.zeroValue195
  t139 := Tryz.underlying196
  a139 := Tryz.isAgg196
  z139 := Tryz.sizeOf196
  v139 := Tryz.zeroValue196
  g3 := by kernel_rfl
  g4 := by kernel_rfl }
theorem Tryz.strings_Trim_one (s : ByteArray) (c : UInt8) (hc : c.toNat < 128) (w : World) (hs : s.size ≤ 9223372036854775807) :
    Calls Tryz.prog 59 #[.string s, .string ⟨#[c]⟩] w fun e w' => e = .returned (.string ⟨(Lib.trimB s.data.toList c).toArray⟩) ∧ (w' = w ∨ w' = w.drew) := Any.strings_Trim_one Tryz.lays160 s c hc w hs
def Tryz.lays125_ren : Go.Shelf.Ren := ⟨fun | 125 => 96 | 128 => 122 | 129 => 123 | n => n, fun | 46 => 146 | 3 => 3 | 51 => 175 | 53 => 177 | 4 => 4 | 5 => 5 | 9 => 9 | n => n, fun | n => n⟩
theorem Tryz.lays125 : Go.Proofs.Lays.n125 Tryz.prog Tryz.lays125_ren := {
  mixed := by kernel_rfl
  f125 := Tryz.func96.trans (congrArg some (by kernel_rfl))
  f128 := Tryz.func122.trans (congrArg some (by kernel_rfl))
  f129 := Tryz.func123.trans (congrArg some (by kernel_rfl))
  t3 := Tryz.underlying3
  a3 := Tryz.isAgg3
  z3 := Tryz.sizeOf3
  v3 := Tryz.zeroValue3
  t4 := Tryz.underlying4
  a4 := Tryz.isAgg4
  z4 := Tryz.sizeOf4
  v4 := Tryz.zeroValue4
  t5 := Tryz.underlying5
  a5 := Tryz.isAgg5
  z5 := Tryz.sizeOf5
  v5 := Tryz.zeroValue5
  t9 := Tryz.underlying9
  a9 := Tryz.isAgg9
  z9 := Tryz.sizeOf9
  v9 := Tryz.zeroValue9
  t46 := Tryz.underlying146
  a46 := Tryz.isAgg146
  z46 := Tryz.sizeOf146
  v46 := Tryz.zeroValue146
  t51 := Tryz.underlying175
  a51 := Tryz.isAgg175
  z51 := Tryz.sizeOf175
  v51 := Tryz.zeroValue175
  t53 := Tryz.underlying177
  a53 := Tryz.isAgg177
  z53 := Tryz.sizeOf177
  v53 := Tryz.zeroValue177 }
theorem Tryz.bits_Len (x : Int) (w : World) (h0 : 0 ≤ x) (h1 : x ≤ 18446744073709551615) :
    Calls Tryz.prog 96 #[.int .u64 x] w fun e w' => e = .returned (.int .i64 (Lib.bitLen x.toNat)) ∧ w' = w := Any.bits_Len Tryz.lays125 x w h0 h1
def Tryz.lays105_ren : Go.Shelf.Ren := ⟨fun | 105 => 167 | 212 => 169 | 99 => 170 | 165 => 171 | 166 => 172 | 170 => 173 | 169 => 174 | 263 => 175 | 264 => 176 | 206 => 177 | 240 => 178 | 241 => 179 | 276 => 180 | 277 => 181 | n => n, fun | 9 => 9 | 3 => 3 | 4 => 4 | 20 => 20 | 0 => 0 | 46 => 146 | 109 => 220 | 5 => 5 | 72 => 225 | 76 => 229 | 51 => 175 | 146 => 231 | 53 => 177 | 148 => 233 | 70 => 223 | 37 => 85 | 75 => 228 | 127 => 211 | 164 => 217 | 80 => 201 | n => n, fun | n => n⟩
theorem Tryz.lays105 : Go.Proofs.Lays.n105 Tryz.prog Tryz.lays105_ren := {
  mixed := by kernel_rfl
  f99 := Tryz.func170.trans (congrArg some (by kernel_rfl))
  f105 := Tryz.func167.trans (congrArg some (by kernel_rfl))
  f165 := Tryz.func171.trans (congrArg some (by kernel_rfl))
  f166 := Tryz.func172.trans (congrArg some (by kernel_rfl))
  f169 := Tryz.func174.trans (congrArg some (by kernel_rfl))
  f170 := Tryz.func173.trans (congrArg some (by kernel_rfl))
  f206 := Tryz.func177.trans (congrArg some (by kernel_rfl))
  f212 := Tryz.func169.trans (congrArg some (by kernel_rfl))
  f240 := Tryz.func178.trans (congrArg some (by kernel_rfl))
  f241 := Tryz.func179.trans (congrArg some (by kernel_rfl))
  f263 := Tryz.func175.trans (congrArg some (by kernel_rfl))
  f264 := Tryz.func176.trans (congrArg some (by kernel_rfl))
  f276 := Tryz.func180.trans (congrArg some (by kernel_rfl))
  f277 := Tryz.func181.trans (congrArg some (by kernel_rfl))
  t0 := Tryz.underlying0
  a0 := Tryz.isAgg0
  z0 := Tryz.sizeOf0
  v0 := Tryz.zeroValue0
  t3 := Tryz.underlying3
  a3 := Tryz.isAgg3
  z3 := Tryz.sizeOf3
  v3 := Tryz.zeroValue3
  t4 := Tryz.underlying4
  a4 := Tryz.isAgg4
  z4 := Tryz.sizeOf4
  v4 := Tryz.zeroValue4
  t5 := Tryz.underlying5
  a5 := Tryz.isAgg5
  z5 := Tryz.sizeOf5
  v5 := Tryz.zeroValue5
  t9 := Tryz.underlying9
  a9 := Tryz.isAgg9
  z9 := Tryz.sizeOf9
  v9 := Tryz.zeroValue9
  t20 := Tryz.underlying20
  a20 := Tryz.isAgg20
  z20 := Tryz.sizeOf20
  v20 := Tryz.zeroValue20
  t37 := Tryz.underlying85
  a37 := Tryz.isAgg85
  z37 := Tryz.sizeOf85
  v37 := Tryz.zeroValue85
  t46 := Tryz.underlying146
  a46 := Tryz.isAgg146
  z46 := Tryz.sizeOf146
  v46 := Tryz.zeroValue146
  t51 := Tryz.underlying175
  a51 := Tryz.isAgg175
  z51 := Tryz.sizeOf175
  v51 := Tryz.zeroValue175
  t53 := Tryz.underlying177
  a53 := Tryz.isAgg177
  z53 := Tryz.sizeOf177
  v53 := Tryz.zeroValue177
  t70 := Tryz.underlying223
  a70 := Tryz.isAgg223
  z70 := Tryz.sizeOf223
  v70 := Tryz.zeroValue223
  t72 := Tryz.underlying225
  a72 := Tryz.isAgg225
  z72 := Tryz.sizeOf225
  v72 := Tryz.zeroValue225
  t75 := Tryz.underlying228
  a75 := Tryz.isAgg228
  z75 := Tryz.sizeOf228
  v75 := Tryz.zeroValue228
  t76 := Tryz.underlying229
  a76 := Tryz.isAgg229
  z76 := Tryz.sizeOf229
  v76 := Tryz.zeroValue229
  t109 := Tryz.underlying220
  a109 := Tryz.isAgg220
  z109 := Tryz.sizeOf220
  v109 := Tryz.zeroValue220
  t127 := Tryz.underlying211
  a127 := Tryz.isAgg211
  z127 := Tryz.sizeOf211
  v127 := Tryz.zeroValue211
  t146 := Tryz.underlying231
  a146 := Tryz.isAgg231
  z146 := Tryz.sizeOf231
  v146 := Tryz.zeroValue231
  t148 := Tryz.underlying233
  a148 := Tryz.isAgg233
  z148 := Tryz.sizeOf233
  v148 := Tryz.zeroValue233
  t164 := Tryz.underlying217
  a164 := Tryz.isAgg217
  z164 := Tryz.sizeOf217
  v164 := Tryz.zeroValue217 }
theorem Tryz.Builder_Extra_105 : Builder.Extra Tryz.prog Tryz.lays105_ren := {
  sizeBuilder := by kernel_rfl
  liesBuilder := by kernel_rfl
  t5 := Tryz.underlying5
  a5 := Tryz.isAgg5
  z5 := Tryz.sizeOf5
  v5 := Tryz.zeroValue5
  infoByte := by kernel_rfl
  cellsByte := by kernel_rfl
  sizeByte := by kernel_rfl
  neB5 := by decide }
theorem Tryz.strings_Repeat (s : ByteArray) (c : Nat) (w : World) (hc : c ≤ 9223372036854775807) (hlen : s.size * c ≤ 140737488355328) :
    Calls Tryz.prog 167 #[.string s, .int .i64 c] w fun e w' => e = .returned (.string ⟨(Lib.repeatL s.data.toList c).toArray⟩) ∧ Below w.heap.size w w' := Any.strings_Repeat Tryz.lays105 Tryz.Builder_Extra_105 s c w hc hlen
end Go.Proofs
namespace Go.Proofs.YtfkfkldhcignbaaGreatDoor
open Go Go.V Go.RowKit
section
variable {k : Value → World → Prop} {w : World}
theorem c96 {x : Int} (h0 : 0 ≤ x ∧ x ≤ 18446744073709551615) (hk : ∀ n : Nat, k (.int .i64 n) w) : callW Tryz.prog (.func (.func 96) #[] #[]) #[.int .u64 x] k w :=
  callW_calls ok96 (by
    refine Calls.mono (Tryz.bits_Len x w h0.1 h0.2) ?_
    rintro e w' ⟨rfl, rfl⟩
    exact hk _)
theorem c167 {s : ByteArray} {c : Nat} (hc : s.size * c ≤ 140737488355328) (hc2 : c ≤ 9223372036854775807) (hk : ∀ w', Below w.heap.size w w' → k (.string ⟨(Lib.repeatL s.data.toList c).toArray⟩) w') : callW Tryz.prog (.func (.func 167) #[] #[]) #[.string s, .int .i64 c] k w :=
  callW_calls ok167 (by
    refine Calls.mono (Tryz.strings_Repeat s c w hc2 hc) ?_
    rintro e w' ⟨rfl, hb⟩
    exact hk _ hb)
theorem c59 {s : ByteArray} {c : UInt8} (hc : c.toNat < 128) (hs : s.size ≤ 9223372036854775807) (hk : ∀ w', Below w.heap.size w w' → k (.string ⟨(Lib.trimB s.data.toList c).toArray⟩) w') : callW Tryz.prog (.func (.func 59) #[] #[]) #[.string s, .string ⟨#[c]⟩] k w :=
  callW_calls ok59 (by
    refine Calls.mono (Tryz.strings_Trim_one s c hc w hs) ?_
    rintro e w' ⟨rfl, hb⟩
    refine hk _ ?_
    rcases hb with rfl | rfl
    · exact Below.refl _ _
    · exact (Below.refl _ _).drew)
end
end Go.Proofs.YtfkfkldhcignbaaGreatDoor
/- Feeds: pointers sorted; what is left of them. -/
set_option linter.unusedSimpArgs false
set_option linter.unusedVariables false
set_option maxRecDepth 4000
namespace Go.Proofs.YtfkfkldhcignbaaGreatDoor
open Go Go.V Go.RowKit
def pv (b : Nat) : Value := .pointer (some ⟨b, 0, none⟩)
/-- a comparison of pointers on a list, whatever the world is, but for the blocks own -/
def CmpO (f : Value) (w0 : World) (own : Nat → Prop) (l : List Nat) (c : Nat → Nat → Int) : Prop := ∀ x y, x ∈ l → y ∈ l → ∀ (w1 : World) (k : Value → World → Prop), Off own w0 w1 → (∀ w2, Below w1.heap.size w1 w2 → k (I (c x y)) w2) → callW Tryz.prog f #[pv x, pv y] k w1
section
variable {k : Value → World → Prop} {w : World} {v f : Value} {c : Nat → Nat → Int} {L : List Nat} {B : Nat}
theorem set95 {K : Value → World → Prop} {q : IntKind} {l : List Nat} {x y : Nat} {i : Nat} (hs : Mine fP 96 w B v l) (hx : l[i]? = some x)
    (hk : ∀ w', Mine fP 96 w' B v (l.set i y) → Below B w w' → Off (isOf v) w w' → K undef w') :
    takeW Tryz.prog anyW (Instr.indexAt 95 v (.int q (i : Int))) (fun p => opU Tryz.prog (Instr.storeAt 96 p (pv y)) K w) w :=
  Mine.setET (F := fP) (y := y) rfl (by kernel_rfl) (by kernel_rfl) (by kernel_rfl) rfl (by kernel_rfl) (by kernel_rfl) hs hx rfl rfl hk
theorem rd95 : Rd 95 96 fP pv := ⟨fun hs => len95 hs, fun hs hx => gw95 (F := fP) rfl hs (by omega) (by simpa using hx) rfl⟩
set_option maxHeartbeats 400000 in
theorem insP (hc : CmpO f w (isOf v) L c) (hl : CmpLaw c) (ho : Mine fP 96 w B v L) (hn : L.length ≤ 1000000)
    (hk : ∀ M w', M.Perm L → SortedBut c M L.length L.length → Mine fP 96 w' B v M → Below B w w' → Off (isOf v) w w' → k (.tuple #[]) w') (hB : B ≤ w.heap.size) :
    InsS Tryz.prog 95 96 v (.int .i64 0) (.int .i64 L.length) f k w := by
  unfold InsS
  rw [w_add, wrap_id (by omega)]
  refine Loop1.intro (fun m x w' => ∃ (i : Nat) (M : List Nat), x = .int .i64 i ∧ 1 ≤ i ∧ m = L.length - i ∧ M.Perm L ∧ SortedBut c M i i ∧ Mine fP 96 w' B v M ∧ Below B w w' ∧ Off (isOf v) w w') (L.length - 1)
    ⟨1, L, by simp, by omega, rfl, List.Perm.refl _, fun p q x y h1 h2 => by omega, ho, Below.refl _ _, Off.refl _ _⟩ ?_
  rintro m _ w1 ⟨i, M, rfl, hi, rfl, hperm, hsort, ho1, hw1, hf1⟩
  rw [w_lss]
  by_cases hlt : i < L.length
  · rw [decide_eq_true (by omega), condW_true]
    have hML : M.length = L.length := hperm.length_eq
    refine Loop1.intro (fun m x w' => ∃ (j : Nat) (M : List Nat), x = .int .i64 j ∧ j ≤ i ∧ m = j ∧ M.Perm L ∧ SortedBut c M (i + 1) j ∧ Mine fP 96 w' B v M ∧ Below B w w' ∧ Off (isOf v) w w') i
      ⟨i, M, rfl, Nat.le_refl _, rfl, hperm, fun p q x y h1 h2 h3 => hsort p q x y h1 (by omega) h3, ho1, hw1, hf1⟩ ?_
    clear hML hsort hperm ho1 hw1 hf1
    rintro m2 _ w2 ⟨j, M, rfl, hj, hm2, hperm, hsort, ho2, hw2, hf2⟩
    have hML : M.length = L.length := hperm.length_eq
    have done : (∀ j', j = j' + 1 → ∀ x y, M[j']? = some x → M[j]? = some y → ¬ c y x < 0) → SortedBut c M (i + 1) (i + 1) := by
      intro hd p q x y hpq hq _ hx hy
      by_cases hqj : q = j
      · subst hqj
        obtain ⟨j', rfl⟩ : ∃ j', q = j' + 1 := ⟨q - 1, by omega⟩
        by_cases hpj : p = j'
        · subst hpj; exact hd p rfl x y hx hy
        · obtain ⟨z, hz⟩ : ∃ z, M[j']? = some z := ⟨M[j']'(by omega), by simp⟩
          exact hl.nt x z y (hd j' rfl z y hz hy) (hsort p j' x z (by omega) (by omega) (by omega) hx hz)
      · exact hsort p q x y hpq (by omega) hqj hx hy
    rw [drewW_eq, t_gtr]
    have hw2d := hw2.trans ((Below.refl B w2).drew)
    have hf2d : Off (isOf v) w w2.drew := hf2.trans (off_drew _ w2)
    have ho2d : Mine fP 96 w2.drew B v M := ho2.off (off_drew (fun _ => False) w2) (fun _ _ h => h)
    rcases Nat.eq_zero_or_pos j with hj0 | hj0
    · rw [decide_eq_false (by omega)]
      simp only [guardT_ft, guardT_u, guardW_ft, guardW_u, pickT_false, condW_false]
      rw [w_add, wrap_id (by omega), loopK_self]
      exact ⟨L.length - (i + 1), by omega, i + 1, M, by simp, by omega, rfl, hperm, done (fun j' h => by omega), ho2d, hw2d, hf2d⟩
    · obtain ⟨j', rfl⟩ : ∃ j', j = j' + 1 := ⟨j - 1, by omega⟩
      obtain ⟨x, hx⟩ : ∃ x, M[j' + 1]? = some x := ⟨M[j' + 1]'(by omega), by simp⟩
      obtain ⟨y, hy⟩ : ∃ y, M[j']? = some y := ⟨M[j']'(by omega), by simp⟩
      rw [decide_eq_true (by omega)]
      simp only [guardT_tt, guardW_tt]
      rw [nt95 rfl ho2d.sl hx rfl, t_sub, wrap_id (by omega), show ((j' + 1 : Nat) : Int) - 1 = (j' : Int) by omega, nt95 rfl ho2d.sl hy rfl]
      refine hc x y (hperm.mem_iff.1 (List.mem_of_getElem? hx)) (hperm.mem_iff.1 (List.mem_of_getElem? hy)) _ _ hf2d fun w3 hb3 => ?_
      have ho3 := ho2d.below hb3
      have hB2 : B ≤ w2.drew.heap.size := Nat.le_trans hB hf2d.size
      have hw3 := hw2d.trans (hb3.mono hB2)
      have hf3 : Off (isOf v) w w3 := hf2d.trans (Off.below hb3)
      rw [t_lss]
      simp only [pickT_true]
      by_cases hlt2 : c x y < 0
      · rw [decide_eq_true hlt2, condW_true, drewW_eq, t_sub, wrap_id (by omega), t_sub, wrap_id (by omega), show ((j' + 1 : Nat) : Int) - 1 = (j' : Int) by omega]
        have ho3d : Mine fP 96 w3.drew B v M := ho3.off (off_drew (fun _ => False) w3) (fun _ _ h => h)
        rw [nt95 rfl ho3d.sl hy rfl, nt95 rfl ho3d.sl hx rfl]
        refine set95 ho3d hx fun w4 ho4 hb4 hf4 => ?_
        have hy4 : (M.set (j' + 1) y)[j']? = some y := by rw [List.getElem?_set_ne (by omega)]; exact hy
        refine set95 ho4 hy4 fun w5 ho5 hb5 hf5 => ?_
        rw [w_sub, wrap_id (by omega), show ((j' + 1 : Nat) : Int) - 1 = (j' : Int) by omega, loopK_self]
        have hxe : M[j' + 1]'(by omega) = x := by rw [List.getElem?_eq_getElem (by omega)] at hx; exact Option.some.inj hx
        have hye : M[j']'(by omega) = y := by rw [List.getElem?_eq_getElem (by omega)] at hy; exact Option.some.inj hy
        have hp2 : ((M.set (j' + 1) y).set j' x).Perm M := by
          have := @List.set_set_perm _ M (j' + 1) j' (by omega) (by omega)
          rw [hxe, hye] at this; exact this
        refine ⟨j', by omega, j', _, rfl, by omega, rfl, hp2.trans hperm, ?_, ho5, ((hw3.trans ((Below.refl B w3).drew)).trans hb4).trans hb5, ((hf3.trans (off_drew _ w3)).trans hf4).trans hf5⟩
        intro p q u v hpq hq hqj hu hv
        rw [List.getElem?_set] at hu hv
        rw [List.getElem?_set] at hu hv
        simp only [List.length_set] at hu hv
        rw [if_neg (Ne.symm hqj)] at hv
        by_cases hq1 : q = j' + 1
        · rw [if_pos hq1.symm, if_pos (by omega)] at hv
          cases hv
          by_cases hpj : p = j'
          · rw [if_pos hpj.symm, if_pos (by omega)] at hu
            cases hu
            exact hl.asym _ _ hlt2
          · rw [if_neg (Ne.symm hpj), if_neg (by omega)] at hu
            exact hsort p j' u y (by omega) (by omega) (by omega) hu hy
        · rw [if_neg (Ne.symm hq1)] at hv
          by_cases hpj : p = j'
          · rw [if_pos hpj.symm, if_pos (by omega)] at hu
            cases hu
            exact hsort (j' + 1) q x v (by omega) hq hq1 hx hv
          · rw [if_neg (Ne.symm hpj)] at hu
            by_cases hp1 : p = j' + 1
            · rw [if_pos hp1.symm, if_pos (by omega)] at hu
              cases hu
              exact hsort j' q y v (by omega) hq hq1 hy hv
            · rw [if_neg (Ne.symm hp1)] at hu
              exact hsort p q u v hpq hq hq1 hu hv
      · rw [decide_eq_false hlt2, condW_false, w_add, wrap_id (by omega), loopK_self]
        exact ⟨L.length - (i + 1), by omega, i + 1, M, by simp, by omega, rfl, hperm, done (fun j'' h x' y' hx' hy' => by
          obtain rfl : j' = j'' := by omega
          rw [hy] at hx'; rw [hx] at hy'; cases hx'; cases hy'; exact hlt2), ho3, hw3, hf3⟩
  · rw [decide_eq_false (by omega), condW_false]
    exact hk M w1 hperm (fun p q x y h1 h2 _ hx hy => hsort p q x y h1 (by omega) (by omega) hx hy) ho1 hw1 hf1
theorem c114 (hc : CmpO f w (isOf v) L c) (hl : CmpLaw c) (ho : Mine fP 96 w B v L) (hn : L.length ≤ 1000000) (hB : B ≤ w.heap.size)
    (hk : ∀ M w', M.Perm L → SortedBut c M L.length L.length → Mine fP 96 w' B v M → Below B w w' → Off (isOf v) w w' → k (.tuple #[]) w') :
    callW Tryz.prog (.func (.func 114) #[] #[]) #[v, I 0, I L.length, f] k w := C114 _ _ _ _ _ _ (insP hc hl ho hn hk hB)
theorem c95 {lim : Value} (hc : CmpO f w (isOf v) L c) (hl : CmpLaw c) (ho : Mine fP 96 w B v L) (hn : L.length ≤ 12) (hB : B ≤ w.heap.size)
    (hk : ∀ M w', M.Perm L → SortedBut c M L.length L.length → Mine fP 96 w' B v M → Below B w w' → Off (isOf v) w w' → k (.tuple #[]) w') :
    callW Tryz.prog (.func (.func 95) #[] #[]) #[v, I 0, I L.length, lim, f] k w := C95 _ _ _ _ _ _ _ (by
  unfold S95
  refine Loop5.intro (fun m a b _ _ _ w' => a = I 0 ∧ b = I L.length ∧ w' = w) 0 ⟨rfl, rfl, rfl⟩ ?_
  rintro m _ _ _ _ _ w' ⟨rfl, rfl, rfl⟩
  rw [joinW_eq, w_sub, wrap_id (by omega), w_leq, decide_eq_true (by omega), condW_true]
  exact c114 hc hl ho (by omega) hB hk)
theorem c55 (hc : CmpO f w (isOf v) L c) (hl : CmpLaw c) (ho : Mine fP 96 w B v L) (hn : L.length ≤ 12) (hB : B ≤ w.heap.size)
    (hk : ∀ M w', M.Perm L → SortedBut c M L.length L.length → Mine fP 96 w' B v M → Below B w w' → Off (isOf v) w w' → k (.tuple #[]) w') :
    callW Tryz.prog (.func (.func 55) #[] #[]) #[v, f] k w := C55 _ _ _ _ (by
  unfold S55
  refine (len95 ho.sl).mpr ?_
  rw [w_conv (q := .u64) (by kernel_rfl) (by kernel_rfl), IntWalk.u64_in _ (by omega)]
  refine c96 ⟨by omega, by omega⟩ fun nn => ?_
  exact c95 hc hl ho hn hB hk)
theorem c94 {l : List Nat} {p : Nat → Bool} (hs : IsSl fP w v l) (hl : l.length ≤ maxLen) (hf : ∀ x ∈ l, Asks f w (pv x) (p x)) (hk : ∀ r w', Below w.heap.size w w' → FirstAt l p r → k (I r) w') : callW Tryz.prog (.func (.func 94) #[] #[]) #[v, f] k w := C94 _ _ _ _ (idxF (el := pv) rd95 hs hl hf hk)
theorem c53 {l : List Nat} {p : Nat → Bool} (hm : Mine fP 96 w B v l) (hl : l.length ≤ maxLen) (hB : B ≤ w.heap.size) (hf : ∀ x ∈ l, AsksO f w (isOf v) (pv x) (p x))
    (hk : ∀ u w', Mine fP 96 w' B u (l.filter fun x => !p x) → Below B w w' → Off (isOf v) w w' → (∀ b, isOf u b → isOf v b) → k u w') : callW Tryz.prog (.func (.func 53) #[] #[]) #[v, f] k w :=
  C53 _ _ _ _ (delF (el := pv) rd95 sty95 rfl (fun _ => rfl) (fun _ => rfl) (by kernel_rfl) (by kernel_rfl) (by kernel_rfl) (by kernel_rfl) known96 size96 (by kernel_rfl) rfl (fun hs hf hk => c94 hs hl hf hk) hm hl hB hf hk)
end
end Go.Proofs.YtfkfkldhcignbaaGreatDoor
/- Feeds: how items on their way are ordered, and sent. -/
set_option linter.unusedSimpArgs false
set_option linter.unusedVariables false
set_option maxRecDepth 4000
namespace Go.Proofs.YtfkfkldhcignbaaGreatDoor
open Go Go.V Go.RowKit
def orL : List Int → Int
  | [] => 0
  | x :: r => if x ≠ 0 then x else orL r
def keyC (a b : Int × Int × Int) : Int := orL [cmpI a.1 b.1, cmpI a.2.1 b.2.1, cmpI a.2.2 b.2.2]
theorem cmpI_zero {x y : Int} : cmpI x y = 0 ↔ x = y := by
  unfold cmpI
  split
  · omega
  · split <;> omega
theorem cmpI_neg {x y : Int} : cmpI x y < 0 ↔ x < y := by
  unfold cmpI
  split
  · omega
  · split <;> omega
theorem keyC_neg {a b : Int × Int × Int} : keyC a b < 0 ↔ a.1 < b.1 ∨ a.1 = b.1 ∧ (a.2.1 < b.2.1 ∨ a.2.1 = b.2.1 ∧ a.2.2 < b.2.2) := by
  unfold keyC
  have h1 := @cmpI_zero a.1 b.1
  have h2 := @cmpI_zero a.2.1 b.2.1
  have h3 := @cmpI_zero a.2.2 b.2.2
  have g1 := @cmpI_neg a.1 b.1
  have g2 := @cmpI_neg a.2.1 b.2.1
  have g3 := @cmpI_neg a.2.2 b.2.2
  simp only [orL]
  split
  · omega
  · split
    · omega
    · split
      · omega
      · omega
theorem keyC_two {a b c d : Int} : orL [cmpI a b, cmpI c d] = keyC (a, 0, c) (b, 0, d) := by
  unfold keyC
  have : cmpI 0 0 = 0 := by decide
  simp [orL, this]
theorem keyLaw (f : Nat → Int × Int × Int) : CmpLaw fun x y => keyC (f x) (f y) := by
  constructor
  · intro x y
    simp only [keyC_neg]
    omega
  · intro x y z
    simp only [keyC_neg]
    omega
def oneB (n : Nat) : ByteArray := ⟨#[UInt8.ofNat n]⟩
def codedB (s : ByteArray) : ByteArray := oneB s.size ++ s
def zeroB (n : Nat) : ByteArray := ⟨(List.replicate n (0 : UInt8)).toArray⟩
theorem codedB_size (s : ByteArray) : (codedB s).size = s.size + 1 := by
  unfold codedB
  rw [ByteArray.size_append]
  have : (oneB s.size).size = 1 := rfl
  omega
theorem conv_nat {n : Nat} : Value.int .u8 (IntKind.u8.wrap n) = bV (UInt8.ofNat n) := by
  rw [conv_bI]
  unfold bI
  congr 1
  rw [show ((n : Int) % 256).toNat = n % 256 by omega]
  apply UInt8.toNat_inj.1
  simp
section
variable {k : Value → World → Prop} {w wI : World}
theorem c106n {v : Value} {l : List Int} (hv : IsSl fI w v l) (hl : l.length ≤ maxLen) (hk : k (I (orL l)) w) : callW Tryz.prog (.func (.func 106) #[] #[]) #[v] k w := C106 _ _ _ (by
  unfold S106
  have hml : maxLen ≤ 9223372036854775807 := by decide
  refine (len25 hv).mpr ?_
  refine Loop1.intro (fun n a w' => ∃ i : Nat, a = I i ∧ i ≤ l.length ∧ n = l.length - i ∧ w' = w ∧ orL (l.drop i) = orL l) _ ⟨0, rfl, by omega, rfl, rfl, rfl⟩ ?_
  rintro n _ _ ⟨i, rfl, hi, rfl, rfl, h1⟩
  rw [w_lss]
  by_cases hlt : i < l.length
  case' neg =>
    rw [decide_eq_false (by omega), condW_false]
    rw [List.drop_of_length_le (by omega)] at h1
    rw [← h1] at hk; exact hk
  rw [decide_eq_true (by omega), condW_true]
  obtain ⟨z, hz⟩ : ∃ z, l[i]? = some z := ⟨_, List.getElem?_eq_getElem (by omega)⟩
  rw [List.drop_eq_getElem_cons hlt, (List.getElem?_eq_some_iff.1 hz).2] at h1
  rw [gw25 (F := fI) rfl hv (by omega) (by simpa using hz) rfl, w_neq]
  unfold orL at h1
  by_cases h0 : z = 0
  · rw [if_neg (by simp [h0])] at h1
    rw [decide_eq_true h0, Bool.not_true, condW_false, w_add, wrap_id (by omega), loopK_self]
    refine ⟨l.length - (i + 1), by omega, i + 1, by simp [I], by omega, rfl, rfl, ?_⟩
    rw [h1]; cases l <;> rfl
  · rw [if_pos h0] at h1
    rw [decide_eq_false h0, Bool.not_false, condW_true]
    have : orL l = z := by rw [h1]; cases l <;> rfl
    rw [this] at hk; exact hk)
theorem c164 {b1 b2 i1 i2 : Nat} {x1 x2 : ItW} {r1 r2 : Int} {s1 s2 : Bool} (h1 : PendR wI w b1 x1 i1 r1 s1) (h2 : PendR wI w b2 x2 i2 r2 s2)
    (hk : ∀ w', Below w.heap.size w w' → k (I (keyC (x1.cls, r1, i1) (x2.cls, r2, i2))) w') : callW Tryz.prog (fv 164) #[pv b1, pv b2] k w := C164 _ _ _ _ (by
  unfold S164
  rw [drewW_eq]
  have hbd := below_drew w
  obtain ⟨e1, c1, q1, g1, _⟩ := h1.below hbd
  obtain ⟨e2, c2, q2, g2, _⟩ := h2.below hbd
  generalize w.drew = w1 at *
  have a1 := after_refl w1
  refine ⟨after w1, a1, ?_⟩
  unfold pv
  rw [nilT_ptr, tfl98_0, ra63_2 (g1.cell (i := 0 + 7) rfl) a1, nilT_ptr, tfl98_0, ra63_2 (g2.cell (i := 0 + 7) rfl) a1, nilT_ptr, ra98_2 (g1.cell (i := 0 + 10) rfl) a1, nilT_ptr, ra98_2 (g2.cell (i := 0 + 10) rfl) a1, nilT_ptr, ra98_1 (g1.cell (i := 0 + 9) rfl) a1, nilT_ptr, ra98_1 (g2.cell (i := 0 + 9) rfl) a1]
  refine c64 ?_
  rw [keepS_eq]
  refine ⟨a1, c64 ?_⟩
  rw [keepS_eq]
  refine ⟨a1, c64 ?_⟩
  rw [keepS_eq]
  refine ⟨a1, w_parts (F := fI) (l := [cmpI x1.cls x2.cls, cmpI r1 r2, cmpI i1 i2]) sty25 rfl (by decide) (by decide) (by kernel_rfl) rfl fun w2 hb2 _ hm2 => ?_⟩
  rw [keepS_eq]
  refine ⟨hb2, c106n hm2.sl (by simp; decide) ?_⟩
  rw [keepS_eq]
  exact ⟨hb2, hk _ (below_trans hbd hb2)⟩)
theorem c161 {b1 b2 i1 i2 : Nat} {x1 x2 : ItW} {r1 r2 : Int} {s1 s2 : Bool} (h1 : PendR wI w b1 x1 i1 r1 s1) (h2 : PendR wI w b2 x2 i2 r2 s2)
    (hk : ∀ w', Below w.heap.size w w' → k (I (keyC (x1.cls, 0, i1) (x2.cls, 0, i2))) w') : callW Tryz.prog (fv 161) #[pv b1, pv b2] k w := C161 _ _ _ _ (by
  unfold S161
  rw [drewW_eq]
  have hbd := below_drew w
  obtain ⟨e1, c1, q1, g1, _⟩ := h1.below hbd
  obtain ⟨e2, c2, q2, g2, _⟩ := h2.below hbd
  generalize w.drew = w1 at *
  have a1 := after_refl w1
  refine ⟨after w1, a1, ?_⟩
  unfold pv
  rw [nilT_ptr, tfl98_0, ra63_2 (g1.cell (i := 0 + 7) rfl) a1, nilT_ptr, tfl98_0, ra63_2 (g2.cell (i := 0 + 7) rfl) a1, nilT_ptr, ra98_1 (g1.cell (i := 0 + 9) rfl) a1, nilT_ptr, ra98_1 (g2.cell (i := 0 + 9) rfl) a1]
  refine c64 ?_
  rw [keepS_eq]
  refine ⟨a1, c64 ?_⟩
  rw [keepS_eq]
  refine ⟨a1, w_parts (F := fI) (l := [cmpI x1.cls x2.cls, cmpI i1 i2]) sty25 rfl (by decide) (by decide) (by kernel_rfl) rfl fun w2 hb2 _ hm2 => ?_⟩
  rw [keepS_eq]
  refine ⟨hb2, c106n hm2.sl (by simp; decide) ?_⟩
  rw [keyC_two, keepS_eq]
  exact ⟨hb2, hk _ (below_trans hbd hb2)⟩)
theorem c163 {s : Value} {b i n : Nat} {x : ItW} {rel : Int} {snt : Bool} {m : Mom} {r : Rdr} (hs : SlotV wI s n m r) (h1 : PendR wI w b x i rel snt) (hk : ∀ w', Below w.heap.size w w' → k (.bool (decide (0 ≤ rel))) w') : callW Tryz.prog (fv 163) #[s, pv b] k w := C163 _ _ _ _ (by
  unfold S163
  obtain ⟨e, c, q, rfl, _⟩ := hs
  refine w_boxN (v := .agg (slotL n m e c q r).toArray) fun w1 hb1 hsz1 hr1 => ?_
  obtain ⟨e1, c1, q1, g1, _⟩ := h1.below hb1
  unfold pv
  rw [nilW_ptr, rw98_2 (g1.cell (i := 0 + 10) rfl), w_geq]
  exact hk _ hb1)
theorem c166 {b i : Nat} {x : ItW} {rel : Int} {snt : Bool} (h1 : PendR wI w b x i rel snt) (hx : x.text.size ≤ 1000000) (hB : wI.heap.size ≤ b)
    (hk : ∀ w', Below wI.heap.size w w' → Off (fun y => y = b) w w' → PendR wI w' b x i rel true → k (.string (codedB x.text)) w') : callW Tryz.prog (fv 166) #[pv b] k w := C166 _ _ _ (by
  unfold S166
  obtain ⟨e1, c1, q1, g1, g2⟩ := id h1
  unfold pv
  rw [nilW_ptr, fl98_3, st4 rfl (g1.cell (i := 0 + 11) rfl) (g1.free _)]
  have ho1 : Off (fun y => y = b) w (w.setCell ⟨b, 0 + 11, none⟩ (.bool true)) := Off.set rfl
  have hr1 : RowAt (w.setCell ⟨b, 0 + 11, none⟩ (.bool true)) b 98 (itemL x e1 c1 q1 ++ [I i, I rel, .bool true]) := g1.set 11 (.bool true)
  have hb1 : Below wI.heap.size w (w.setCell ⟨b, 0 + 11, none⟩ (.bool true)) := (Below.refl _ _).setCell hB _
  generalize w.setCell ⟨b, 0 + 11, none⟩ (.bool true) = w1 at *
  rw [drewW_eq]
  have hbd := below_drew w1
  replace hr1 := hr1.drew
  replace hb1 := hb1.drew
  replace ho1 := ho1.trans (off_drew _ w1)
  generalize w1.drew = w2 at *
  have a2 := after_refl w2
  refine ⟨after w2, a2, ?_⟩
  rw [nilT_ptr, tfl98_0, ra63_3 (hr1.cell (i := 0 + 8) rfl) a2, t_lenStr (by kernel_rfl), takeW_pure (fun w => run_of_eq fun k => w_conv (q := .u8) (by kernel_rfl) (by kernel_rfl)), nilT_ptr, tfl98_0, ra63_3 (hr1.cell (i := 0 + 8) rfl) a2, conv_nat]
  refine w_parts (F := fB) (l := [UInt8.ofNat x.text.size]) sty85 rfl (by decide) (by decide) (by kernel_rfl) rfl fun w3 hb3 _ hm3 => ?_
  rw [keepS_eq]
  refine ⟨hb3, ?_⟩
  rw [takeW_same (run_of_eq fun k => w_toStr (e := 5) (by kernel_rfl) (by kernel_rfl) (by kernel_rfl) hm3.sl (by simp))]
  rw [t_addStr (by have : (⟨[UInt8.ofNat x.text.size].toArray⟩ : ByteArray).size = 1 := rfl; omega)]
  exact hk w3 (hb1.trans (hb3.mono (by have := hr1.lt; omega))) (ho1.trans (Off.below hb3)) ⟨e1, c1, q1, hr1.below hb3, g2⟩)
theorem c57 {s : ByteArray} (hx : s.size ≤ 1000000) (hk : ∀ w', Below w.heap.size w w' → k (.string (codedB s)) w') : callW Tryz.prog (.func (.func 57) #[] #[]) #[.string s] k w := C57 _ _ _ (by
  unfold S57
  rw [w_lenStr (by kernel_rfl), w_conv (q := .u8) (by kernel_rfl) (by kernel_rfl), conv_nat]
  refine w_parts (F := fB) (l := [UInt8.ofNat s.size]) sty85 rfl (by decide) (by decide) (by kernel_rfl) rfl fun w3 hb3 _ hm3 => ?_
  rw [w_toStr (e := 5) (by kernel_rfl) (by kernel_rfl) (by kernel_rfl) hm3.sl (by simp), w_addStr (by have : (⟨[UInt8.ofNat s.size].toArray⟩ : ByteArray).size = 1 := rfl; omega)]
  exact hk _ hb3)
end
end Go.Proofs.YtfkfkldhcignbaaGreatDoor
/- Feeds, plain: what is left in a slot, what is sent, the packets. -/
set_option linter.unusedSimpArgs false
set_option linter.unusedVariables false
set_option maxRecDepth 4000
namespace Go.Proofs.YtfkfkldhcignbaaGreatDoor
open Go Go.V Go.RowKit
def IsMin (key : Nat → Int × Int × Int) (l : List Nat) (i : Nat) : Prop := i ∈ l ∧ ∀ j ∈ l, ¬ keyC (key j) (key i) < 0
def stepK (key : Nat → Int × Int × Int) (b : Option Nat) (i : Nat) : Option Nat := match b with
  | none => some i
  | some j => if keyC (key i) (key j) < 0 then some i else some j
def minK (key : Nat → Int × Int × Int) (l : List Nat) : Option Nat := l.foldl (stepK key) none
def minOk (key : Nat → Int × Int × Int) (l : List Nat) : Option Nat → Prop
  | none => l = []
  | some i => IsMin key l i
theorem stepK_ok {key : Nat → Int × Int × Int} {l : List Nat} {b : Option Nat} {x : Nat} (h : minOk key l b) : minOk key (l ++ [x]) (stepK key b x) := by
  cases b with
  | none =>
    have hl : l = [] := h
    subst hl
    refine ⟨by simp, fun j hj => ?_⟩
    simp at hj
    subst hj
    rw [keyC_neg]; omega
  | some j =>
    have hj : IsMin key l j := h
    unfold stepK
    simp only
    split
    · rename_i hlt
      refine ⟨by simp, fun z hz => ?_⟩
      rcases List.mem_append.1 hz with hz | hz
      · intro hh
        refine hj.2 z hz ?_
        rw [keyC_neg] at hh hlt ⊢
        omega
      · simp at hz
        subst hz
        rw [keyC_neg]; omega
    · rename_i hlt
      refine ⟨List.mem_append.2 (.inl hj.1), fun z hz => ?_⟩
      rcases List.mem_append.1 hz with hz | hz
      · exact hj.2 z hz
      · simp at hz
        subst hz; exact hlt
theorem foldl_minOk {key : Nat → Int × Int × Int} : ∀ (l pre : List Nat) (b : Option Nat), minOk key pre b → minOk key (pre ++ l) (l.foldl (stepK key) b)
  | [], pre, b, h => by simpa using h
  | x :: r, pre, b, h => by
    have := foldl_minOk r (pre ++ [x]) (stepK key b x) (stepK_ok h)
    simpa using this
theorem minK_ok {key : Nat → Int × Int × Int} {l : List Nat} : minOk key l (minK key l) := by
  have := foldl_minOk (key := key) l [] none rfl
  rw [List.nil_append] at this; exact this
theorem minK_snoc {key : Nat → Int × Int × Int} {l : List Nat} {x : Nat} : minK key (l ++ [x]) = stepK key (minK key l) x := by
  unfold minK
  rw [List.foldl_append]; rfl
theorem IsMin.uniq {key : Nat → Int × Int × Int} {l : List Nat} {i j : Nat} (hk : ∀ i, (key i).2.2 = i) (hi : IsMin key l i) (hj : IsMin key l j) : i = j := by
  have h1 := hi.2 j hj.1
  have h2 := hj.2 i hi.1
  rw [keyC_neg] at h1 h2
  have e1 := hk i
  have e2 := hk j
  omega
theorem minK_eq {key : Nat → Int × Int × Int} {l : List Nat} {i : Nat} (hk : ∀ i, (key i).2.2 = i) : minK key l = some i ↔ IsMin key l i := by
  have h := minK_ok (key := key) (l := l)
  constructor
  · intro he; rw [he] at h; exact h
  · intro hi
    cases hm : minK key l with
    | none => rw [hm] at h; have hl : l = [] := h; subst hl; exact absurd hi.1 (by simp)
    | some j => rw [hm] at h; rw [IsMin.uniq hk hi h]
theorem minK_none {key : Nat → Int × Int × Int} {l : List Nat} : minK key l = none ↔ l = [] := by
  have h := minK_ok (key := key) (l := l)
  constructor
  · intro he; rw [he] at h; exact h
  · rintro rfl; rfl
theorem IsMin.perm {key : Nat → Int × Int × Int} {l m : List Nat} {i : Nat} (h : IsMin key l i) (hp : l.Perm m) : IsMin key m i := ⟨hp.mem_iff.1 h.1, fun j hj => h.2 j (hp.mem_iff.2 hj)⟩
theorem minK_perm {key : Nat → Int × Int × Int} {l m : List Nat} (hk : ∀ i, (key i).2.2 = i) (hp : l.Perm m) : minK key l = minK key m := by
  cases hm : minK key m with
  | none =>
    have := minK_none.1 hm
    subst this
    rw [minK_none]; exact hp.eq_nil
  | some j =>
    exact (minK_eq hk).2 (((minK_eq hk).1 hm).perm hp.symm)

noncomputable def opB (xs : List ItW) (r : Rdr) (ms : List Mom) (n i : Nat) : Bool := match xs[i]?, ms[n]? with | some x, some m => bOf (OpensP x r m) | _, _ => false
def rdB (xs : List ItW) (ms : List Mom) (n i : Nat) : Bool := match xs[i]?, ms[n]? with | some x, some m => decide (x.at' ≤ m.now) | _, _ => false
def clsI (xs : List ItW) (i : Nat) : Int := match xs[i]? with | some x => x.cls | none => 0
def txtI (xs : List ItW) (i : Nat) : ByteArray := match xs[i]? with | some x => x.text | none => ⟨#[]⟩
section
variable (sl : Bool) (xs : List ItW) (r : Rdr) (ms : List Mom)
noncomputable def cntB (n i : Nat) : Bool := if sl = true then decide (0 ≤ relI xs r ms (n + 1) i) else rdB xs ms n i
noncomputable def keyF (n i : Nat) : Int × Int × Int := (clsI xs i, (if sl = true then relI xs r ms (n + 1) i else 0), (i : Int))
noncomputable def leftF (n : Nat) (snt : Nat → Bool) : List Nat := (List.range xs.length).filter fun i => !snt i && cntB sl xs r ms n i
noncomputable def candF (n : Nat) (snt : Nat → Bool) : List Nat := (leftF sl xs r ms n snt).filter fun i => sl || opB xs r ms n i
noncomputable def pickF (n : Nat) (snt : Nat → Bool) : Option Nat := minK (keyF sl xs r ms n) (candF sl xs r ms n snt)
noncomputable def aheadF (n : Nat) (snt : Nat → Bool) (i : Nat) : Nat := ((leftF sl xs r ms n snt).filter fun j => decide (keyC (keyF sl xs r ms n j) (keyF sl xs r ms n i) < 0)).length
noncomputable def packF (n : Nat) (snt : Nat → Bool) : ByteArray := match pickF sl xs r ms n snt with
  | some i => if sl = true then codedB (txtI xs i) ++ zeroB (63 - (txtI xs i).size) else zeroB (aheadF sl xs r ms n snt i) ++ codedB (txtI xs i)
  | none => if sl = true then zeroB 64 else zeroB (leftF sl xs r ms n snt).length
noncomputable def sntF : Nat → Nat → Bool
  | 0 => fun _ => false
  | n + 1 => fun i => sntF n i || decide (pickF sl xs r ms n (sntF n) = some i)
noncomputable def feedF (n : Nat) : List ByteArray := (List.range n).map fun j => packF sl xs r ms j (sntF sl xs r ms j)
end
theorem keyF_idx {sl : Bool} {xs : List ItW} {r : Rdr} {ms : List Mom} {n : Nat} (i : Nat) : (keyF sl xs r ms n i).2.2 = i := rfl
theorem feedF_succ {sl : Bool} {xs : List ItW} {r : Rdr} {ms : List Mom} {n : Nat} : feedF sl xs r ms (n + 1) = feedF sl xs r ms n ++ [packF sl xs r ms n (sntF sl xs r ms n)] := by
  unfold feedF
  rw [List.range_succ, List.map_append]; rfl
theorem feedF_len {sl : Bool} {xs : List ItW} {r : Rdr} {ms : List Mom} {n : Nat} : (feedF sl xs r ms n).length = n := by simp [feedF]
/-- a list in order, no two alike -/
def InOrd (key : Nat → Int × Int × Int) (L : List Nat) : Prop := ∀ (p q : Nat) i j, p < q → L[p]? = some i → L[q]? = some j → keyC (key i) (key j) < 0
theorem inOrd_of {key : Nat → Int × Int × Int} {L : List Nat} (hk : ∀ i, (key i).2.2 = i) (hnd : L.Nodup) (h : ∀ (p q : Nat) i j, p < q → L[p]? = some i → L[q]? = some j → ¬ keyC (key j) (key i) < 0) : InOrd key L := fun p q i j hpq hp hq => by
  have h1 := h p q i j hpq hp hq
  have hne : i ≠ j := fun hh => by
    subst hh
    have := nodup_inj hnd hp hq
    omega
  rw [keyC_neg] at h1 ⊢
  have e1 := hk i
  have e2 := hk j
  omega
theorem InOrd.head {key : Nat → Int × Int × Int} {L : List Nat} {p : Nat → Bool} (h : InOrd key L) (hk : ∀ i, (key i).2.2 = i) : L.find? p = minK key (L.filter p) := by
  cases hm : minK key (L.filter p) with
  | none =>
    rw [minK_none] at hm
    rw [List.find?_eq_none]
    intro x hx hp
    have : x ∈ L.filter p := List.mem_filter.2 ⟨hx, hp⟩
    rw [hm] at this; cases this
  | some i =>
    have hi := (minK_eq hk).1 hm
    rw [List.find?_eq_some_iff_append]
    obtain ⟨h1, h2⟩ := List.mem_filter.1 hi.1
    refine ⟨h2, ?_⟩
    obtain ⟨n, hn, rfl⟩ := List.getElem_of_mem h1
    refine ⟨L.take n, L.drop (n + 1), by rw [← List.drop_eq_getElem_cons hn, List.take_append_drop], fun a ha => ?_⟩
    obtain ⟨m, hm', rfl⟩ := List.getElem_of_mem ha
    rw [List.length_take] at hm'
    rw [List.getElem_take]
    cases hpm : p L[m] with
    | false => rfl
    | true =>
      exfalso
      refine hi.2 L[m] (List.mem_filter.2 ⟨List.getElem_mem _, hpm⟩) ?_
      exact h m n _ _ (by omega) (List.getElem?_eq_getElem (by omega)) (List.getElem?_eq_getElem hn)
theorem takeWhile_ord {key : Nat → Int × Int × Int} {L : List Nat} {p : Nat → Bool} {i : Nat} (h : InOrd key L) (hf : L.find? p = some i) : (L.takeWhile fun j => !p j) = L.filter fun j => decide (keyC (key j) (key i) < 0) := by
  obtain ⟨h1, us, zs, rfl, h2⟩ := List.find?_eq_some_iff_append.1 hf
  rw [List.takeWhile_append_of_pos (fun a ha => by simpa using h2 a ha)]
  rw [List.takeWhile_cons_of_neg (by simp [h1]), List.append_nil, List.filter_append]
  rw [List.filter_eq_self.2, List.filter_eq_nil_iff.2, List.append_nil]
  · intro a ha hh
    rw [decide_eq_true_eq] at hh
    rcases List.mem_cons.1 ha with rfl | ha
    · rw [keyC_neg] at hh; omega
    · obtain ⟨n, hn, rfl⟩ := List.getElem_of_mem ha
      have := h us.length (us.length + (n + 1)) i zs[n] (by omega) (by rw [List.getElem?_append_right (Nat.le_refl _)]; simp) (by rw [List.getElem?_append_right (by omega)]; simp [hn])
      rw [keyC_neg] at this hh
      omega
  · intro a ha
    rw [decide_eq_true_eq]
    obtain ⟨n, hn, rfl⟩ := List.getElem_of_mem ha
    exact h n us.length _ _ hn (by rw [List.getElem?_append_left hn]; exact List.getElem?_eq_getElem hn) (by rw [List.getElem?_append_right (Nat.le_refl _)]; simp)
/-- a slot by a list in order -/
theorem packF_ord {sl : Bool} {xs : List ItW} {r : Rdr} {ms : List Mom} {n : Nat} {snt : Nat → Bool} {L : List Nat} (hp : L.Perm (leftF sl xs r ms n snt)) (ho : InOrd (keyF sl xs r ms n) L) :
    pickF sl xs r ms n snt = L.find? (fun i => sl || opB xs r ms n i) ∧ packF sl xs r ms n snt = match L.find? (fun i => sl || opB xs r ms n i) with
      | some i => if sl = true then codedB (txtI xs i) ++ zeroB (63 - (txtI xs i).size) else zeroB (L.takeWhile fun i => !opB xs r ms n i).length ++ codedB (txtI xs i)
      | none => if sl = true then zeroB 64 else zeroB L.length := by
  have h1 : pickF sl xs r ms n snt = L.find? (fun i => sl || opB xs r ms n i) := by
    rw [ho.head keyF_idx]
    unfold pickF candF
    exact minK_perm keyF_idx (hp.symm.filter _)
  refine ⟨h1, ?_⟩
  unfold packF
  rw [h1]
  cases hf : L.find? (fun i => sl || opB xs r ms n i) with
  | none => simp only [hp.length_eq]
  | some i =>
    simp only
    cases sl with
    | true => rfl
    | false =>
      simp only [Bool.false_eq_true, if_false]
      unfold aheadF
      rw [takeWhile_ord (p := fun i => opB xs r ms n i) ho (by simpa using hf), (hp.symm.filter _).length_eq]
end Go.Proofs.YtfkfkldhcignbaaGreatDoor
/- Feeds: the packet of a slot. -/
set_option linter.unusedSimpArgs false
set_option linter.unusedVariables false
set_option maxRecDepth 4000
namespace Go.Proofs.YtfkfkldhcignbaaGreatDoor
open Go Go.V Go.RowKit
def pt (bs : List Nat) (i : Nat) : Nat := bs.getD i 0
theorem pt_get {bs : List Nat} {i : Nat} (h : i < bs.length) : bs[i]? = some (pt bs i) := by
  unfold pt
  rw [List.getD_eq_getElem?_getD, List.getElem?_eq_getElem h]; rfl
theorem PendAll.at {wI w : World} {bs : List Nat} {xs : List ItW} {rel : Nat → Int} {snt : Nat → Bool} {i : Nat} (h : PendAll wI w bs xs rel snt) (hi : i < xs.length) : pt bs i ∈ bs ∧ wI.heap.size ≤ pt bs i ∧ PendR wI w (pt bs i) xs[i] i (rel i) (snt i) := by
  have h1 := pt_get (bs := bs) (i := i) (by rw [h.1]; exact hi)
  exact ⟨List.mem_of_getElem? h1, h.2.2 i _ _ h1 (List.getElem?_eq_getElem hi)⟩
theorem zeroB_size (n : Nat) : (zeroB n).size = n := by simp [zeroB, ByteArray.size]
theorem zeroB_add (n m : Nat) : zeroB n ++ zeroB m = zeroB (n + m) := by
  apply ByteArray.ext
  rw [ByteArray.data_append]
  unfold zeroB
  rw [List.append_toArray, List.replicate_append_replicate]
theorem zeroB_succ (n : Nat) : zeroB n ++ ⟨#[0]⟩ = zeroB (n + 1) := by
  rw [← zeroB_add]; rfl
theorem nil_appB (s : ByteArray) : (⟨#[]⟩ : ByteArray) ++ s = s := by
  apply ByteArray.ext; simp [ByteArray.data_append]
theorem repeat_zero (n : Nat) : (⟨(Lib.repeatL (⟨#[0]⟩ : ByteArray).data.toList n).toArray⟩ : ByteArray) = zeroB n := by
  unfold zeroB
  congr 2
  induction n with
  | zero => simp [Lib.repeatL]
  | succ n ih => simpa [Lib.repeatL, List.replicate_succ] using ih
theorem txtI_eq {xs : List ItW} {i : Nat} (h : i < xs.length) : txtI xs i = xs[i].text := by
  unfold txtI
  rw [List.getElem?_eq_getElem h]
section
variable {k : Value → World → Prop} {w wI : World} {bs L : List Nat} {xs : List ItW} {rel : Nat → Int} {snt : Nat → Bool} {n : Nat} {m : Mom} {r : Rdr} {s l : Value}
theorem PendAll.sent {w' : World} {i : Nat} (h : PendAll wI w bs xs rel snt) (hi : i < xs.length) (ho : Off (fun y => y = pt bs i) w w') (hr : PendR wI w' (pt bs i) xs[i] i (rel i) true) : PendAll wI w' bs xs rel (fun j => snt j || decide (some i = some j)) := by
  refine h.set ho (pt_get (by rw [h.1]; exact hi)) (List.getElem?_eq_getElem hi) (by simpa using hr) (fun _ _ => rfl) (fun j hj => ?_)
  have : ¬ i = j := fun hh => hj hh.symm
  simp [this]
theorem c165 (hs : SlotV wI s n m r) (hp : PendAll wI w bs xs rel snt) (hl : IsSl fP w l (L.map (pt bs))) (hL : ∀ i ∈ L, i < xs.length) (ht : ∀ x ∈ xs, x.text.size ≤ 60) (hlen : L.length ≤ 1000)
    (hk : ∀ w', Below wI.heap.size w w' → Off (fun b => b ∈ bs) w w' → PendAll wI w' bs xs rel (fun i => snt i || decide (L.head? = some i)) → k (.string (match L.head? with
      | some i => codedB (txtI xs i) ++ zeroB (63 - (txtI xs i).size)
      | none => zeroB 64)) w') (hI : wI.heap.size ≤ w.heap.size) : callW Tryz.prog (fv 165) #[s, l] k w := C165 _ _ _ _ (by
  unfold S165
  obtain ⟨e, c, q, rfl, _⟩ := hs
  refine w_boxN (v := .agg (slotL n m e c q r).toArray) fun w1 hb1 hsz1 hr1 => ?_
  have hml : 1000000 ≤ maxLen := by decide
  have hlm : (L.map (pt bs)).length = L.length := List.length_map _
  refine joinW_use1 (fun a w' => Below wI.heap.size w w' ∧ Off (fun b => b ∈ bs) w w' ∧ PendAll wI w' bs xs rel (fun i => snt i || decide (L.head? = some i)) ∧ a = .string (match L.head? with
      | some i => codedB (txtI xs i)
      | none => ⟨#[]⟩)) ?_ ?_
  · rintro _ w2 ⟨q1, q2, q3, rfl⟩
    have hsz : (match L.head? with | some i => codedB (txtI xs i) | none => (⟨#[]⟩ : ByteArray)).size ≤ 61 := by
      cases hh : L.head? with
      | none => exact Nat.zero_le _
      | some i =>
        simp only
        have hi := hL i (List.mem_of_head? hh)
        rw [codedB_size, txtI_eq hi]
        have := ht _ (List.getElem_mem hi)
        omega
    rw [w_lenStr (by kernel_rfl), w_sub, wrap_id (by omega)]
    have hc : (64 : Int) - (match L.head? with | some i => codedB (txtI xs i) | none => (⟨#[]⟩ : ByteArray)).size = ((64 - (match L.head? with | some i => codedB (txtI xs i) | none => (⟨#[]⟩ : ByteArray)).size : Nat) : Int) := by omega
    rw [hc]
    have s1 : (⟨#[0]⟩ : ByteArray).size = 1 := rfl
    refine c167 (by rw [s1]; omega) (by omega) fun w3 hb3 => ?_
    rw [repeat_zero, w_addStr (by rw [zeroB_size]; omega)]
    have := hk w3 (q1.trans (hb3.mono (Nat.le_trans hI q1.size))) (q2.trans (Off.below hb3)) (q3.below hb3)
    cases hh : L.head? with
    | none => rw [hh] at this; rw [nil_appB]; exact this
    | some i =>
      rw [hh] at this
      simp only at this ⊢
      rw [codedB_size, show 64 - ((txtI xs i).size + 1) = 63 - (txtI xs i).size by omega]
      exact this
  intro J hJ
  rw [len95 (hl.below hb1), hlm, w_gtr]
  have hb1' := hb1.mono hI
  cases hLc : L with
  | nil =>
    rw [decide_eq_false (by simp), condW_false]
    refine hJ _ _ ⟨hb1', Off.below hb1, ?_, by rw [hLc]; rfl⟩
    refine (hp.below hb1).congr (fun _ _ => rfl) fun i _ => ?_
    rw [hLc]; simp
  | cons i0 R =>
    have hi0 := hL i0 (by rw [hLc]; simp)
    rw [decide_eq_true (by simp), condW_true]
    have h0 : (L.map (pt bs))[0]? = some (pt bs i0) := by rw [hLc]; rfl
    rw [gw95 (F := fP) rfl (hl.below hb1) (by omega) (by simpa using h0) rfl]
    obtain ⟨g1, g2, g3⟩ := (hp.below hb1).at hi0
    refine c166 g3 (by have := ht _ (List.getElem_mem hi0); omega) g2 fun w2 hb2 ho2 hr2 => ?_
    refine hJ _ _ ⟨hb1'.trans hb2, (Off.below hb1).trans (ho2.mono fun b _ hb => hb ▸ g1), ?_, ?_⟩
    · have := (hp.below hb1).sent hi0 ho2 hr2
      rw [hLc]; exact this
    · rw [hLc]
      simp only [List.head?_cons]
      rw [txtI_eq hi0])
theorem c168 (hg : Gl w) (hIw : Below wI.heap.size wI w) (hs : SlotV wI s n m r) (hp : PendAll wI w bs xs rel snt) (hl : IsSl fP w l (L.map (pt bs))) (hL : ∀ i ∈ L, i < xs.length) (hok : okIts xs) (hom : okMom m) (ht : ∀ x ∈ xs, x.text.size ≤ 60) (hlen : L.length ≤ 1000) {op : Nat → Bool} (hop : ∀ i x, xs[i]? = some x → op i = bOf (OpensP x r m)) (hd : ∀ b, isOf l b → b ∉ bs)
    (hk : ∀ w', Below wI.heap.size w w' → Off (fun b => b ∈ bs) w w' → PendAll wI w' bs xs rel (fun i => snt i || decide (L.find? op = some i)) → k (.string (match L.find? op with
      | some i => zeroB (L.takeWhile fun i => !op i).length ++ codedB (txtI xs i)
      | none => zeroB L.length)) w') : callW Tryz.prog (fv 168) #[s, l] k w := C168 _ _ _ _ (by
  unfold S168
  have hI := hIw.size
  obtain ⟨e, c, q, rfl, hs2⟩ := id hs
  have hml : 1000000 ≤ maxLen := by decide
  have hlm : (L.map (pt bs)).length = L.length := List.length_map _
  refine w_boxN (v := .agg (slotL n m e c q r).toArray) fun w1 hb1 hsz1 hr1 => ?_
  replace hr1 : RowAt w1 w.heap.size 94 (slotL n m e c q r) := hr1
  rw [len95 (hl.below hb1), hlm]
  refine Loop2.intro (fun n' a p w' => ∃ j : Nat, p = I j ∧ a = .string (zeroB j) ∧ j ≤ L.length ∧ n' = L.length - j ∧ Below w.heap.size w w' ∧ RowAt w' w.heap.size 94 (slotL n m e c q r) ∧ ∀ i ∈ L.take j, op i = false) _ ⟨0, rfl, rfl, by omega, rfl, hb1, hr1, by simp⟩ ?_
  clear hr1 hb1 hsz1
  rintro n' _ _ w2 ⟨j, rfl, rfl, hj, rfl, hb2, hr2, hno⟩
  rw [w_lss]
  by_cases hlt : j < L.length
  case' neg =>
    rw [decide_eq_false (by omega), condW_false]
    have hf : L.find? op = none := by
      rw [List.find?_eq_none]
      intro x hx
      rw [List.take_of_length_le (by omega)] at hno
      rw [hno x hx]; decide
    rw [hf] at hk
    have := hk w2 (hb2.mono hI) (Off.below hb2) ((hp.below hb2).congr (fun _ _ => rfl) fun i _ => by simp)
    rw [show j = L.length by omega]; exact this
  rw [decide_eq_true (by omega), condW_true]
  obtain ⟨i, hi⟩ : ∃ i, L[j]? = some i := ⟨_, List.getElem?_eq_getElem hlt⟩
  have hiL := hL i (List.mem_of_getElem? hi)
  have hmp : (L.map (pt bs))[j]? = some (pt bs i) := by rw [List.getElem?_map, hi]; rfl
  rw [gw95 (F := fP) rfl (hl.below hb2) (by omega) (by simpa using hmp) rfl, ld94 rfl hr2.cells]
  obtain ⟨g1, g2, g3⟩ := (hp.below hb2).at hiL
  have hI2 := hIw.trans (hb2.mono hI)
  refine c79 hI2 (hg.below hb2) hs g3 (hok.2 _ (List.getElem_mem hiL)) hom fun w3 hb3 => ?_
  have hb03 := below_trans hb2 hb3
  rw [← hop i _ (List.getElem?_eq_getElem hiL)]
  have hLtake : L.take (j + 1) = L.take j ++ [i] := by rw [List.take_add_one, hi]; rfl
  cases ho : op i with
  | false =>
    rw [condW_false, w_addStr (by rw [zeroB_size]; have : (⟨#[0]⟩ : ByteArray).size = 1 := rfl; omega), zeroB_succ, w_add, wrap_id (by omega), loopK_self]
    refine ⟨L.length - (j + 1), by omega, j + 1, by simp [I], rfl, by omega, rfl, hb03, hr2.below hb3, fun z hz => ?_⟩
    rw [hLtake] at hz
    rcases List.mem_append.1 hz with hz | hz
    · exact hno z hz
    · simp at hz; subst hz; exact ho
  | true =>
    rw [condW_true]
    obtain ⟨g1, g2, g3⟩ := (hp.below hb03).at hiL
    refine c166 g3 (by have := ht _ (List.getElem_mem hiL); omega) g2 fun w4 hb4 ho4 hr4 => ?_
    have ht60 := ht _ (List.getElem_mem hiL)
    rw [w_addStr (by rw [zeroB_size, codedB_size]; omega)]
    have hspl : L = L.take j ++ i :: L.drop (j + 1) := by
      have := (List.getElem?_eq_some_iff.1 hi).2
      rw [← this, ← List.drop_eq_getElem_cons hlt, List.take_append_drop]
    have hf : L.find? op = some i := by
      rw [List.find?_eq_some_iff_append]
      exact ⟨ho, L.take j, L.drop (j + 1), hspl, fun a ha => by rw [hno a ha]; rfl⟩
    have htw : (L.takeWhile fun i => !op i).length = j := by
      rw [hspl, List.takeWhile_append_of_pos (fun a ha => by rw [hno a ha]; rfl), List.takeWhile_cons_of_neg (by simp [ho]), List.append_nil, List.length_take]
      omega
    rw [hf] at hk
    simp only [htw, txtI_eq hiL] at hk
    exact hk w4 ((hb03.mono hI).trans hb4) ((Off.below hb03).trans (ho4.mono fun b _ hb => hb ▸ g1)) ((hp.below hb03).sent hiL ho4 hr4))
end
end Go.Proofs.YtfkfkldhcignbaaGreatDoor
/- Feeds: the pieces of Feed. -/
set_option linter.unusedSimpArgs false
set_option linter.unusedVariables false
set_option maxRecDepth 4000
namespace Go.Proofs.YtfkfkldhcignbaaGreatDoor
open Go Go.V Go.RowKit
def tb (sl : Bool) : List Value := if sl = true then [fv 163, fv 164, fv 165] else [fv 109, fv 161, fv 168]
theorem tb_len (sl : Bool) : (tb sl).length = 3 := by cases sl <;> rfl
theorem tb_one (sl : Bool) : ∀ v ∈ tb sl, v.oneCell' = true := by cases sl <;> simp [tb, Value.oneCell']
theorem getD_map_range (bs : List Nat) : (List.range bs.length).map (pt bs) = bs := by
  apply List.ext_getElem?
  intro i
  rw [List.getElem?_map]
  by_cases h : i < bs.length
  · rw [List.getElem?_range h, pt_get h]; rfl
  · rw [List.getElem?_eq_none (by simp; omega), List.getElem?_eq_none (by omega)]; rfl
theorem idx_pt {bs : List Nat} (hn : bs.Nodup) {i : Nat} (h : i < bs.length) : bs.idxOf (pt bs i) = i := by
  have h1 := pt_get h
  have hm := List.mem_of_getElem? h1
  have hl := List.idxOf_lt_length_of_mem hm
  refine nodup_inj hn (b := pt bs i) ?_ h1
  rw [List.getElem?_eq_getElem hl, List.getElem_idxOf]
theorem pt_idx {bs : List Nat} {b : Nat} (h : b ∈ bs) : pt bs (bs.idxOf b) = b := by
  have hl := List.idxOf_lt_length_of_mem h
  have h1 := pt_get hl
  rw [List.getElem?_eq_getElem hl, List.getElem_idxOf] at h1
  exact (Option.some.inj h1).symm
theorem filter_pt {bs : List Nat} (hn : bs.Nodup) (p : Nat → Bool) : bs.filter (fun b => p (bs.idxOf b)) = ((List.range bs.length).filter p).map (pt bs) := by
  have : bs.filter (fun b => p (bs.idxOf b)) = ((List.range bs.length).map (pt bs)).filter (fun b => p (bs.idxOf b)) := by rw [getD_map_range]
  rw [this, List.filter_map]
  congr 1
  apply List.filter_congr
  intro i hi
  rw [List.mem_range] at hi
  simp [Function.comp, idx_pt hn hi]
theorem perm_idx {bs M L0 : List Nat} (hn : bs.Nodup) (hL : ∀ i ∈ L0, i < bs.length) (hp : M.Perm (L0.map (pt bs))) : (M.map bs.idxOf).Perm L0 ∧ M = (M.map bs.idxOf).map (pt bs) := by
  have hm : ∀ b ∈ M, b ∈ bs := fun b hb => by
    obtain ⟨i, hi, rfl⟩ := List.mem_map.1 (hp.mem_iff.1 hb)
    exact List.mem_of_getElem? (pt_get (hL i hi))
  constructor
  · have := hp.map bs.idxOf
    rw [List.map_map] at this
    have he : L0.map (bs.idxOf ∘ pt bs) = L0 := by
      have : L0.map (bs.idxOf ∘ pt bs) = L0.map id := List.map_congr_left fun i hi => idx_pt hn (hL i hi)
      rw [this, List.map_id]
    rwa [he] at this
  · rw [List.map_map]
    have : M.map (pt bs ∘ bs.idxOf) = M.map id := List.map_congr_left fun b hb => pt_idx (hm b hb)
    rw [this, List.map_id]
section
variable {k : Value → World → Prop} {w wI : World} {sl : Bool} {n : Nat} {m : Mom} {r : Rdr}
theorem c54 {mb sb b i : Nat} {x : ItW} {rel : Int} {snt : Bool} {e c q : Value} (hm : RowAt w mb 111 (tb sl)) (hs : RowAt w sb 94 (slotL n m e c q r)) (hsv : SlotV wI (.agg (slotL n m e c q r).toArray) n m r) (hp : PendR wI w b x i rel snt)
    (hk : ∀ w', Below w.heap.size w w' → k (.bool (snt || !(if sl = true then decide (0 ≤ rel) else decide (x.at' ≤ m.now)))) w') : callW Tryz.prog (.func (.func 54) #[] #[pv mb, pv sb]) #[pv b] k w := C54 _ _ _ _ _ (by
  unfold S54
  obtain ⟨e', c', q', hrow, _⟩ := id hp
  unfold pv
  rw [nilW_ptr, fl98_3, ld4 (hrow.cell (i := 0 + 11) rfl)]
  cases snt with
  | true =>
    simp only [guardW_tf, guardW_u, pickW_true]
    exact hk _ (Below.refl _ _)
  | false =>
    simp only [guardW_ff, pickW_false]
    cases sl with
    | true =>
      rw [rw111_0 (hm.cell (i := 0) rfl), ld94 rfl hs.cells]
      refine c163 hsv hp fun w1 hb1 => ?_
      rw [w_not]
      exact hk _ hb1
    | false =>
      rw [rw111_0 (hm.cell (i := 0) rfl), ld94 rfl hs.cells]
      refine c109 hsv hp fun w1 hb1 => ?_
      rw [w_not]
      exact hk _ hb1)
/-- the order of a mode -/
theorem cOrd {b1 b2 i1 i2 : Nat} {x1 x2 : ItW} {r1 r2 : Int} {s1 s2 : Bool} (h1 : PendR wI w b1 x1 i1 r1 s1) (h2 : PendR wI w b2 x2 i2 r2 s2)
    (hk : ∀ w', Below w.heap.size w w' → k (I (keyC (x1.cls, (if sl = true then r1 else 0), i1) (x2.cls, (if sl = true then r2 else 0), i2))) w') : callW Tryz.prog (fv (if sl = true then 164 else 161)) #[pv b1, pv b2] k w := by
  cases sl with
  | true => exact c164 h1 h2 hk
  | false => exact c161 h1 h2 hk
/-- the packet of a mode -/
theorem cPack {bs L : List Nat} {xs : List ItW} {ms : List Mom} {snt : Nat → Bool} {s l : Value} (hg : Gl w) (hIw : Below wI.heap.size wI w) (hmn : ms[n]? = some m) (hs : SlotV wI s n m r) (hp : PendAll wI w bs xs (relI xs r ms (n + 1)) snt) (hl : IsSl fP w l (L.map (pt bs))) (hL : L.Perm (leftF sl xs r ms n snt)) (hO : InOrd (keyF sl xs r ms n) L) (hok : okIts xs) (hom : okMom m) (ht : ∀ x ∈ xs, x.text.size ≤ 60) (hx : xs.length ≤ 12)
    (hd : ∀ b, isOf l b → b ∉ bs)
    (hk : ∀ w', Below wI.heap.size w w' → Off (fun b => b ∈ bs) w w' → PendAll wI w' bs xs (relI xs r ms (n + 1)) (fun i => snt i || decide (pickF sl xs r ms n snt = some i)) → k (.string (packF sl xs r ms n snt)) w') :
    callW Tryz.prog (fv (if sl = true then 165 else 168)) #[s, l] k w := by
  obtain ⟨e1, e2⟩ := packF_ord hL hO
  have hLx : ∀ i ∈ L, i < xs.length := fun i hi => by
    have := hL.mem_iff.1 hi
    unfold leftF at this
    exact List.mem_range.1 (List.mem_filter.1 this).1
  have hLl : L.length ≤ 1000 := by
    rw [hL.length_eq]
    unfold leftF
    have := List.length_filter_le (fun i => !snt i && cntB sl xs r ms n i) (List.range xs.length)
    rw [List.length_range] at this
    omega
  rw [e1] at hk
  rw [e2] at hk
  cases sl with
  | true =>
    have hh : L.find? (fun i => true || opB xs r ms n i) = L.head? := by
      cases L with
      | nil => rfl
      | cons a R => rw [List.find?_cons_of_pos (by simp)]; rfl
    rw [hh] at hk
    simp only [if_true] at hk ⊢
    exact c165 hs hp hl hLx ht hLl hk hIw.size
  | false =>
    simp only [Bool.false_eq_true, if_false, Bool.false_or] at hk ⊢
    exact c168 hg hIw hs hp hl hLx hok hom ht hLl (op := fun i => opB xs r ms n i) (fun i x hxi => by unfold opB; rw [hxi, hmn]) hd hk
end
end Go.Proofs.YtfkfkldhcignbaaGreatDoor
