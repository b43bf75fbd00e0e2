/- RelayAgrees answers true for every input, and the input reads as it did; its card ties the one listed variable to the program's text: no condition of its own. -/
import Derived.Test.YtklknkmeljjmgaaGreatDoorKa6
import Derived.WalkKit
import Derived.ProofKit
import Derived.OpenShut
import Derived.ShutString
import Derived.ChangeOld
import Derived.Deep.Slices
import Derived.Deep.DeepHandedRow
import Derived.Lib.LaidTab
import Derived.Test.YtklknkmeljjmgaaGreatDoorTie
import Derived.Test.YtklknkmeljjmgaaGreatDoorCards
import Derived.SevenTiedAt
/- Arguments that are slices of flat elements, opened. -/
set_option linter.unusedSimpArgs false
set_option linter.unusedVariables false
namespace Go.Proofs.YtklknkmeljjmgaaGreatDoor
open Go Go.V Go.RowKit Go.ChangeShapes Go.WideShapes Go.ChangeAt Go.Deep
theorem own : ownKnob Tryz.prog.godebug = none := by kernel_rfl
theorem laidOut : laidOutB Tryz.prog = true := by kernel_rfl
theorem in64_of_wf {n : Int} (h : (Lit.int .i64 n).wf = true) : in64 n := bounds_i64 h
section
variable {H : Type} {enc : TypeId × Value → H} {P : Program} {w : World} {base : Nat} {spare : Nat → Bool} {held : Bool}
theorem spot_of_cell {x : Addr} {v : Value} (h : w.cell? x = some v) : x.spot = none := by
  unfold World.cell? at h
  cases hs : x.spot with
  | none => rfl
  | some s =>
    exfalso
    split at h
    · rw [hs] at h; simp at h
    · cases h
/-- a slice of flat elements that came in -/
theorem sl_of_trod {α : Type} {F : Fl α} {Q : α → Prop} {t e : TypeId} {fuel : Nat} {v : Value} {x : DataW H × List MemPlace} (ht : P.underlying t = some (.slice e)) (hc : P.cellsOf e = F.sz) (hp : 0 < F.sz)
    (helem : ∀ cs m (y : DataW H × List MemPlace), DataW.trod enc P w base spare held m e cs = some y → ∃ z, cs = F.e z ∧ Q z) (h : DataW.trod enc P w base spare held fuel t [v] = some x) :
    ∃ l : List α, IsSl F w v l ∧ l.length ≤ maxLen ∧ ∀ z, z ∈ l → Q z := by
  rcases open_slice ht h with ⟨hcs, _⟩ | ⟨a, len, cap, m, n, D, Pl, hcs, _, hl, hm, hmm, _, hel⟩
  · simp at hcs; subst hcs
    exact ⟨[], .nil _, by simp, by simp⟩
  · simp at hcs; subst hcs
    have hlm : len ≤ m := by rw [hmm]; split <;> omega
    have each : ∀ i, i < len → ∃ z, Q z ∧ ∀ j u, (F.e z)[j]? = some u → w.cell? ((a.add (i * F.sz)).add j) = some u := fun i hi => by
      obtain ⟨cs, h1, h2⟩ := hel i (by omega)
      obtain ⟨z, rfl, hq⟩ := helem cs n _ h2
      rw [hc] at h1
      obtain ⟨_, hlen, hcell⟩ := World.cells?_some h1
      exact ⟨z, hq, fun j u hu => by rw [hcell j (by have := (List.getElem?_eq_some_iff.1 hu).1; rw [F.len] at this; exact this)]; exact hu⟩
    have mk : ∀ k, k ≤ len → ∃ l : List α, l.length = k ∧ (∀ z, z ∈ l → Q z) ∧ ∀ i z, l[i]? = some z → ∀ j u, (F.e z)[j]? = some u → w.cell? ((a.add (i * F.sz)).add j) = some u := by
      intro k
      induction k with
      | zero => intro _; exact ⟨[], rfl, by simp, by simp⟩
      | succ k ih =>
        intro hk
        obtain ⟨l, h1, h2, h3⟩ := ih (by omega)
        obtain ⟨z, hz, hzc⟩ := each k (by omega)
        refine ⟨l ++ [z], by simp [h1], fun y hy => ?_, fun i y hy => ?_⟩
        · rcases List.mem_append.1 hy with h | h
          · exact h2 y h
          · simp at h; subst h; exact hz
        · rcases Nat.lt_or_ge i l.length with h | h
          · rw [List.getElem?_append_left h] at hy; exact h3 i y hy
          · rw [List.getElem?_append_right h] at hy
            have := (List.getElem?_eq_some_iff.1 hy).1
            simp at this
            have h0 : i - l.length = 0 := by omega
            rw [h0] at hy; simp at hy; subst hy
            obtain rfl : i = k := by omega
            exact hzc
    obtain ⟨l, h1, h2, h3⟩ := mk len (Nat.le_refl _)
    refine ⟨l, ⟨some a, cap, by rw [h1], by omega, fun i z hz => ?_⟩, by omega, h2⟩
    obtain ⟨z0, hz0⟩ : ∃ z0, l[0]? = some z0 := ⟨l[0]'(by have := (List.getElem?_eq_some_iff.1 hz).1; omega), by simp⟩
    obtain ⟨u, hu⟩ : ∃ u, (F.e z0)[0]? = some u := ⟨(F.e z0)[0]'(by rw [F.len]; exact hp), by simp⟩
    have hsp := spot_of_cell (h3 0 z0 hz0 0 u hu)
    obtain ⟨b, o, sp⟩ := a
    have hsn : sp = none := by
      revert hsp
      simp [Addr.add]
    subst hsn
    refine ⟨b, o, rfl, fun j v hv => ?_⟩
    have := h3 i z hz j v hv
    rwa [add_none, add_none] at this
theorem cells3' : Tryz.prog.cellsOf 3 = 1 := by kernel_rfl
theorem cell_of_trod {cs : List Value} {m : Nat} {y : DataW H × List MemPlace} {i : Nat} (hi : i < cs.length) (h : DataW.trod enc Tryz.prog w base spare held m 3 ((cs.drop (i * 1)).take 1) = some y) : ∃ n, cs[i]? = some (I n) ∧ in64 n := by
  obtain ⟨n, hn, _, hw⟩ := DataW.trod_int Tryz.underlying3 h
  refine ⟨n, ?_, in64_of_wf hw⟩
  have := congrArg (fun l : List Value => l[0]?) hn
  simp only [List.getElem?_take, List.getElem?_drop] at this
  simpa using this
theorem u59 : Tryz.prog.underlying 59 = some (.array 4 3) := by kernel_rfl
theorem cells59 : Tryz.prog.cellsOf 59 = 4 := by kernel_rfl
theorem und22 : Tryz.prog.underlying 22 = some (.slice 59) := by kernel_rfl
set_option maxRecDepth 100000 in
theorem elem59 (cs : List Value) (m : Nat) (y : DataW H × List MemPlace) (h : DataW.trod enc Tryz.prog w base spare held m 59 cs = some y) : ∃ z : Q4, cs = fQ.e z ∧ okQ z := by
  obtain ⟨xs, m', _, _, hl, hxl, he⟩ := DataW.trod_array u59 h
  rw [cells59] at hl
  have get : ∀ i, i < 4 → ∃ n, cs[i]? = some (I n) ∧ in64 n := fun i hi => by
    have h1 := he i hi
    rw [cells3', List.getElem?_eq_getElem (show i < xs.length by omega)] at h1
    exact cell_of_trod (by omega) h1
  obtain ⟨a, ha, hwa⟩ := get 0 (by decide)
  obtain ⟨b, hb, hwb⟩ := get 1 (by decide)
  obtain ⟨c, hc, hwc⟩ := get 2 (by decide)
  obtain ⟨d, hd, hwd⟩ := get 3 (by decide)
  refine ⟨⟨a, b, c, d⟩, ?_, hwa, hwb, hwc, hwd⟩
  match cs, hl with
  | [x, y, z, t], _ => simp at ha hb hc hd; subst ha; subst hb; subst hc; subst hd; rfl
end
/-- the constants are in the variable -/
theorem gl_of_laid {l : List (String × DataW Unit)} {w : World} (hl : l = [("newswire/digest.round", Rows.laid_newswire_digest_round)]) (h : laidMetH Tryz.prog l w) : Gl w := by
  subst hl
  have h0 : laidMet Tryz.prog [("newswire/digest.round", Lib.tabData .u32 (kL.map fun x => ((x.toNat : Nat) : Int)))] w := h
  have hT := Lib.tabIs_of_head (P := Tryz.prog) (g := 0) (t := 120) (e := 89) (n := 64) (by kernel_rfl) (by kernel_rfl) (by kernel_rfl) (by kernel_rfl) (by kernel_rfl) (by kernel_rfl) h0
  have hc : ∀ i, i < 64 → w.cell? ⟨0, i, none⟩ = some (uV (kL.getD i 0)) := fun i hi => by
    have := hT.cell (g := 0) (by kernel_rfl) i (by simpa [kL] using hi)
    rw [this]
    have hk : kL[i]? = some (kL.getD i 0) := by rw [List.getD_eq_getElem?_getD, List.getElem?_eq_getElem (show i < kL.length from hi)]; rfl
    rw [List.getD_eq_getElem?_getD, List.getElem?_map, hk]; rfl
  refine ⟨fun j v hv => ?_, World.block_lt_of_cell? w _ (hc 0 (by decide))⟩
  have hj : j < 64 := by
    have := (List.getElem?_eq_some_iff.1 hv).1
    simpa [K64, kL] using this
  rw [Nat.zero_add, hc j hj, ← hv]
  unfold K64
  have hk : kL[j]? = some (kL.getD j 0) := by rw [List.getD_eq_getElem?_getD, List.getElem?_eq_getElem (show j < kL.length from hj)]; rfl
  rw [List.getElem?_map, hk]; rfl
end Go.Proofs.YtklknkmeljjmgaaGreatDoor
/- The witness of the rows that list the variable. -/
namespace Go.Proofs.YtklknkmeljjmgaaGreatDoor
open Go Go.V Go.ChangeShapes Go.WideShapes Go.ChangeAt Go.RowKit
/-- the settled world, the variable holding what its initialiser lays -/
noncomputable def laidWorld (os : Os) : World :=
  { World.holding Tryz.prog os ⟨#[], #[], []⟩ with heap := (World.holding Tryz.prog os ⟨#[], #[], []⟩).heap.modify 0 fun
      | .cells _ t frozen => .cells K64.toArray t frozen
      | o => o }
end Go.Proofs.YtklknkmeljjmgaaGreatDoor
/- Plain: relays that know what those of a list know. -/
set_option linter.unusedSimpArgs false
set_option linter.unusedVariables false
namespace Go.Proofs.YtklknkmeljjmgaaGreatDoor
open Go Go.V Go.RowKit
def EE : List Rel → Int → Int
  | [], _ => 0
  | r :: l, s => max (edOf r.kept s) (EE l s)
def TT (l : List Rel) (x : Slp) : Prop := ∃ r ∈ l, x ∈ r.slips
def KL (l : List Rel) (r : Rel) : Prop := Knows (EE l) (TT l) r
theorem EE_app {l m : List Rel} (s : Int) (hm : 0 ≤ EE m s) : EE (l ++ m) s = max (EE l s) (EE m s) := by
  induction l with
  | nil => simp only [List.nil_append, EE]; omega
  | cons r l ih => simp only [List.cons_append, EE, ih]; omega
theorem EE_nonneg (l : List Rel) (s : Int) : 0 ≤ EE l s := by
  induction l with
  | nil => simp [EE]
  | cons r l ih => simp only [EE]; omega
theorem EE_le {l : List Rel} {s n : Int} (h : ∀ r ∈ l, edOf r.kept s ≤ n) (h0 : 0 ≤ n) : EE l s ≤ n := by
  induction l with
  | nil => simpa [EE] using h0
  | cons r l ih =>
    have h1 := h r (by simp)
    have h2 := ih fun x hx => h x (by simp [hx])
    simp only [EE]; omega
theorem EE_ge {l : List Rel} {s : Int} {r : Rel} (h : r ∈ l) : edOf r.kept s ≤ EE l s := by
  induction l with
  | nil => cases h
  | cons x l ih =>
    rcases List.mem_cons.1 h with rfl | h
    · simp only [EE]; omega
    · have := ih h; simp only [EE]; omega
theorem EE_congr {l m : List Rel} (h : ∀ r, r ∈ l ↔ r ∈ m) (s : Int) : EE l s = EE m s := by
  have h1 := EE_le (l := l) (s := s) (n := EE m s) (fun r hr => EE_ge ((h r).1 hr)) (EE_nonneg _ _)
  have h2 := EE_le (l := m) (s := s) (n := EE l s) (fun r hr => EE_ge ((h r).2 hr)) (EE_nonneg _ _)
  omega
theorem KL.congr {l m : List Rel} {r : Rel} (h : ∀ x, x ∈ l ↔ x ∈ m) (hk : KL l r) : KL m r :=
  ⟨hk.good, fun s => by rw [hk.ed, EE_congr h], fun s => by rw [hk.sl]; exact ⟨fun ⟨x, hx, hs⟩ => ⟨x, (h x).1 hx, hs⟩, fun ⟨x, hx, hs⟩ => ⟨x, (h x).2 hx, hs⟩⟩⟩
theorem KL.one {r : Rel} (h : GoodR r) : KL [r] r :=
  ⟨h, fun s => by have := edOf_nonneg h.kept s; simp only [EE]; omega, fun s => by simp [TT]⟩
def packOf (r : Rel) : Pack := ⟨r.id, r.kept, r.slips⟩
theorem KL.hear {l m : List Rel} {r s : Rel} {e : Int} {r' : Rel} (hr : KL l r) (hs : KL m s) (h : hearR r (packOf s) e r') : e = 0 ∧ KL (l ++ m) r' ∧ r'.id = r.id ∧ r'.paper = r.paper := by
  obtain ⟨h1, h2, h3, h4⟩ := Knows.hear hr hs rfl h
  refine ⟨h1, ⟨h2.good, fun x => by rw [h2.ed, EE_app x (EE_nonneg _ _)], fun x => ?_⟩, h3, h4⟩
  rw [h2.sl]
  constructor
  · rintro (⟨y, hy, hx⟩ | ⟨y, hy, hx⟩)
    · exact ⟨y, by simp [hy], hx⟩
    · exact ⟨y, by simp [hy], hx⟩
  · rintro ⟨y, hy, hx⟩
    rcases List.mem_append.1 hy with hy | hy
    · exact .inl ⟨y, hy, hx⟩
    · exact .inr ⟨y, hy, hx⟩
theorem KL.keeps {l m : List Rel} {a b : Rel} (ha : KL l a) (hb : KL m b) (h : ∀ x, x ∈ l ↔ x ∈ m) : a.kept = b.kept ∧ a.slips = b.slips :=
  Knows.keeps ha (KL.congr (fun x => (h x).symm) hb) (fun _ => rfl) fun _ => Iff.rfl
theorem packOf_good {r : Rel} (h : GoodR r) : GoodK (packOf r) := ⟨h.id, h.kept, h.slips, h.ascK, h.ascS⟩
end Go.Proofs.YtklknkmeljjmgaaGreatDoor
/- A list of relays with one replaced, made anew. -/
set_option linter.unusedSimpArgs false
set_option linter.unusedVariables false
namespace Go.V
open Go Go.RowKit
theorem t_headS {P : Program} {w0 w : World} {t : TypeId} {S : World → Prop} {K : Value → Prop} {α : Type} {F : Fl α} {v : Value} {l : List α} {q : IntKind} {i : Int} {m : Nat} (him : i = (m : Int)) (ht : P.underlying t = some (.slice (P.elem t))) (hkn : known P (P.elem t) = true) (hs : IsSl F w0 v l) (hm : m ≤ l.length)
    (hk : ∀ v', IsSl F w0 v' (l.take m) → K v') : takeW P S (Instr.sliceAt t v none (some (.int q i)) none) K w := by
  subst him
  obtain ⟨a, c, rfl, hc, hx⟩ := hs
  rw [takeW_pure (fun w => show (Instr.sliceAt t (.slice a l.length c) none (some (.int q m)) none).run P w = .ok (sliced a 0 m c (sizeT P (P.elem t))) w by
    rw [run_sliceAt_slice _ _ _ _ _ _ ht, run_slice_h w t _ _ c ht q m (by omega) (by omega), run_sizeOf hkn]
    simp [Result.andThen])]
  refine hk _ ⟨if c = 0 then a else a.map (·.add 0), c, by simp [sliced, List.length_take, Nat.min_eq_left hm], by rw [List.length_take]; omega, fun i x hi => ?_⟩
  have hi' : l[i]? = some x := by
    rw [List.getElem?_take] at hi
    split at hi
    · exact hi
    · cases hi
  obtain ⟨b, o, rfl, hcl⟩ := hx i x hi'
  refine ⟨b, o, ?_, hcl⟩
  split
  · rfl
  · simp [add_none]
end Go.V
namespace Go.Proofs.YtklknkmeljjmgaaGreatDoor
open Go Go.V Go.RowKit
structure NA (w0 w : World) (y : RW) (acc : Option (Value × List RW)) (one : Option Value) : Prop where
  below : after w0 w
  ac : ∀ v xs, acc = some (v, xs) → Mine fR 27 w w0.heap.size v xs ∧ xs.length ≤ 10
  on : ∀ u, one = some u → IsSl fR w u [y]
  dis : ∀ v xs u, acc = some (v, xs) → one = some u → ∀ c, isOf u c → ¬ isOf v c
section
variable {k : Value → World → Prop} {w w0 w' : World} {y : RW} {acc : Option (Value × List RW)} {one : Option Value} {K : Value → World → Prop} {v u src : Value} {xs ys : List RW}
theorem NA.start (w : World) (y : RW) : NA w w y none none := ⟨after_refl _, fun _ _ h => (by cases h), fun _ h => (by cases h), fun _ _ _ h => (by cases h)⟩
theorem na_mk (h : NA w0 w y none one) (hk : ∀ v w', NA w0 w' y (some (v, [])) one → K v w') : opW Tryz.prog (Instr.buildSlice 34 0 #[]) (fun s w => keepS (after w0) (fun w => K s w) w) w := by
  refine mkSl (F := fR) sty34 fun a w1 hb1 ha1 hf1 hs1 => ?_
  have hs := h.below.size
  have ha := h.below.trans (hb1.mono hs)
  rw [keepS_eq]
  refine ⟨ha, hk a w1 ⟨ha, fun v xs e => by cases e; exact ⟨ha1.base hs, by simp⟩, fun u e => (h.on u e).below hb1, fun v xs u e eu c hc hv => ?_⟩⟩
  cases e
  have h1 := hf1 c hv
  obtain ⟨ad, cc, rfl, _, hx⟩ := h.on u eu
  obtain ⟨b, o, rfl, hcl⟩ := hx 0 y rfl
  have h2 := hcl.lt (by simp [fR])
  simp [isOf, Value.ownBlock] at hc
  omega
theorem na_one (h : NA w0 w y acc none) (hk : ∀ u w', NA w0 w' y acc (some u) → K u w') : opW Tryz.prog (Instr.buildSlice 34 1 #[(0, agR y)]) (fun s w => K s w) w := by
  rw [w_one sty34 (v := agR y) rfl (by decide)]
  have hb1 := below_alloc w (.cells (agR y).cells 27 (0, 0))
  have hs := h.below.size
  refine hk _ _ ⟨h.below.trans (hb1.mono hs), fun v xs e => ⟨((h.ac v xs e).1).below hb1, (h.ac v xs e).2⟩, fun u e => ?_, fun v xs u e eu c hc hv => ?_⟩
  · cases e
    exact (slAlloc (F := fR) (e := 27) (l := [y]) rfl (by unfold maxLen; simp)).sl
  · cases eu
    have h1 := (((h.ac v xs e).1).ge hv).2
    simp [isOf, Value.ownBlock] at hc
    omega
theorem na_ap (h : NA w0 w y (some (v, xs)) one) (hsrc : IsSl fR w0 src ys) (hl : xs.length + ys.length ≤ 10) (hk : ∀ v' w', NA w0 w' y (some (v', xs ++ ys)) one → K v' w') : opW Tryz.prog (Builtin.append_ #[34, 34] 34 #[v, src]) (fun s w => keepS (after w0) (fun w => K s w) w) w := by
  obtain ⟨hm, hx⟩ := h.ac v xs rfl
  refine Mine.append (F := fR) sty34 eR.one hm (hsrc.below h.below) h.below.size (by unfold maxLen; omega) (by omega) fun v' w1 hm1 hb1 hof1 hn1 => ?_
  have ha := h.below.trans hb1
  rw [keepS_eq]
  refine ⟨ha, hk v' w1 ⟨ha, fun v2 xs2 e => by cases e; exact ⟨hm1, by simpa using hl⟩, fun u e => (h.on u e).off hof1 fun c hc => h.dis v xs u rfl e c hc, fun v2 xs2 u e eu c hc hv => ?_⟩⟩
  cases e
  rcases hn1 c hv with h1 | h1
  · exact h.dis v xs u rfl eu c hc h1
  · obtain ⟨ad, cc, rfl, _, hx⟩ := h.on u eu
    obtain ⟨b, o, rfl, hcl⟩ := hx 0 y rfl
    have h2 := hcl.lt (by simp [fR])
    simp [isOf, Value.ownBlock] at hc
    omega
theorem na_ap1 (h : NA w0 w y (some (v, xs)) (some u)) (hl : xs.length + 1 ≤ 10) (hk : ∀ v' w', NA w0 w' y (some (v', xs ++ [y])) (some u) → K v' w') : opW Tryz.prog (Builtin.append_ #[34, 34] 34 #[v, u]) (fun s w => keepS (after w0) (fun w => K s w) w) w := by
  obtain ⟨hm, hx⟩ := h.ac v xs rfl
  have hu := h.on u rfl
  refine Mine.append (F := fR) sty34 eR.one hm hu h.below.size (by unfold maxLen; simp; omega) (by simp; omega) fun v' w1 hm1 hb1 hof1 hn1 => ?_
  have ha := h.below.trans hb1
  rw [keepS_eq]
  refine ⟨ha, hk v' w1 ⟨ha, fun v2 xs2 e => by cases e; exact ⟨hm1, by simpa using hl⟩, fun u' e => by cases e; exact hu.off hof1 fun c hc => h.dis v xs u rfl rfl c hc, fun v2 xs2 u' e eu c hc hv => ?_⟩⟩
  cases e; cases eu
  rcases hn1 c hv with h1 | h1
  · exact h.dis v xs u rfl rfl c hc h1
  · obtain ⟨ad, cc, rfl, _, hx⟩ := hu
    obtain ⟨b, o, rfl, hcl⟩ := hx 0 y rfl
    have h2 := hcl.lt (by simp [fR])
    simp [isOf, Value.ownBlock] at hc
    omega
end
end Go.Proofs.YtklknkmeljjmgaaGreatDoor
/- RelayAgrees. -/
set_option linter.unusedSimpArgs false
set_option linter.unusedVariables false
namespace Go.Proofs.YtklknkmeljjmgaaGreatDoor
open Go Go.V Go.RowKit
section
variable {k : Value → World → Prop} {w : World}
theorem RV.stR {n b : Nat} {x : RW} {v : Value} {r' : Rel} (h1 : RowAt w b 27 (fR.e x)) (hv : RelV w v r') (hf : Fr n v) (hnb : ∀ c, relOf v c → c ≠ b) (hk : ∀ w', Only b w w' → RV n b w' r' → k undef w') : opU Tryz.prog (Instr.storeAt 27 (.pointer (some ⟨b, 0, none⟩)) v) k w := by
  obtain ⟨y, rfl⟩ := hv.raw
  exact sr27 (vs := fR.e y) rfl h1 rfl (eR.one y) fun w' ho hr => hk w' ho ⟨y, hr, hv.off (Off.only (p := (· = b)) ho rfl) hnb, hf⟩
theorem RV.mono {n m b : Nat} {r : Rel} (h : RV n b w r) (hm : m ≤ n) : RV m b w r := by
  obtain ⟨x, h1, h2, h3⟩ := h
  exact ⟨x, h1, h2, fun c hc => Nat.le_trans hm (h3 c hc)⟩
theorem RV.zero {n b : Nat} {r : Rel} (h : RV n b w r) : RV 0 b w r := by
  obtain ⟨x, h1, h2, h3⟩ := h
  exact ⟨x, h1, h2, fun _ _ => Nat.zero_le _⟩
theorem s4 {xv : Value} {xs : List Q4} (hg : Gl w) (hx : IsSl fQ w xv xs) (hok : ∀ q ∈ xs, okQ q) (hk : ∀ w', Below w.heap.size w w' → k (.bool true) w') : S4 xv k w := by
  unfold S4
  refine c10 hg fun w1 hb1 => ?_
  rw [w_not, Bool.not_true, condW_false]
  refine c12 (hx.below hb1) hok fun lv w2 rs hb2 hrs h3 => ?_
  obtain ⟨ys, hsl, hys⟩ := hrs
  have hrl := h3.len
  refine Loop2.intro (fun n pv a w' => ∃ i : Nat, a = I i ∧ i ≤ 3 ∧ n = 3 - i ∧ Below w2.heap.size w2 w' ∧ PKs w2.heap.size w' pv ((rs.take i).map packOf)) _ ⟨0, rfl, by omega, rfl, Below.refl _ _, by simpa using PKs.nil _ _⟩ ?_
  rintro n pv _ w3 ⟨i, rfl, hi, rfl, hb3, hp3⟩
  rw [w_lss]
  by_cases hi3 : i < 3
  · rw [decide_eq_true (by omega), condW_true]
    obtain ⟨r, hr, hgr, _⟩ := h3.at hi3
    obtain ⟨x, hxk, hrv⟩ := hys.at hr
    rw [na34 rfl (hsl.below hb3) hxk]
    refine c31 (r := r) (hrv.below hb3) hgr.small fun v4 w4 e p hb4 htl hv4 hf4 => ?_
    obtain ⟨rfl, rfl, hgk⟩ := tell_good hgr htl
    obtain ⟨k4, s4, rfl, h4, h4'⟩ := hv4
    rw [w_extract (v := .agg #[I r.id, k4, s4]) rfl, w_extract (v := I 0) rfl]
    refine w_var (vs := [I r.id, k4, s4]) hz29 (by rw [zc29]; rfl) (oneK h4 h4') size29 known29 fun w5 hb5 hsz5 hr5 => ?_
    have hb35 := below_trans hb4 hb5
    rw [w_neq]
    simp only [decide_true, Bool.not_true, condW_false]
    rw [ld29 (vs := [I r.id, k4, s4]) rfl hr5.cells]
    have hb25 := hb3.trans (hb35.mono hb3.size)
    obtain ⟨ks, hk1, hk2, hk3⟩ := hp3.v
    refine (hp3.below hb35).push (p := packOf r) ⟨k4, s4, rfl, h4.below hb5, h4'.below hb5⟩ (fun c hc hh => by have := hf4 c hc; have := (hk1.ge hh).2; omega) hb25.size (by simp; omega) fun pv2 w6 hp6 hb6 _ => ?_
    rw [w_add, wrap_id (by omega), loopK_self]
    refine ⟨3 - (i + 1), by omega, i + 1, by simp [I], by omega, rfl, hb25.trans hb6, ?_⟩
    rw [List.take_add_one, hr]; simpa using hp6
  rw [decide_eq_false (by omega), condW_false]
  rw [List.take_of_length_le (by omega)] at hp3
  have hs3 := hb3.size
  -- what they hear
  refine Loop2.intro (fun n hv a w' => ∃ (i : Nat) (hs : List Rel), a = I i ∧ i ≤ 3 ∧ n = 3 - i ∧ Below w3.heap.size w3 w' ∧ RLs w3.heap.size w' hv hs ∧ hs.length = i ∧ ∀ h ∈ hs, KL rs h) _ ⟨0, [], rfl, by omega, rfl, Below.refl _ _, RLs.nil _ _, rfl, by simp⟩ ?_
  rintro n hv _ w4 ⟨i, hs, rfl, hi', rfl, hb4, hh4, hhl, hhk⟩
  rw [w_lss]
  by_cases hi3' : i < 3
  · rw [decide_eq_true (by omega), condW_true]
    obtain ⟨r, hr, hgr, _⟩ := h3.at hi3'
    obtain ⟨x, hxk, hrv⟩ := hys.at hr
    have hb24 := hb3.trans (hb4.mono hs3)
    rw [na34 rfl (hsl.below hb24) hxk]
    refine RV.new (n := 0) (v := agR x) (hrv.below hb24) (fun _ _ => Nat.zero_le _) fun w5 hb5 hsz5 O5 => ?_
    rw [na34 rfl (hsl.below (hb24.trans (hb5.mono hb24.size))) hxk]
    refine RV.new (n := 0) (v := agR x) (hrv.below (hb24.trans (hb5.mono hb24.size))) (fun _ _ => Nat.zero_le _) fun w6 hb6 hsz6 T6 => ?_
    have hs4 := hb4.size
    have hs5 := hb5.size
    have hb46 := below_trans hb5 hb6
    have hb36 := hb4.trans (hb46.mono hs4)
    have hrmem := List.mem_of_getElem? hr
    have KLr : ∀ {j : Nat} {s : Rel}, rs[j]? = some s → KL [s] s := fun hj => KL.one (h3.good _ (List.mem_of_getElem? hj))
    refine Loop1.intro (fun n a w' => ∃ (j : Nat) (o t : Rel) (L M : List Rel), a = I j ∧ j ≤ 3 ∧ n = 3 - j ∧ Below w4.heap.size w4 w' ∧ RV 0 w4.heap.size w' o ∧ RV 0 w5.heap.size w' t ∧ KL L o ∧ KL M t ∧ o.id = r.id ∧ t.id = r.id ∧ o.paper = r.paper ∧ t.paper = r.paper ∧ (∀ y, y ∈ L ↔ y = r ∨ y ∈ rs.take j) ∧ (∀ y, y ∈ M ↔ y = r ∨ y ∈ rs.drop (3 - j)) ∧ (j = 0 ∨ RV w4.heap.size w4.heap.size w' o)) _
      ⟨0, r, r, [r], [r], rfl, by omega, rfl, hb46, O5.below hb6, T6, KLr hr, KLr hr, rfl, rfl, rfl, rfl, by simp, by rw [List.drop_of_length_le (by omega)]; simp, .inl rfl⟩ ?_
    rintro n _ w7 ⟨j, o, t, L, M, rfl, hj, rfl, hb7, O7, T7, hKo, hKt, ido, idt, pao, pat, hL, hM, hof⟩
    have hb37 := hb4.trans (hb7.mono hs4)
    have hp7 := hp3.below hb37
    have hs7 := hb7.size
    have hs46 := hb46.size
    have hl5 := T7.lt
    rw [w_lss]
    by_cases hj3 : j < 3
    · rw [decide_eq_true (by omega), condW_true]
      obtain ⟨sj, hsj, hgsj, _⟩ := h3.at hj3
      obtain ⟨sd, hsd, hgsd, _⟩ := h3.at (i := 2 - j) (by omega)
      refine joinW_use2 (Pre := fun av ev w' => ∃ b a, av = .pointer (some ⟨b, 0, none⟩) ∧ ev = I 0 ∧ Below w7.heap.size w7 w' ∧ RV w7.heap.size b w' a ∧ KL (L ++ [sj]) a ∧ a.id = r.id ∧ a.paper = r.paper) ?_ ?_
      · rintro _ _ w8 ⟨ba, a, rfl, rfl, hb8, A8, hKa, ida, paa⟩
        refine joinW_use2 (Pre := fun av ev w' => ∃ b a, av = .pointer (some ⟨b, 0, none⟩) ∧ ev = I 0 ∧ Below w8.heap.size w8 w' ∧ RV w8.heap.size b w' a ∧ w8.heap.size ≤ b ∧ KL (M ++ [sd]) a ∧ a.id = r.id ∧ a.paper = r.paper) ?_ ?_
        · rintro _ _ w9 ⟨bb, b, rfl, rfl, hb9, B9, hbb, hKb, idb, pab⟩
          have hb79 := below_trans hb8 hb9
          have A9 := A8.below hb9
          have hs8 := hb8.size
          rw [w_neq]
          simp only [decide_true, Bool.not_true, guardW_ff, w_neq, pickW_false, condW_false]
          obtain ⟨ya, hya1, hya2, hya3⟩ := A9.v
          rw [ld27 (vs := fR.e ya) rfl hya1.cells]
          refine RV.stN (n := w7.heap.size) (O7.below hb79) hya2 hya3 (fun c hc => by have := hya3 c hc; omega) fun w10 ho10 O10 => ?_
          have hof10 : Off (· = w4.heap.size) w9 w10 := Off.only ho10 rfl
          obtain ⟨yb, hyb1, hyb2, hyb3⟩ := B9.v
          have hBb : RowAt w10 bb 27 (fR.e yb) ∧ RelV w10 (agR yb) b := by
            exact ⟨hyb1.off hof10 (by omega), hyb2.off hof10 fun c hc he => by have := hyb3 c hc; omega⟩
          rw [ld27 (vs := fR.e yb) rfl hBb.1.cells]
          obtain ⟨xt, hxt, _, _⟩ := T7.v
          refine RV.stR (n := w8.heap.size) ((hxt.below hb79).off hof10 (by omega)) hBb.2 hyb3 (fun c hc => by have := hyb3 c hc; omega) fun w11 ho11 T11 => ?_
          have hof11 : Off (· = w5.heap.size) w10 w11 := Off.only ho11 rfl
          rw [w_add, wrap_id (by omega), loopK_self]
          have hb411 : Below w4.heap.size w4 w11 := ((hb7.trans (hb79.mono hs7)).trans (ho10.rest _ (Nat.le_refl _))).trans (ho11.rest _ hs5)
          refine ⟨3 - (j + 1), by omega, j + 1, a, b, L ++ [sj], M ++ [sd], by simp [I], by omega, rfl, hb411, (O10.off hof11 (by omega) fun c hc => by omega).zero, T11.zero, hKa, hKb, ida, idb, paa, pab, fun y => ?_, fun y => ?_, .inr ((O10.off hof11 (by omega) fun c hc => by omega).mono hs7)⟩
          · rw [List.mem_append, hL, List.take_add_one, hsj]; simp; exact or_assoc
          · have hdr : rs.drop (3 - (j + 1)) = sd :: rs.drop (3 - j) := by
              have := drop_some hsd
              rw [show 2 - j + 1 = 3 - j by omega] at this
              rw [show 3 - (j + 1) = 2 - j by omega]; exact this
            simp only [List.mem_append, hM, hdr, List.mem_cons, List.not_mem_nil, or_false]
            constructor
            · rintro ((h | h) | h)
              · exact .inl h
              · exact .inr (.inr h)
              · exact .inr (.inl h)
            · rintro (h | h | h)
              · exact .inl (.inl h)
              · exact .inr h
              · exact .inl (.inr h)
        intro J2 hJ2
        rw [drewW_eq]
        have hb89 := below_drew w8
        have hp9 := (hp7.below hb8).below hb89
        have T9 := (T7.below hb8).below hb89
        generalize w8.drew = w9 at *
        refine ⟨after w9, after_refl _, ?_⟩
        refine T9.la (after_refl _) fun v hv => ?_
        obtain ⟨ks, kx, hks, hkx, hkp⟩ := hp9.at (i := 2 - j) (p := packOf sd) (by rw [List.getElem?_map, hsd]; rfl)
        rw [t_sub, wrap_id (by omega), getAi eK (m := 2 - (j : Int)) (i := 2 - j) (by omega) hks hkx (after_refl _) (by decide)]
        have hn := NS.start w9
        have fin : ∀ x w' e r', after w9 w' → hearR t (packOf sd) e r' → RV w9.heap.size x w' r' → w9.heap.size ≤ x → J2 (.pointer (some ⟨x, 0, none⟩)) (I e) w' := fun x w' e r' h1 h2 h3 h4 => by
          obtain ⟨rfl, e2, e3, e4⟩ := KL.hear hKt (KLr hsd) h2
          have hs := hb89.size
          obtain ⟨y, g1, g2, g3⟩ := h3
          exact hJ2 _ _ _ ⟨x, r', rfl, rfl, hb89.trans (h1.mono hs), ⟨y, g1, g2, fun b hb => Nat.le_trans hs (g3 b hb)⟩, by omega, e2, by rw [e3, idt], by rw [e4, pat]⟩
        have hres := resHear (r := t) (p := packOf sd) hv hkp hKt.good.small (packOf_good hgsd).small
        repeat' first
          | exact ns_callA hres (by assumption) fin
          | exact ns_callB hres (by assumption) fin
          | refine ns_al (by assumption) fun _ _ _ => ?_
          | refine And.intro ?_ ?_
      intro J hJ
      rw [drewW_eq]
      have hb78 := below_drew w7
      have hp8 := hp7.below hb78
      have O8 := O7.below hb78
      generalize w7.drew = w8 at *
      refine ⟨after w8, after_refl _, ?_⟩
      refine O8.la (after_refl _) fun v hv => ?_
      obtain ⟨ks, kx, hks, hkx, hkp⟩ := hp8.at (i := j) (p := packOf sj) (by rw [List.getElem?_map, hsj]; rfl)
      rw [getAi eK (m := (j : Int)) (i := j) rfl hks hkx (after_refl _) (by decide)]
      have hn := NS.start w8
      have fin : ∀ x w' e r', after w8 w' → hearR o (packOf sj) e r' → RV w8.heap.size x w' r' → w8.heap.size ≤ x → J (.pointer (some ⟨x, 0, none⟩)) (I e) w' := fun x w' e r' h1 h2 h3 h4 => by
        obtain ⟨rfl, e2, e3, e4⟩ := KL.hear hKo (KLr hsj) h2
        have hs := hb78.size
        obtain ⟨y, g1, g2, g3⟩ := h3
        exact hJ _ _ _ ⟨x, r', rfl, rfl, hb78.trans (h1.mono hs), ⟨y, g1, g2, fun b hb => Nat.le_trans hs (g3 b hb)⟩, e2, by rw [e3, ido], by rw [e4, pao]⟩
      have hres := resHear (r := o) (p := packOf sj) hv hkp hKo.good.small (packOf_good hgsj).small
      repeat' first
        | exact ns_callA hres (by assumption) fin
        | exact ns_callB hres (by assumption) fin
        | refine ns_al (by assumption) fun _ _ _ => ?_
        | refine And.intro ?_ ?_
    · rw [decide_eq_false (by omega), condW_false]
      have hofR := hof.resolve_left (by omega)
      obtain rfl : j = 3 := by omega
      have hLr : ∀ y, y ∈ L ↔ y ∈ rs := fun y => by rw [hL, List.take_of_length_le (by omega)]; exact ⟨fun h => h.elim (fun h => h ▸ hrmem) id, .inr⟩
      have hMr : ∀ y, y ∈ M ↔ y ∈ rs := fun y => by rw [hM]; simp only [Nat.sub_self, List.drop_zero]; exact ⟨fun h => h.elim (fun h => h ▸ hrmem) id, .inr⟩
      have hot : o = t := by
        obtain ⟨e1, e2⟩ := KL.keeps hKo hKt fun y => by rw [hLr, hMr]
        exact Rel.ext' (by rw [ido, idt]) (by rw [pao, pat]) e1 e2
      obtain ⟨s1, hs1, hgs1, _⟩ := h3.at (i := 1) (by omega)
      have hs1m := List.mem_of_getElem? hs1
      refine joinW_use2 (Pre := fun av ev w' => ∃ b a, av = .pointer (some ⟨b, 0, none⟩) ∧ ev = I 0 ∧ Below w7.heap.size w7 w' ∧ RV 0 b w' a ∧ a = o) ?_ ?_
      · rintro _ _ w8 ⟨ba, a, rfl, rfl, hb8, A8, hao⟩
        rw [hao] at A8
        rw [drewW_eq]
        have hb9 := hb8.trans (Below.refl _ w8).drew
        have A9 := A8.below (below_drew w8)
        generalize w8.drew = w9 at *
        have O9 := hofR.below hb9
        have T9 := T7.below hb9
        have h9 := after_refl w9
        refine ⟨after w9, h9, ?_⟩
        rw [t_neq]
        simp only [decide_true, Bool.not_true, guardT_ff, guardW_ff]
        refine O9.la h9 fun vo hvo => ?_
        refine T9.la h9 fun vt hvt => ?_
        refine c18 hvo hvt hKo.good.small fun w10 hb10 => ?_
        rw [decide_eq_true hot, t_not]
        simp only [Bool.not_true, pickT_false, guardT_ff, guardW_ff]
        obtain ⟨xa, hxa, hva, _⟩ := A9.below hb10
        obtain ⟨xo, hxo, hvo', hfo⟩ := O9.below hb10
        rw [xld27 (vs := fR.e xa) rfl hxa.cells, xld27 (vs := fR.e xo) rfl hxo.cells]
        refine c18 hva hvo' hKo.good.small fun w11 hb11 => ?_
        have h911 := below_trans hb10 hb11
        rw [keepS_eq, decide_eq_true rfl, t_not]
        refine ⟨h911, ?_⟩
        simp only [Bool.not_true, pickT_false, guardT_ff, guardW_ff]
        have O11 := O9.below h911
        obtain ⟨kO, sO, rO, hOk, hOs⟩ := O11.open
        have hb711 := hb9.trans (h911.mono hb9.size)
        have hb211 := hb3.trans ((hb37.trans (hb711.mono hb37.size)).mono hs3)
        have hxp : x.paper = r.paper := by
          obtain ⟨kv, sv, he, _⟩ := hrv
          have : (fR.e x).toArray = #[I r.id, I r.paper, kv, sv] := by injection he
          have e := congrArg (fun a : Array Value => a[1]?) this
          simp [fR] at e
          exact e
        rw [rt27_1 (rO.cell (i := 1) rfl), nt34_1 rfl (hsl.below hb211) hxk (u := I x.paper) rfl, t_neq, decide_eq_true (by rw [hxp, pao])]
        simp only [Bool.not_true, pickT_false, condW_false]
        obtain ⟨xq, hxq, hvq, hfq⟩ := O11
        rw [ld27 (vs := fR.e xq) rfl hxq.cells]
        have hb411 := hb7.trans (hb711.mono hs7)
        obtain ⟨hws, hm1, _, _⟩ := hh4.v
        refine (hh4.below hb411).push hvq (fun c hc hh => by have := hfq c hc; have := (hm1.ge hh).2; omega) (by have := hb411.size; omega) (by omega) fun hv2 w12 hh12 hb12 _ => ?_
        rw [w_add, wrap_id (by omega), loopK_self]
        refine ⟨3 - (i + 1), by omega, i + 1, hs ++ [o], by simp [I], by omega, rfl, (hb4.trans (hb411.mono hs4)).trans hb12, hh12, by simp [hhl], fun h hh => ?_⟩
        rcases List.mem_append.1 hh with hh | hh
        · exact hhk h hh
        · rw [List.mem_singleton] at hh; subst hh
          exact KL.congr hLr hKo
      intro J hJ
      rw [drewW_eq]
      have hb78 := below_drew w7
      have hp8 := hp7.below hb78
      have O8 := O7.below hb78
      generalize w7.drew = w8 at *
      refine ⟨after w8, after_refl _, ?_⟩
      refine O8.la (after_refl _) fun v hv => ?_
      obtain ⟨ks, kx, hks, hkx, hkp⟩ := hp8.at (i := 1) (p := packOf s1) (by rw [List.getElem?_map, hs1]; rfl)
      rw [getAi eK (m := 1) (i := 1) rfl hks hkx (after_refl _) (by decide)]
      have hn := NS.start w8
      have fin : ∀ x w' e r', after w8 w' → hearR o (packOf s1) e r' → RV w8.heap.size x w' r' → w8.heap.size ≤ x → J (.pointer (some ⟨x, 0, none⟩)) (I e) w' := fun x w' e r' h1 h2 h3 h4 => by
        obtain ⟨rfl, e2, e3, e4⟩ := KL.hear hKo (KLr hs1) h2
        have hs := hb78.size
        obtain ⟨f1, f2⟩ := KL.keeps e2 hKo fun y => by rw [List.mem_append, hLr, List.mem_singleton]; exact ⟨fun h => h.elim id (fun h => h ▸ hs1m), .inl⟩
        exact hJ _ _ _ ⟨x, r', rfl, rfl, hb78.trans (h1.mono hs), h3.zero, Rel.ext' e3 e4 f1 f2⟩
      have hres := resHear (r := o) (p := packOf s1) hv hkp hKo.good.small (packOf_good hgs1).small
      repeat' first
        | exact ns_callA hres (by assumption) fin
        | exact ns_callB hres (by assumption) fin
        | refine ns_al (by assumption) fun _ _ _ => ?_
        | refine And.intro ?_ ?_
  rw [decide_eq_false (by omega), condW_false, drewW_eq]
  have hb4 := hb4.trans (Below.refl _ w4).drew
  have hh4 := hh4.below (below_drew w4)
  generalize w4.drew = w5 at *
  have hhl : hs.length = 3 := by omega
  obtain ⟨a0, ha0⟩ : ∃ a, hs[0]? = some a := ⟨_, List.getElem?_eq_getElem (by omega)⟩
  obtain ⟨a1, ha1⟩ : ∃ a, hs[1]? = some a := ⟨_, List.getElem?_eq_getElem (by omega)⟩
  obtain ⟨a2, ha2⟩ : ∃ a, hs[2]? = some a := ⟨_, List.getElem?_eq_getElem (by omega)⟩
  have hk0 := hhk a0 (List.mem_of_getElem? ha0)
  have hk1 := hhk a1 (List.mem_of_getElem? ha1)
  have hk2 := hhk a2 (List.mem_of_getElem? ha2)
  obtain ⟨zs0, z0, hz0, hzx0, hzv0⟩ := hh4.at ha0
  obtain ⟨zs1, z1, hz1, hzx1, hzv1⟩ := hh4.at ha1
  obtain ⟨zs2, z2, hz2, hzx2, hzv2⟩ := hh4.at ha2
  refine ⟨after w5, after_refl _, ?_⟩
  rw [getAi eR (m := 0) (i := 0) rfl hz0 hzx0 (after_refl _) (by decide), getAi eR (m := 1) (i := 1) rfl hz1 hzx1 (after_refl _) (by decide)]
  refine c38 hzv0 hzv1 hk0.good.small fun w6 hb6 => ?_
  rw [decide_eq_true (KL.keeps hk0 hk1 fun _ => Iff.rfl), t_not]
  simp only [Bool.not_true, guardT_ff, guardW_ff]
  rw [gta34 (i := 1) rfl (hz1.below hb6) (by omega) (a := z1) hzx1, gta34 (i := 2) rfl (hz2.below hb6) (by omega) (a := z2) hzx2]
  refine c38 (hzv1.below hb6) (hzv2.below hb6) hk1.good.small fun w7 hb7 => ?_
  have h57 := below_trans hb6 hb7
  rw [keepS_eq, decide_eq_true (KL.keeps hk1 hk2 fun _ => Iff.rfl), t_not]
  refine ⟨h57, ?_⟩
  simp only [Bool.not_true, pickT_false, condW_false]
  have hb57 := hb4.trans (h57.mono hb4.size)
  have hb27 := hb3.trans (hb57.mono hs3)
  have hh7 := hh4.below h57
  -- the rounds
  let Now : (Nat → Rel → Prop) → World → Value → Prop := fun told w' nv => ∃ nw, RelsV w' nv nw ∧ nw.length = 3 ∧ ∀ (j : Nat) n, nw[j]? = some n → ∃ L, KL L n ∧ (∀ y ∈ L, y ∈ rs) ∧ (∀ s, rs[j]? = some s → s ∈ L) ∧ ∀ s, told j s → s ∈ L
  refine Loop2.intro (fun n nv a w' => ∃ ρ : Nat, a = I ρ ∧ ρ ≤ 2 ∧ n = 2 - ρ ∧ Below w7.heap.size w7 w' ∧ Now (fun _ s => 1 ≤ ρ ∧ s ∈ rs) w' nv) _ ⟨0, rfl, by omega, rfl, Below.refl _ _, rs, ⟨ys, hsl.below hb27, hys.below hb27⟩, hrl, fun j n hj => ⟨[n], KL.one (h3.good n (List.mem_of_getElem? hj)), fun y hy => by simp at hy; subst hy; exact List.mem_of_getElem? hj, fun s hs => by rw [hj] at hs; cases hs; simp, fun s hs => by omega⟩⟩ ?_
  rintro n nv _ w8 ⟨ρ, rfl, hρ, rfl, hb8, hnow⟩
  rw [w_lss]
  by_cases hρ2 : ρ < 2
  · rw [decide_eq_true (by omega), condW_true]
    refine Loop2.intro (fun n nv a w' => ∃ i : Nat, a = I i ∧ i ≤ 3 ∧ n = 3 - i ∧ Below w7.heap.size w7 w' ∧ Now (fun _ s => (1 ≤ ρ ∧ s ∈ rs) ∨ ∃ m, m < i ∧ rs[m]? = some s) w' nv) _ ⟨0, rfl, by omega, rfl, hb8, ?_⟩ ?_
    · obtain ⟨nw, g1, g2, g3⟩ := hnow
      exact ⟨nw, g1, g2, fun j n hj => by obtain ⟨L, q1, q2, q3, q4⟩ := g3 j n hj; exact ⟨L, q1, q2, q3, fun s hs => hs.elim (q4 s) fun ⟨m, hm, _⟩ => by omega⟩⟩
    rintro n nv _ w9 ⟨i, rfl, hi9, rfl, hb9, hnow⟩
    rw [w_lss]
    by_cases hi93 : i < 3
    · rw [decide_eq_true (by omega), condW_true]
      obtain ⟨nw, ⟨zs, hzs, hzx⟩, hnl, hnk⟩ := hnow
      obtain ⟨ni, hni⟩ : ∃ n, nw[i]? = some n := ⟨_, List.getElem?_eq_getElem (by omega)⟩
      obtain ⟨zi, hzi, hzv⟩ := hzx.at hni
      obtain ⟨Li, hKi, hLi, hLs, hLt⟩ := hnk i ni hni
      obtain ⟨si, hsi, _, _⟩ := h3.at hi93
      have hsm := hLs si hsi
      rw [na34 rfl hzs hzi]
      refine c31 (r := ni) hzv hKi.good.small fun v10 w10 e p hb10 htl hv10 hf10 => ?_
      obtain ⟨rfl, rfl, hgk⟩ := tell_good hKi.good htl
      obtain ⟨k10, s10, rfl, hk10, hs10⟩ := hv10
      rw [w_extract (v := .agg #[I ni.id, k10, s10]) rfl, w_extract (v := I 0) rfl]
      refine w_var (vs := [I ni.id, k10, s10]) hz29 (by rw [zc29]; rfl) (oneK hk10 hs10) size29 known29 fun w11 hb11 hsz11 hr11 => ?_
      rw [w_neq]
      simp only [decide_true, Bool.not_true, condW_false]
      have hb911 := below_trans hb10 hb11
      have hb711 := hb9.trans (hb911.mono hb9.size)
      have hk11 := hk10.below hb11
      have hs11 := hs10.below hb11
      refine Loop2.intro (fun n nv a w' => ∃ j : Nat, a = I j ∧ j ≤ 3 ∧ n = 3 - j ∧ Below w11.heap.size w11 w' ∧ Now (fun m s => ((1 ≤ ρ ∧ s ∈ rs) ∨ ∃ m, m < i ∧ rs[m]? = some s) ∨ (m < j ∧ s = si)) w' nv) _ ⟨0, rfl, by omega, rfl, Below.refl _ _, nw, RelsV.below ⟨zs, hzs, hzx⟩ hb911, hnl, fun m n hm => by obtain ⟨L, q1, q2, q3, q4⟩ := hnk m n hm; exact ⟨L, q1, q2, q3, fun s hs => hs.elim (q4 s) fun h => by omega⟩⟩ ?_
      rintro n nv2 _ w12 ⟨j, rfl, hj, rfl, hb12, hnow⟩
      rw [w_lss]
      by_cases hj3 : j < 3
      · rw [decide_eq_true (by omega), condW_true]
        obtain ⟨nw, ⟨zs, hzs, hzx⟩, hnl, hnk⟩ := hnow
        obtain ⟨nj, hnj⟩ : ∃ n, nw[j]? = some n := ⟨_, List.getElem?_eq_getElem (by omega)⟩
        obtain ⟨zj, hzj, hzvj⟩ := hzx.at hnj
        obtain ⟨Lj, hKj, hLj, hLjs, hLjt⟩ := hnk j nj hnj
        have hzl : zs.length = 3 := by rw [hzx.1, hnl]
        refine joinW_use2 (Pre := fun av ev w' => ∃ b a, av = .pointer (some ⟨b, 0, none⟩) ∧ ev = I 0 ∧ Below w12.heap.size w12 w' ∧ RV 0 b w' a ∧ KL (Lj ++ Li) a) ?_ ?_
        · rintro _ _ w13 ⟨b, a, rfl, rfl, hb13, A13, hKa⟩
          rw [w_neq]
          simp only [decide_true, Bool.not_true, condW_false]
          have hb1113 := hb12.trans (hb13.mono hb12.size)
          obtain ⟨ya, hya, hyv, _⟩ := A13
          refine joinW_use1 (Pre := fun nv' w' => Below w13.heap.size w13 w' ∧ ∃ zs', IsSl fR w' nv' zs' ∧ zs' = zs.take j ++ [ya] ++ zs.drop (j + 1)) ?_ ?_
          · rintro nv' w14 ⟨hb14, zs', hz', hze⟩
            rw [w_add, wrap_id (by omega), loopK_self]
            refine ⟨3 - (j + 1), by omega, j + 1, by simp [I], by omega, rfl, hb1113.trans (hb14.mono hb1113.size), nw.set j a, ⟨zs', hz', ?_⟩, by simp [hnl], ?_⟩
            · have hset : zs' = zs.set j ya := by rw [hze, List.set_eq_take_append_cons_drop, if_pos (by omega)]; simp
              rw [hset]
              refine ⟨by simp [hzl, hnl], fun m x n hx hn => ?_⟩
              rw [List.getElem?_set] at hx hn
              by_cases hm : j = m
              · rw [if_pos hm, if_pos (by omega)] at hx hn
                cases hx; cases hn
                exact hyv.below hb14
              · rw [if_neg hm] at hx hn
                exact ((hzx.2 m x n hx hn).below hb13).below hb14
            · intro m n hn
              rw [List.getElem?_set] at hn
              by_cases hm : j = m
              · rw [if_pos hm, if_pos (by omega)] at hn
                cases hn
                refine ⟨Lj ++ Li, hKa, fun y hy => (List.mem_append.1 hy).elim (hLj y) (hLi y), fun s hs => List.mem_append.2 (.inl (hLjs s (by rw [hm]; exact hs))), fun s hs => ?_⟩
                rcases hs with hs | ⟨_, rfl⟩
                · exact List.mem_append.2 (.inr (hLt s hs))
                · exact List.mem_append.2 (.inr hsm)
              · rw [if_neg hm] at hn
                obtain ⟨L, q1, q2, q3, q4⟩ := hnk m n hn
                refine ⟨L, q1, q2, q3, fun s hs => q4 s ?_⟩
                rcases hs with hs | ⟨h1, h2⟩
                · exact .inl hs
                · exact .inr ⟨by omega, h2⟩
          intro J hJ
          rw [drewW_eq]
          have hb14 := below_drew w13
          have hz14 := (hzs.below hb13).below hb14
          have hya14 := hya.drew
          generalize w13.drew = w14 at *
          refine ⟨after w14, after_refl _, ?_⟩
          refine t_headS (F := fR) (m := j) rfl (by kernel_rfl) (by kernel_rfl) hz14 (by omega) fun sa hsa => ?_
          rw [la27 (vs := fR.e ya) rfl hya14.cells (after_refl _), t_add, wrap_id (by omega)]
          refine t_fromS (F := fR) (i := j + 1) (by omega) (by kernel_rfl) (by kernel_rfl) (by kernel_rfl) hz14 (by omega) fun sb hsb => ?_
          have hn := NA.start w14 ya
          have fin : ∀ {w' v}, NA w14 w' ya (some (v, [] ++ zs.take j ++ [ya] ++ zs.drop (j + 1))) (some sa) ∨ True → True := fun _ => trivial
          have fin2 : ∀ {w' v o}, NA w14 w' ya (some (v, [] ++ zs.take j ++ [ya] ++ zs.drop (j + 1))) o → J v w' := fun {w' v o} h => by
            refine hJ _ _ ⟨hb14.trans (h.below.mono hb14.size), _, ((h.ac _ _ rfl).1).sl, by simp⟩
          repeat' first
            | exact fin2 (by assumption)
            | refine na_ap1 (by assumption) (by simp; omega) fun _ _ _ => ?_
            | refine na_ap (by assumption) hsa (by simp; omega) fun _ _ _ => ?_
            | refine na_ap (by assumption) hsb (by simp; omega) fun _ _ _ => ?_
            | refine na_mk (by assumption) fun _ _ _ => ?_
            | refine na_one (by assumption) fun _ _ _ => ?_
            | refine And.intro ?_ ?_
        intro J hJ
        rw [drewW_eq]
        have hb13 := below_drew w12
        have hz13 := hzs.below hb13
        have hzv13 := hzvj.below hb13
        have hr13 := (hr11.below hb12).drew
        have hk13 := (hk11.below hb12).below hb13
        have hs13 := (hs11.below hb12).below hb13
        generalize w12.drew = w13 at *
        refine ⟨after w13, after_refl _, ?_⟩
        rw [getAi eR (m := (j : Int)) (i := j) rfl hz13 hzj (after_refl _) (by decide), la29 (vs := [I ni.id, k10, s10]) rfl hr13.cells (after_refl _)]
        have hn := NS.start w13
        have fin : ∀ x w' e r', after w13 w' → hearR nj (packOf ni) e r' → RV w13.heap.size x w' r' → w13.heap.size ≤ x → J (.pointer (some ⟨x, 0, none⟩)) (I e) w' := fun x w' e r' h1 h2 h3 h4 => by
          obtain ⟨rfl, e2, e3, e4⟩ := KL.hear hKj hKi h2
          exact hJ _ _ _ ⟨x, r', rfl, rfl, hb13.trans (h1.mono hb13.size), h3.zero, e2⟩
        have hres := resHear (r := nj) (p := packOf ni) hzv13 ⟨k10, s10, rfl, hk13, hs13⟩ hKj.good.small (packOf_good hKi.good).small
        repeat' first
          | exact ns_callA hres (by assumption) fin
          | exact ns_callB hres (by assumption) fin
          | refine ns_al (by assumption) fun _ _ _ => ?_
          | refine And.intro ?_ ?_
      · rw [decide_eq_false (by omega), condW_false, w_add, wrap_id (by omega), loopK_self]
        have hs711 := hb711.size
        refine ⟨3 - (i + 1), by omega, i + 1, by simp [I], by omega, rfl, hb711.trans (hb12.mono hs711), ?_⟩
        obtain ⟨nw, g1, g2, g3⟩ := hnow
        refine ⟨nw, g1, g2, fun m n hm => ?_⟩
        obtain ⟨L, q1, q2, q3, q4⟩ := g3 m n hm
        have hm3 := (List.getElem?_eq_some_iff.1 hm).1
        refine ⟨L, q1, q2, q3, fun s hs => ?_⟩
        rcases hs with hs | ⟨t, ht, hts⟩
        · exact q4 s (.inl (.inl hs))
        · by_cases hti : t < i
          · exact q4 s (.inl (.inr ⟨t, hti, hts⟩))
          · obtain rfl : t = i := by omega
            rw [hsi] at hts; cases hts
            exact q4 _ (.inr ⟨by omega, rfl⟩)
    · rw [decide_eq_false (by omega), condW_false, w_add, wrap_id (by omega), loopK_self]
      refine ⟨2 - (ρ + 1), by omega, ρ + 1, by simp [I], by omega, rfl, hb9, ?_⟩
      obtain ⟨nw, g1, g2, g3⟩ := hnow
      refine ⟨nw, g1, g2, fun j n hj => ?_⟩
      obtain ⟨L, q1, q2, q3, q4⟩ := g3 j n hj
      refine ⟨L, q1, q2, q3, fun s hs => ?_⟩
      obtain ⟨m, hm, hme⟩ := List.getElem_of_mem hs.2
      exact q4 s (.inr ⟨m, by omega, by rw [List.getElem?_eq_getElem hm, hme]⟩)
  rw [decide_eq_false (by omega), condW_false]
  obtain ⟨nw, ⟨zs, hzs, hzx⟩, hnl, hnk⟩ := hnow
  have KN : ∀ {j : Nat} {n : Rel}, nw[j]? = some n → KL rs n := fun {j n} hj => by
    obtain ⟨L, q1, q2, q3, q4⟩ := hnk j n hj
    exact KL.congr (fun y => ⟨q2 y, fun hy => q4 y ⟨by omega, hy⟩⟩) q1
  rw [drewW_eq]
  have hb9 := hb8.trans (Below.refl _ w8).drew
  have hzs := hzs.drew
  have hzx := hzx.below (below_drew w8)
  have hz0 := hz0.below h57
  have hzv0 := hzv0.below h57
  have hz0 := hz0.below hb9
  have hzv0 := hzv0.below hb9
  generalize w8.drew = w9 at *
  obtain ⟨n0, hn0⟩ : ∃ n, nw[0]? = some n := ⟨_, List.getElem?_eq_getElem (by omega)⟩
  obtain ⟨n1, hn1⟩ : ∃ n, nw[1]? = some n := ⟨_, List.getElem?_eq_getElem (by omega)⟩
  obtain ⟨n2, hn2⟩ : ∃ n, nw[2]? = some n := ⟨_, List.getElem?_eq_getElem (by omega)⟩
  obtain ⟨y0, hy0, hv0⟩ := hzx.at hn0
  obtain ⟨y1, hy1, hv1⟩ := hzx.at hn1
  obtain ⟨y2, hy2, hv2⟩ := hzx.at hn2
  have h9 := after_refl w9
  refine ⟨after w9, h9, ?_⟩
  rw [getAi eR (m := 0) (i := 0) rfl hzs hy0 h9 (by decide), getAi eR (m := 0) (i := 0) rfl hz0 hzx0 h9 (by decide)]
  refine c38 hv0 hzv0 (KN hn0).good.small fun w10 hb10 => ?_
  rw [keepS_eq, decide_eq_true (KL.keeps (KN hn0) hk0 fun _ => Iff.rfl)]
  refine ⟨hb10, ?_⟩
  simp only [guardT_tt, guardW_tt]
  rw [getAi eR (m := 1) (i := 1) rfl hzs hy1 hb10 (by decide), getAi eR (m := 0) (i := 0) rfl hz0 hzx0 hb10 (by decide)]
  refine c38 (hv1.below hb10) (hzv0.below hb10) (KN hn1).good.small fun w11 hb11 => ?_
  have h11 := below_trans hb10 hb11
  rw [keepS_eq, decide_eq_true (KL.keeps (KN hn1) hk0 fun _ => Iff.rfl)]
  refine ⟨h11, ?_⟩
  simp only [pickT_true, guardT_tt, guardW_tt]
  rw [gta34 (i := 2) rfl (hzs.below h11) (by omega) (a := y2) hy2, gta34 (i := 0) rfl (hz0.below h11) (by omega) (a := z0) hzx0]
  refine c38 (hv2.below h11) (hzv0.below h11) (KN hn2).good.small fun w12 hb12 => ?_
  have h12 := below_trans h11 hb12
  rw [keepS_eq, decide_eq_true (KL.keeps (KN hn2) hk0 fun _ => Iff.rfl)]
  refine ⟨h12, ?_⟩
  exact hk w12 (below_trans (below_trans (below_trans (below_trans hb1 hb2) hb27) hb9) h12)
end
end Go.Proofs.YtklknkmeljjmgaaGreatDoor
/- RelayAgrees answers true for every input, and the input reads as it did; its card ties the one listed variable to the program's text: no condition of its own. -/
namespace Go.Proofs.YtklknkmeljjmgaaGreatDoor.relayAgrees
open Go Go.V Go.ChangeShapes Go.WideShapes Go.ChangeAt Go.RowKit
set_option linter.unusedVariables false
theorem laid_met (os : Os) (args : Array Value) : laidMet Tryz.prog Rows.relayAgreesRow.laid ((laidWorld os).forCall (fun _ _ => 0) ⟨#[], args, []⟩).memory :=
  laidMet_of_run' 8 (by kernel_rfl) (by kernel_rfl)
theorem witness_row (os : Os) {H : Type} (enc : TypeId × Value → H) :
    (OpenSpec.ofChange Rows.relayAgreesSpec).preRow enc Tryz.prog Tryz.f4 Rows.relayAgreesRow.domain false Rows.relayAgreesRow.laid ((laidWorld os).forCall (fun _ _ => 0) ⟨#[], #[.slice none 0 0], []⟩).memory #[.slice none 0 0] := by
  have hw : (DataW.whole enc Tryz.prog ((laidWorld os).forCall (fun _ _ => 0) ⟨#[], #[.slice none 0 0], []⟩).memory Tryz.f4.params.toList (OpenSpec.ofChange Rows.relayAgreesSpec).vars false (#[.slice none 0 0] : Array Value).toList 8).map (fun x => (x.1, x.2.1)) =
      some ([.nil], []) := by kernel_rfl
  obtain ⟨⟨x1, x2, x3⟩, hx, hx1⟩ := Option.map_eq_some_iff.1 hw
  simp only [Prod.mk.injEq] at hx1
  obtain ⟨rfl, rfl⟩ := hx1
  exact OpenSpec.preRow_of_cond 8 hx (by kernel_rfl) (fun k hk => by cases hk) (by kernel_rfl) (laid_met os _)
set_option maxRecDepth 100000 in
theorem lifted (os : Os) (started : os.Started) (H : Type) (enc : TypeId × Value → H) (F : Stop.Interp) :
    ReturnsInHanded {} Tryz.checked os 4 .any ((OpenSpec.ofChange Rows.relayAgreesSpec).preRow enc Tryz.prog Tryz.f4 Rows.relayAgreesRow.domain false Rows.relayAgreesRow.laid) (((OpenSpec.ofChange Rows.relayAgreesSpec).at F).post enc Tryz.prog Tryz.f4 false true false false) := by
  refine returnsInHanded_of_row (C := Tryz.checked) (s := OpenSpec.ofChange Rows.relayAgreesSpec) own started (by kernel_rfl) Tryz.func4
    (witness_row_at (enc := enc) (C := Tryz.checked) false (laidWorld os) #[.slice none 0 0] rfl (by kernel_rfl) (by kernel_rfl) (by kernel_rfl) (witness_row os enc)) ?_
  intro W base args ds gs before hval0 hW _ _ _ hL _ _
  have hgl : Gl W := gl_of_laid rfl hL
  have hval : ∀ (j : Nat) t v, Tryz.f4.params[j]? = some t → args[j]? = some v → Value.okWide Tryz.prog W .any base t v := hval0
  have hW' := hW
  obtain ⟨p, q, hA0, hV, rfl, hfz, hnd⟩ := hW
  have hA : DataW.TrodAll enc Tryz.prog W 0 (fun _ => true) true Tryz.f4.params.toList args.toList ds p := hA0
  rw [Tryz.params4] at hA hval
  obtain ⟨v0, vs0, d0, ds0, p0, q0, hargs, rfl, rfl, h0, r0⟩ := trodAll_cons hA
  obtain ⟨rfl, rfl, rfl⟩ := trodAll_nil r0
  obtain rfl : args = #[v0] := by cases args; simp_all
  obtain ⟨rfl, rfl⟩ := trodVars_none hV
  obtain ⟨a0, len0, cap0, rfl⟩ := okWide_slice und22 (hval 0 22 v0 rfl rfl)
  have k0 := h0
  have lt0 : ∀ x ∈ p0, x.block < W.heap.size := by obtain ⟨m, hm⟩ := k0; exact DataW.trod_lt m _ _ _ hm
  obtain ⟨l0, s0, _, b0⟩ : ∃ l : List Q4, IsSl fQ W (.slice a0 len0 cap0) l ∧ l.length ≤ maxLen ∧ ∀ z, z ∈ l → okQ z := by
    obtain ⟨fuel, hf⟩ := h0
    exact sl_of_trod und22 cells59 (by decide) elem59 hf
  clear hA0 hval0
  have walk : Calls Tryz.prog 4 #[.slice a0 len0 cap0] W fun e w' => e = .returned (.bool true) ∧ Below W.heap.size W w' :=
    (S4_calls _ _ W (s4 (k := fun v w' => v = .bool true ∧ Below W.heap.size W w') hgl s0 b0 fun w' hb => ⟨rfl, hb⟩)).mono fun e w' h => by
      cases e <;> first | exact h.elim | exact ⟨by rw [h.1], h.2⟩
  refine walk.mono fun e W' ⟨he, bel⟩ => ?_
  subst he
  exact ⟨_, rfl, _, _, _, [], _, [], hW', trodAll_mk1 (shut_bool Tryz.underlying4 _), (trodAll_cons_mk (Below.trod laidOut (by kernel_rfl) (of_decide_eq_true (by kernel_rfl)) k0 bel lt0) trodAll_mk0), rfl, bel.frame _, fun h => by cases h⟩
theorem row_holds : Rows.RelayAgreesSaid :=
  OpenClaim.holds_of_cond 4 Tryz.f4 rfl rfl rfl rfl rfl rfl rfl ⟨rfl, rfl, rfl, rfl, rfl⟩ rfl rfl rfl rfl rfl (by kernel_rfl) Tryz.func4 (by kernel_rfl)
    (of_decide_eq_true (by kernel_rfl)) (by unfold Func.isWrapper; first | (rw [if_pos (by decide +kernel)]; kernel_rfl) | (rw [if_neg (by decide +kernel)]; exact ⟨rfl, rfl⟩))
    (fun os started H enc _ F0 => by rw [OpenClaim.pre_eq_preRow]; exact lifted os started H enc F0)
theorem wants (t : TypeId) (ht : t ∈ [22]) : Tryz.prog.wantsStandIn t = false := by
  simp only [List.mem_cons, List.not_mem_nil, or_false] at ht
  rcases ht with rfl <;> kernel_rfl
theorem proved : Rows.RelayAgreesCardSaid :=
  Claim7.holds_tied_plain_at .later [] [.data] true (true, "51406d0c7899d6db3014da037ff4d91b9abc5020012ce40afda720a4616556c1") false
    row_holds (fun _ h => by cases h) (by kernel_rfl) (fun _ h => by cases h) relayAgrees_row_tie rfl ⟨rfl, rfl⟩ (by kernel_rfl) rfl
    (fun f fn hf hfn => by
      obtain rfl : f = 4 := Option.some.inj ((show Tryz.prog.funcNamed "newswire/newswirelaw25.RelayAgrees" = some 4 by kernel_rfl).symm.trans hf) |>.symm
      obtain rfl : fn = Tryz.f4 := (Option.some.inj (Tryz.func4.symm.trans hfn)).symm
      exact ⟨by kernel_rfl, fun j t ht => wants t (by
        rw [Tryz.params4] at ht
        exact List.mem_of_getElem? (by simpa using ht))⟩)
    (by kernel_rfl)
end Go.Proofs.YtklknkmeljjmgaaGreatDoor.relayAgrees
