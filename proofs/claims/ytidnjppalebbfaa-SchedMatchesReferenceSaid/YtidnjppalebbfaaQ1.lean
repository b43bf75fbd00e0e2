/- Arguments that are slices of flat elements, opened. -/
import Derived.Test.YtidnjppalebbfaaRows
import Derived.WalkKit
import Derived.ProofKit
import Derived.OpenShut
import Derived.ShutString
import Derived.ChangeOld
import Derived.Below
import Derived.Deep.Slices
import Derived.Test.YtidnjppalebbfaaA23
set_option linter.unusedSimpArgs false
set_option linter.unusedVariables false
namespace Go.Proofs.Ytidnjppalebbfaa
open Go Go.V Go.RowKit Go.ChangeShapes Go.WideShapes Go.ChangeAt Go.Deep
theorem own : ownKnob Try.prog.godebug = none := by kernel_rfl
theorem laidOut : laidOutB Try.prog = true := by kernel_rfl
theorem inI64_of_wf {n : Int} (h : (Lit.int .i64 n).wf = true) : inI64 n := bounds_i64 h
section
variable {H : Type} {enc : TypeId × Value → H} {P : Program} {w : World} {base : Nat} {spare : Nat → Bool} {held : Bool}
theorem spot_of_cell {x : Addr} {v : Value} (h : w.cell? x = some v) : x.spot = none := by
  unfold World.cell? at h
  cases hs : x.spot with
  | none => rfl
  | some s =>
    exfalso
    split at h
    · rw [hs] at h; simp at h
    · cases h
/-- a slice of flat elements that came in -/
theorem sl_of_trod {α : Type} {F : Fl α} {Q : α → Prop} {t e : TypeId} {fuel : Nat} {v : Value} {x : DataW H × List MemPlace} (ht : P.underlying t = some (.slice e)) (hc : P.cellsOf e = F.sz) (hp : 0 < F.sz)
    (helem : ∀ cs m (y : DataW H × List MemPlace), DataW.trod enc P w base spare held m e cs = some y → ∃ z, cs = F.e z ∧ Q z) (h : DataW.trod enc P w base spare held fuel t [v] = some x) :
    ∃ l : List α, IsSl F w v l ∧ l.length ≤ maxLen ∧ ∀ z, z ∈ l → Q z := by
  rcases open_slice ht h with ⟨hcs, _⟩ | ⟨a, len, cap, m, n, D, Pl, hcs, _, hl, hm, hmm, _, hel⟩
  · simp at hcs; subst hcs
    exact ⟨[], .nil _, by simp, by simp⟩
  · simp at hcs; subst hcs
    have hlm : len ≤ m := by rw [hmm]; split <;> omega
    have each : ∀ i, i < len → ∃ z, Q z ∧ ∀ j u, (F.e z)[j]? = some u → w.cell? ((a.add (i * F.sz)).add j) = some u := fun i hi => by
      obtain ⟨cs, h1, h2⟩ := hel i (by omega)
      obtain ⟨z, rfl, hq⟩ := helem cs n _ h2
      rw [hc] at h1
      obtain ⟨_, hlen, hcell⟩ := World.cells?_some h1
      exact ⟨z, hq, fun j u hu => by rw [hcell j (by have := (List.getElem?_eq_some_iff.1 hu).1; rw [F.len] at this; exact this)]; exact hu⟩
    have mk : ∀ k, k ≤ len → ∃ l : List α, l.length = k ∧ (∀ z, z ∈ l → Q z) ∧ ∀ i z, l[i]? = some z → ∀ j u, (F.e z)[j]? = some u → w.cell? ((a.add (i * F.sz)).add j) = some u := by
      intro k
      induction k with
      | zero => intro _; exact ⟨[], rfl, by simp, by simp⟩
      | succ k ih =>
        intro hk
        obtain ⟨l, h1, h2, h3⟩ := ih (by omega)
        obtain ⟨z, hz, hzc⟩ := each k (by omega)
        refine ⟨l ++ [z], by simp [h1], fun y hy => ?_, fun i y hy => ?_⟩
        · rcases List.mem_append.1 hy with h | h
          · exact h2 y h
          · simp at h; subst h; exact hz
        · rcases Nat.lt_or_ge i l.length with h | h
          · rw [List.getElem?_append_left h] at hy; exact h3 i y hy
          · rw [List.getElem?_append_right h] at hy
            have := (List.getElem?_eq_some_iff.1 hy).1
            simp at this
            have h0 : i - l.length = 0 := by omega
            rw [h0] at hy; simp at hy; subst hy
            obtain rfl : i = k := by omega
            exact hzc
    obtain ⟨l, h1, h2, h3⟩ := mk len (Nat.le_refl _)
    refine ⟨l, ⟨some a, cap, by rw [h1], by omega, fun i z hz => ?_⟩, by omega, h2⟩
    obtain ⟨z0, hz0⟩ : ∃ z0, l[0]? = some z0 := ⟨l[0]'(by have := (List.getElem?_eq_some_iff.1 hz).1; omega), by simp⟩
    obtain ⟨u, hu⟩ : ∃ u, (F.e z0)[0]? = some u := ⟨(F.e z0)[0]'(by rw [F.len]; exact hp), by simp⟩
    have hsp := spot_of_cell (h3 0 z0 hz0 0 u hu)
    obtain ⟨b, o, sp⟩ := a
    have hsn : sp = none := by
      revert hsp
      simp [Addr.add]
    subst hsn
    refine ⟨b, o, rfl, fun j v hv => ?_⟩
    have := h3 i z hz j v hv
    rwa [add_none, add_none] at this
theorem cells3' : Try.prog.cellsOf 3 = 1 := by kernel_rfl
theorem cells56 : Try.prog.cellsOf 56 = 3 := by kernel_rfl
theorem cells57 : Try.prog.cellsOf 57 = 2 := by kernel_rfl
theorem cell_of_trod {cs : List Value} {m : Nat} {y : DataW H × List MemPlace} {i : Nat} (hi : i < cs.length) (h : DataW.trod enc Try.prog w base spare held m 3 ((cs.drop (i * 1)).take 1) = some y) : ∃ n, cs[i]? = some (I n) ∧ inI64 n := by
  obtain ⟨n, hn, _, hw⟩ := DataW.trod_int Try.underlying3 h
  refine ⟨n, ?_, inI64_of_wf hw⟩
  have := congrArg (fun l : List Value => l[0]?) hn
  simp only [List.getElem?_take, List.getElem?_drop] at this
  simpa using this
theorem elem56 (cs : List Value) (m : Nat) (y : DataW H × List MemPlace) (h : DataW.trod enc Try.prog w base spare held m 56 cs = some y) : ∃ z : Int × Int × Int, cs = fT3.e z ∧ inI64 z.1 ∧ inI64 z.2.1 ∧ inI64 z.2.2 := by
  obtain ⟨xs, m', _, _, hl, hxl, he⟩ := DataW.trod_array u56 h
  rw [cells56] at hl
  have get : ∀ i, i < 3 → ∃ n, cs[i]? = some (I n) ∧ inI64 n := fun i hi => by
    have h1 := he i hi
    rw [cells3', List.getElem?_eq_getElem (show i < xs.length by omega)] at h1
    exact cell_of_trod (by omega) h1
  obtain ⟨a, ha, hwa⟩ := get 0 (by decide)
  obtain ⟨b, hb, hwb⟩ := get 1 (by decide)
  obtain ⟨c, hc, hwc⟩ := get 2 (by decide)
  refine ⟨(a, b, c), ?_, hwa, hwb, hwc⟩
  match cs, hl with
  | [x, y, z], _ => simp at ha hb hc; subst ha; subst hb; subst hc; rfl
theorem elem57 (cs : List Value) (m : Nat) (y : DataW H × List MemPlace) (h : DataW.trod enc Try.prog w base spare held m 57 cs = some y) : ∃ z : Int × Int, cs = fT2.e z ∧ inI64 z.1 ∧ inI64 z.2 := by
  obtain ⟨xs, m', _, _, hl, hxl, he⟩ := DataW.trod_array u57 h
  rw [cells57] at hl
  have get : ∀ i, i < 2 → ∃ n, cs[i]? = some (I n) ∧ inI64 n := fun i hi => by
    have h1 := he i hi
    rw [cells3', List.getElem?_eq_getElem (show i < xs.length by omega)] at h1
    exact cell_of_trod (by omega) h1
  obtain ⟨a, ha, hwa⟩ := get 0 (by decide)
  obtain ⟨b, hb, hwb⟩ := get 1 (by decide)
  refine ⟨(a, b), ?_, hwa, hwb⟩
  match cs, hl with
  | [x, y], _ => simp at ha hb; subst ha; subst hb; rfl
theorem und24 : Try.prog.underlying 24 = some (.slice 56) := by kernel_rfl
theorem und25 : Try.prog.underlying 25 = some (.slice 57) := by kernel_rfl
end
end Go.Proofs.Ytidnjppalebbfaa
