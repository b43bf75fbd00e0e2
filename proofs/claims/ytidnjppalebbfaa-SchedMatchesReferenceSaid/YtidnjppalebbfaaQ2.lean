/- Arguments that are slices of structs of whole numbers, opened. -/
import Derived.Test.YtidnjppalebbfaaQ1
set_option linter.unusedSimpArgs false
set_option linter.unusedVariables false
namespace Go.Proofs.Ytidnjppalebbfaa
open Go Go.V Go.RowKit Go.ChangeShapes Go.WideShapes Go.ChangeAt Go.Deep
section
variable {H : Type} {enc : TypeId × Value → H} {P : Program} {w : World} {base : Nat} {spare : Nat → Bool} {held : Bool}
theorem mapM_all {α β : Type} {f : α → Option β} : ∀ {l : List α} {ys : List β}, l.mapM f = some ys → ∀ a ∈ l, ∃ y, f a = some y
  | [], _, _, a, ha => by cases ha
  | b :: r, ys, h, a, ha => by
    rw [List.mapM_cons] at h
    cases hb : f b with
    | none => rw [hb] at h; cases h
    | some y =>
      rw [hb] at h
      cases hr : r.mapM f with
      | none => rw [hr] at h; cases h
      | some z =>
        rcases List.mem_cons.1 ha with rfl | ha
        · exact ⟨y, hb⟩
        · exact mapM_all hr a ha
theorem trod_struct {fuel : Nat} {t : TypeId} {cs : List Value} {fs : Array Field} {x : DataW H × List MemPlace} (ht : P.underlying t = some (.struct fs)) (h : DataW.trod enc P w base spare held fuel t cs = some x) :
    cs.length = P.cellsOf t ∧ ∃ m, ∀ f ∈ fs.toList, ∃ y, DataW.trod enc P w base spare held m f.type ((cs.drop f.offset).take (P.cellsOf f.type)) = some y := by
  cases fuel with
  | zero => simp [DataW.trod] at h
  | succ m =>
    unfold DataW.trod at h
    rw [ht] at h
    split at h <;> simp_all
    obtain ⟨h1, ys, hys, _⟩ := h
    refine ⟨m, fun f hf => ?_⟩
    obtain ⟨y, hy⟩ := mapM_all hys f (by simpa using hf)
    obtain ⟨a, b⟩ := y
    exact ⟨a, b, hy⟩
theorem field_int {cs : List Value} {m off : Nat} {y : DataW H × List MemPlace} (hi : off < cs.length) (h : DataW.trod enc Try.prog w base spare held m 3 ((cs.drop off).take 1) = some y) : ∃ n, cs[off]? = some (I n) ∧ inI64 n :=
  cell_of_trod (i := off) hi (by rw [Nat.mul_one]; exact h)
def structAt (P : Program) (t : TypeId) : Option (List (Nat × Nat)) := match P.underlying t with
  | some (.struct fs) => some (mapL (fun f => (f.type, f.offset)) fs.toList)
  | _ => none
theorem structAt_spec {t : TypeId} {l : List (Nat × Nat)} (h : structAt P t = some l) : ∃ fs : Array Field, P.underlying t = some (.struct fs) ∧ fs.toList.map (fun f => (f.type, f.offset)) = l := by
  unfold structAt at h
  split at h
  · rename_i fs hfs
    cases h
    exact ⟨fs, hfs, (mapL_eq _ _).symm⟩
  · cases h
/-- the fields of a struct that came in -/
theorem trod_fields {fuel : Nat} {t : TypeId} {cs : List Value} {l : List (Nat × Nat)} {x : DataW H × List MemPlace} (hl : structAt P t = some l) (h : DataW.trod enc P w base spare held fuel t cs = some x) :
    cs.length = P.cellsOf t ∧ ∃ m, ∀ f ∈ l, ∃ y, DataW.trod enc P w base spare held m f.1 ((cs.drop f.2).take (P.cellsOf f.1)) = some y := by
  obtain ⟨fs, hfs, hm⟩ := structAt_spec hl
  obtain ⟨h1, m, h2⟩ := trod_struct hfs h
  refine ⟨h1, m, fun f hf => ?_⟩
  rw [← hm] at hf
  obtain ⟨g, hg, rfl⟩ := List.mem_map.1 hf
  exact h2 g hg
theorem sa34 : structAt Try.prog 34 = some [(3, 0), (3, 1), (3, 2)] := by kernel_rfl
theorem sa31 : structAt Try.prog 31 = some [(3, 0), (3, 1)] := by kernel_rfl
theorem cells34 : Try.prog.cellsOf 34 = 3 := by kernel_rfl
theorem cells31 : Try.prog.cellsOf 31 = 2 := by kernel_rfl
theorem elem34 (cs : List Value) (m : Nat) (y : DataW H × List MemPlace) (h : DataW.trod enc Try.prog w base spare held m 34 cs = some y) : ∃ z : Stream, cs = fS.e z ∧ True := by
  obtain ⟨hl, m', hf⟩ := trod_fields sa34 h
  rw [cells34] at hl
  have get : ∀ i, (3, i) ∈ [(3, 0), (3, 1), (3, 2)] → i < 3 → ∃ n, cs[i]? = some (I n) ∧ inI64 n := fun i hm hi => by
    obtain ⟨y, hy⟩ := hf (3, i) hm
    rw [cells3'] at hy
    exact field_int (by omega) hy
  obtain ⟨a, ha, _⟩ := get 0 (by simp) (by decide)
  obtain ⟨b, hb, _⟩ := get 1 (by simp) (by decide)
  obtain ⟨c, hc, _⟩ := get 2 (by simp) (by decide)
  refine ⟨⟨a, b, c⟩, ?_, trivial⟩
  match cs, hl with
  | [x, y, z], _ => simp at ha hb hc; subst ha; subst hb; subst hc; rfl
theorem elem31 (cs : List Value) (m : Nat) (y : DataW H × List MemPlace) (h : DataW.trod enc Try.prog w base spare held m 31 cs = some y) : ∃ z : Arr, cs = fA.e z ∧ True := by
  obtain ⟨hl, m', hf⟩ := trod_fields sa31 h
  rw [cells31] at hl
  have get : ∀ i, (3, i) ∈ [(3, 0), (3, 1)] → i < 2 → ∃ n, cs[i]? = some (I n) ∧ inI64 n := fun i hm hi => by
    obtain ⟨y, hy⟩ := hf (3, i) hm
    rw [cells3'] at hy
    exact field_int (by omega) hy
  obtain ⟨a, ha, _⟩ := get 0 (by simp) (by decide)
  obtain ⟨b, hb, _⟩ := get 1 (by simp) (by decide)
  refine ⟨⟨a, b⟩, ?_, trivial⟩
  match cs, hl with
  | [x, y], _ => simp at ha hb; subst ha; subst hb; rfl
theorem elem3 (cs : List Value) (m : Nat) (y : DataW H × List MemPlace) (h : DataW.trod enc Try.prog w base spare held m 3 cs = some y) : ∃ z : Int, cs = fI.e z ∧ inI64 z := by
  obtain ⟨n, hn, _, hw⟩ := DataW.trod_int Try.underlying3 h
  exact ⟨n, hn, inI64_of_wf hw⟩
end
end Go.Proofs.Ytidnjppalebbfaa
