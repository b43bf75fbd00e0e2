/- More laws of memory. -/
import Derived.Test.YtidnjppalebbfaaVm
set_option linter.unusedSimpArgs false
set_option linter.unusedVariables false
namespace Go.V
open Go Go.RowKit
section
variable {P : Program} {k : Value → World → Prop} {w w' : World} {b : Nat} {t : TypeId}
/-- only block b may differ -/
structure Only (b : Nat) (w w' : World) : Prop where
  size : w'.heap.size = w.heap.size
  rest : ∀ B, B ≤ b → Below B w w'
  other : ∀ b', b' ≠ b → w'.heap[b']? = w.heap[b']?
theorem Only.refl (b : Nat) (w : World) : Only b w w := ⟨rfl, fun _ _ => Below.refl _ _, fun _ _ => rfl⟩
theorem Only.trans {w'' : World} (h : Only b w w') (h' : Only b w' w'') : Only b w w'' :=
  ⟨h'.size.trans h.size, fun B hB => (h.rest B hB).trans (h'.rest B hB), fun b' hb' => (h'.other b' hb').trans (h.other b' hb')⟩
theorem Only.setCell (b i : Nat) (w : World) (u : Value) : Only b w (w.setCell ⟨b, i, none⟩ u) :=
  ⟨by simp, fun B hB => (Below.refl _ _).setCell hB _, fun b' hb' => Below.heap_setCell _ _ _ _ hb'⟩
theorem only_setCells : ∀ (vs : List Value) (o : Nat) (w : World), Only b w (setCells w b o vs)
  | [], o, w => Only.refl _ _
  | v :: r, o, w => (Only.setCell b o w v).trans (only_setCells r (o + 1) _)
theorem rowAt_setCells : ∀ (vs pre old : List Value) (w : World), RowAt w b t (pre ++ old) → vs.length = old.length → RowAt (setCells w b pre.length vs) b t (pre ++ vs)
  | [], pre, old, w, h, hl => by
    have : old = [] := List.eq_nil_of_length_eq_zero hl.symm
    subst this; exact h
  | v :: r, pre, [], w, h, hl => by simp at hl
  | v :: r, pre, u :: old, w, h, hl => by
    have h1 := h.set pre.length v
    rw [List.set_append_right _ _ (Nat.le_refl _), Nat.sub_self, List.set_cons_zero] at h1
    have h2 := rowAt_setCells r (pre ++ [v]) old _ (by simpa using h1) (by simpa using hl)
    simpa [setCells] using h2
theorem w_storeRow {vs old : List Value} (hr : RowAt w b t old) (hl : vs.length = old.length) (hv : ∀ v ∈ vs, v.oneCell' = true) (hs : sizeT P t = vs.length) (hk : known P t = true)
    (h : ∀ w', Only b w w' → RowAt w' b t vs → k undef w') : opU P (Instr.storeAt t (.pointer (some ⟨b, 0, none⟩)) (.agg vs.toArray)) k w := by
  rw [w_storeAgg hv hs hk (fun j hj => ?_) (fun j hj => hr.free _)]
  · exact h _ (only_setCells vs 0 w) (rowAt_setCells vs [] old w hr hl)
  · obtain ⟨u, hu⟩ : ∃ u, old[j]? = some u := ⟨old[j], List.getElem?_eq_getElem (by omega)⟩
    exact ⟨u, by rw [Nat.zero_add]; exact hr.cell hu⟩
/-- a variable of a struct type, made and set -/
theorem w_var {vs : List Value} (hz : hasZero P t = true) (hzl : (zeroT P t).cells.toList.length = vs.length) (hv : ∀ v ∈ vs, v.oneCell' = true) (hs : sizeT P t = vs.length) (hk : known P t = true) {kk : Value → Value → World → Prop}
    (h : ∀ w', Below w.heap.size w w' → w'.heap.size = w.heap.size + 1 → RowAt w' w.heap.size t vs → kk (.pointer (some ⟨w.heap.size, 0, none⟩)) undef w') :
    opW P (Instr.alloc t true (.tuple #[])) (fun x w => opU P (Instr.storeAt t x (.agg vs.toArray)) (kk x) w) w := by
  refine w_allocN hz fun w1 hb1 hsz1 hr1 => ?_
  refine w_storeRow hr1 hzl.symm hv hs hk fun w2 ho2 hr2 => ?_
  exact h w2 (hb1.trans (ho2.rest _ (Nat.le_refl _))) (by rw [ho2.size, hsz1]) hr2
/-- of the blocks that were there only those of p may differ -/
structure Off (p : Nat → Prop) (w w' : World) : Prop where
  size : w.heap.size ≤ w'.heap.size
  block : ∀ b, b < w.heap.size → ¬ p b → w'.heap[b]? = w.heap[b]?
theorem Off.refl (p : Nat → Prop) (w : World) : Off p w w := ⟨Nat.le_refl _, fun _ _ _ => rfl⟩
theorem Off.trans {p : Nat → Prop} {a b c : World} (h : Off p a b) (h' : Off p b c) : Off p a c :=
  ⟨Nat.le_trans h.size h'.size, fun i hi hp => (h'.block i (Nat.lt_of_lt_of_le hi h.size) hp).trans (h.block i hi hp)⟩
theorem Off.mono {p q : Nat → Prop} {a b : World} (h : Off p a b) (hpq : ∀ i, i < a.heap.size → p i → q i) : Off q a b := ⟨h.size, fun i hi hq => h.block i hi fun hp => hq (hpq i hi hp)⟩
theorem Off.below {p : Nat → Prop} {a b : World} (h : Below a.heap.size a b) : Off p a b := ⟨h.size, fun i hi _ => h.block i hi⟩
theorem Off.set {p : Nat → Prop} {g i : Nat} {w : World} {u : Value} (h : p g) : Off p w (w.setCell ⟨g, i, none⟩ u) := ⟨by simp, fun b _ hb => Below.heap_setCell _ _ _ _ (fun hh => hb (hh ▸ h))⟩
theorem Off.only {p : Nat → Prop} {g : Nat} {w w' : World} (h : Only g w w') (hg : p g) : Off p w w' := ⟨Nat.le_of_eq h.size.symm, fun b _ hb => h.other b fun hh => hb (hh ▸ hg)⟩
theorem Off.grown {p : Nat → Prop} {row : Option Nat} {w w' : World} (h : w.grownBy w' row) (hg : ∀ b, row = some b → p b) : Off p w w' := ⟨h.size, fun b hb hp => h.block b hb fun hh => hp (hg b hh.symm)⟩
theorem RowAt.off {p : Nat → Prop} {vs : List Value} (h : RowAt w b t vs) (ho : Off p w w') (hp : ¬ p b) : RowAt w' b t vs := h.same (ho.block b h.lt hp)
theorem OwnS.off {α : Type} {F : Fl α} {p : Nat → Prop} {base e g c : Nat} {l : List α} (h : OwnS F w base e g c l) (ho : Off p w w') (hp : ¬ p g) : OwnS F w' base e g c l := h.same (ho.block g h.ge.2 hp)
end
end Go.V
