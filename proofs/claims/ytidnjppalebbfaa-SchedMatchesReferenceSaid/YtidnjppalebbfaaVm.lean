/- What memory holds: slices of flat elements; calls of function values. -/
import Derived.Test.YtidnjppalebbfaaVl
set_option linter.unusedSimpArgs false
set_option linter.unusedVariables false
namespace Go.V
open Go Go.RowKit

/-! ### slices of flat elements -/
structure Fl (α : Type) where
  sz : Nat
  e : α → List Value
  len : ∀ x, (e x).length = sz
def fI : Fl Int := ⟨1, fun n => [.int .i64 n], fun _ => rfl⟩
def fV : Fl Value := ⟨1, fun v => [v], fun _ => rfl⟩
def flat {α : Type} (F : Fl α) : List α → List Value
  | [] => []
  | x :: r => F.e x ++ flat F r
section
variable {α : Type} {F : Fl α}
theorem flat_length : ∀ l : List α, (flat F l).length = l.length * F.sz
  | [] => by simp [flat]
  | x :: r => by simp [flat, flat_length r, F.len, Nat.add_mul, Nat.add_comm]
theorem flat_append : ∀ l m : List α, flat F (l ++ m) = flat F l ++ flat F m
  | [], m => rfl
  | x :: r, m => by simp [flat, flat_append r m]
theorem flat_one (x : α) : flat F [x] = F.e x := by simp [flat]
theorem flat_get : ∀ (l : List α) (i j : Nat) (x : α) (u : Value), l[i]? = some x → (F.e x)[j]? = some u → (flat F l)[i * F.sz + j]? = some u
  | [], i, j, x, u, h, _ => by simp at h
  | y :: r, 0, j, x, u, h, hu => by
    simp at h; subst h
    have hj : j < (F.e y).length := (List.getElem?_eq_some_iff.1 hu).1
    simp only [flat, Nat.zero_mul, Nat.zero_add]
    rw [List.getElem?_append_left hj]; exact hu
  | y :: r, i + 1, j, x, u, h, hu => by
    simp only [List.getElem?_cons_succ] at h
    simp only [flat]
    rw [List.getElem?_append_right (by rw [F.len, Nat.add_mul]; omega), F.len, show (i + 1) * F.sz + j - F.sz = i * F.sz + j by rw [Nat.add_mul]; omega]
    exact flat_get r i j x u h hu
theorem flat_set : ∀ (l : List α) (i : Nat) (x y : α), l[i]? = some x → F.sz = 1 → ∀ u, F.e y = [u] → flat F (l.set i y) = (flat F l).set i u
  | [], i, x, y, h, _, _, _ => by simp at h
  | z :: r, 0, x, y, h, hs, u, hu => by
    have hz := F.len z
    rw [hs] at hz
    match hez : F.e z, hz with
    | [v], _ => simp [flat, hez, hu]
  | z :: r, i + 1, x, y, h, hs, u, hu => by
    simp only [List.getElem?_cons_succ] at h
    have hz := F.len z
    rw [hs] at hz
    match hez : F.e z, hz with
    | [v], _ => simp [flat, hez, flat_set r i x y h hs u hu]
/-- v is a slice whose elements read as l -/
def IsSl (F : Fl α) (w : World) (v : Value) (l : List α) : Prop :=
  ∃ a c, v = .slice a l.length c ∧ l.length ≤ c ∧ ∀ i x, l[i]? = some x → ∃ b o, a = some ⟨b, o, none⟩ ∧ Cells w b (o + i * F.sz) (F.e x)
theorem Cells.lt {w : World} {b o : Nat} {vs : List Value} (h : Cells w b o vs) (hne : vs ≠ []) : b < w.heap.size := by
  cases vs with
  | nil => exact absurd rfl hne
  | cons v r => exact World.block_lt_of_cell? w ⟨b, o + 0, none⟩ (h 0 v rfl)
theorem Cells.same {w w' : World} {b o : Nat} {vs : List Value} (h : Cells w b o vs) (hs : w'.heap[b]? = w.heap[b]?) : Cells w' b o vs := fun j v hv => by
  rw [World.cell?_of_block (a := ⟨b, o + j, none⟩) hs]; exact h j v hv
theorem Cells.below {w w' : World} {B b o : Nat} {vs : List Value} (h : Cells w b o vs) (hb : Below B w w') (hlt : b < B) : Cells w' b o vs := h.same (hb.block b hlt)
theorem IsSl.below {w w' : World} {v : Value} {l : List α} (h : IsSl F w v l) (hb : Below w.heap.size w w') : IsSl F w' v l := by
  obtain ⟨a, c, rfl, hc, hx⟩ := h
  refine ⟨a, c, rfl, hc, fun i x hi => ?_⟩
  obtain ⟨b, o, ha, hcell⟩ := hx i x hi
  refine ⟨b, o, ha, fun j u hu => ?_⟩
  have hlt := World.block_lt_of_cell? w _ (hcell j u hu)
  rw [World.cell?_of_block (a := ⟨b, _, none⟩) (hb.block b hlt)]; exact hcell j u hu
theorem IsSl.nil (w : World) : IsSl F w (.slice none 0 0) [] := ⟨none, 0, rfl, Nat.le_refl _, fun i x h => by simp at h⟩
theorem IsSl.drew {w : World} {v : Value} {l : List α} (h : IsSl F w v l) : IsSl F w.drew v l := h.below ((Below.refl _ _).drew)
theorem IsSl.of_own {w : World} {base e : Nat} {v : Value} {l : List α} (h : w.ownsRow base e F.sz v l.length (flat F l)) : IsSl F w v l := by
  rcases h.2 with ⟨rfl, hn⟩ | ⟨g, cap, cur, rfl, hb, hg, hnc, _⟩
  · have : l = [] := List.eq_nil_of_length_eq_zero hn
    subst this; exact .nil w
  · refine ⟨_, _, rfl, hnc, fun i x hi => ⟨g, 0, rfl, fun j u hu => ?_⟩⟩
    have := h.cells (g := g) rfl (i * F.sz + j) u (flat_get l i j x u hi hu)
    rw [add_none] at this
    rw [show 0 + i * F.sz + j = 0 + (i * F.sz + j) by omega]; exact this
section
variable {P : Program} {k : Value → World → Prop} {w : World} {v : Value} {l : List α}
theorem w_lenS {t ty : TypeId} (h : isSliceT P t = true) (hs : IsSl F w v l) : opW P (Builtin.len_ #[t] ty #[v]) k w = k (.int .i64 l.length) w := by
  obtain ⟨a, c, rfl, _⟩ := hs
  exact w_len h
theorem run_index {t : TypeId} {b o n c : Nat} {q : IntKind} {i : Int} (h : isSliceT P t = true) (he : known P (elemT P t) = true) (h0 : 0 ≤ i) (h1 : i < n) (w : World) :
    (Instr.indexAt t (.slice (some ⟨b, o, none⟩) n c) (.int q i)).run P w = .ok (.pointer (some ⟨b, o + i.toNat * sizeT P (elemT P t), none⟩)) w := by
  simp [Instr.indexAt, Sem.run_bind, Result.andThen, run_underlying (slice_desc h), asIntOf, h0, h1, run_sizeOf he, add_none]
theorem w_indexS {t : TypeId} {q : IntKind} {i : Int} {x : α} (h : isSliceT P t = true) (he : known P (elemT P t) = true) (hz : sizeT P (elemT P t) = F.sz) (hs : IsSl F w v l) (h0 : 0 ≤ i) (hx : l[i.toNat]? = some x)
    (hk : ∀ b o, Cells w b o (F.e x) → k (.pointer (some ⟨b, o, none⟩)) w) : opW P (Instr.indexAt t v (.int q i)) k w := by
  obtain ⟨a, c, rfl, hc, hcell⟩ := hs
  obtain ⟨b, o, rfl, hcl⟩ := hcell _ _ hx
  have hlt : i < l.length := by have := (List.getElem?_eq_some_iff.1 hx).1; omega
  rw [opW_ok (run_index h he h0 hlt w), hz]
  exact hk b _ hcl
theorem t_indexS {S : World → Prop} {K : Value → Prop} {t : TypeId} {q : IntKind} {i : Int} {x : α} (h : isSliceT P t = true) (he : known P (elemT P t) = true) (hz : sizeT P (elemT P t) = F.sz) (hs : IsSl F w v l) (h0 : 0 ≤ i) (hx : l[i.toNat]? = some x)
    (hk : ∀ b o, Cells w b o (F.e x) → K (.pointer (some ⟨b, o, none⟩))) : takeW P S (Instr.indexAt t v (.int q i)) K w := by
  obtain ⟨a, c, rfl, hc, hcell⟩ := hs
  obtain ⟨b, o, rfl, hcl⟩ := hcell _ _ hx
  have hlt : i < l.length := by have := (List.getElem?_eq_some_iff.1 hx).1; omega
  rw [takeW_pure fun w' => run_index h he h0 hlt w', hz]
  exact hk b _ hcl
theorem t_lenS {S : World → Prop} {K : Value → Prop} {t ty : TypeId} (h : isSliceT P t = true) (hs : IsSl F w v l) : takeW P S (Builtin.len_ #[t] ty #[v]) K w = K (.int .i64 l.length) := by
  obtain ⟨a, c, rfl, _⟩ := hs
  exact takeW_pure fun w => run_of_eq fun k => w_len h
theorem t_load {S : World → Prop} {K : Value → Prop} {t : TypeId} {a : Addr} {u : Value} (h : isAggT P t = false) (hk : known P t = true) (hc : w.cell? a = some u) (hS : ∀ w', S w' → w'.cell? a = w.cell? a) : takeW P S (Instr.loadAt t (.pointer (some a))) K w = K u :=
  takeW_eq (run_of_eq fun k => w_load h hk hc) fun w' hw' => run_of_eq fun k => w_load h hk (by rw [hS w' hw', hc])
theorem x_load {K : Value → Prop} {t : TypeId} {a : Addr} {u : Value} (h : isAggT P t = false) (hk : known P t = true) (hc : w.cell? a = some u) : takeW P (sameW w) (Instr.loadAt t (.pointer (some a))) K w = K u :=
  takeW_same (run_of_eq fun k => w_load h hk hc)
theorem x_loadAgg {K : Value → Prop} {t : TypeId} {b o : Nat} {vs : List Value} (h : isAggT P t = true) (hk : known P t = true) (hs : sizeT P t = vs.length) (hc : Cells w b o vs) : takeW P (sameW w) (Instr.loadAt t (.pointer (some ⟨b, o, none⟩))) K w = K (.agg vs.toArray) :=
  takeW_same (run_of_eq fun k => w_loadAgg h hk hs hc)
theorem t_field {S : World → Prop} {K : Value → Prop} {t : TypeId} {f o x b : Nat} (h : fieldOff P t f = some x) : takeW P S (Instr.fieldAt t (.pointer (some ⟨b, o, none⟩)) f) K w = K (.pointer (some ⟨b, o + x, none⟩)) :=
  takeW_pure fun w => run_of_eq fun k => w_field h
end
end

/-! ### rows of the call's own -/
section
variable {α : Type} {F : Fl α} {w : World}
/-- a slice of the call's own at the head of block g: its elements are l -/
def OwnS (F : Fl α) (w : World) (base e g c : Nat) (l : List α) : Prop := w.ownsRow base e F.sz (.slice (some ⟨g, 0, none⟩) l.length c) l.length (flat F l)
theorem OwnS.sl {base e g c : Nat} {l : List α} (h : OwnS F w base e g c l) : IsSl F w (.slice (some ⟨g, 0, none⟩) l.length c) l := .of_own h
theorem OwnS.kept {w' : World} {base e g c : Nat} {l : List α} {row : Option Nat} (h : OwnS F w base e g c l) (hg : w.grownBy w' row) (hne : row ≠ some g) : OwnS F w' base e g c l :=
  World.ownsRow.kept h hg (.inr fun hh => hne hh.symm)
theorem OwnS.ge {base e g c : Nat} {l : List α} (h : OwnS F w base e g c l) : base ≤ g ∧ g < w.heap.size := World.ownsRow.lt h g rfl
theorem OwnS.below {w' : World} {base e g c : Nat} {l : List α} (h : OwnS F w base e g c l) (hb : Below w.heap.size w w') : OwnS F w' base e g c l :=
  h.kept (row := none) ⟨hb.os, hb.tape, hb.output, hb.size, fun k hk _ => hb.block k hk⟩ (by simp)
theorem OwnS.same {w' : World} {base e g c : Nat} {l : List α} (h : OwnS F w base e g c l) (hb : w'.heap[g]? = w.heap[g]?) : OwnS F w' base e g c l := by
  refine ⟨h.1, ?_⟩
  rcases h.2 with h' | ⟨g', cap, cur, h1, h2, h3, h4⟩
  · exact .inl h'
  · refine .inr ⟨g', cap, cur, h1, h2, ?_, h4⟩
    simp only [Value.slice.injEq, Option.some.injEq, Addr.mk.injEq, and_true, true_and] at h1
    obtain ⟨rfl, _⟩ := h1
    rw [hb]; exact h3
theorem OwnS.cell {base e g c : Nat} {l : List α} (h : OwnS F w base e g c l) {i : Nat} {x : α} (hx : l[i]? = some x) : Cells w g (i * F.sz) (F.e x) := fun j u hu => by
  have hlt : i < l.length := (List.getElem?_eq_some_iff.1 hx).1
  have hj : j < F.sz := by rw [← F.len x]; exact (List.getElem?_eq_some_iff.1 hu).1
  rw [World.ownsRow.cellAt h (i * F.sz + j) (by
    have : (i + 1) * F.sz ≤ l.length * F.sz := Nat.mul_le_mul_right _ hlt
    rw [Nat.add_mul] at this; omega)]
  exact flat_get l i j x u hx hu
theorem OwnS.free {base e g c : Nat} {l : List α} (h : OwnS F w base e g c l) (j : Nat) : w.frozen? ⟨g, j, none⟩ = false := World.ownsRow.frozenAt h j
/-- a store of one cell -/
theorem OwnS.store {base e g c : Nat} {l : List α} (h : OwnS F w base e g c l) (hF : F.sz = 1) {i : Nat} {x y : α} (hx : l[i]? = some x) {u : Value} (hu : F.e y = [u]) :
    OwnS F (w.setCell ⟨g, i, none⟩ u) base e g c (l.set i y) ∧ w.grownBy (w.setCell ⟨g, i, none⟩ u) (some g) ∧ (∃ old, w.cell? ⟨g, i, none⟩ = some old) := by
  have hs := World.ownsRow.stored h i u
  refine ⟨?_, hs.2, ?_⟩
  · unfold OwnS
    rw [flat_set l i x y hx hF u hu, List.length_set]
    exact hs.1
  · have := h.cell hx
    have hlen := F.len x
    rw [hF] at hlen this
    match he : F.e x, hlen with
    | [v], _ => exact ⟨v, by have h0 := this 0 v (by simp [he]); simpa using h0⟩
theorem below_grown {a : World} {w' : World} {B : Nat} {row : Option Nat} (h : Below B a w) (hB : B ≤ a.heap.size) (hg : w.grownBy w' row) (hr : ∀ k, row = some k → B ≤ k) : Below B a w' :=
  h.grown hg (Nat.le_trans hB h.size) hr
end

/-! ### rows known whole -/
/-- block b is a row of cells, all known, none frozen -/
def RowAt (w : World) (b : Nat) (t : TypeId) (vs : List Value) : Prop := w.heap[b]? = some (.cells vs.toArray t (0, 0))
section
variable {w w' : World} {b : Nat} {t : TypeId} {vs : List Value}
theorem RowAt.cell (h : RowAt w b t vs) {i : Nat} {u : Value} (hu : vs[i]? = some u) : w.cell? ⟨b, i, none⟩ = some u := by
  unfold RowAt at h
  simp [World.cell?, h, hu]
theorem RowAt.cells (h : RowAt w b t vs) : Cells w b 0 vs := fun j u hu => by rw [Nat.zero_add]; exact h.cell hu
theorem RowAt.free (h : RowAt w b t vs) (i : Nat) : w.frozen? ⟨b, i, none⟩ = false := by
  unfold RowAt at h
  simp [World.frozen?, h]
theorem RowAt.lt (h : RowAt w b t vs) : b < w.heap.size := (Array.getElem?_eq_some_iff.1 h).1
theorem RowAt.same (h : RowAt w b t vs) (hs : w'.heap[b]? = w.heap[b]?) : RowAt w' b t vs := by unfold RowAt; rw [hs]; exact h
theorem RowAt.below (h : RowAt w b t vs) (hb : Below w.heap.size w w') : RowAt w' b t vs := h.same (hb.block b h.lt)
theorem RowAt.drew (h : RowAt w b t vs) : RowAt w.drew b t vs := h
theorem RowAt.set (h : RowAt w b t vs) (i : Nat) (u : Value) : RowAt (w.setCell ⟨b, i, none⟩ u) b t (vs.set i u) := by
  unfold RowAt at *
  have hlt := (Array.getElem?_eq_some_iff.1 h).1
  simp [World.setCell, Array.getElem?_modify, h]
theorem RowAt.other (h : RowAt w b t vs) {b' : Nat} (hne : b' ≠ b) (i : Nat) (u : Value) : RowAt (w.setCell ⟨b', i, none⟩ u) b t vs :=
  h.same (Below.heap_setCell _ _ _ _ (Ne.symm hne))
theorem RowAt.grown (h : RowAt w b t vs) {row : Option Nat} (hg : w.grownBy w' row) (hne : row ≠ some b) : RowAt w' b t vs := h.same (hg.block b h.lt (Ne.symm hne))
theorem RowAt.new (w : World) (t : TypeId) (vs : Array Value) : RowAt (w.alloc (.cells vs t (0, 0))) w.heap.size t vs.toList := by
  unfold RowAt; rw [World.alloc_heap_new]
variable {P : Program} {k : Value → World → Prop}
theorem w_boxN {v : Value} (hk : ∀ w', Below w.heap.size w w' → w'.heap.size = w.heap.size + 1 → RowAt w' w.heap.size t v.cells.toList → k (.pointer (some ⟨w.heap.size, 0, none⟩)) w') : opW P (Instr.box t v) k w := by
  rw [w_box]
  exact hk _ ((Below.refl _ _).alloc (Nat.le_refl _) _) (by simp) (RowAt.new _ _ _)
theorem w_allocN (hz : hasZero P t = true) (hk : ∀ w', Below w.heap.size w w' → w'.heap.size = w.heap.size + 1 → RowAt w' w.heap.size t (zeroT P t).cells.toList → k (.pointer (some ⟨w.heap.size, 0, none⟩)) w') : opW P (Instr.alloc t true (.tuple #[])) k w := by
  rw [w_alloc hz]
  exact hk _ ((Below.refl _ _).alloc (Nat.le_refl _) _) (by simp) (RowAt.new _ _ _)
end

/-! ### calls of function values -/
def callOk (P : Program) (f : FuncId) : Bool := match P.funcs[f]? with
  | some fn => match fn.name == "runtime.NumGoroutine", fn.body with | false, some _ => true | _, _ => false
  | none => false
theorem callW_calls {P : Program} {f : FuncId} {first caps args : Array Value} {k : Value → World → Prop} {w : World} (hf : callOk P f = true) (h : Calls P f (first ++ args ++ caps) w (retP k)) :
    callW P (.func (.func f) first caps) args k w := by
  refine ⟨?_⟩
  unfold callOk at hf
  split at hf
  · rename_i fn hfn
    split at hf
    · rename_i h1 h2
      have h1' : ¬ fn.name = "runtime.NumGoroutine" := by simpa using h1
      have hr : (do let d ← Deferred.ofValue (.func (.func f) first caps) args; invoke d.target d.args : Sem Next).run P w = .ok (.enter f (first ++ args ++ caps)) w := by
        simp [Deferred.ofValue, Sem.run_bind, Result.andThen, invoke, callFunc, program, Sem.run, hfn, h1', h2]
      rw [hr]
      exact h
    · cases hf
  · cases hf
end Go.V
