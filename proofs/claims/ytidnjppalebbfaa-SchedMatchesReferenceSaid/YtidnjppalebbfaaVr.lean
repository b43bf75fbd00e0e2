/- Reading a field of an element, or an element, in one step. -/
import Derived.Test.YtidnjppalebbfaaVq
set_option linter.unusedSimpArgs false
set_option linter.unusedVariables false
namespace Go.V
open Go Go.RowKit
section
variable {P : Program} {k : Value → World → Prop} {K : Value → Prop} {S : World → Prop} {w : World} {α : Type} {F : Fl α} {v u : Value} {l : List α} {t st ft : TypeId} {f x : Nat} {q : IntKind} {i : Int} {a : α}
theorem IsSl.at (hs : IsSl F w v l) (h0 : 0 ≤ i) (hx : l[i.toNat]? = some a) : ∃ b o c, v = .slice (some ⟨b, o, none⟩) l.length c ∧ i < l.length ∧ Cells w b (o + i.toNat * F.sz) (F.e a) := by
  obtain ⟨ad, c, rfl, hc, hcell⟩ := hs
  obtain ⟨b, o, rfl, hcl⟩ := hcell _ _ hx
  exact ⟨b, o, c, rfl, by have := (List.getElem?_eq_some_iff.1 hx).1; omega, hcl⟩
theorem w_get (h : isSliceT P t = true) (he : known P (elemT P t) = true) (hz : sizeT P (elemT P t) = F.sz) (hf : fieldOff P st f = some x) (hg : isAggT P ft = false) (hk : known P ft = true)
    (hs : IsSl F w v l) (h0 : 0 ≤ i) (hx : l[i.toNat]? = some a) (hu : (F.e a)[x]? = some u) :
    opW P (Instr.indexAt t v (.int q i)) (fun p w => opW P (Instr.fieldAt st p f) (fun p w => opW P (Instr.loadAt ft p) k w) w) w = k u w := by
  obtain ⟨b, o, c, rfl, hlt, hcl⟩ := hs.at h0 hx
  rw [opW_ok (run_index h he h0 hlt w), hz, w_field hf, w_load hg hk (by rw [hcl x u hu])]
theorem t_get (h : isSliceT P t = true) (he : known P (elemT P t) = true) (hz : sizeT P (elemT P t) = F.sz) (hf : fieldOff P st f = some x) (hg : isAggT P ft = false) (hk : known P ft = true)
    (hs : IsSl F w v l) (h0 : 0 ≤ i) (hx : l[i.toNat]? = some a) (hu : (F.e a)[x]? = some u) :
    takeW P anyW (Instr.indexAt t v (.int q i)) (fun p => takeW P anyW (Instr.fieldAt st p f) (fun p => takeW P (sameW w) (Instr.loadAt ft p) K w) w) w = K u := by
  obtain ⟨b, o, c, rfl, hlt, hcl⟩ := hs.at h0 hx
  rw [takeW_pure (fun w => run_index h he h0 hlt w), hz, t_field hf, x_load hg hk (by rw [hcl x u hu])]
theorem w_getE (h : isSliceT P t = true) (he : known P (elemT P t) = true) (hz : sizeT P (elemT P t) = F.sz) (hg : isAggT P ft = false) (hk : known P ft = true)
    (hs : IsSl F w v l) (h0 : 0 ≤ i) (hx : l[i.toNat]? = some a) (hu : (F.e a)[0]? = some u) :
    opW P (Instr.indexAt t v (.int q i)) (fun p w => opW P (Instr.loadAt ft p) k w) w = k u w := by
  obtain ⟨b, o, c, rfl, hlt, hcl⟩ := hs.at h0 hx
  rw [opW_ok (run_index h he h0 hlt w), hz, w_load hg hk (by rw [← hcl 0 u hu]; rfl)]
theorem t_getE (h : isSliceT P t = true) (he : known P (elemT P t) = true) (hz : sizeT P (elemT P t) = F.sz) (hg : isAggT P ft = false) (hk : known P ft = true)
    (hs : IsSl F w v l) (h0 : 0 ≤ i) (hx : l[i.toNat]? = some a) (hu : (F.e a)[0]? = some u) :
    takeW P anyW (Instr.indexAt t v (.int q i)) (fun p => takeW P (sameW w) (Instr.loadAt ft p) K w) w = K u := by
  obtain ⟨b, o, c, rfl, hlt, hcl⟩ := hs.at h0 hx
  rw [takeW_pure (fun w => run_index h he h0 hlt w), hz, x_load hg hk (by rw [← hcl 0 u hu]; rfl)]
theorem w_getA (h : isSliceT P t = true) (he : known P (elemT P t) = true) (hz : sizeT P (elemT P t) = F.sz) (hg : isAggT P ft = true) (hk : known P ft = true) (hft : sizeT P ft = F.sz)
    (hs : IsSl F w v l) (h0 : 0 ≤ i) (hx : l[i.toNat]? = some a) :
    opW P (Instr.indexAt t v (.int q i)) (fun p w => opW P (Instr.loadAt ft p) k w) w = k (.agg (F.e a).toArray) w := by
  obtain ⟨b, o, c, rfl, hlt, hcl⟩ := hs.at h0 hx
  rw [opW_ok (run_index h he h0 hlt w), hz, w_loadAgg hg hk (by rw [hft, F.len]) hcl]
theorem t_getA (h : isSliceT P t = true) (he : known P (elemT P t) = true) (hz : sizeT P (elemT P t) = F.sz) (hg : isAggT P ft = true) (hk : known P ft = true) (hft : sizeT P ft = F.sz)
    (hs : IsSl F w v l) (h0 : 0 ≤ i) (hx : l[i.toNat]? = some a) :
    takeW P anyW (Instr.indexAt t v (.int q i)) (fun p => takeW P (sameW w) (Instr.loadAt ft p) K w) w = K (.agg (F.e a).toArray) := by
  obtain ⟨b, o, c, rfl, hlt, hcl⟩ := hs.at h0 hx
  rw [takeW_pure (fun w => run_index h he h0 hlt w), hz, x_loadAgg hg hk (by rw [hft, F.len]) hcl]
end

/-! ### slices of the call's own, nil or at the head of their block -/
section
variable {P : Program} {k : Value → World → Prop} {w w' : World} {α : Type} {F : Fl α} {v : Value} {l : List α} {t e : TypeId} {B : Nat}
/-- the block of v -/
def isOf (v : Value) (b : Nat) : Prop := v.ownBlock = some b
theorem run_append_own2 {size bytes : Nat} {z : Value} {ty : TypeId} (h : STy P t e size bytes z) {n : Nat} {xs : List Value} (hown : w.ownsRow B e size v n xs)
    (a : Addr) (m c : Nat) (news : List Value) (hl : news.length = m * size) (hnews : ∀ j u, news[j]? = some u → w.cell? (a.add j) = some u) (h1 : ∀ u ∈ news, u.oneCell' = true)
    (h63 : n + m ≤ maxLen) (hbytes : (n + m) * bytes ≤ 140737488355328) (hbase : B ≤ w.heap.size) :
    ∃ v' w', (Builtin.append_ #[t, t] ty #[v, .slice (some a) m c]).run P w = .ok v' w' ∧ w'.ownsRow B e size v' (n + m) (xs ++ news) ∧ w.grownBy w' v.ownBlock ∧ (∀ b, isOf v' b → isOf v b ∨ w.heap.size ≤ b) ∧
      (v' = .slice none 0 0 ↔ v = .slice none 0 0 ∧ m = 0) := by
  obtain ⟨i, hi, hz, hs, hby⟩ := h.info
  obtain ⟨v', w', hr, ho, hg, hnn⟩ := run_append_own (P := P) w (ty := ty) B t e i z size bytes h.u hi hz hs hby h.zs h.pos v n xs hown a m c news hl hnews h1 h63 hbytes hbase
  refine ⟨v', w', hr, ho, hg, fun b hb => ?_, hnn⟩
  have hm : maxLen ≤ 9223372036854775807 := by decide
  rcases hown.2 with ⟨rfl, hn⟩ | ⟨g, cap, cur, rfl, hgb, hgg, hnc, hcm, hcs, htk⟩
  · subst hn
    obtain ⟨v2, w2, hr2, ho2, _, _⟩ := run_append_own (P := P) w (ty := ty) w.heap.size t e i z size bytes h.u hi hz hs hby h.zs h.pos (.slice none 0 0) 0 [] (World.ownsRow_nil w _ e size) a m c news hl hnews h1 (by omega) hbytes (Nat.le_refl _)
    rw [hr] at hr2
    simp only [Result.ok.injEq] at hr2
    obtain ⟨rfl, rfl⟩ := hr2
    exact .inr (World.ownsRow.lt ho2 b hb).1
  · by_cases hroom : n + m ≤ cap
    · have := run_append_room (P := P) w t ty e i h.u hi g n cap cur hgg a m c news (by rw [hs]; exact hl) hnews h1 hroom (by rw [hs, hl, ← Nat.add_mul, hcs]; exact Nat.mul_le_mul_right _ hroom)
      rw [hr] at this
      simp only [Result.ok.injEq] at this
      rw [this.1] at hb
      exact .inl hb
    · have := run_append_grow (P := P) w t ty e i z h.u hi hz ⟨g, 0, none⟩ n cap xs (by rw [hown.1, hs]) (fun j y hy => hown.cells (g := g) rfl j y hy) a m c news (by rw [hs]; exact hl) hnews (by omega) (by omega) (growslice_fits (by omega) (by rw [hby]; exact hbytes))
      rw [hr] at this
      simp only [Result.ok.injEq] at this
      rw [this.1] at hb
      unfold isOf Value.ownBlock at hb
      simp at hb
      exact .inr (by omega)
def Mine (F : Fl α) (e : TypeId) (w : World) (B : Nat) (v : Value) (l : List α) : Prop := w.ownsRow B e F.sz v l.length (flat F l)
theorem Mine.nil (w : World) (B : Nat) : Mine F e w B (.slice none 0 0) [] := World.ownsRow_nil w B e F.sz
theorem Mine.sl (h : Mine F e w B v l) : IsSl F w v l := IsSl.of_own h
theorem Mine.ge (h : Mine F e w B v l) {b : Nat} (hb : isOf v b) : B ≤ b ∧ b < w.heap.size := World.ownsRow.lt h b hb
theorem Mine.grown {row : Option Nat} (h : Mine F e w B v l) (hg : w.grownBy w' row) (hne : ∀ b, isOf v b → row ≠ some b) : Mine F e w' B v l := by
  refine World.ownsRow.kept h hg ?_
  cases hv : v.ownBlock with
  | none => exact .inl rfl
  | some b => exact .inr fun hh => hne b hv hh.symm
theorem Mine.below (h : Mine F e w B v l) (hb : Below w.heap.size w w') : Mine F e w' B v l :=
  Mine.grown (row := none) h ⟨hb.os, hb.tape, hb.output, hb.size, fun k hk _ => hb.block k hk⟩ (by simp)
theorem Mine.off {p : Nat → Prop} (h : Mine F e w B v l) (ho : Off p w w') (hp : ∀ b, isOf v b → ¬ p b) : Mine F e w' B v l := by
  refine ⟨h.1, ?_⟩
  rcases h.2 with hn | ⟨g, cap, cur, rfl, hb, hgg, rest⟩
  · exact .inl hn
  · exact .inr ⟨g, cap, cur, rfl, hb, (ho.block g (Array.getElem?_eq_some_iff.1 hgg).1 (hp g rfl)).trans hgg, rest⟩
theorem Mine.at (h : Mine F e w B v l) (hne : l ≠ []) : ∃ g c, v = .slice (some ⟨g, 0, none⟩) l.length c ∧ isOf v g ∧ OwnS F w B e g c l := by
  have h0 := h
  rcases h.2 with ⟨_, hn⟩ | ⟨g, cap, cur, rfl, _⟩
  · exact absurd (List.eq_nil_of_length_eq_zero hn) hne
  · exact ⟨g, cap, rfl, rfl, h0⟩
/-- one more element: a slice of one, appended -/
theorem Mine.push {bytes : Nat} {z xv : Value} {x : α} {ty : TypeId} {K : Value → World → Prop} (h : STy P t e F.sz bytes z) (hone : ∀ u ∈ F.e x, u.oneCell' = true) (hxc : xv.cells.toList = F.e x) (hsm : F.sz ≤ 16777216)
    (hown : Mine F e w B v l) (hB : B ≤ w.heap.size) (hl : l.length + 1 ≤ maxLen) (hbytes : (l.length + 1) * bytes ≤ 140737488355328)
    (hk : ∀ v' w', Mine F e w' B v' (l ++ [x]) → Below B w w' → Off (isOf v) w w' → (∀ b, isOf v' b → isOf v b ∨ w.heap.size ≤ b) → K v' w') :
    opW P (Instr.buildSlice t 1 #[(0, xv)]) (fun s w => opW P (Builtin.append_ #[t, t] ty #[v, s]) (fun r w => K r w) w) w := by
  have hcs : xv.cells.size = F.sz := by rw [← F.len x, ← hxc]; simp
  rw [w_one h hcs hsm]
  have hb1 : Below w.heap.size w (w.alloc (.cells xv.cells e (0, 0))) := (Below.refl _ _).alloc (Nat.le_refl _) _
  have ho1 := hown.below hb1
  obtain ⟨v', w', hr, ho, hg, hnew, _⟩ := run_append_own2 (P := P) (ty := ty) h ho1 ⟨w.heap.size, 0, none⟩ 1 1 (F.e x) (by simp [F.len]) (fun j u hu => by
      rw [← hxc] at hu
      rw [add_none]
      simp only [World.cell?, World.alloc_heap_new]
      simpa using hu) hone hl hbytes (Nat.le_trans hB hb1.size)
  rw [opW_ok hr]
  refine hk v' w' ?_ ?_ ?_ ?_
  · unfold Mine
    rw [List.length_append, flat_append, flat_one]; exact ho
  · exact (hb1.mono hB).grown hg (Nat.le_trans hB hb1.size) fun b hb => (ho1.ge hb).1
  · exact (Off.below hb1).trans (Off.grown hg fun b hb => hb)
  · intro b hb
    rcases hnew b hb with h | h
    · exact .inl h
    · exact .inr (Nat.le_trans hb1.size h)
/-- a store of one cell into one's own -/
theorem Mine.setE {ft : TypeId} {q : IntKind} {i : Int} {x y : α} {u : Value} {K : Value → World → Prop} (h : isSliceT P t = true) (he : known P (elemT P t) = true) (hz : sizeT P (elemT P t) = F.sz) (hF : F.sz = 1) (hs : sizeT P ft = 1) (hkn : known P ft = true)
    (hown : Mine F e w B v l) (h0 : 0 ≤ i) (hx : l[i.toNat]? = some x) (hu : F.e y = [u]) (hu1 : u.oneCell' = true)
    (hk : ∀ w', Mine F e w' B v (l.set i.toNat y) → Below B w w' → Off (isOf v) w w' → K undef w') :
    opW P (Instr.indexAt t v (.int q i)) (fun p w => opU P (Instr.storeAt ft p u) K w) w := by
  have hne : l ≠ [] := fun hh => by rw [hh] at hx; simp at hx
  obtain ⟨g, c, rfl, hof, ho⟩ := hown.at hne
  have hlt : i < l.length := by have := (List.getElem?_eq_some_iff.1 hx).1; omega
  rw [opW_ok (run_index h he h0 hlt w), hz, hF, Nat.mul_one, Nat.zero_add]
  obtain ⟨ho', hg', old, hold⟩ := ho.store hF hx hu
  rw [w_store hu1 hs hkn hold (ho.free _)]
  refine hk _ ?_ ?_ (Off.set hof)
  · unfold OwnS at ho'
    rw [List.length_set] at ho'
    unfold Mine
    rw [List.length_set]; exact ho'
  · exact (Below.refl _ _).setCell (ho.ge.1) _
end
end Go.V
