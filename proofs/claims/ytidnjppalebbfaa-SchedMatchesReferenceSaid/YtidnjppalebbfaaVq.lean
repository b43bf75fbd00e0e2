/- More of append and of slicing. -/
import Derived.Test.YtidnjppalebbfaaVp
set_option linter.unusedSimpArgs false
set_option linter.unusedVariables false
namespace Go.V
open Go Go.RowKit
section
variable {P : Program} {k : Value → World → Prop} {w w' : World} {t e : TypeId} {α : Type} {F : Fl α}
theorem oneCell_flat (hone : ∀ x, ∀ u ∈ F.e x, u.oneCell' = true) : ∀ l : List α, ∀ u ∈ flat F l, u.oneCell' = true := by
  intro l
  induction l with
  | nil => intro u hu; simp [flat] at hu
  | cons x r ih =>
    intro u hu
    rcases List.mem_append.1 hu with h | h
    · exact hone x u h
    · exact ih u h
/-- append without room: a new row -/
theorem w_appendNew {ty : TypeId} {bytes : Nat} {z v0 v : Value} {l0 l : List α} {a0 : Option Addr} {c0 : Nat} (h : STy P t e F.sz bytes z) (hone : ∀ x, ∀ u ∈ F.e x, u.oneCell' = true) (h0 : IsSl F w v0 l0) (hv0 : v0 = .slice a0 l0.length c0)
    (hroom : c0 < l0.length + l.length) (hnil : a0 = none → c0 = 0) (hs : IsSl F w v l) (hne : l ≠ []) (h63 : l0.length + l.length ≤ maxLen) (hbytes : (l0.length + l.length) * bytes ≤ 140737488355328)
    (hk : ∀ g c w', OwnS F w' w.heap.size e g c (l0 ++ l) → Below w.heap.size w w' → k (.slice (some ⟨g, 0, none⟩) (l0.length + l.length) c) w') :
    opW P (Builtin.append_ #[t, t] ty #[v0, v]) k w := by
  cases ha : a0 with
  | none =>
    rw [ha] at hv0
    have hc0 := hnil ha
    subst hc0
    have hl0 : l0 = [] := by
      cases l0 with
      | nil => rfl
      | cons x r =>
        obtain ⟨a, c, hh, _, hx⟩ := h0
        obtain ⟨b, o, hb, _⟩ := hx 0 x rfl
        rw [hb, hv0] at hh; cases hh
    subst hl0
    rw [hv0]
    refine w_appendS (l0 := []) (base := w.heap.size) h hone hs hne (World.ownsRow_nil w _ e F.sz) h63 hbytes (Nat.le_refl _) fun g c w' ho hg => ?_
    exact hk g c w' ho ⟨hg.os, hg.tape, hg.output, hg.size, fun b hb => hg.block b hb (by simp [Value.ownBlock])⟩
  | some ad =>
    rw [ha] at hv0
    obtain ⟨b, o, c, hv, hcl⟩ := hs.flatAt hne
    obtain ⟨i, hi, hz, hsz, hby⟩ := h.info
    have hmx : maxLen ≤ 9223372036854775807 := by decide
    have hfl := flat_length (F := F) l
    have hfl0 := flat_length (F := F) l0
    have holds : ∀ j y, (flat F l0)[j]? = some y → w.cell? (ad.add j) = some y := by
      intro j y hy
      have hne0 : l0 ≠ [] := fun hh => by rw [hh] at hy; simp [flat] at hy
      obtain ⟨b', o', c', hh, hcl'⟩ := h0.flatAt hne0
      rw [hv0] at hh
      simp only [Value.slice.injEq, Option.some.injEq] at hh
      obtain ⟨rfl, _⟩ := hh
      rw [add_none]; exact hcl' j y hy
    rw [hv0, hv, opW_ok (run_append_grow (P := P) w t ty e i z h.u hi hz ad l0.length c0 (flat F l0) (by rw [hfl0, hsz]) holds ⟨b, o, none⟩ l.length c (flat F l) (by rw [hfl, hsz]) (fun j y hy => by rw [add_none]; exact hcl j y hy) hroom (by omega) (growslice_fits hroom (by rw [hby]; exact hbytes)))]
    have hge := grownCap_ge w (l0.length + l.length) c0 e
    refine hk _ _ _ ?_ ((Below.refl _ _).drew.alloc (Nat.le_refl _) _)
    unfold OwnS
    rw [List.length_append, flat_append]
    refine ⟨by rw [List.length_append, hfl0, hfl, Nat.add_mul], .inr ⟨w.heap.size, _, _, rfl, Nat.le_refl _, World.alloc_heap_new _ _, hge, grownCap_le_maxLen w _ _ _ h63, ?_, ?_⟩⟩
    · have hzs := h.zs
      simp only [Array.size_append, List.size_toArray, size_zeroCells, hzs, hfl0, hfl, ← Nat.add_mul]
      congr 1; omega
    · simp only [Array.toList_append, List.append_assoc]
      rw [← List.append_assoc, show (l0.length + l.length) * F.sz = (flat F l0 ++ flat F l).length by rw [List.length_append, hfl0, hfl, Nat.add_mul]]
      exact List.take_left
/-- whatever elements, appended to a slice of the call's own -/
theorem w_appendAny {ty : TypeId} {bytes base g0 c0 : Nat} {z v : Value} {l0 l : List α} (h : STy P t e F.sz bytes z) (hone : ∀ x, ∀ u ∈ F.e x, u.oneCell' = true) (hs : IsSl F w v l) (hv : l = [] → v = .slice none 0 0 ∨ ∃ a c, v = .slice (some a) 0 c)
    (hown : OwnS F w base e g0 c0 l0) (h63 : l0.length + l.length ≤ maxLen) (hbytes : (l0.length + l.length) * bytes ≤ 140737488355328) (hbase : base ≤ w.heap.size)
    (hk : ∀ g c w', OwnS F w' base e g c (l0 ++ l) → w.grownBy w' (some g0) → k (.slice (some ⟨g, 0, none⟩) (l0.length + l.length) c) w') :
    opW P (Builtin.append_ #[t, t] ty #[.slice (some ⟨g0, 0, none⟩) l0.length c0, v]) k w := by
  cases l with
  | cons x r => exact w_appendS (l0 := l0) (base := base) h hone hs (by simp) hown h63 hbytes hbase fun g c w' ho hg => hk g c w' ho hg
  | nil =>
    have hrefl : w.grownBy w (some g0) := ⟨rfl, rfl, rfl, Nat.le_refl _, fun _ _ _ => rfl⟩
    rcases hv rfl with rfl | ⟨a, c, rfl⟩
    · rw [w_append_nil h hown]
      exact hk g0 c0 w (by simpa using hown) hrefl
    · obtain ⟨i, hi, hz, hsz, hby⟩ := h.info
      obtain ⟨v', w', hr, ho, hg, hnn⟩ := run_append_own (P := P) w (ty := ty) base t e i z F.sz bytes h.u hi hz hsz hby h.zs h.pos _ l0.length (flat F l0) hown a 0 c [] (by simp) (by simp) (by simp) h63 hbytes hbase
      rw [opW_ok hr]
      rcases ho.2 with ⟨hv', h0⟩ | ⟨g, cap, cur, rfl, hr⟩
      · have := (hnn.1 hv').1
        cases this
      · refine hk g cap w' ?_ hg
        unfold OwnS
        simpa using ho
theorem run_sliceTo {n c i : Nat} {q r : IntKind} (ht : P.underlying t = some (.slice (P.elem t))) (hk : known P (P.elem t) = true) (hi : i ≤ c) {a : Option Addr} (w : World) :
    (Instr.sliceAt t (.slice a n c) none (some (.int q i)) (some (.int r i))).run P w = .ok (.slice (if i = 0 then a else a.map (·.add 0)) i i) w := by
  rw [run_sliceAt_slice _ _ _ _ _ _ ht, run_slice_hm w t _ n c ht q r i i (by omega) (by omega) (by omega), run_sizeOf hk]
  simp [Result.andThen, sliced]
theorem run_sliceFrom {n c i : Nat} {q : IntKind} (ht : P.underlying t = some (.slice (P.elem t))) (hk : known P (P.elem t) = true) (hi : i ≤ n) {a : Option Addr} (w : World) :
    (Instr.sliceAt t (.slice a n c) (some (.int q i)) none none).run P w = .ok (.slice (if c = i then a else a.map (·.add (i * sizeT P (P.elem t)))) (n - i) (c - i)) w := by
  rw [run_sliceAt_slice _ _ _ _ _ _ ht, run_slice_l w t _ n c ht q i (by omega) (by omega), run_sizeOf hk]
  simp [Result.andThen, sliced]
theorem run_indexArr {n b o : Nat} {q : IntKind} {i : Int} (ht : P.underlying t = some (.array n e)) (he : known P e = true) (h0 : 0 ≤ i) (h1 : i < n) (w : World) :
    (Instr.indexAt t (.pointer (some ⟨b, o, none⟩)) (.int q i)).run P w = .ok (.pointer (some ⟨b, o + i.toNat * sizeT P e, none⟩)) w := by
  simp [Instr.indexAt, Instr.sureAddr, Sem.run_bind, Result.andThen, run_underlying ht, asIntOf, h0, h1, run_sizeOf he, add_none]
theorem OwnS.one (w : World) (e : Nat) (x : α) (hp : 0 < F.sz) : OwnS F (w.alloc (.cells (F.e x).toArray e (0, 0))) w.heap.size e w.heap.size 1 [x] := by
  have hl := F.len x
  unfold OwnS
  rw [flat_one]
  exact ⟨by simp [hl], .inr ⟨w.heap.size, 1, _, rfl, Nat.le_refl _, World.alloc_heap_new _ _, Nat.le_refl _, by unfold maxLen; omega, by simp [hl], by rw [show ([x] : List α).length * F.sz = (F.e x).length by rw [hl]; simp]; exact List.take_length⟩⟩
end
end Go.V
