/- Slices of the call's own that may begin inside their block. -/
import Derived.Test.YtidnjppalebbfaaVn
import Derived.Laws.Slices
set_option linter.unusedSimpArgs false
set_option linter.unusedVariables false
namespace Go.V
open Go Go.RowKit
section
variable {P : Program} {k : Value → World → Prop} {w w' : World} {t e : TypeId} {α : Type} {F : Fl α}
/-- v is a slice of block g, which is the call's own: its elements are l -/
def SubS (F : Fl α) (w : World) (base e g : Nat) (v : Value) (l : List α) : Prop :=
  ∃ o cap cur, v = .slice (some ⟨g, o, none⟩) l.length cap ∧ base ≤ g ∧ w.heap[g]? = some (.cells cur e (0, 0)) ∧ l.length ≤ cap ∧ cap ≤ maxLen ∧ o + cap * F.sz ≤ cur.size ∧ ∀ j u, (flat F l)[j]? = some u → cur[o + j]? = some u
theorem SubS.lt {base g : Nat} {v : Value} {l : List α} (h : SubS F w base e g v l) : base ≤ g ∧ g < w.heap.size := by
  obtain ⟨o, cap, cur, _, hb, hg, _⟩ := h
  exact ⟨hb, (Array.getElem?_eq_some_iff.1 hg).1⟩
theorem SubS.same {base g : Nat} {v : Value} {l : List α} (h : SubS F w base e g v l) (hs : w'.heap[g]? = w.heap[g]?) : SubS F w' base e g v l := by
  obtain ⟨o, cap, cur, hv, hb, hg, hr⟩ := h
  exact ⟨o, cap, cur, hv, hb, hs.trans hg, hr⟩
theorem SubS.off {p : Nat → Prop} {base g : Nat} {v : Value} {l : List α} (h : SubS F w base e g v l) (ho : Off p w w') (hp : ¬ p g) : SubS F w' base e g v l := h.same (ho.block g h.lt.2 hp)
theorem SubS.sl {base g : Nat} {v : Value} {l : List α} (h : SubS F w base e g v l) : IsSl F w v l := by
  obtain ⟨o, cap, cur, hv, hb, hg, hlc, hcm, hsz, hc⟩ := h
  refine ⟨_, _, hv, hlc, fun i x hx => ⟨g, o, rfl, fun j u hu => ?_⟩⟩
  have := hc _ u (flat_get l i j x u hx hu)
  rw [Nat.add_assoc]
  simp [World.cell?, hg, this]
theorem SubS.of_own {base g c : Nat} {l : List α} (h : OwnS F w base e g c l) : SubS F w base e g (.slice (some ⟨g, 0, none⟩) l.length c) l := by
  rcases h.2 with ⟨h', _⟩ | ⟨g', cap, cur, h1, hb, hg, hnc, hcm, hsz, htk⟩
  · cases h'
  · simp only [Value.slice.injEq, Option.some.injEq, Addr.mk.injEq, and_true, true_and] at h1
    obtain ⟨rfl, rfl⟩ := h1
    refine ⟨0, c, cur, rfl, hb, hg, hnc, hcm, by omega, fun j u hu => ?_⟩
    rw [← htk] at hu
    rw [List.getElem?_take] at hu
    split at hu
    · rw [Nat.zero_add]; simpa using hu
    · cases hu
/-- the tail behind the first element -/
theorem SubS.tail {base g : Nat} {v : Value} {x : α} {l : List α} (hF : F.sz = 1) (h : SubS F w base e g v (x :: l)) : ∃ o c, v = .slice (some ⟨g, o, none⟩) (l.length + 1) c ∧ l.length + 1 ≤ c ∧ c ≤ maxLen ∧ SubS F w base e g (.slice (some (if c = 1 then ⟨g, o, none⟩ else ⟨g, o + 1, none⟩)) l.length (c - 1)) l := by
  obtain ⟨o, cap, cur, hv, hb, hg, hlc, hcm, hsz, hc⟩ := h
  simp only [List.length_cons] at hlc hv
  refine ⟨o, cap, hv, hlc, hcm, ?_⟩
  have hx : (F.e x).length = 1 := by rw [F.len, hF]
  by_cases h1 : cap = 1
  · rw [if_pos h1]
    have : l = [] := List.eq_nil_of_length_eq_zero (by omega)
    subst this
    exact ⟨o, cap - 1, cur, rfl, hb, hg, by simp, by omega, by rw [hF] at *; omega, fun j u hu => by simp [flat] at hu⟩
  · rw [if_neg h1]
    refine ⟨o + 1, cap - 1, cur, rfl, hb, hg, by omega, by omega, by rw [hF] at *; omega, fun j u hu => ?_⟩
    have := hc (j + 1) u (by
      simp only [flat]
      rw [List.getElem?_append_right (by omega), hx, Nat.add_sub_cancel]; exact hu)
    rw [show o + 1 + j = o + (j + 1) by omega]; exact this
theorem run_append_off {ty : TypeId} {i : TypeInfo} (ht : P.underlying t = some (.slice e)) (hi : P.info? e = some i) (hs : i.size = 1) {g o n cap c : Nat} {a : Addr} {u old : Value}
    (hroom : n + 1 ≤ cap) (hu : w.cell? a = some u) (h1 : u.oneCell' = true) (hold : w.cell? ⟨g, o + n, none⟩ = some old) (hf : w.frozen? ⟨g, o + n, none⟩ = false) :
    (Builtin.append_ #[t, t] ty #[.slice (some ⟨g, o, none⟩) n cap, .slice (some a) 1 c]).run P w = .ok (.slice (some ⟨g, o, none⟩) (n + 1) cap) (w.setCell ⟨g, o + n, none⟩ u) := by
  have hfc := run_firstCells_some (P := P) w i.size 1 a 1 c [u] (by simp [hs]) (fun j v hv => by
    cases j with
    | zero => simp at hv; subst hv; cases a; simpa [Addr.add] using hu
    | succ j => simp at hv)
  rw [hs] at hfc
  have hst := run_storeCells (P := P) (b := g) (o := o + n) [u] 0 w (by intro v hv; simp at hv; subst hv; exact h1) (fun j hj => by simp at hj; subst hj; exact ⟨old, by simpa using hold⟩) (fun j hj => by simp at hj; subst hj; simpa using hf)
  simp [setCells] at hst
  simp [Builtin.append_, run_underlying ht, run_underlying', sizeOf, typeInfo, hi, Builtin.lenOf, hroom, hfc, Addr.add_lit, hst, hs, setCells, Sem.run_bind, Result.andThen]
theorem SubS.cellAt {base g : Nat} {v : Value} {l : List α} (h : SubS F w base e g v l) : ∃ o cap cur, v = .slice (some ⟨g, o, none⟩) l.length cap ∧ w.heap[g]? = some (.cells cur e (0, 0)) ∧ l.length ≤ cap ∧ o + cap * F.sz ≤ cur.size ∧ ∀ j u, (flat F l)[j]? = some u → w.cell? ⟨g, o + j, none⟩ = some u := by
  obtain ⟨o, cap, cur, hv, hb, hg, hlc, hcm, hsz, hc⟩ := h
  exact ⟨o, cap, cur, hv, hg, hlc, hsz, fun j u hu => by simp [World.cell?, hg, hc j u hu]⟩
/-- one element appended -/
theorem w_append1 {ty : TypeId} {bytes base g c : Nat} {z v : Value} {l : List α} {x : α} {a : Addr} {u : Value} (h : STy P t e 1 bytes z) (hF : F.sz = 1) (hx : F.e x = [u]) (h1 : u.oneCell' = true) (hsrc : w.cell? a = some u)
    (hq : (v = .slice none 0 0 ∧ l = []) ∨ SubS F w base e g v l) (h63 : l.length + 1 ≤ maxLen) (hbytes : (l.length + 1) * bytes ≤ 140737488355328) (hbase : base ≤ w.heap.size)
    (hk : ∀ v' g' w', SubS F w' base e g' v' (l ++ [x]) → ((SubS F w base e g v l ∧ SubS F w' base e g v l ∧ g' = g ∧ Only g w w') ∨ (w.heap.size ≤ g' ∧ Below w.heap.size w w')) → k v' w') :
    opW P (Builtin.append_ #[t, t] ty #[v, .slice (some a) 1 c]) k w := by
  rcases hq with ⟨rfl, rfl⟩ | hq
  · refine w_append (base := w.heap.size) (news := [u]) h (World.ownsRow_nil w _ e 1) (by simp) (fun j y hy => ?_) (by simpa using h1) h63 hbytes (Nat.le_refl _) fun v' w' ho hg => ?_
    · cases j with
      | zero => simp at hy; subst hy; cases a; simpa [Addr.add] using hsrc
      | succ j => simp at hy
    · rcases ho.2 with ⟨_, h0⟩ | ⟨g', cap, cur, rfl, hb, hgr, hn, hm, hsz, htk⟩
      · omega
      · have hO : OwnS F w' w.heap.size e g' cap [x] := by unfold OwnS; rw [flat_one, hx, hF]; exact ho
        have hS := SubS.of_own hO
        obtain ⟨o, cap', cur', hv, hb', r⟩ := hS
        exact hk _ g' w' ⟨o, cap', cur', hv, Nat.le_trans hbase hb', r⟩ (.inr ⟨hb, ⟨hg.os, hg.tape, hg.output, hg.size, fun b hb => hg.block b hb (by simp [Value.ownBlock])⟩⟩)
  · have hq0 := hq
    obtain ⟨o, cap, cur, rfl, hb, hg, hlc, hcm, hsz, hc⟩ := hq
    obtain ⟨i, hi, hz, hs, hby⟩ := h.info
    have hfl : (flat F l).length = l.length := by rw [flat_length, hF, Nat.mul_one]
    rw [hF, Nat.mul_one] at hsz
    by_cases hroom : l.length + 1 ≤ cap
    · have hlt : o + l.length < cur.size := by omega
      have hold : w.cell? ⟨g, o + l.length, none⟩ = some cur[o + l.length] := by simp [World.cell?, hg, hlt]
      have hfr : w.frozen? ⟨g, o + l.length, none⟩ = false := by simp [World.frozen?, hg]
      rw [opW_ok (run_append_off (ty := ty) h.u hi hs hroom hsrc h1 hold hfr)]
      refine hk _ g _ ⟨o, cap, cur.set! (o + l.length) u, by simp, hb, ?_, by simpa using hroom, hcm, by simp; rw [hF]; omega, fun j y hy => ?_⟩ (.inl ⟨hq0, ⟨o, cap, cur.set! (o + l.length) u, rfl, hb, ?_, hlc, hcm, by simp; rw [hF]; omega, fun j y hy => ?_⟩, rfl, Only.setCell _ _ _ _⟩)
      · have hgl := (Array.getElem?_eq_some_iff.1 hg).1
        simp [World.setCell, Array.getElem?_modify, hg]
      · rw [flat_append, flat_one, hx] at hy
        by_cases hj : j < l.length
        · rw [List.getElem?_append_left (by omega)] at hy
          have := hc j y hy
          simp [Array.getElem?_setIfInBounds]
          rw [if_neg (by omega)]; exact this
        · rw [List.getElem?_append_right (by omega), hfl] at hy
          have hj0 : j - l.length = 0 := by
            have := (List.getElem?_eq_some_iff.1 hy).1
            simp at this; omega
          rw [hj0] at hy
          simp at hy; subst hy
          have : j = l.length := by omega
          subst this
          simp [hlt]
      · have hgl := (Array.getElem?_eq_some_iff.1 hg).1
        simp [World.setCell, Array.getElem?_modify, hg]
      · have hj := (List.getElem?_eq_some_iff.1 hy).1
        have := hc j y hy
        simp [Array.getElem?_setIfInBounds]
        rw [if_neg (by omega)]; exact this
    · have hm : maxLen ≤ 9223372036854775807 := by decide
      rw [opW_ok (run_append_grow (P := P) w t ty e i z h.u hi hz ⟨g, o, none⟩ l.length cap (flat F l) (by rw [hfl, hs, Nat.mul_one]) (fun j y hy => by rw [add_none]; simp [World.cell?, hg, hc j y hy]) a 1 c [u] (by simp [hs]) (fun j y hy => by
        cases j with
        | zero => simp at hy; subst hy; cases a; simpa [Addr.add] using hsrc
        | succ j => simp at hy) (by omega) (by omega) (growslice_fits (by omega) (by rw [hby]; exact hbytes)))]
      refine hk _ w.heap.size _ ⟨0, grownCap w (l.length + 1) cap e, (flat F l).toArray ++ [u].toArray ++ Builtin.zeroCells z.cells (grownCap w (l.length + 1) cap e - (l.length + 1)), by simp, hbase, World.alloc_heap_new _ _, by simpa using grownCap_ge w (l.length + 1) cap e, grownCap_le_maxLen w _ _ _ h63, ?_, fun j y hy => ?_⟩ (.inr ⟨Nat.le_refl _, ?_⟩)
      · have := grownCap_ge w (l.length + 1) cap e
        have hzs := h.zs
        simp [size_zeroCells, hfl, hzs, hF]; omega
      · rw [flat_append, flat_one, hx] at hy
        rw [Nat.zero_add]
        have hjl := (List.getElem?_eq_some_iff.1 hy).1
        rw [Array.getElem?_append_left (by simpa using hjl)]
        simpa using hy
      · exact (Below.refl _ _).drew.alloc (Nat.le_refl _) _
/-- s[1:] -/
theorem run_from1 {g o n c : Nat} (ht : P.underlying t = some (.slice (P.elem t))) (hk : known P (P.elem t) = true) (hs : sizeT P (P.elem t) = 1) (hn : 1 ≤ n) (w : World) :
    (Instr.sliceAt t (.slice (some ⟨g, o, none⟩) n c) (some (.int .i64 1)) none none).run P w = .ok (.slice (some (if c = 1 then ⟨g, o, none⟩ else ⟨g, o + 1, none⟩)) (n - 1) (c - 1)) w := by
  rw [run_sliceAt_slice _ _ _ _ _ _ ht, run_slice_l w t _ n c ht .i64 1 (by omega) (by omega), run_sizeOf hk, hs]
  simp only [Result.andThen, sliced, Int.toNat_one]
  by_cases h : c = 1
  · simp [h]
  · simp [h, add_none]
theorem t_from1 {S : World → Prop} {K : Value → Prop} {g o n c : Nat} (ht : P.underlying t = some (.slice (P.elem t))) (hk : known P (P.elem t) = true) (hs : sizeT P (P.elem t) = 1) (hn : 1 ≤ n) :
    takeW P S (Instr.sliceAt t (.slice (some ⟨g, o, none⟩) n c) (some (.int .i64 1)) none none) K w = K (.slice (some (if c = 1 then ⟨g, o, none⟩ else ⟨g, o + 1, none⟩)) (n - 1) (c - 1)) :=
  takeW_pure fun w => run_from1 ht hk hs hn w
theorem joinW_use2 {J : Value → Value → World → Prop} {B : (Value → Value → World → Prop) → Prop} (Pre : Value → Value → World → Prop) (h1 : ∀ a b w, Pre a b w → J a b w) (h2 : ∀ J', (∀ a b w, Pre a b w → J' a b w) → B J') : joinW J B := h2 J h1
theorem joinW_use1 {J : Value → World → Prop} {B : (Value → World → Prop) → Prop} (Pre : Value → World → Prop) (h1 : ∀ a w, Pre a w → J a w) (h2 : ∀ J', (∀ a w, Pre a w → J' a w) → B J') : joinW J B := h2 J h1
theorem joinW_use0 {J : World → Prop} {B : (World → Prop) → Prop} (Pre : World → Prop) (h1 : ∀ w, Pre w → J w) (h2 : ∀ J', (∀ w, Pre w → J' w) → B J') : joinW J B := h2 J h1
end
end Go.V
