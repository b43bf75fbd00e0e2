/- What the walk of the ticks keeps in memory. -/
import Derived.Test.YtidnjppalebbfaaA7
set_option linter.unusedSimpArgs false
set_option linter.unusedVariables false
namespace Go.Proofs.Ytidnjppalebbfaa
open Go Go.V Go.RowKit
theorem OwnS.zerosV {w' : World} {base e g n : Nat} {z : Value} (hz : z.cells = #[z]) (h : w'.ownsRow base e 1 (.slice (some ⟨g, 0, none⟩) n n) n (madeCells z.cells (n * 1)).toList) : OwnS fV w' base e g n (List.replicate n z) := by
  unfold OwnS
  have : flat fV (List.replicate n z) = (madeCells z.cells (n * 1)).toList := by
    rw [hz, toList_madeCells_one, Nat.mul_one]
    clear h
    induction n with
    | zero => rfl
    | succ n ih => simp [List.replicate_succ, flat, fV] at ih ⊢; exact ih
  rw [this, List.length_replicate]; exact h
/-- what the ticks hand their values to -/
structure YieldLaw (wI : World) (yield : Value) (n : Nat) (Inv : List Int → (Nat → Prop) → World → Prop) : Prop where
  stab : ∀ tr F w w' p, Inv tr F w → Off p w w' → (∀ b, F b → ¬ p b) → Inv tr F w'
  lt : ∀ tr F w b, Inv tr F w → F b → wI.heap.size ≤ b ∧ b < w.heap.size
  call : ∀ (tr : List Int) (i : Int) F w (kk : Value → World → Prop), Inv tr F w → Below wI.heap.size wI w → (i = -1 ∨ 0 ≤ i ∧ i < (n : Int)) → tr.length ≤ 5001 →
    (∀ F' w', Below wI.heap.size wI w' → Off F w w' → (∀ b, F' b → F b ∨ w.heap.size ≤ b) → Inv (tr ++ [i]) F' w' → kk (.bool true) w') → callW Try.prog yield #[I tr.length, I i] kk w
/-- what stays through the walk -/
structure Cx where
  wI : World
  lv : Value
  av : Value
  bx1 : Nat
  bx2 : Nat
  gR : Nat
  cR : Nat
  gW : Nat
  gL : Nat
  B1 : Nat
  n : Nat
  R : List Nat
  Inv : List Int → (Nat → Prop) → World → Prop
def QV (w : World) (B1 : Nat) : Option Nat → Value → List Nat → Prop
  | none, v, Q => v = .slice none 0 0 ∧ Q = []
  | some g, v, Q => SubS fN w B1 3 g v Q
theorem QV.off {p : Nat → Prop} {w w' : World} {B1 : Nat} : ∀ {G : Option Nat} {v : Value} {Q : List Nat}, QV w B1 G v Q → Off p w w' → (∀ g, G = some g → ¬ p g) → QV w' B1 G v Q
  | none, _, _, h, _, _ => h
  | some g, _, _, h, ho, hp => SubS.off (α := Nat) h ho (hp g rfl)
structure Ms (c : Cx) (tr : List Int) (Qs : Nat → List Nat) (F : Nat → Prop) (w : World) (V : List Value) (G : Nat → Option Nat) (Lf : List Int) : Prop where
  inv : c.Inv tr F w
  below : Below c.wI.heap.size c.wI w
  oW : OwnS fV w c.B1 26 c.gW c.n V
  oL : OwnS fI w c.B1 3 c.gL c.n Lf
  oR : OwnS fN w c.B1 3 c.gR c.cR c.R
  b1 : RowAt w c.bx1 59 [c.lv]
  b2 : RowAt w c.bx2 23 [c.av]
  vlen : V.length = c.n
  llen : Lf.length = c.n
  q : ∀ r, r < c.n → ∃ v, V[r]? = some v ∧ QV w c.B1 (G r) v (Qs r)
  inj : ∀ r r' g, r < c.n → r' < c.n → G r = some g → G r' = some g → r = r'
  dis : ∀ r g, r < c.n → G r = some g → g ≠ c.gW ∧ g ≠ c.gL ∧ g ≠ c.gR ∧ ¬ F g
  fdis : ¬ F c.gW ∧ ¬ F c.gL ∧ ¬ F c.gR ∧ ¬ F c.bx1 ∧ ¬ F c.bx2
structure Cx.Ok (c : Cx) (yield : Value) (m : Nat) : Prop where
  y : YieldLaw c.wI yield m c.Inv
  wl : c.gW ≠ c.gL
  wr : c.gW ≠ c.gR
  lr : c.gL ≠ c.gR
  x1 : c.bx1 < c.B1
  x2 : c.bx2 < c.B1
  base : c.wI.heap.size ≤ c.B1
  n8 : c.n ≤ 8
section
variable {c : Cx} {yv : Value} {m : Nat} {tr : List Int} {Qs : Nat → List Nat} {F : Nat → Prop} {w w' : World} {V : List Value} {G : Nat → Option Nat} {Lf : List Int}
theorem QV.ge {w : World} {B1 : Nat} {g : Nat} {v : Value} {Q : List Nat} (h : QV w B1 (some g) v Q) : B1 ≤ g ∧ g < w.heap.size := SubS.lt (α := Nat) h
theorem Ms.gge (h : Ms c tr Qs F w V G Lf) {r g : Nat} (hr : r < c.n) (hg : G r = some g) : c.B1 ≤ g ∧ g < w.heap.size := by
  obtain ⟨v, _, hq⟩ := h.q r hr
  rw [hg] at hq
  exact hq.ge
theorem Ms.off {p : Nat → Prop} (ok : c.Ok yv m) (h : Ms c tr Qs F w V G Lf) (ho : Off p w w') (hb : Below c.wI.heap.size c.wI w') (hF : ∀ b, F b → ¬ p b)
    (h1 : ¬ p c.gW) (h2 : ¬ p c.gL) (h3 : ¬ p c.gR) (h4 : ¬ p c.bx1) (h5 : ¬ p c.bx2) (h6 : ∀ r g, r < c.n → G r = some g → ¬ p g) : Ms c tr Qs F w' V G Lf :=
  ⟨ok.y.stab _ _ _ _ _ h.inv ho hF, hb, h.oW.off ho h1, h.oL.off ho h2, h.oR.off ho h3, h.b1.off ho h4, h.b2.off ho h5, h.vlen, h.llen,
    fun r hr => by obtain ⟨v, hv, hq⟩ := h.q r hr; exact ⟨v, hv, hq.off ho fun g hg => h6 r g hr hg⟩, h.inj, h.dis, h.fdis⟩
theorem Ms.new (ok : c.Ok yv m) (h : Ms c tr Qs F w V G Lf) (hb : Below w.heap.size w w') : Ms c tr Qs F w' V G Lf :=
  h.off ok (Off.below (p := fun _ => False) hb) (h.below.trans (hb.mono h.below.size)) (fun _ _ => id) id id id id id (fun _ _ _ _ => id)
theorem Ms.drew (ok : c.Ok yv m) (h : Ms c tr Qs F w V G Lf) : Ms c tr Qs F w.drew V G Lf := h.new ok (below_drew w)
/-- a store into left -/
theorem Ms.setLeft (ok : c.Ok yv m) (h : Ms c tr Qs F w V G Lf) {r : Nat} (hr : r < c.n) (x : Int) :
    Ms c tr Qs F (w.setCell ⟨c.gL, r, none⟩ (I x)) V G (Lf.set r x) ∧ (∃ old, w.cell? ⟨c.gL, r, none⟩ = some old) ∧ w.frozen? ⟨c.gL, r, none⟩ = false := by
  have hlr : r < Lf.length := by rw [h.llen]; exact hr
  obtain ⟨ho, hg, hold⟩ := h.oL.store rfl (List.getElem?_eq_getElem hlr) (y := x) (u := I x) rfl
  have hoff : Off (· = c.gL) w (w.setCell ⟨c.gL, r, none⟩ (I x)) := Off.set rfl
  have hge := h.oL.ge
  refine ⟨⟨ok.y.stab _ _ _ _ _ h.inv hoff (fun b hb he => h.fdis.2.1 (he ▸ hb)), h.below.setCell (by show c.wI.heap.size ≤ c.gL; have := ok.base; omega) _, h.oW.off hoff ok.wl, ho, h.oR.off hoff (Ne.symm ok.lr), h.b1.off hoff (by have := ok.x1; omega), h.b2.off hoff (by have := ok.x2; omega), h.vlen, by rw [List.length_set]; exact h.llen,
    fun r' hr' => by obtain ⟨v, hv, hq⟩ := h.q r' hr'; exact ⟨v, hv, hq.off hoff fun g hg => (h.dis r' g hr' hg).2.1⟩, h.inj, h.dis, h.fdis⟩, hold, h.oL.free r⟩
/-- queue r becomes Q, its slice v', of block g' -/
theorem Ms.setQ (ok : c.Ok yv m) (h : Ms c tr Qs F w V G Lf) {r : Nat} (hr : r < c.n) {v' : Value} {Q : List Nat} {G' : Option Nat} (hq' : QV w c.B1 G' v' Q) (hG : ∀ g, G' = some g → g ≠ c.gW ∧ g ≠ c.gL ∧ g ≠ c.gR ∧ ¬ F g ∧ ∀ r', r' < c.n → r' ≠ r → G r' ≠ some g) :
    Ms c tr (fun r' => if r' = r then Q else Qs r') F (w.setCell ⟨c.gW, r, none⟩ v') (V.set r v') (fun r' => if r' = r then G' else G r') Lf ∧ (∃ old, w.cell? ⟨c.gW, r, none⟩ = some old) ∧ w.frozen? ⟨c.gW, r, none⟩ = false := by
  have hlr : r < V.length := by rw [h.vlen]; exact hr
  obtain ⟨ho, hg, hold⟩ := h.oW.store rfl (List.getElem?_eq_getElem hlr) (y := v') (u := v') rfl
  have hoff : Off (· = c.gW) w (w.setCell ⟨c.gW, r, none⟩ v') := Off.set rfl
  have hge := h.oW.ge
  refine ⟨⟨ok.y.stab _ _ _ _ _ h.inv hoff (fun b hb he => h.fdis.1 (he ▸ hb)), h.below.setCell (by show c.wI.heap.size ≤ c.gW; have := ok.base; omega) _, ho, h.oL.off hoff (Ne.symm ok.wl), h.oR.off hoff (Ne.symm ok.wr), h.b1.off hoff (by have := ok.x1; omega), h.b2.off hoff (by have := ok.x2; omega), by rw [List.length_set]; exact h.vlen, h.llen,
    fun r' hr' => ?_, fun r1 r2 g h1 h2 h3 h4 => ?_, fun r1 g h1 h2 => ?_, h.fdis⟩, hold, h.oW.free r⟩
  · by_cases he : r' = r
    · subst he
      refine ⟨v', by rw [List.getElem?_set, if_pos rfl, if_pos hlr], ?_⟩
      simp only [if_pos]
      exact hq'.off hoff fun g hg => (hG g hg).1
    · obtain ⟨v, hv, hq⟩ := h.q r' hr'
      refine ⟨v, by rw [List.getElem?_set, if_neg (Ne.symm he)]; exact hv, ?_⟩
      simp only [if_neg he]
      exact hq.off hoff fun g hg => (h.dis r' g hr' hg).1
  · by_cases e1 : r1 = r <;> by_cases e2 : r2 = r
    · rw [e1, e2]
    · simp only [if_pos e1, if_neg e2] at h3 h4
      exact absurd h4 ((hG g h3).2.2.2.2 r2 h2 e2)
    · simp only [if_neg e1, if_pos e2] at h3 h4
      exact absurd h3 ((hG g h4).2.2.2.2 r1 h1 e1)
    · simp only [if_neg e1, if_neg e2] at h3 h4
      exact h.inj r1 r2 g h1 h2 h3 h4
  · by_cases e1 : r1 = r
    · simp only [if_pos e1] at h2
      have := hG g h2
      exact ⟨this.1, this.2.1, this.2.2.1, this.2.2.2.1⟩
    · simp only [if_neg e1] at h2
      exact h.dis r1 g h1 h2
theorem Ms.yield (ok : c.Ok yv m) (h : Ms c tr Qs F w V G Lf) {i : Int} {F' : Nat → Prop} (hb : Below c.wI.heap.size c.wI w') (ho : Off F w w') (hF : ∀ b, F' b → F b ∨ w.heap.size ≤ b) (hi : c.Inv (tr ++ [i]) F' w') : Ms c (tr ++ [i]) Qs F' w' V G Lf := by
  have hw := h.oW.ge
  have hl := h.oL.ge
  have hr := h.oR.ge
  have h1 := h.b1.lt
  have h2 := h.b2.lt
  have hf := h.fdis
  have nn : ∀ b, b < w.heap.size → ¬ F b → ¬ F' b := fun b hb hn hb' => (hF b hb').elim hn fun h => by omega
  exact ⟨hi, hb, h.oW.off ho hf.1, h.oL.off ho hf.2.1, h.oR.off ho hf.2.2.1, h.b1.off ho hf.2.2.2.1, h.b2.off ho hf.2.2.2.2, h.vlen, h.llen,
    fun r hr => by obtain ⟨v, hv, hq⟩ := h.q r hr; exact ⟨v, hv, hq.off ho fun g hg => (h.dis r g hr hg).2.2.2⟩, h.inj,
    fun r g hr hg => by have := h.dis r g hr hg; exact ⟨this.1, this.2.1, this.2.2.1, nn g (h.gge hr hg).2 this.2.2.2⟩,
    nn _ hw.2 hf.1, nn _ hl.2 hf.2.1, nn _ hr.2 hf.2.2.1, nn _ h1 hf.2.2.2.1, nn _ h2 hf.2.2.2.2⟩
theorem Ms.push {K : Value → Value → Value → World → Prop} (ok : c.Ok yv m) (h : Ms c tr Qs F w V G Lf) {r x c1 : Nat} (hr : r < c.n) {v : Value} (hv : V[r]? = some v) {ad : Addr} (hsrc : w.cell? ad = some (I x)) (h60 : (Qs r).length ≤ 60)
    (hk : ∀ t80 t81 w' V' G', Ms c tr (fun r' => if r' = r then Qs r ++ [x] else Qs r') F w' V' G' Lf → K t80 t81 undef w') :
    opW Try.prog (Builtin.append_ #[26, 26] 26 #[v, .slice (some ad) 1 c1]) (fun t80 w => opW Try.prog (Instr.indexAt 44 (.slice (some ⟨c.gW, 0, none⟩) c.n c.n) (I r)) (fun t81 w => opU Try.prog (Instr.storeAt 26 t81 t80) (K t80 t81) w) w) w := by
  obtain ⟨v0, hv0, hq⟩ := h.q r hr
  rw [hv] at hv0; cases hv0
  have hcase : ∃ g, (v = .slice none 0 0 ∧ Qs r = []) ∨ SubS fN w c.B1 3 g v (Qs r) := by
    cases hG : G r with
    | none => rw [hG] at hq; exact ⟨0, .inl hq⟩
    | some g => rw [hG] at hq; exact ⟨g, .inr hq⟩
  obtain ⟨g, hcase⟩ := hcase
  have hB : c.B1 ≤ w.heap.size := by have := h.oW.ge; omega
  refine w_append1 (F := fN) (u := I x) sty26 rfl rfl rfl hsrc hcase (by unfold maxLen; omega) (by omega) hB fun v' g' w1 hS hw1 => ?_
  have hone : v'.oneCell' = true := by obtain ⟨o, cap, cur, rfl, _⟩ := hS; rfl
  rw [ixz44 hr]
  have fin : ∀ (hm : Ms c tr Qs F w1 V G Lf) (hgd : g' ≠ c.gW ∧ g' ≠ c.gL ∧ g' ≠ c.gR ∧ ¬ F g' ∧ ∀ r', r' < c.n → r' ≠ r → G r' ≠ some g'), opU Try.prog (Instr.storeAt 26 (.pointer (some ⟨c.gW, r, none⟩)) v') (K v' (.pointer (some ⟨c.gW, r, none⟩))) w1 := fun hm hgd => by
    obtain ⟨hm2, ⟨old, hold⟩, hfr⟩ := hm.setQ ok hr (v' := v') (Q := Qs r ++ [x]) (G' := some g') hS (fun g hg => by cases hg; exact hgd)
    refine (st26 hone hold hfr).mpr ?_
    exact hk _ _ _ _ _ hm2
  rcases hw1 with ⟨hS0, hS1, rfl, honly⟩ | ⟨hge, hb⟩
  · have hGr : G r = some g' := by
      cases hG : G r with
      | none =>
        rw [hG] at hq
        obtain ⟨o, cap, cur, hh, _⟩ := hS0
        rw [hq.1] at hh; cases hh
      | some g0 =>
        rw [hG] at hq
        obtain ⟨o, cap, cur, hh, _⟩ := hS0
        obtain ⟨o2, cap2, cur2, hh2, _⟩ := hq
        rw [hh2] at hh; cases hh; rfl
    have hd := h.dis r g' hr hGr
    have hgg := h.gge hr hGr
    have hinj : ∀ r', r' < c.n → r' ≠ r → G r' ≠ some g' := fun r' hr' hne he => hne (h.inj r' r g' hr' hr he hGr)
    have hoff : Off (· = g') w w1 := Off.only honly rfl
    have hbB : c.wI.heap.size ≤ g' := by have := ok.base; omega
    refine fin ⟨ok.y.stab _ _ _ _ _ h.inv hoff (fun b hb he => hd.2.2.2 (he ▸ hb)), h.below.trans (honly.rest _ hbB), h.oW.off hoff (Ne.symm hd.1), h.oL.off hoff (Ne.symm hd.2.1), h.oR.off hoff (Ne.symm hd.2.2.1), h.b1.off hoff (by have := ok.x1; omega), h.b2.off hoff (by have := ok.x2; omega), h.vlen, h.llen,
      fun r' hr' => ?_, h.inj, h.dis, h.fdis⟩ ⟨hd.1, hd.2.1, hd.2.2.1, hd.2.2.2, hinj⟩
    by_cases he : r' = r
    · subst he
      exact ⟨v, hv, by rw [hGr]; exact hS1⟩
    · obtain ⟨v2, hv2, hq2⟩ := h.q r' hr'
      exact ⟨v2, hv2, hq2.off hoff fun g hg hgg => hinj r' hr' he (hgg ▸ hg)⟩
  · have hm := h.new ok hb
    have hnew : ∀ b, b < w.heap.size → g' ≠ b := fun b hb => by omega
    refine fin hm ⟨hnew _ h.oW.ge.2, hnew _ h.oL.ge.2, hnew _ h.oR.ge.2, fun hf => by have := (ok.y.lt _ _ _ _ h.inv hf).2; omega, fun r' hr' _ he => by have := (h.gge hr' he).2; omega⟩
theorem QV.sl {w : World} {B1 : Nat} : ∀ {G : Option Nat} {v : Value} {Q : List Nat}, QV w B1 G v Q → IsSl fN w v Q
  | none, _, _, h => by obtain ⟨rfl, rfl⟩ := h; exact .nil w
  | some g, _, _, h => SubS.sl h
theorem Ms.at (h : Ms c tr Qs F w V G Lf) {r : Nat} (hr : r < c.n) : ∃ v, V[r]? = some v ∧ QV w c.B1 (G r) v (Qs r) ∧ w.cell? ⟨c.gW, r, none⟩ = some v := by
  obtain ⟨v, hv, hq⟩ := h.q r hr
  have := h.oW.cell hv 0 _ rfl
  simp only [fV, Nat.mul_one, Nat.add_zero] at this
  exact ⟨v, hv, hq, this⟩
theorem Ms.pushAll {K : World → Prop} (ok : c.Ok yv m) (h : Ms c tr Qs F w V G Lf) {r x : Nat} (hr : r < c.n) (h60 : (Qs r).length ≤ 60)
    (hk : ∀ w' V' G', Ms c tr (fun r' => if r' = r then Qs r ++ [x] else Qs r') F w' V' G' Lf → K w') :
    opW Try.prog (Instr.indexAt 44 (.slice (some ⟨c.gW, 0, none⟩) c.n c.n) (I r)) (fun t76 w => opW Try.prog (Instr.loadAt 26 t76) (fun t77 w => opW Try.prog (Instr.buildSlice 26 1 #[(0, I x)]) (fun t79 w =>
      opW Try.prog (Builtin.append_ #[26, 26] 26 #[t77, t79]) (fun t80 w => opW Try.prog (Instr.indexAt 44 (.slice (some ⟨c.gW, 0, none⟩) c.n c.n) (I r)) (fun t81 w => opU Try.prog (Instr.storeAt 26 t81 t80) (fun _ w => K w) w) w) w) w) w) w := by
  obtain ⟨v, hv, hq, hcell⟩ := h.at hr
  rw [ixz44 hr]
  refine (ld26 hcell).mpr ?_
  rw [w_one (v := I x) sty26 rfl (by omega)]
  have hb := below_alloc w (.cells (I x).cells 3 (0, 0))
  have hm := h.new ok hb
  refine hm.push (K := fun _ _ _ w => K w) ok hr hv (x := x) (by rw [World.cell?_alloc_new]; rfl) h60 fun _ _ w' V' G' hm' => hk w' V' G' hm'
end
end Go.Proofs.Ytidnjppalebbfaa
