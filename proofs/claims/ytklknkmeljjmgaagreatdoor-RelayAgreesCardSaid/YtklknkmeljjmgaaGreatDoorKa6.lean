/- Part 7 of the proof of relayAgrees: lemmas for it; no condition beyond the statement. -/
import Derived.Test.YtklknkmeljjmgaaGreatDoorKa5
/- Plain: relays that are made, as greatest editions and sets of slips. -/
set_option linter.unusedSimpArgs false
set_option linter.unusedVariables false
namespace Go.Proofs.YtklknkmeljjmgaaGreatDoor
open Go Go.V Go.RowKit
theorem edOf_pos {l : List Disp} (ha : Asc cmpD l) (hm : ∀ d ∈ l, madeP d) {s : Int} (h : 0 < edOf l s) : ∃ x ∈ l, x.story = s ∧ x.ed = edOf l s := by
  by_cases hh : ∃ x ∈ l, x.story = s
  · obtain ⟨x, hx, rfl⟩ := hh
    exact ⟨x, hx, rfl, (edOf_of_mem ha hx).symm⟩
  · rw [edOf_zero fun x hx he => hh ⟨x, hx, he⟩] at h; omega
theorem ed_ext {a b : List Disp} (ha : Asc cmpD a) (hb : Asc cmpD b) (ma : ∀ d ∈ a, madeP d) (mb : ∀ d ∈ b, madeP d) (h : ∀ s, edOf a s = edOf b s) : a = b := by
  have key : ∀ {a b : List Disp}, Asc cmpD a → Asc cmpD b → (∀ d ∈ a, madeP d) → (∀ d ∈ b, madeP d) → (∀ s, edOf a s = edOf b s) → ∀ x ∈ a, x ∈ b := fun {a b} ha hb ma mb h x hx => by
    have h1 := edOf_of_mem ha hx
    have h2 := (ma x hx).2.1
    obtain ⟨y, hy, hy1, hy2⟩ := edOf_pos hb mb (s := x.story) (by rw [← h]; omega)
    have : y = x := (mb y hy).same (ma x hx) hy1 (by rw [hy2, ← h, h1])
    rw [← this]; exact hy
  exact asc_ext CD ha hb fun x => ⟨key ha hb ma mb h x, key hb ha mb ma (fun s => (h s).symm) x⟩
theorem ed_max {a b o : List Disp} (ha : Asc cmpD a) (hb : Asc cmpD b) (ma : ∀ d ∈ a, madeP d) (mb : ∀ d ∈ b, madeP d) (h : mergeG cmpD newerD a b = some o) (s : Int) : edOf o s = max (edOf a s) (edOf b s) := by
  obtain ⟨o', ho, h1, h2, h3⟩ := merge_made ha hb ma mb
  rw [h] at ho; cases ho
  have n1 := edOf_nonneg ma s
  have n2 := edOf_nonneg mb s
  by_cases hx : ∃ x ∈ a, x.story = s
  · obtain ⟨x, hx, hxs⟩ := hx
    by_cases hy : ∃ y ∈ b, y.story = s
    · obtain ⟨y, hy, hys⟩ := hy
      have h0 : cmpD x y = 0 := cmpD_eq.2 (by omega)
      have hz := (h3 _).2 (.inr (.inr ⟨x, hx, y, hy, h0, rfl⟩))
      have hs := cmpD_eq.1 (newer_story h0)
      have e1 := edOf_of_mem h1 hz
      have e2 := edOf_of_mem ha hx
      have e3 := edOf_of_mem hb hy
      rw [hs, hxs] at e1
      rw [hxs] at e2
      rw [hys] at e3
      rw [e1, e2, e3, newer_made (ma x hx) (mb y hy) h0]
      by_cases hle : y.ed ≤ x.ed
      · rw [if_pos hle]; simp only; omega
      · rw [if_neg hle]; simp only; omega
    · have hz := (h3 x).2 (.inl ⟨hx, fun y hy' h0 => hy ⟨y, hy', by have := cmpD_eq.1 h0; omega⟩⟩)
      have e1 := edOf_of_mem h1 hz
      have e2 := edOf_of_mem ha hx
      rw [hxs] at e1 e2
      rw [e1, e2, edOf_zero fun y hy' he => hy ⟨y, hy', he⟩]
      have := (ma x hx).2.1; omega
  · have ea : edOf a s = 0 := edOf_zero fun x hx' he => hx ⟨x, hx', he⟩
    by_cases hy : ∃ y ∈ b, y.story = s
    · obtain ⟨y, hy, hys⟩ := hy
      have hz := (h3 y).2 (.inr (.inl ⟨hy, fun x hx' h0 => hx ⟨x, hx', by have := cmpD_eq.1 h0; omega⟩⟩))
      have e1 := edOf_of_mem h1 hz
      have e3 := edOf_of_mem hb hy
      rw [hys] at e1 e3
      rw [e1, e3, ea]
      have := (mb y hy).2.1; omega
    · have eb : edOf b s = 0 := edOf_zero fun x hx' he => hy ⟨x, hx', he⟩
      rw [ea, eb, edOf_zero fun z hz he => ?_]
      · rfl
      · rcases (h3 z).1 hz with ⟨h, _⟩ | ⟨h, _⟩ | ⟨u, hu, v, hv, huv, e⟩
        · exact hx ⟨z, h, he⟩
        · exact hy ⟨z, h, he⟩
        · subst e
          have := cmpD_eq.1 (newer_story huv)
          exact hx ⟨u, hu, by omega⟩
/-- what a relay keeps: the greatest editions, the slips -/
structure Knows (E : Int → Int) (T : Slp → Prop) (r : Rel) : Prop where
  good : GoodR r
  ed : ∀ s, edOf r.kept s = E s
  sl : ∀ s, s ∈ r.slips ↔ T s
theorem Knows.keeps {E E' : Int → Int} {T T' : Slp → Prop} {a b : Rel} (ha : Knows E T a) (hb : Knows E' T' b) (he : ∀ s, E s = E' s) (ht : ∀ s, T s ↔ T' s) : a.kept = b.kept ∧ a.slips = b.slips :=
  ⟨ed_ext ha.good.ascK hb.good.ascK ha.good.kept hb.good.kept fun s => by rw [ha.ed, hb.ed, he], asc_ext CP ha.good.ascS hb.good.ascS fun s => by rw [ha.sl, hb.sl, ht]⟩
/-- hearing a packet of such a relay -/
theorem Knows.hear {E E' : Int → Int} {T T' : Slp → Prop} {r s : Rel} {p : Pack} {e : Int} {r' : Rel} (hr : Knows E T r) (hs : Knows E' T' s) (hp : p = ⟨s.id, s.kept, s.slips⟩) (h : hearR r p e r') : e = 0 ∧ Knows (fun x => max (E x) (E' x)) (fun x => T x ∨ T' x) r' ∧ r'.id = r.id ∧ r'.paper = r.paper := by
  subst hp
  have hgk : GoodK ⟨s.id, s.kept, s.slips⟩ := ⟨hs.good.id, hs.good.kept, hs.good.slips, hs.good.ascK, hs.good.ascS⟩
  obtain ⟨h1, h2, h3, h4, h5, h6⟩ := hear_good hr.good hgk h
  obtain ⟨o, ho, i1, i2, i3⟩ := mergeP_made hr.good.ascS hgk.ascS hr.good.slips hgk.slips
  rw [h4] at ho
  have ho := Option.some.inj ho
  refine ⟨h1, ⟨h2, fun x => ?_, fun x => ?_⟩, h5, h6⟩
  · rw [ed_max hr.good.ascK hgk.ascK hr.good.kept hgk.kept h3 x, hr.ed]
    show max (E x) (edOf s.kept x) = _
    rw [hs.ed]
  · rw [ho, i3 x, hr.sl]
    show T x ∨ x ∈ s.slips ↔ _
    rw [hs.sl]
end Go.Proofs.YtklknkmeljjmgaaGreatDoor
/- Own slices of relays and of packets. -/
set_option linter.unusedSimpArgs false
set_option linter.unusedVariables false
namespace Go.V
open Go Go.RowKit
/-- V holds whatever happens to the blocks q -/
def AV (V : World → Prop) (q : Nat → Prop) (w : World) : Prop := ∀ w', Off q w w' → V w'
theorem AV.now {V : World → Prop} {q : Nat → Prop} {w : World} (h : AV V q w) : V w := h w (Off.refl _ _)
theorem AV.off {V : World → Prop} {q : Nat → Prop} {w w' : World} (h : AV V q w) (ho : Off q w w') : AV V q w' := fun w'' h'' => h w'' (ho.trans h'')
theorem AV.below {V : World → Prop} {q : Nat → Prop} {w w' : World} (h : AV V q w) (hb : Below w.heap.size w w') : AV V q w' := h.off (Off.below hb)
theorem AV.grow {V : World → Prop} {q q' : Nat → Prop} {w w' : World} (h : AV V q w) (ho : Off q w w') (hq : ∀ b, q' b → q b ∨ w.heap.size ≤ b) : AV V q' w' := fun w'' h'' =>
  h w'' ⟨Nat.le_trans ho.size h''.size, fun b hb hn => (h''.block b (Nat.lt_of_lt_of_le hb ho.size) fun hh => (hq b hh).elim hn (by omega)).trans (ho.block b hb hn)⟩
end Go.V
namespace Go.Proofs.YtklknkmeljjmgaaGreatDoor
open Go Go.V Go.RowKit
structure KW where
  src : Int
  ka : Option Addr
  kn : Nat
  kc : Nat
  sa : Option Addr
  sn : Nat
  sc : Nat
def fK : Fl KW := ⟨3, fun x => [I x.src, .slice x.ka x.kn x.kc, .slice x.sa x.sn x.sc], fun _ => rfl⟩
abbrev agK (x : KW) : Value := .agg (fK.e x).toArray
theorem eK : ETy Tryz.prog 36 29 fK := ⟨by kernel_rfl, by kernel_rfl, by kernel_rfl, by kernel_rfl, by kernel_rfl, by kernel_rfl, fun x u hu => by simp [fK] at hu; rcases hu with rfl | rfl | rfl <;> rfl⟩
theorem PackV.raw {w : World} {v : Value} {p : Pack} (h : PackV w v p) : ∃ x, v = agK x := by
  obtain ⟨kv, sv, rfl, ⟨a, c, rfl, _⟩, ⟨a', c', rfl, _⟩⟩ := h
  exact ⟨⟨_, a, _, c, a', _, c'⟩, rfl⟩
theorem PackV.off {p : Nat → Prop} {w w' : World} {v : Value} {r : Pack} (h : PackV w v r) (ho : Off p w w') (hp : ∀ b, relOf v b → ¬ p b) : PackV w' v r := by
  obtain ⟨kv, sv, rfl, h1, h2⟩ := h
  exact ⟨kv, sv, rfl, h1.off ho fun b hb => hp b (relOf_pack.2 (.inl hb)), h2.off ho fun b hb => hp b (relOf_pack.2 (.inr hb))⟩
/-- an own slice of packets -/
structure PKs (B : Nat) (w : World) (v : Value) (ps : List Pack) : Prop where
  v : ∃ xs, Mine fK 29 w B v xs ∧ xs.length = ps.length ∧ ∀ (i : Nat) x p, xs[i]? = some x → ps[i]? = some p → AV (fun w => PackV w (agK x) p) (isOf v) w
/-- an own slice of relays -/
structure RLs (B : Nat) (w : World) (v : Value) (rs : List Rel) : Prop where
  v : ∃ xs, Mine fR 27 w B v xs ∧ xs.length = rs.length ∧ ∀ (i : Nat) x r, xs[i]? = some x → rs[i]? = some r → AV (fun w => RelV w (agR x) r) (isOf v) w
section
variable {k : Value → World → Prop} {w w' : World} {B : Nat} {v : Value}
theorem PKs.below {ps : List Pack} (h : PKs B w v ps) (hb : Below w.heap.size w w') : PKs B w' v ps := by
  obtain ⟨xs, h1, h2, h3⟩ := h
  exact ⟨xs, h1.below hb, h2, fun i x p hx hp => (h3 i x p hx hp).below hb⟩
theorem RLs.below {rs : List Rel} (h : RLs B w v rs) (hb : Below w.heap.size w w') : RLs B w' v rs := by
  obtain ⟨xs, h1, h2, h3⟩ := h
  exact ⟨xs, h1.below hb, h2, fun i x p hx hp => (h3 i x p hx hp).below hb⟩
theorem PKs.nil (w : World) (B : Nat) : PKs B w (.slice none 0 0) [] := ⟨[], Mine.nil _ _, rfl, fun i x p hx => by simp at hx⟩
theorem RLs.nil (w : World) (B : Nat) : RLs B w (.slice none 0 0) [] := ⟨[], Mine.nil _ _, rfl, fun i x p hx => by simp at hx⟩
theorem PKs.at {ps : List Pack} (h : PKs B w v ps) {i : Nat} {p : Pack} (hp : ps[i]? = some p) : ∃ xs x, IsSl fK w v xs ∧ xs[i]? = some x ∧ PackV w (agK x) p := by
  obtain ⟨xs, h1, h2, h3⟩ := h
  have hi : i < xs.length := by rw [h2]; exact (List.getElem?_eq_some_iff.1 hp).1
  exact ⟨xs, _, h1.sl, List.getElem?_eq_getElem hi, (h3 i _ p (List.getElem?_eq_getElem hi) hp).now⟩
theorem RLs.at {rs : List Rel} (h : RLs B w v rs) {i : Nat} {r : Rel} (hp : rs[i]? = some r) : ∃ xs x, IsSl fR w v xs ∧ xs[i]? = some x ∧ RelV w (agR x) r := by
  obtain ⟨xs, h1, h2, h3⟩ := h
  have hi : i < xs.length := by rw [h2]; exact (List.getElem?_eq_some_iff.1 hp).1
  exact ⟨xs, _, h1.sl, List.getElem?_eq_getElem hi, (h3 i _ r (List.getElem?_eq_getElem hi) hp).now⟩
/-- one packet more -/
theorem PKs.push {ps : List Pack} {u : Value} {p : Pack} {K : Value → World → Prop} (h : PKs B w v ps) (hu : PackV w u p) (hf : ∀ c, relOf u c → ¬ isOf v c) (hB : B ≤ w.heap.size) (hl : ps.length ≤ 1000)
    (hk : ∀ v' w', PKs B w' v' (ps ++ [p]) → Below B w w' → Off (isOf v) w w' → K v' w') :
    opW Tryz.prog (Instr.buildSlice 36 1 #[(0, u)]) (fun s w => opW Tryz.prog (Builtin.append_ #[36, 36] 36 #[v, s]) (fun r w => K r w) w) w := by
  obtain ⟨xs, h1, h2, h3⟩ := h
  obtain ⟨x, rfl⟩ := hu.raw
  refine Mine.push sty36 (eK.one x) rfl (by decide) h1 hB (by unfold maxLen; omega) (by omega) fun v' w' hm hb hof hnew => ?_
  refine hk v' w' ⟨xs ++ [x], hm, by simp [h2], fun i y q hy hq => ?_⟩ hb hof
  have old : ∀ y q, AV (fun w => PackV w (agK y) q) (isOf v) w → AV (fun w => PackV w (agK y) q) (isOf v') w' := fun y q ha => ha.grow hof hnew
  rw [List.getElem?_append] at hy hq
  by_cases hi : i < xs.length
  · rw [if_pos hi] at hy; rw [if_pos (by omega)] at hq
    exact old y q (h3 i y q hy hq)
  · rw [if_neg hi] at hy; rw [if_neg (by omega)] at hq
    have e : i - xs.length = 0 := by
      rcases Nat.eq_zero_or_pos (i - xs.length) with h | h
      · exact h
      · rw [List.getElem?_eq_none (by simp; omega)] at hy; cases hy
    rw [e] at hy; rw [← h2, e] at hq
    cases hy; cases hq
    exact old _ _ fun w'' ho => hu.off ho hf
theorem RLs.push {rs : List Rel} {u : Value} {r : Rel} {K : Value → World → Prop} (h : RLs B w v rs) (hu : RelV w u r) (hf : ∀ c, relOf u c → ¬ isOf v c) (hB : B ≤ w.heap.size) (hl : rs.length ≤ 1000)
    (hk : ∀ v' w', RLs B w' v' (rs ++ [r]) → Below B w w' → Off (isOf v) w w' → K v' w') :
    opW Tryz.prog (Instr.buildSlice 34 1 #[(0, u)]) (fun s w => opW Tryz.prog (Builtin.append_ #[34, 34] 34 #[v, s]) (fun r w => K r w) w) w := by
  obtain ⟨xs, h1, h2, h3⟩ := h
  obtain ⟨x, rfl⟩ := hu.raw
  refine Mine.push sty34 (eR.one x) rfl (by decide) h1 hB (by unfold maxLen; omega) (by omega) fun v' w' hm hb hof hnew => ?_
  refine hk v' w' ⟨xs ++ [x], hm, by simp [h2], fun i y q hy hq => ?_⟩ hb hof
  have old : ∀ y q, AV (fun w => RelV w (agR y) q) (isOf v) w → AV (fun w => RelV w (agR y) q) (isOf v') w' := fun y q ha => ha.grow hof hnew
  rw [List.getElem?_append] at hy hq
  by_cases hi : i < xs.length
  · rw [if_pos hi] at hy; rw [if_pos (by omega)] at hq
    exact old y q (h3 i y q hy hq)
  · rw [if_neg hi] at hy; rw [if_neg (by omega)] at hq
    have e : i - xs.length = 0 := by
      rcases Nat.eq_zero_or_pos (i - xs.length) with h | h
      · exact h
      · rw [List.getElem?_eq_none (by simp; omega)] at hy; cases hy
    rw [e] at hy; rw [← h2, e] at hq
    cases hy; cases hq
    exact old _ _ fun w'' ho => hu.off ho hf
theorem resHear {w : World} {v pv : Value} {r : Rel} {p : Pack} (hv : RelV w v r) (hp : PackV w pv p) (hs : small r) (hpm : p.kept.length ≤ 5000 ∧ p.slips.length ≤ 5000) : ResC (.func (.func 27) #[] #[]) #[v, pv] (hearR r p) w := fun w1 k ha hk => c27 (hv.below ha) (hp.below ha) hs hpm hk
end
end Go.Proofs.YtklknkmeljjmgaaGreatDoor
