/- Part 7 of the proof of relayNeverBack: lemmas for it; no condition beyond the statement. -/
import Derived.Test.YtklknkmeljjmgaaGreatDoorKb5
/- Calls whose relay goes into a new variable. -/
set_option linter.unusedSimpArgs false
set_option linter.unusedVariables false
namespace Go.Proofs.YtklknkmeljjmgaaGreatDoor
open Go Go.V Go.RowKit
section
variable {k : Value → World → Prop} {w w0 : World} {c : Option Nat}
theorem RV.la {n b : Nat} {r : Rel} {K : Value → Prop} (h : RV n b w0 r) (ha : after w0 w) (hk : ∀ v, RelV w0 v r → K v) : takeW Tryz.prog (after w0) (Instr.loadAt 27 (.pointer (some ⟨b, 0, none⟩))) K w := by
  obtain ⟨x, h1, h2, h3⟩ := h
  rw [la27 (vs := fR.e x) rfl h1.cells ha]
  exact hk _ h2
end
end Go.Proofs.YtklknkmeljjmgaaGreatDoor
/- RelayPaper. -/
set_option linter.unusedSimpArgs false
set_option linter.unusedVariables false
namespace Go.Proofs.YtklknkmeljjmgaaGreatDoor
open Go Go.V Go.RowKit
section
variable {k : Value → World → Prop} {w : World}
theorem Three.at {n : Nat} {rs : List Rel} (h : Three n rs) {i : Nat} (hi : i < 3) : ∃ r, rs[i]? = some r ∧ GoodR r ∧ r.paper ≤ 5 + 4 * n := by
  have hl := h.len
  exact ⟨_, List.getElem?_eq_getElem (by omega), h.good _ (List.getElem_mem _), h.paper _ (List.getElem_mem _)⟩
theorem GoodR.k12 {r : Rel} (h : GoodR r) : r.kept.length ≤ 12 := by have := kept_room h.ascK h.kept; omega
end
end Go.Proofs.YtklknkmeljjmgaaGreatDoor
/- RelayNeverBack. -/
set_option linter.unusedSimpArgs false
set_option linter.unusedVariables false
namespace Go.V
open Go Go.RowKit
section
variable {P : Program} {k : Value → World → Prop} {K : Value → Prop} {w w0 : World} {α : Type} {F : Fl α} {v u : Value} {l : List α} {t at' e ft : TypeId} {n : Nat} {q q' : IntKind} {i j : Nat} {m : Int} {a : α}
theorem w_getArr (hm : m = (j : Int)) (h : isSliceT P t = true) (he : known P (elemT P t) = true) (hz : sizeT P (elemT P t) = F.sz) (ht : P.underlying at' = some (.array n e)) (hke : known P e = true) (hse : sizeT P e = 1) (hg : isAggT P ft = false) (hk : known P ft = true)
    (hs : IsSl F w v l) (hx : l[i]? = some a) (hj : j < n) (hu : (F.e a)[j]? = some u) :
    opW P (Instr.indexAt t v (.int q (i : Int))) (fun p w => opW P (Instr.indexAt at' p (.int q' m)) (fun p w => opW P (Instr.loadAt ft p) k w) w) w = k u w := by
  subst hm
  obtain ⟨b, o, c, rfl, hlt, hcl⟩ := hs.at (i := (i : Int)) (by omega) (by simpa using hx)
  rw [opW_ok (run_index h he (by omega) hlt w), hz, opW_ok (run_indexArr ht hke (by omega) (by omega) w), hse, Nat.mul_one]
  simp only [Int.toNat_natCast] at hcl ⊢
  rw [w_load hg hk (by rw [hcl j u hu])]
theorem t_getArrA (hm : m = (j : Int)) (h : isSliceT P t = true) (he : known P (elemT P t) = true) (hz : sizeT P (elemT P t) = F.sz) (ht : P.underlying at' = some (.array n e)) (hke : known P e = true) (hse : sizeT P e = 1) (hg : isAggT P ft = false) (hk : known P ft = true)
    (hs : IsSl F w0 v l) (hx : l[i]? = some a) (hj : j < n) (hu : (F.e a)[j]? = some u) (ha : after w0 w) :
    takeW P anyW (Instr.indexAt t v (.int q (i : Int))) (fun p => takeW P anyW (Instr.indexAt at' p (.int q' m)) (fun p => takeW P (after w0) (Instr.loadAt ft p) K w) w) w = K u := by
  subst hm
  obtain ⟨b, o, c, rfl, hlt, hcl⟩ := hs.at (i := (i : Int)) (by omega) (by simpa using hx)
  rw [takeW_pure (run_index h he (by omega) hlt), hz, takeW_pure (run_indexArr ht hke (by omega) (by omega)), hse, Nat.mul_one]
  simp only [Int.toNat_natCast] at hcl ⊢
  exact r_loadA hg hk (by rw [hcl j u hu]) ha
end
end Go.V
namespace Go.Proofs.YtklknkmeljjmgaaGreatDoor
open Go Go.V Go.RowKit
theorem edOf_of_mem {l : List Disp} (ha : Asc cmpD l) {x : Disp} (hx : x ∈ l) : edOf l x.story = x.ed := by
  induction l with
  | nil => cases hx
  | cons d l ih =>
    obtain ⟨h1, h2⟩ := List.pairwise_cons.1 ha
    rw [edOf]
    rcases List.mem_cons.1 hx with rfl | hx
    · rw [if_pos rfl]
    · have := cmpD_lt.1 (h1 x hx)
      rw [if_neg (by omega)]; exact ih h2 hx
theorem edOf_zero {l : List Disp} {s : Int} (h : ∀ x ∈ l, x.story ≠ s) : edOf l s = 0 := by
  induction l with
  | nil => rfl
  | cons d l ih => rw [edOf, if_neg (h d (by simp)), ih fun x hx => h x (by simp [hx])]
theorem edOf_nonneg {l : List Disp} (h : ∀ x ∈ l, madeP x) (s : Int) : 0 ≤ edOf l s := by
  induction l with
  | nil => simp [edOf]
  | cons d l ih =>
    rw [edOf]
    split
    · have := (h d (by simp)).2.1; omega
    · exact ih fun x hx => h x (by simp [hx])
/-- merging never loses an edition -/
theorem edOf_merge {a b o : List Disp} (ha : Asc cmpD a) (hb : Asc cmpD b) (ma : ∀ d ∈ a, madeP d) (mb : ∀ d ∈ b, madeP d) (h : mergeG cmpD newerD a b = some o) (s : Int) : edOf a s ≤ edOf o s := by
  obtain ⟨o', ho, h1, h2, h3⟩ := merge_made ha hb ma mb
  rw [h] at ho; cases ho
  by_cases hh : ∃ x ∈ a, x.story = s
  · obtain ⟨x, hx, rfl⟩ := hh
    rw [edOf_of_mem ha hx]
    by_cases hy : ∃ y ∈ b, cmpD x y = 0
    · obtain ⟨y, hy, h0⟩ := hy
      have hz := (h3 _).2 (.inr (.inr ⟨x, hx, y, hy, h0, rfl⟩))
      have hs := cmpD_eq.1 (newer_story h0)
      rw [← hs, edOf_of_mem h1 hz, newer_made (ma x hx) (mb y hy) h0]
      split
      · exact Int.le_refl _
      · simp only; omega
    · have hz := (h3 x).2 (.inl ⟨hx, fun y hy' h0 => hy ⟨y, hy', h0⟩⟩)
      rw [edOf_of_mem h1 hz]; exact Int.le_refl _
  · rw [edOf_zero fun x hx he => hh ⟨x, hx, he⟩]
    exact edOf_nonneg h2 s
section
variable {k : Value → World → Prop} {w : World}
theorem q22 {v : Value} {l : List Q4} {q : Q4} {i j : Nat} {m : Int} {u : Value} (hm : m = (j : Int)) (hs : IsSl fQ w v l) (hx : l[i]? = some q) (hj : j < 4) (hu : (fQ.e q)[j]? = some u) :
    opW Tryz.prog (Instr.indexAt 22 v (I (i : Int))) (fun p w => opW Tryz.prog (Instr.indexAt 59 p (I m)) (fun p w => opW Tryz.prog (Instr.loadAt 3 p) k w) w) w = k u w :=
  w_getArr hm (n := 4) (e := 3) (by kernel_rfl) (by kernel_rfl) (by kernel_rfl) (by kernel_rfl) (by kernel_rfl) (by kernel_rfl) (by kernel_rfl) (by kernel_rfl) hs hx hj hu
theorem q22A {v : Value} {l : List Q4} {q : Q4} {i j : Nat} {m : Int} {u : Value} {w0 : World} {K : Value → Prop} (hm : m = (j : Int)) (hs : IsSl fQ w0 v l) (hx : l[i]? = some q) (hj : j < 4) (hu : (fQ.e q)[j]? = some u) (ha : after w0 w) :
    takeW Tryz.prog anyW (Instr.indexAt 22 v (I (i : Int))) (fun p => takeW Tryz.prog anyW (Instr.indexAt 59 p (I m)) (fun p => takeW Tryz.prog (after w0) (Instr.loadAt 3 p) K w) w) w = K u :=
  t_getArrA hm (n := 4) (e := 3) (by kernel_rfl) (by kernel_rfl) (by kernel_rfl) (by kernel_rfl) (by kernel_rfl) (by kernel_rfl) (by kernel_rfl) (by kernel_rfl) hs hx hj hu ha
theorem RV.stN {n n0 b : Nat} {v : Value} {r r' : Rel} (h : RV n0 b w r) (hv : RelV w v r') (hf : Fr n v) (hnb : ∀ c, relOf v c → c ≠ b) (hk : ∀ w', Only b w w' → RV n b w' r' → k undef w') : opU Tryz.prog (Instr.storeAt 27 (.pointer (some ⟨b, 0, none⟩)) v) k w := by
  obtain ⟨x, h1, h2, h3⟩ := h
  obtain ⟨y, rfl⟩ := hv.raw
  exact sr27 (vs := fR.e y) rfl h1 rfl (eR.one y) fun w' ho hr => hk w' ho ⟨y, hr, hv.off (Off.only (p := (· = b)) ho rfl) hnb, hf⟩
/-- what of a relay goes on to the next -/
def goesOn (r nx : Rel) : Prop := (∀ s, edOf r.kept s ≤ edOf nx.kept s) ∧ ∀ s ∈ r.slips, s ∈ nx.slips
theorem s5 {xv mv : Value} {xs ms : List Q4} (hg : Gl w) (hx : IsSl fQ w xv xs) (hm : IsSl fQ w mv ms) (hok : ∀ q ∈ xs, okQ q) (hokm : ∀ q ∈ ms, okQ q) (hk : ∀ w', Below w.heap.size w w' → k (.bool true) w') : S5 xv mv k w := by
  unfold S5
  refine c10 hg fun w1 hb1 => ?_
  rw [w_not, Bool.not_true, condW_false]
  refine c12 (hx.below hb1) hok fun lv w2 rs hb2 hrs h3 => ?_
  have hb02 := below_trans hb1 hb2
  have hg2 := hg.below hb02 hg.2
  obtain ⟨ys, hsl, hys⟩ := hrs
  obtain ⟨r0, hr0, hgr0, hpap0⟩ := h3.at (i := 0) (by omega)
  obtain ⟨x, hxk, hrv⟩ := hys.at hr0
  rw [ga34 (i := 0) rfl hsl (by omega) (a := x) hxk]
  refine RV.new (n := 0) (v := agR x) hrv (fun _ _ => Nat.zero_le _) fun w3 hb3 hsz3 R3 => ?_
  refine Loop1.intro (fun n a w' => ∃ (i : Nat) (r : Rel), a = I i ∧ i ≤ 8 ∧ n = 8 - i ∧ Below w2.heap.size w2 w' ∧ RV 0 w2.heap.size w' r ∧ GoodR r) _ ⟨0, r0, rfl, by omega, rfl, hb3, R3, hgr0⟩ ?_
  rintro n _ w4 ⟨i, r, rfl, hi, rfl, hb4, R4, hgr⟩
  refine (len22 (hm.below (below_trans hb02 hb4))).mpr ?_
  rw [w_lss]
  by_cases hlm : i < ms.length
  case' neg =>
    rw [decide_eq_false (by omega)]
    simp only [guardW_ft, guardW_u, pickW_false, condW_false]
    exact hk w4 (below_trans hb02 hb4)
  rw [decide_eq_true (by omega)]
  simp only [guardW_tt]
  rw [w_lss]
  by_cases hl8 : i < 8
  case' neg =>
    rw [decide_eq_false (by omega)]
    simp only [pickW_true, condW_false]
    exact hk w4 (below_trans hb02 hb4)
  rw [decide_eq_true (by omega)]
  simp only [pickW_true, condW_true]
  obtain ⟨q, hq⟩ : ∃ q, ms[i]? = some q := ⟨_, List.getElem?_eq_getElem hlm⟩
  obtain ⟨qa, qb, qc, qd⟩ := hokm q (List.mem_of_getElem? hq)
  have hl4 := R4.lt
  refine R4.ld fun v4 hv4 => ?_
  refine RV.new (n := 0) hv4 (fun _ _ => Nat.zero_le _) fun w5 hb5 hsz5 N5 => ?_
  have R5 := R4.below hb5
  have hb25 := hb4.trans (hb5.mono hb4.size)
  have hm5 := hm.below (below_trans hb02 hb25)
  have hg5 := hg2.below hb25 hg2.2
  have hsl5 := hsl.below hb25
  rw [q22 (m := 0) (j := 0) rfl hm5 hq (by omega) rfl]
  refine c33 (by decide) ?_
  have hpk := pickI_range (c := q.a) (n := 3) (by omega) qa
  generalize pickI q.a 3 = op at *
  refine joinW_use1 (Pre := fun ev w' => ∃ nx, ev = I 0 ∧ Below w2.heap.size w2 w' ∧ RV 0 w2.heap.size w' r ∧ RV (w2.heap.size + 1) w4.heap.size w' nx ∧ GoodR nx ∧ goesOn r nx) ?_ ?_
  · rintro _ w6 ⟨nx, rfl, hb6, R6, N6, hgn, hgo⟩
    rw [w_neq]
    simp only [decide_true, Bool.not_true, guardW_ff]
    refine N6.ld fun v6 hv6 => ?_
    refine c15 hv6 hgn.small fun b w7 hb7 hbs => ?_
    obtain rfl : b = true := hbs.2 hgn.valid
    rw [w_not]
    simp only [Bool.not_true, pickW_false, condW_false]
    refine Loop1.intro (fun n a w' => ∃ s : Nat, a = I s ∧ s ≤ 20 ∧ n = 20 - s ∧ Below w6.heap.size w6 w') _ ⟨0, rfl, by omega, rfl, hb7⟩ ?_
    rintro n _ w8 ⟨s, rfl, hs, rfl, hb8⟩
    rw [w_lss]
    by_cases hs20 : s < 20
    · rw [decide_eq_true (by omega), condW_true, drewW_eq]
      have hb9 := hb8.trans (Below.refl _ w8).drew
      generalize w8.drew = w9 at *
      refine ⟨after w9, after_refl _, ?_⟩
      refine (N6.below hb9).la (after_refl _) fun vn hvn => ?_
      refine (R6.below hb9).la (after_refl _) fun vr hvr => ?_
      refine c39 hvn (by have := hgn.k12; omega) fun w10 hb10 => ?_
      rw [keepS_eq]
      refine ⟨hb10, c39 (hvr.below hb10) (by have := hgr.k12; omega) fun w11 hb11 => ?_⟩
      have h11 := below_trans hb10 hb11
      rw [keepS_eq, t_lss, decide_eq_false (by have := hgo.1 s; omega), condW_false]
      refine ⟨h11, ?_⟩
      rw [w_add, wrap_id (by omega), loopK_self]
      exact ⟨20 - (s + 1), by omega, s + 1, by simp [I], by omega, rfl, hb9.trans (h11.mono hb9.size)⟩
    rw [decide_eq_false (by omega), condW_false]
    have hsr := slips_room hgr.ascS hgr.slips
    have hsn := slips_room hgn.ascS hgn.slips
    refine Loop1.intro (fun n a w' => ∃ j : Nat, a = I j ∧ j ≤ r.slips.length ∧ n = r.slips.length - j ∧ Below w6.heap.size w6 w') _ ⟨0, rfl, by omega, rfl, hb8⟩ ?_
    rintro n _ w9 ⟨j, rfl, hj, rfl, hb9⟩
    obtain ⟨kR, sR, rR, hRk, hRs⟩ := (R6.below hb9).open
    obtain ⟨kN, sN, rN, hNk, hNs⟩ := (N6.below hb9).open
    rw [rw27_3 (rR.cell (i := 3) rfl)]
    refine (len25 hRs).mpr ?_
    rw [w_lss]
    by_cases hjl : j < r.slips.length
    · rw [decide_eq_true (by omega), condW_true, drewW_eq]
      obtain ⟨y, hy⟩ : ∃ y, r.slips[j]? = some y := ⟨_, List.getElem?_eq_getElem hjl⟩
      have hb10 := hb9.trans (Below.refl _ w9).drew
      have rR := rR.drew
      have rN := rN.drew
      have hRs := hRs.below (below_drew w9)
      have hNs := hNs.below (below_drew w9)
      generalize w9.drew = w10 at *
      refine ⟨after w10, after_refl _, ?_⟩
      rw [rt27_3 (rN.cell (i := 3) rfl), ra27_3 (rR.cell (i := 3) rfl) (after_refl _), nta25 rfl hRs hy]
      refine c40 (s := y) hNs (by omega) fun w11 hb11 => ?_
      rw [keepS_eq, decide_eq_true (hgo.2 y (List.mem_of_getElem? hy)), t_not]
      refine ⟨hb11, ?_⟩
      simp only [Bool.not_true, condW_false]
      rw [w_add, wrap_id (by omega), loopK_self]
      exact ⟨r.slips.length - (j + 1), by omega, j + 1, by simp [I], by omega, rfl, hb10.trans (hb11.mono hb10.size)⟩
    rw [decide_eq_false (by omega), condW_false]
    have N9 := N6.below hb9
    have hb29 := hb6.trans (hb9.mono hb6.size)
    obtain ⟨y, hyr, hyv, hyf⟩ := N9.v
    rw [ld27 (vs := fR.e y) rfl hyr.cells]
    refine RV.stN (n := 0) (R6.below hb9) hyv (fun _ _ => Nat.zero_le _) (fun c hc => by have := hyf c hc; omega) fun w10 ho10 R10 => ?_
    rw [w_add, wrap_id (by omega), loopK_self]
    exact ⟨8 - (i + 1), by omega, i + 1, nx, by simp [I], by omega, rfl, hb29.trans (ho10.rest _ (Nat.le_refl _)), R10, hgn⟩
  intro J hJ
  have hs4 := hb4.size
  have hs5 := hb5.size
  -- each way: the new relay, into next
  have fin : ∀ (w6 : World) (v6 : Value) (nx : Rel), Below w5.heap.size w5 w6 → RelV w6 v6 nx → Fr w5.heap.size v6 → GoodR nx → goesOn r nx → opU Tryz.prog (Instr.storeAt 27 (.pointer (some ⟨w4.heap.size, 0, none⟩)) v6) (fun _ w => J (I 0) w) w6 := fun w6 v6 nx hb6 hv6 hf6 hg6 hgo => by
    refine RV.stN (n := w2.heap.size + 1) (N5.below hb6) hv6 (fun c hc => by have := hf6 c hc; omega) (fun c hc => by have := hf6 c hc; omega) fun w7 ho7 N7 => ?_
    have hb57 : Below w4.heap.size w5 w7 := (hb6.mono hs5).trans (ho7.rest _ (Nat.le_refl _))
    have hb47 : Below w4.heap.size w4 w7 := hb5.trans hb57
    exact hJ _ _ ⟨nx, rfl, hb4.trans (hb47.mono hs4), R4.below hb47, N7, hg6, hgo⟩
  rw [w_eql]
  by_cases h0 : op = 0
  · rw [decide_eq_true h0, condW_true, drewW_eq]
    have hb56 := below_drew w5
    have R6 := R5.below hb56
    have hm6 := hm5.below hb56
    generalize w5.drew = w6 at *
    refine ⟨after w6, after_refl _, ?_⟩
    refine R6.la (after_refl _) fun vr hvr => ?_
    rw [q22A (m := 2) (j := 2) rfl hm6 hq (by omega) rfl (after_refl _), q22A (m := 3) (j := 3) rfl hm6 hq (by omega) rfl (after_refl _), b23, keepS_eq]
    refine ⟨after_refl _, c22 (x0 := q.c) (x1 := q.d) qc qd fun w7 hb7 => ?_⟩
    rw [keepS_eq]
    refine ⟨hb7, c23 (d := madeD q.c q.d) (hvr.below hb7) hgr.small fun v8 w8 e8 r8 hb8 hp8 hv8 hf8 => ?_⟩
    obtain ⟨rfl, g1, g2, g3, g4, g5⟩ := putR_good hgr (madeD_made qc qd) hp8
    have h68 := below_trans hb7 hb8
    rw [keepS_eq, t_extract (v := v8) rfl, t_extract (v := I 0) rfl]
    refine ⟨h68, fin w8 v8 r8 (below_trans hb56 h68) hv8 (fun c hc => Nat.le_trans (below_trans hb56 hb7).size (hf8 c hc)) g1 ⟨fun s => ?_, fun s hs => by rw [g3]; exact hs⟩⟩
    exact edOf_merge hgr.ascK (List.pairwise_singleton _ _) hgr.kept (by simpa using madeD_made qc qd) g2 s
  rw [decide_eq_false h0, condW_false, w_eql]
  by_cases h1 : op = 1
  · rw [decide_eq_true h1, condW_true, q22 (m := 1) (j := 1) rfl hm5 hq (by omega) rfl]
    refine c33 (by decide) ?_
    have hpj := pickI_range (c := q.b) (n := 3) (by omega) qb
    obtain ⟨j, hj⟩ := Int.eq_ofNat_of_zero_le hpj.1
    rw [hj]
    obtain ⟨s, hs, hgs, _⟩ := h3.at (i := j) (by omega)
    obtain ⟨y, hyk, hsv⟩ := hys.at hs
    rw [na34 rfl hsl5 hyk]
    refine c31 (r := s) (hsv.below hb25) hgs.small fun v6 w6 e p hb6 htl hv6 hf6 => ?_
    obtain ⟨rfl, rfl, hgk⟩ := tell_good hgs htl
    obtain ⟨k6, s6, rfl, h6, h6'⟩ := hv6
    rw [w_extract (v := .agg #[I s.id, k6, s6]) rfl, w_extract (v := I 0) rfl]
    refine w_var (vs := [I s.id, k6, s6]) hz29 (by rw [zc29]; rfl) (oneK h6 h6') size29 known29 fun w7 hb7 hsz7 hr7 => ?_
    have hb57 := below_trans hb6 hb7
    rw [w_neq]
    simp only [decide_true, Bool.not_true, condW_false]
    refine (R5.below hb57).ld fun vr hvr => ?_
    rw [ld29 (vs := [I s.id, k6, s6]) rfl hr7.cells]
    refine c27 (p := ⟨s.id, s.kept, s.slips⟩) hvr ⟨k6, s6, rfl, h6.below hb7, h6'.below hb7⟩ hgr.small hgk.small fun v8 w8 e8 r8 hb8 hp8 hv8 hf8 => ?_
    obtain ⟨rfl, g1, g2, g3, g4, g5⟩ := hear_good hgr hgk hp8
    rw [w_extract (v := v8) rfl, w_extract (v := I 0) rfl]
    obtain ⟨so, hso, i1, i2, i3⟩ := mergeP_made hgr.ascS hgk.ascS hgr.slips hgk.slips
    rw [hso] at g3
    have g3 := (Option.some.inj g3).symm
    refine fin w8 v8 r8 (below_trans hb57 hb8) hv8 (fun c hc => Nat.le_trans hb57.size (hf8 c hc)) g1 ⟨fun s => edOf_merge hgr.ascK hgk.ascK hgr.kept hgk.kept g2 s, fun s hs => by rw [g3]; exact (i3 s).2 (.inl hs)⟩
  rw [decide_eq_false h1, condW_false, w_eql]
  have h2 : op = 2 := by omega
  rw [decide_eq_true h2, condW_true]
  refine R5.ld fun vr hvr => ?_
  refine c29 hvr hg5 hgr.small hgr.k12 fun v6 dv w6 e6 r6 done hb6 hp6 hv6 hdv6 hf6 hfd => ?_
  obtain ⟨rfl, _, g1, g2, g3, g4, g5, _⟩ := print_good hgr hp6
  rw [w_extract (v := v6) rfl, w_extract (v := dv) rfl, w_extract (v := I 0) rfl]
  exact fin w6 v6 r6 hb6 hv6 hf6 g4 ⟨fun s => by rw [g3]; exact Int.le_refl _, fun s hs => (g5 s).2 (.inl hs)⟩
end
end Go.Proofs.YtklknkmeljjmgaaGreatDoor
