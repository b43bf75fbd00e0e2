/- Part 7 of the proof of relayReceipts: lemmas for it; no condition beyond the statement. -/
import Derived.Test.YtklknkmeljjmgaaGreatDoorKd5
/- Calls whose relay goes into a new variable. -/
set_option linter.unusedSimpArgs false
set_option linter.unusedVariables false
namespace Go.Proofs.YtklknkmeljjmgaaGreatDoor
open Go Go.V Go.RowKit
/-- a call that gives a relay and an error -/
def ResC (F : Value) (args : Array Value) (R : Int → Rel → Prop) (w0 : World) : Prop :=
  ∀ w1 k, after w0 w1 → (∀ v' w' e r', Below w1.heap.size w1 w' → R e r' → RelV w' v' r' → Fr w1.heap.size v' → k (.tuple #[v', I e]) w') → callW Tryz.prog F args k w1
/-- the variable under way -/
def NS (w0 w : World) (c : Option Nat) : Prop := after w0 w ∧ ∀ x, c = some x → RowAt w x 27 [I 0, I 0, .slice none 0 0, .slice none 0 0] ∧ w0.heap.size ≤ x
section
variable {k : Value → World → Prop} {w w0 : World} {c : Option Nat}
theorem ns_pick {a n : Int} {K : Value → World → Prop} (hn : n ≠ 0) (h : NS w0 w c) (hk : NS w0 w c → K (I (pickI a n)) w) : callW Tryz.prog (.func (.func 33) #[] #[]) #[I a, I n] (fun t w => keepS (after w0) (fun w => K t w) w) w :=
  c33 hn (by rw [keepS_eq]; exact ⟨h.1, hk h⟩)
theorem ns_al {K : Value → World → Prop} (h : NS w0 w none) (hk : ∀ x w', NS w0 w' (some x) → K (.pointer (some ⟨x, 0, none⟩)) w') : opW Tryz.prog (Instr.alloc 27 true (.tuple #[])) (fun s w => keepS (after w0) (fun w => K s w) w) w := by
  refine al27 fun w1 hb1 hs1 hr1 => ?_
  have hs := h.1.size
  have ha := h.1.trans (hb1.mono hs)
  rw [keepS_eq]
  exact ⟨ha, hk _ w1 ⟨ha, fun x e => by cases e; exact ⟨hr1, hs⟩⟩⟩
theorem NS.start (w : World) : NS w w none := ⟨after_refl _, fun _ h => by cases h⟩
theorem resRefill {v : Value} {r : Rel} {n : Int} (hv : RelV w v r) (hs : small r) : ResC (.func (.func 34) #[] #[]) #[v, I n] (refillR r n) w := fun w1 k ha hk => c34 (hv.below ha) hs hk
theorem RV.la {n b : Nat} {r : Rel} {K : Value → Prop} (h : RV n b w0 r) (ha : after w0 w) (hk : ∀ v, RelV w0 v r → K v) : takeW Tryz.prog (after w0) (Instr.loadAt 27 (.pointer (some ⟨b, 0, none⟩))) K w := by
  obtain ⟨x, h1, h2, h3⟩ := h
  rw [la27 (vs := fR.e x) rfl h1.cells ha]
  exact hk _ h2
end
end Go.Proofs.YtklknkmeljjmgaaGreatDoor
/- RelayPaper. -/
set_option linter.unusedSimpArgs false
set_option linter.unusedVariables false
namespace Go.Proofs.YtklknkmeljjmgaaGreatDoor
open Go Go.V Go.RowKit
section
variable {k : Value → World → Prop} {w : World}
theorem Three.at {n : Nat} {rs : List Rel} (h : Three n rs) {i : Nat} (hi : i < 3) : ∃ r, rs[i]? = some r ∧ GoodR r ∧ r.paper ≤ 5 + 4 * n := by
  have hl := h.len
  exact ⟨_, List.getElem?_eq_getElem (by omega), h.good _ (List.getElem_mem _), h.paper _ (List.getElem_mem _)⟩
theorem GoodR.k12 {r : Rel} (h : GoodR r) : r.kept.length ≤ 12 := by have := kept_room h.ascK h.kept; omega
end
end Go.Proofs.YtklknkmeljjmgaaGreatDoor
/- RelayContradicts. -/
set_option linter.unusedSimpArgs false
set_option linter.unusedVariables false
namespace Go.V
open Go Go.RowKit
end Go.V
namespace Go.Proofs.YtklknkmeljjmgaaGreatDoor
open Go Go.V Go.RowKit
theorem resPut {w : World} {v : Value} {r : Rel} {d : Disp} (hv : RelV w v r) (hs : small r) : ResC (.func (.func 23) #[] #[]) #[v, agD d] (putR r d) w := fun w1 k ha hk => c23 (hv.below ha) hs hk
section
variable {k : Value → World → Prop} {w : World}
end
end Go.Proofs.YtklknkmeljjmgaaGreatDoor
/- RelayNeverBack. -/
set_option linter.unusedSimpArgs false
set_option linter.unusedVariables false
namespace Go.V
open Go Go.RowKit
section
variable {P : Program} {k : Value → World → Prop} {K : Value → Prop} {w w0 : World} {α : Type} {F : Fl α} {v u : Value} {l : List α} {t at' e ft : TypeId} {n : Nat} {q q' : IntKind} {i j : Nat} {m : Int} {a : α}
theorem t_getArrA (hm : m = (j : Int)) (h : isSliceT P t = true) (he : known P (elemT P t) = true) (hz : sizeT P (elemT P t) = F.sz) (ht : P.underlying at' = some (.array n e)) (hke : known P e = true) (hse : sizeT P e = 1) (hg : isAggT P ft = false) (hk : known P ft = true)
    (hs : IsSl F w0 v l) (hx : l[i]? = some a) (hj : j < n) (hu : (F.e a)[j]? = some u) (ha : after w0 w) :
    takeW P anyW (Instr.indexAt t v (.int q (i : Int))) (fun p => takeW P anyW (Instr.indexAt at' p (.int q' m)) (fun p => takeW P (after w0) (Instr.loadAt ft p) K w) w) w = K u := by
  subst hm
  obtain ⟨b, o, c, rfl, hlt, hcl⟩ := hs.at (i := (i : Int)) (by omega) (by simpa using hx)
  rw [takeW_pure (run_index h he (by omega) hlt), hz, takeW_pure (run_indexArr ht hke (by omega) (by omega)), hse, Nat.mul_one]
  simp only [Int.toNat_natCast] at hcl ⊢
  exact r_loadA hg hk (by rw [hcl j u hu]) ha
end
end Go.V
namespace Go.Proofs.YtklknkmeljjmgaaGreatDoor
open Go Go.V Go.RowKit
theorem edOf_of_mem {l : List Disp} (ha : Asc cmpD l) {x : Disp} (hx : x ∈ l) : edOf l x.story = x.ed := by
  induction l with
  | nil => cases hx
  | cons d l ih =>
    obtain ⟨h1, h2⟩ := List.pairwise_cons.1 ha
    rw [edOf]
    rcases List.mem_cons.1 hx with rfl | hx
    · rw [if_pos rfl]
    · have := cmpD_lt.1 (h1 x hx)
      rw [if_neg (by omega)]; exact ih h2 hx
section
variable {k : Value → World → Prop} {w : World}
theorem q22A {v : Value} {l : List Q4} {q : Q4} {i j : Nat} {m : Int} {u : Value} {w0 : World} {K : Value → Prop} (hm : m = (j : Int)) (hs : IsSl fQ w0 v l) (hx : l[i]? = some q) (hj : j < 4) (hu : (fQ.e q)[j]? = some u) (ha : after w0 w) :
    takeW Tryz.prog anyW (Instr.indexAt 22 v (I (i : Int))) (fun p => takeW Tryz.prog anyW (Instr.indexAt 59 p (I m)) (fun p => takeW Tryz.prog (after w0) (Instr.loadAt 3 p) K w) w) w = K u :=
  t_getArrA hm (n := 4) (e := 3) (by kernel_rfl) (by kernel_rfl) (by kernel_rfl) (by kernel_rfl) (by kernel_rfl) (by kernel_rfl) (by kernel_rfl) (by kernel_rfl) hs hx hj hu ha
end
end Go.Proofs.YtklknkmeljjmgaaGreatDoor
/- RelayReceipts. -/
set_option linter.unusedSimpArgs false
set_option linter.unusedVariables false
namespace Go.Proofs.YtklknkmeljjmgaaGreatDoor
open Go Go.V Go.RowKit
section
variable {k : Value → World → Prop} {w w0 : World} {c : Option Nat}
theorem NS.new {w' : World} (h : NS w0 w c) (hb : Below w.heap.size w w') : NS w0 w' c := ⟨h.1.trans (hb.mono h.1.size), fun x e => ⟨(h.2 x e).1.below hb, (h.2 x e).2⟩⟩
theorem ns_b23 {a b : Int} {K : Value → World → Prop} (h : NS w0 w c) (hk : NS w0 w c → K (kv (a, b)) w) : opW Tryz.prog (Instr.build 23 #[(0, I a), (1, I b)]) (fun t w => keepS (after w0) (fun w => K t w) w) w := by
  rw [b23, keepS_eq]; exact ⟨h.1, hk h⟩
theorem ns_made {a b : Int} {K : Value → World → Prop} (ha : in64 a) (hb : in64 b) (h : NS w0 w c) (hk : ∀ w', NS w0 w' c → K (agD (madeD a b)) w') : callW Tryz.prog (.func (.func 22) #[] #[]) #[kv (a, b)] (fun t w => keepS (after w0) (fun w => K t w) w) w :=
  c22 ha hb fun w1 hb1 => by rw [keepS_eq]; exact ⟨(h.new hb1).1, hk w1 (h.new hb1)⟩
theorem ns_callAk {F : Value} {args : Array Value} {R : Int → Rel → Prop} {J : Value → Value → World → Prop} (hc : ResC F args R w0) (h : NS w0 w none)
    (hJ : ∀ x w' e r', after w0 w' → R e r' → RV w0.heap.size x w' r' → w0.heap.size ≤ x → J (.pointer (some ⟨x, 0, none⟩)) (I e) w') :
    callW Tryz.prog F args (fun t w => keepS (after w0) (fun w => takeW Tryz.prog anyW (Instr.extract t 0) (fun a => takeW Tryz.prog anyW (Instr.extract t 1) (fun b => opW Tryz.prog (Instr.alloc 27 true (.tuple #[])) (fun x w => keepS (after w0) (fun w => opU Tryz.prog (Instr.storeAt 27 x a) (fun _ w => J x b w) w) w) w) w) w) w) w := by
  refine hc w _ h.1 fun v' w1 e r' hb1 hR hv' hf => ?_
  have hs := h.1.size
  have ha1 := h.1.trans (hb1.mono hs)
  have hs1 := hb1.size
  rw [keepS_eq, t_extract (v := v') rfl, t_extract (v := I e) rfl]
  refine ⟨ha1, ?_⟩
  obtain ⟨y, rfl⟩ := hv'.raw
  refine al27 fun w2 hb2 hs2 hr2 => ?_
  rw [keepS_eq]
  have ha2 := ha1.trans (hb2.mono ha1.size)
  refine ⟨ha2, ?_⟩
  refine sr27 (vs := fR.e y) rfl hr2 rfl (eR.one y) fun w3 ho3 hr3 => ?_
  have hb13 : Below w1.heap.size w1 w3 := hb2.trans (ho3.rest _ (Nat.le_refl _))
  exact hJ _ _ e r' (ha2.trans (ho3.rest _ ha1.size)) hR ⟨y, hr3, hv'.below hb13, fun b hb => Nat.le_trans hs (hf b hb)⟩ ha1.size
theorem ns_callBk {F : Value} {args : Array Value} {R : Int → Rel → Prop} {J : Value → Value → World → Prop} {x : Nat} (hc : ResC F args R w0) (h : NS w0 w (some x))
    (hJ : ∀ x w' e r', after w0 w' → R e r' → RV w0.heap.size x w' r' → w0.heap.size ≤ x → J (.pointer (some ⟨x, 0, none⟩)) (I e) w') :
    callW Tryz.prog F args (fun t w => keepS (after w0) (fun w => takeW Tryz.prog anyW (Instr.extract t 0) (fun a => takeW Tryz.prog anyW (Instr.extract t 1) (fun b => opU Tryz.prog (Instr.storeAt 27 (.pointer (some ⟨x, 0, none⟩)) a) (fun _ w => J (.pointer (some ⟨x, 0, none⟩)) b w) w) w) w) w) w := by
  refine hc w _ h.1 fun v' w1 e r' hb1 hR hv' hf => ?_
  obtain ⟨hr, hx⟩ := h.2 x rfl
  have hl := hr.lt
  have hs := h.1.size
  have ha1 := h.1.trans (hb1.mono hs)
  rw [keepS_eq, t_extract (v := v') rfl, t_extract (v := I e) rfl]
  refine ⟨ha1, ?_⟩
  obtain ⟨y, rfl⟩ := hv'.raw
  refine sr27 (vs := fR.e y) rfl (hr.below hb1) rfl (eR.one y) fun w3 ho3 hr3 => ?_
  exact hJ _ _ e r' (ha1.trans (ho3.rest _ hx)) hR ⟨y, hr3, hv'.off (Off.only ho3 rfl) fun b hb he => by have := hf b hb; omega, fun b hb => Nat.le_trans hs (hf b hb)⟩ hx
end
theorem nodup_count {α : Type} [DecidableEq α] {l : List α} (h : l.Pairwise (· ≠ ·)) (x : α) : l.count x = if x ∈ l then 1 else 0 := by
  induction l with
  | nil => simp
  | cons y l ih =>
    obtain ⟨h1, h2⟩ := List.pairwise_cons.1 h
    rw [List.count_cons, ih h2]
    by_cases hxy : y = x
    · subst hxy
      have : y ∉ l := fun hm => h1 y hm rfl
      simp [this]
    · have h3 : ¬ x = y := fun hh => hxy hh.symm
      simp [hxy, h3]
theorem len_union {α : Type} [DecidableEq α] {l a b : List α} (hl : l.Pairwise (· ≠ ·)) (ha : a.Pairwise (· ≠ ·)) (hb : b.Pairwise (· ≠ ·)) (hd : ∀ x ∈ a, x ∉ b) (h : ∀ x, x ∈ l ↔ x ∈ a ∨ x ∈ b) : l.length = a.length + b.length := by
  rw [← List.length_append]
  refine List.Perm.length_eq (List.perm_iff_count.2 fun x => ?_)
  rw [List.count_append, nodup_count hl, nodup_count ha, nodup_count hb]
  by_cases h1 : x ∈ a
  · have h2 := hd x h1
    rw [if_pos ((h x).2 (.inl h1)), if_pos h1, if_neg h2]
  · by_cases h2 : x ∈ b
    · rw [if_pos ((h x).2 (.inr h2)), if_neg h1, if_pos h2]
    · rw [if_neg (fun hh => ((h x).1 hh).elim h1 h2), if_neg h1, if_neg h2]
theorem asc_nodup {α : Type} {c : α → α → Int} (h : Cmp c) {l : List α} (hl : Asc c l) : l.Pairwise (· ≠ ·) := List.Pairwise.imp (fun {a b} (hh : c a b < 0) he => by subst he; exact h.irr _ hh) hl
theorem wait_stories {r : Rel} (h : StoreP r.kept) : (waitL r).Pairwise fun x y => x.story ≠ y.story := by
  have h5 := waitL_asc h
  refine List.Pairwise.imp_of_mem (fun {x y} hx hy hxy hss => ?_) h5
  have hx' := waitL_sub h hx
  have hy' := waitL_sub h hy
  have ha : r.kept.Pairwise fun x y => x.story < y.story := h.asc
  rw [List.pairwise_iff_getElem] at ha
  obtain ⟨i, hi, rfl⟩ := List.getElem_of_mem hx'
  obtain ⟨j, hj, rfl⟩ := List.getElem_of_mem hy'
  rcases Nat.lt_trichotomy i j with hij | hij | hij
  · have := ha i j hi hj hij; omega
  · subst hij; rw [cmpC_lt] at hxy; omega
  · have := ha j i hj hi hij; omega
/-- what is printed: receipts -/
theorem print_receipts {q s : Rel} (hq : GoodR q) (hs : GoodR s) (hm : ∀ x, x ∈ s.slips ↔ x ∈ q.slips ∨ x ∈ (printT q.paper (waitL q)).1.map (slipOf q)) : s.slips.length = q.slips.length + (printT q.paper (waitL q)).1.length := by
  have hst := hq.valid.2.2.2.1
  obtain ⟨l', hl⟩ := printT_prefix (waitL q) q.paper
  generalize (printT q.paper (waitL q)).1 = D at *
  have hne : D.Pairwise fun x y => x.story ≠ y.story := by
    have := wait_stories hst
    rw [hl] at this
    exact (List.pairwise_append.1 this).1
  have := len_union (a := q.slips) (b := D.map (slipOf q)) (asc_nodup CP hs.ascS) (asc_nodup CP hq.ascS) (by
    show (D.map (slipOf q)).Pairwise _
    rw [List.pairwise_map]
    exact hne.imp fun hh he => hh (congrArg Slp.story he)) (fun x hx hxd => ?_) hm
  · simpa using this
  · obtain ⟨d, hd, rfl⟩ := List.mem_map.1 hxd
    have hw : d ∈ waitL q := by rw [hl]; simp [hd]
    have hnp := ((waitL_mem hst).1 hw).2
    unfold printedB at hnp
    rw [List.any_eq_false] at hnp
    exact absurd (decide_eq_true (show (slipOf q d).relay = q.id ∧ (slipOf q d).story = d.story ∧ (slipOf q d).ed = d.ed from ⟨rfl, rfl, rfl⟩)) (hnp _ hx)
end Go.Proofs.YtklknkmeljjmgaaGreatDoor
/- RelayReceipts: the walk. -/
set_option linter.unusedSimpArgs false
set_option linter.unusedVariables false
namespace Go.Proofs.YtklknkmeljjmgaaGreatDoor
open Go Go.V Go.RowKit
theorem printed_mono {a b : Rel} (h : ∀ s ∈ a.slips, s ∈ b.slips) (hi : a.id = b.id) {d : Disp} (hp : printedB a d = true) : printedB b d = true := by
  unfold printedB at *
  rw [List.any_eq_true] at *
  obtain ⟨s, hs, hk⟩ := hp
  exact ⟨s, h s hs, by rw [← hi]; exact hk⟩
theorem printed_same {a : Rel} {x d : Disp} (h1 : x.story = d.story) (h2 : x.ed = d.ed) : printedB a x = printedB a d := by
  unfold printedB
  rw [h1, h2]
section
variable {k : Value → World → Prop} {w : World}
theorem s7 {xv mv : Value} {xs ms : List Q4} (hg : Gl w) (hx : IsSl fQ w xv xs) (hm : IsSl fQ w mv ms) (hok : ∀ q ∈ xs, okQ q) (hokm : ∀ q ∈ ms, okQ q) (hk : ∀ w', Below w.heap.size w w' → k (.bool true) w') : S7 xv mv k w := by
  unfold S7
  refine c10 hg fun w1 hb1 => ?_
  rw [w_not, Bool.not_true, condW_false]
  refine c12 (hx.below hb1) hok fun lv w2 rs hb2 hrs h3 => ?_
  have hb02 := below_trans hb1 hb2
  have hg2 := hg.below hb02 hg.2
  obtain ⟨ys, hsl, hys⟩ := hrs
  obtain ⟨r0, hr0, hgr0, hpap0⟩ := h3.at (i := 1) (by omega)
  obtain ⟨x, hxk, hrv⟩ := hys.at hr0
  rw [ga34 (i := 1) rfl hsl (by omega) (a := x) hxk]
  refine RV.new (n := 0) (v := agR x) hrv (fun _ _ => Nat.zero_le _) fun w3 hb3 hsz3 R3 => ?_
  refine Loop2.intro (fun n pv a w' => ∃ (i : Nat) (r : Rel) (P : List Disp), a = I i ∧ i ≤ 8 ∧ n = 8 - i ∧ Below w2.heap.size w2 w' ∧ RV 0 w2.heap.size w' r ∧ GoodR r ∧ r.paper ≤ 85 + 4 * i ∧ Mine fD 31 w' (w2.heap.size + 1) pv P ∧ P.length ≤ 6 * i ∧ ∀ d ∈ P, printedB r d = true) _
    ⟨0, r0, [], rfl, by omega, rfl, hb3, R3, hgr0, by omega, Mine.nil _ _, by simp, by simp⟩ ?_
  rintro n pv _ w4 ⟨i, r, P, rfl, hi, rfl, hb4, R4, hgr, hpap, hpm4, hPl, hPp⟩
  refine (len22 (hm.below (below_trans hb02 hb4))).mpr ?_
  rw [w_lss]
  by_cases hlm : i < ms.length
  case' neg =>
    rw [decide_eq_false (by omega)]
    simp only [guardW_ft, guardW_u, pickW_false, condW_false]
    exact hk w4 (below_trans hb02 hb4)
  rw [decide_eq_true (by omega)]
  simp only [guardW_tt]
  rw [w_lss]
  by_cases hl8 : i < 8
  case' neg =>
    rw [decide_eq_false (by omega)]
    simp only [pickW_true, condW_false]
    exact hk w4 (below_trans hb02 hb4)
  rw [decide_eq_true (by omega)]
  simp only [pickW_true, condW_true]
  obtain ⟨qq, hq⟩ : ∃ q, ms[i]? = some q := ⟨_, List.getElem?_eq_getElem hlm⟩
  obtain ⟨qa, qb, qc, qd⟩ := hokm qq (List.mem_of_getElem? hq)
  have hl4 := R4.lt
  have hs4 := hb4.size
  have hm4 := hm.below (below_trans hb02 hb4)
  have hg4 := hg2.below hb4 hg2.2
  have hpvlt : ∀ c, isOf pv c → c < w4.heap.size := fun c hc => (hpm4.ge hc).2
  refine joinW_use2 (Pre := fun av ev w' => ∃ b p, av = .pointer (some ⟨b, 0, none⟩) ∧ ev = I 0 ∧ Below w4.heap.size w4 w' ∧ RV w4.heap.size b w' p ∧ w4.heap.size ≤ b ∧ GoodR p ∧ p.slips = r.slips ∧ p.id = r.id ∧ p.paper = r.paper) ?_ ?_
  · rintro _ _ w5 ⟨bp, p, rfl, rfl, hb5, P5, hbp, hgp, hps, hpi, hpp⟩
    refine joinW_use2 (Pre := fun av ev w' => ∃ b q, av = .pointer (some ⟨b, 0, none⟩) ∧ ev = I 0 ∧ Below w4.heap.size w4 w' ∧ RV w4.heap.size b w' q ∧ w4.heap.size ≤ b ∧ GoodR q ∧ q.slips = r.slips ∧ q.id = r.id ∧ q.paper ≤ r.paper + 3) ?_ ?_
    · rintro _ _ w6 ⟨bq, q, rfl, rfl, hb6, Q6, hbq, hgq, hqs, hqi, hqp⟩
      refine Q6.ld fun v6 hv6 => ?_
      refine c29 hv6 (hg4.below hb6 hg4.2) hgq.small hgq.k12 fun v7 dv w7 e7 s done hb7 hp7 hv7 hdv hf7 hfd => ?_
      obtain ⟨rfl, rfl, hid, hsp, hsk, hgs, hss, hsw⟩ := print_good hgq hp7
      have hcount := print_receipts hgq hgs hss
      have hdl := printT_len (waitL q) q.paper
      have hrng := printT_range (waitL q) q.paper hgq.paper.1
      have hpre := printT_prefix (waitL q) q.paper
      generalize hD : (printT q.paper (waitL q)).1 = D at *
      have hwl := waitL_len q
      have hkr := kept_room hgq.ascK hgq.kept
      have hs6 := hb6.size
      rw [w_extract (v := v7) rfl, w_extract (v := dv) rfl, w_extract (v := I 0) rfl]
      refine RV.new (n := w4.heap.size) hv7 (fun c hc => by have := hf7 c hc; omega) fun w9 hb9 hsz9 S9' => ?_
      have hb69 := below_trans hb7 hb9
      have hb49 := hb6.trans (hb69.mono hs6)
      have hs9 := hb49.size
      have hbs : w4.heap.size ≤ w7.heap.size := Nat.le_trans hs6 hb7.size
      have Q9 := Q6.below hb69
      have hdv9 := hdv.below hb9
      have hfd' : ∀ c, isOf dv c → w4.heap.size ≤ c := fun c hc => Nat.le_trans hs6 (hfd c hc)
      have R9 := R4.below hb49
      have hpm9 := hpm4.below hb49
      simp only [w_neq, decide_true, Bool.not_true, guardW_ff, pickW_false]
      obtain ⟨kS, sS, rS, hSk, hSs⟩ := S9'.open
      obtain ⟨kQ, sQ, rQ, hQk, hQs⟩ := Q9.open
      rw [rw27_3 (rS.cell (i := 3) rfl)]
      refine (len25 hSs).mpr ?_
      rw [rw27_3 (rQ.cell (i := 3) rfl)]
      refine (len25 hQs).mpr ?_
      refine (len24 hdv9).mpr ?_
      have hqr := slips_room hgq.ascS hgq.slips
      rw [w_add, wrap_id (by omega), w_neq, decide_eq_true (by rw [hcount]; simp), Bool.not_true, condW_false]
      clear rS rQ hSk hSs hQk hQs
      have hDw : ∀ d ∈ D, d ∈ waitL q := fun d hd => by obtain ⟨l', hl'⟩ := hpre; rw [hl']; simp [hd]
      have hDne : D.Pairwise fun x y => x.story ≠ y.story := by
        have := wait_stories hgq.valid.2.2.2.1
        obtain ⟨l', hl'⟩ := hpre
        rw [hl'] at this
        exact (List.pairwise_append.1 this).1
      rw [List.pairwise_iff_getElem] at hDne
      refine Loop2.intro (fun n pv' a w' => ∃ j : Nat, a = I j ∧ j ≤ D.length ∧ n = D.length - j ∧ Off (isOf pv) w9 w' ∧ Below (w2.heap.size + 1) w9 w' ∧ Mine fD 31 w' (w2.heap.size + 1) pv' (P ++ D.take j) ∧ ∀ c, isOf pv' c → isOf pv c ∨ w9.heap.size ≤ c) _
        ⟨0, rfl, by omega, rfl, Off.refl _ _, Below.refl _ _, by simpa using hpm9, fun c hc => .inl hc⟩ ?_
      rintro n pv' _ w10 ⟨j, rfl, hj, rfl, hof, hbo, hpm, hpo⟩
      have hs910 := hof.size
      have nOf : ∀ c, w4.heap.size ≤ c → ¬ isOf pv c := fun c hc hh => by have := hpvlt c hh; omega
      have hdv10 := hdv9.off hof fun c hc => nOf c (hfd' c hc)
      refine (len24 hdv10).mpr ?_
      rw [w_lss]
      by_cases hjl : j < D.length
      · rw [decide_eq_true (by omega), condW_true, drewW_eq]
        obtain ⟨d, hd⟩ : ∃ d, D[j]? = some d := ⟨_, List.getElem?_eq_getElem hjl⟩
        have hdw := hDw d (List.mem_of_getElem? hd)
        have hdk := waitL_sub hgq.valid.2.2.2.1 hdw
        have hdm := hgq.kept d hdk
        have hdn := ((waitL_mem hgq.valid.2.2.2.1).1 hdw).2
        have hof := hof.trans (off_drew _ w10)
        have hbo := hbo.trans (Below.refl _ w10).drew
        have hpm := hpm.below (below_drew w10)
        have hdv10 := hdv10.below (below_drew w10)
        have hs910 : w9.heap.size ≤ w10.drew.heap.size := hs910
        generalize w10.drew = w11 at *
        have S11 := S9'.off hof (nOf _ hbs) nOf
        have Q11 := Q9.off hof (nOf _ hbq) nOf
        have hR11 : RV 0 w2.heap.size w9 r := R9
        obtain ⟨kS, sS, rS, hSk, hSs⟩ := S11.open
        obtain ⟨kQ, sQ, rQ, hQk, hQs⟩ := Q11.open
        obtain ⟨kR, sR, rR9, hRk, hRs⟩ := R9.open
        have rR : RowAt w11 w2.heap.size 27 [I r.id, I r.paper, kR, sR] := rR9.off hof fun hh => by have := (hpm4.ge hh).1; omega
        have hg11 : Gl w11 := (hg4.below hb49 hg4.2).below hbo (by have := hg2.2; omega)
        refine ⟨after w11, after_refl _, ?_⟩
        rw [ra27_3 (rS.cell (i := 3) rfl) (after_refl _), ra27_0 (rR.cell (i := 0) rfl) (after_refl _)]
        rw [t_getFA (F := fD) (x := 0) (by kernel_rfl) (by kernel_rfl) (by kernel_rfl) (by kernel_rfl) (by kernel_rfl) (by kernel_rfl) hdv10 hd rfl (after_refl _), t_getFA (F := fD) (x := 1) (by kernel_rfl) (by kernel_rfl) (by kernel_rfl) (by kernel_rfl) (by kernel_rfl) (by kernel_rfl) hdv10 hd rfl (after_refl _), t_getFA (F := fD) (x := 3) (by kernel_rfl) (by kernel_rfl) (by kernel_rfl) (by kernel_rfl) (by kernel_rfl) (by kernel_rfl) hdv10 hd rfl (after_refl _)]
        refine c41 hg11 (by have := hdm.right.2.2.2; omega) fun w12 hb12 => ?_
        rw [keepS_eq, b63, keepS_eq]
        refine ⟨hb12, hb12, ?_⟩
        have hsr := slips_room hgs.ascS hgs.slips
        refine c40 (s := ⟨r.id, d.story, d.ed, shaF d.text⟩) (hSs.below hb12) (by omega) fun w13 hb13 => ?_
        have h13 := below_trans hb12 hb13
        have hin : (⟨r.id, d.story, d.ed, shaF d.text⟩ : Slp) ∈ s.slips := by
          refine (hss _).2 (.inr (List.mem_map.2 ⟨d, List.mem_of_getElem? hd, ?_⟩))
          unfold slipOf; rw [hqi]
        rw [keepS_eq, decide_eq_true hin, t_not]
        refine ⟨h13, ?_⟩
        simp only [Bool.not_true, guardT_ff, guardW_ff]
        rw [xld27 (vs := [I q.id, I q.paper, kQ, sQ]) rfl (rQ.below h13).cells, nt24_0 rfl (hdv10.below h13) hd rfl, t_getFA (F := fD) (x := 1) (by kernel_rfl) (by kernel_rfl) (by kernel_rfl) (by kernel_rfl) (by kernel_rfl) (by kernel_rfl) hdv10 hd rfl h13]
        refine c39 (r := q) ⟨kQ, sQ, rfl, hQk.below h13, hQs.below h13⟩ (by omega) fun w14 hb14 => ?_
        have h14 := below_trans h13 hb14
        rw [keepS_eq, t_neq, decide_eq_true (edOf_of_mem hgq.ascK hdk)]
        refine ⟨h14, ?_⟩
        simp only [Bool.not_true, pickT_false, condW_false]
        have hpm14 := hpm.below h14
        have hdv14 := hdv10.below h14
        have htl : (D.take j).length ≤ 6 := by rw [List.length_take]; omega
        have hlp : (P ++ D.take j).length ≤ 60 := by rw [List.length_append]; omega
        refine Loop1.intro (fun n a w' => ∃ m : Nat, a = I m ∧ m ≤ (P ++ D.take j).length ∧ n = (P ++ D.take j).length - m ∧ Below w14.heap.size w14 w') _ ⟨0, rfl, by omega, rfl, Below.refl _ _⟩ ?_
        rintro n _ w15 ⟨m, rfl, hmm, rfl, hb15⟩
        refine (len24 (hpm14.below hb15).sl).mpr ?_
        rw [w_lss]
        by_cases hml : m < (P ++ D.take j).length
        · rw [decide_eq_true (by omega), condW_true, drewW_eq]
          obtain ⟨z, hz⟩ : ∃ z, (P ++ D.take j)[m]? = some z := ⟨_, List.getElem?_eq_getElem hml⟩
          have hb16 := hb15.trans (Below.refl _ w15).drew
          generalize w15.drew = w16 at *
          have hzn : ¬ (z.story = d.story ∧ z.ed = d.ed) := by
            rintro ⟨hz1, hz2⟩
            rcases List.mem_append.1 (List.mem_of_getElem? hz) with hzP | hzD
            · have h1 := hPp z hzP
              rw [printed_same hz1 hz2] at h1
              have h2 := printed_mono (a := r) (b := q) (fun s hs => by rw [hqs]; exact hs) hqi.symm h1
              rw [h2] at hdn; cases hdn
            · obtain ⟨t, ht, hte⟩ := List.getElem_of_mem hzD
              rw [List.getElem_take] at hte
              rw [List.length_take] at ht
              have h1 := hDne t j (by omega) hjl (by omega)
              rw [hte, (List.getElem?_eq_some_iff.1 hd).2] at h1
              exact h1 hz1
          rw [nt24_0 rfl (hpm14.below hb16).sl hz rfl, nt24_0 rfl (hdv14.below hb16) hd rfl, t_eql]
          by_cases h1 : z.story = d.story
          case' pos =>
            rw [decide_eq_true h1]
            simp only [guardT_tt]
            rw [nt24_1 rfl (hpm14.below hb16).sl hz rfl, nt24_1 rfl (hdv14.below hb16) hd rfl, t_eql, decide_eq_false fun h2 => hzn ⟨h1, h2⟩]
            simp only [pickT_true, condW_false]
          case' neg =>
            rw [decide_eq_false h1]
            simp only [guardT_ft, guardT_u, pickT_false, condW_false]
          all_goals
            rw [w_add, wrap_id (by omega), loopK_self]
            exact ⟨(P ++ D.take j).length - (m + 1), by omega, m + 1, by simp [I], by omega, rfl, hb16⟩
        · rw [decide_eq_false (by omega), condW_false, na24 rfl (hdv14.below hb15) hd]
          have hpm15 := hpm14.below hb15
          have h15 := below_trans h14 hb15
          have hs11 : w2.heap.size + 1 ≤ w11.heap.size := by have := hbo.size; omega
          have hs15 := h15.size
          refine Mine.push sty24 (eD.one d) rfl (by decide) hpm15 (by omega) (by unfold maxLen; omega) (by omega) fun pv2 w17 hpm17 hb17 hof17 hnew17 => ?_
          rw [w_add, wrap_id (by omega), loopK_self]
          have hs17 := hof17.size
          refine ⟨D.length - (j + 1), by omega, j + 1, by simp [I], by omega, rfl, ⟨by omega, fun b hb hn => ?_⟩, (hbo.trans (h15.mono hs11)).trans hb17, ?_, fun c hc => ?_⟩
          · rw [hof17.block b (by omega) (fun hh => (hpo b hh).elim hn (by omega)), h15.block b (by omega), hof.block b hb hn]
          · rw [List.take_add_one, hd, ← List.append_assoc]; exact hpm17
          · rcases hnew17 c hc with h | h
            · exact hpo c h
            · exact .inr (by omega)
      · rw [decide_eq_false (by omega), condW_false]
        rw [List.take_of_length_le (by omega)] at hpm
        have S10 := S9'.off hof (nOf _ hbs) nOf
        obtain ⟨y, hyr, hyv, hyf⟩ := S10.v
        rw [ld27 (vs := fR.e y) rfl hyr.cells]
        have R10 : RV 0 w2.heap.size w10 zeroR ∨ True := .inr trivial
        obtain ⟨xr, hxr, _, _⟩ := R9.v
        have hxr10 := hxr.off hof fun hh => by have := (hpm4.ge hh).1; omega
        refine sr27 (vs := fR.e y) rfl hxr10 rfl (eR.one y) fun w11 ho11 hr11 => ?_
        have hof11 : Off (· = w2.heap.size) w10 w11 := Off.only ho11 rfl
        rw [w_add, wrap_id (by omega), loopK_self]
        have hb210 : Below w2.heap.size w2 w10 := (hb4.trans (hb49.mono (by omega))).trans (hbo.mono (by omega))
        refine ⟨8 - (i + 1), by omega, i + 1, s, P ++ D, by simp [I], by omega, rfl, hb210.trans (ho11.rest _ (Nat.le_refl _)), ⟨y, hr11, hyv.off hof11 fun c hc he => by have := hyf c hc; omega, fun _ _ => Nat.zero_le _⟩, hgs, by rw [hsp]; omega, hpm.off hof11 fun c hc he => by have := (hpm.ge hc).1; omega, by rw [List.length_append]; omega, fun z hz => ?_⟩
        rcases List.mem_append.1 hz with hzP | hzD
        · exact printed_mono (a := r) (b := s) (fun t ht => (hss t).2 (.inl (by rw [hqs]; exact ht))) (by rw [hid, hqi]) (hPp z hzP)
        · unfold printedB
          rw [List.any_eq_true]
          exact ⟨slipOf q z, (hss _).2 (.inr (List.mem_map_of_mem hzD)), decide_eq_true ⟨hid.symm, rfl, rfl⟩⟩
    intro J hJ
    rw [drewW_eq]
    have hb56 := below_drew w5
    have P6 := P5.below hb56
    have hb46 := hb5.trans (hb56.mono hb5.size)
    have hm6 := hm4.below hb46
    generalize w5.drew = w6 at *
    refine ⟨after w6, after_refl _, ?_⟩
    refine P6.la (after_refl _) fun v hv => ?_
    rw [q22A (m := 1) (j := 1) rfl hm6 hq (by omega) rfl (after_refl _)]
    have hn := NS.start w6
    have hpk := pickI_range (c := qq.b) (n := 4) (by omega) qb
    generalize hn1 : pickI qq.b 4 = n1 at *
    have fin : ∀ x w' e r', after w6 w' → refillR p n1 e r' → RV w6.heap.size x w' r' → w6.heap.size ≤ x → J (.pointer (some ⟨x, 0, none⟩)) (I e) w' := fun x w' e r' h1 h2 h3 h4 => by
      obtain ⟨rfl, e2, e3⟩ := refill_good hgp (by omega) h2
      have hs := hb46.size
      obtain ⟨y, g1, g2, g3⟩ := h3
      exact hJ _ _ _ ⟨x, r', rfl, rfl, hb46.trans (h1.mono hs), ⟨y, g1, g2, fun b hb => Nat.le_trans hs (g3 b hb)⟩, by omega, e3, by rw [e2]; exact hps, by rw [e2]; exact hpi, by rw [e2]; show p.paper + n1 ≤ _; omega⟩
    have hres := resRefill (n := n1) hv hgp.small
    repeat' first
      | exact ns_callAk hres (by assumption) fin
      | exact ns_callBk hres (by assumption) fin
      | (refine ns_pick (by omega) (by assumption) fun _ => ?_; rw [hn1])
      | refine ns_al (by assumption) fun _ _ _ => ?_
      | refine And.intro ?_ ?_
  intro J hJ
  rw [drewW_eq]
  have hb45 := below_drew w4
  have R5 := R4.below hb45
  have hm5 := hm4.below hb45
  generalize w4.drew = w5 at *
  refine ⟨after w5, after_refl _, ?_⟩
  refine R5.la (after_refl _) fun v hv => ?_
  rw [q22A (m := 2) (j := 2) rfl hm5 hq (by omega) rfl (after_refl _), q22A (m := 3) (j := 3) rfl hm5 hq (by omega) rfl (after_refl _)]
  have hn := NS.start w5
  have fin : ∀ x w' e r', after w5 w' → putR r (madeD qq.c qq.d) e r' → RV w5.heap.size x w' r' → w5.heap.size ≤ x → J (.pointer (some ⟨x, 0, none⟩)) (I e) w' := fun x w' e r' h1 h2 h3 h4 => by
    obtain ⟨rfl, e2, e3, e4, e5, e6⟩ := putR_good hgr (madeD_made qc qd) h2
    have hs := hb45.size
    obtain ⟨y, g1, g2, g3⟩ := h3
    exact hJ _ _ _ ⟨x, r', rfl, rfl, hb45.trans (h1.mono hs), ⟨y, g1, g2, fun b hb => Nat.le_trans hs (g3 b hb)⟩, by omega, e2, e4, e5, e6⟩
  have hres := resPut (d := madeD qq.c qq.d) hv hgr.small
  repeat' first
    | exact ns_callAk hres (by assumption) fin
    | exact ns_callBk hres (by assumption) fin
    | refine ns_b23 (by assumption) fun _ => ?_
    | refine ns_made qc qd (by assumption) fun _ _ => ?_
    | refine ns_al (by assumption) fun _ _ _ => ?_
    | refine And.intro ?_ ?_
end
end Go.Proofs.YtklknkmeljjmgaaGreatDoor
