/- Part 7 of the proof of relayPaper: lemmas for it; no condition beyond the statement. -/
import Derived.Test.YtklknkmeljjmgaaGreatDoorKp5
/- Calls whose relay goes into a new variable. -/
set_option linter.unusedSimpArgs false
set_option linter.unusedVariables false
namespace Go.Proofs.YtklknkmeljjmgaaGreatDoor
open Go Go.V Go.RowKit
/-- a call that gives a relay and an error -/
def ResC (F : Value) (args : Array Value) (R : Int → Rel → Prop) (w0 : World) : Prop :=
  ∀ w1 k, after w0 w1 → (∀ v' w' e r', Below w1.heap.size w1 w' → R e r' → RelV w' v' r' → Fr w1.heap.size v' → k (.tuple #[v', I e]) w') → callW Tryz.prog F args k w1
/-- the variable under way -/
def NS (w0 w : World) (c : Option Nat) : Prop := after w0 w ∧ ∀ x, c = some x → RowAt w x 27 [I 0, I 0, .slice none 0 0, .slice none 0 0] ∧ w0.heap.size ≤ x
section
variable {k : Value → World → Prop} {w w0 : World} {c : Option Nat}
theorem ns_pick {a n : Int} {K : Value → World → Prop} (hn : n ≠ 0) (h : NS w0 w c) (hk : NS w0 w c → K (I (pickI a n)) w) : callW Tryz.prog (.func (.func 33) #[] #[]) #[I a, I n] (fun t w => keepS (after w0) (fun w => K t w) w) w :=
  c33 hn (by rw [keepS_eq]; exact ⟨h.1, hk h⟩)
theorem ns_al {K : Value → World → Prop} (h : NS w0 w none) (hk : ∀ x w', NS w0 w' (some x) → K (.pointer (some ⟨x, 0, none⟩)) w') : opW Tryz.prog (Instr.alloc 27 true (.tuple #[])) (fun s w => keepS (after w0) (fun w => K s w) w) w := by
  refine al27 fun w1 hb1 hs1 hr1 => ?_
  have hs := h.1.size
  have ha := h.1.trans (hb1.mono hs)
  rw [keepS_eq]
  exact ⟨ha, hk _ w1 ⟨ha, fun x e => by cases e; exact ⟨hr1, hs⟩⟩⟩
theorem ns_callA {F : Value} {args : Array Value} {R : Int → Rel → Prop} {J : Value → Value → World → Prop} (hc : ResC F args R w0) (h : NS w0 w none)
    (hJ : ∀ x w' e r', after w0 w' → R e r' → RV w0.heap.size x w' r' → w0.heap.size ≤ x → J (.pointer (some ⟨x, 0, none⟩)) (I e) w') :
    callW Tryz.prog F args (fun t w => takeW Tryz.prog anyW (Instr.extract t 0) (fun a => takeW Tryz.prog anyW (Instr.extract t 1) (fun b => opW Tryz.prog (Instr.alloc 27 true (.tuple #[])) (fun x w => keepS (after w0) (fun w => opU Tryz.prog (Instr.storeAt 27 x a) (fun _ w => J x b w) w) w) w) w) w) w := by
  refine hc w _ h.1 fun v' w1 e r' hb1 hR hv' hf => ?_
  rw [t_extract (v := v') rfl, t_extract (v := I e) rfl]
  have hs := h.1.size
  have ha1 := h.1.trans (hb1.mono hs)
  have hs1 := hb1.size
  obtain ⟨y, rfl⟩ := hv'.raw
  refine al27 fun w2 hb2 hs2 hr2 => ?_
  rw [keepS_eq]
  have ha2 := ha1.trans (hb2.mono ha1.size)
  refine ⟨ha2, ?_⟩
  refine sr27 (vs := fR.e y) rfl hr2 rfl (eR.one y) fun w3 ho3 hr3 => ?_
  have hb13 : Below w1.heap.size w1 w3 := hb2.trans (ho3.rest _ (Nat.le_refl _))
  exact hJ _ _ e r' (ha2.trans (ho3.rest _ ha1.size)) hR ⟨y, hr3, hv'.below hb13, fun b hb => Nat.le_trans hs (hf b hb)⟩ ha1.size
theorem ns_callB {F : Value} {args : Array Value} {R : Int → Rel → Prop} {J : Value → Value → World → Prop} {x : Nat} (hc : ResC F args R w0) (h : NS w0 w (some x))
    (hJ : ∀ x w' e r', after w0 w' → R e r' → RV w0.heap.size x w' r' → w0.heap.size ≤ x → J (.pointer (some ⟨x, 0, none⟩)) (I e) w') :
    callW Tryz.prog F args (fun t w => takeW Tryz.prog anyW (Instr.extract t 0) (fun a => takeW Tryz.prog anyW (Instr.extract t 1) (fun b => opU Tryz.prog (Instr.storeAt 27 (.pointer (some ⟨x, 0, none⟩)) a) (fun _ w => J (.pointer (some ⟨x, 0, none⟩)) b w) w) w) w) w := by
  refine hc w _ h.1 fun v' w1 e r' hb1 hR hv' hf => ?_
  rw [t_extract (v := v') rfl, t_extract (v := I e) rfl]
  obtain ⟨hr, hx⟩ := h.2 x rfl
  have hl := hr.lt
  have hs := h.1.size
  have ha1 := h.1.trans (hb1.mono hs)
  obtain ⟨y, rfl⟩ := hv'.raw
  refine sr27 (vs := fR.e y) rfl (hr.below hb1) rfl (eR.one y) fun w3 ho3 hr3 => ?_
  exact hJ _ _ e r' (ha1.trans (ho3.rest _ hx)) hR ⟨y, hr3, hv'.off (Off.only ho3 rfl) fun b hb he => by have := hf b hb; omega, fun b hb => Nat.le_trans hs (hf b hb)⟩ hx
theorem NS.start (w : World) : NS w w none := ⟨after_refl _, fun _ h => by cases h⟩
theorem resRefill {v : Value} {r : Rel} {n : Int} (hv : RelV w v r) (hs : small r) : ResC (.func (.func 34) #[] #[]) #[v, I n] (refillR r n) w := fun w1 k ha hk => c34 (hv.below ha) hs hk
theorem RV.la {n b : Nat} {r : Rel} {K : Value → Prop} (h : RV n b w0 r) (ha : after w0 w) (hk : ∀ v, RelV w0 v r → K v) : takeW Tryz.prog (after w0) (Instr.loadAt 27 (.pointer (some ⟨b, 0, none⟩))) K w := by
  obtain ⟨x, h1, h2, h3⟩ := h
  rw [la27 (vs := fR.e x) rfl h1.cells ha]
  exact hk _ h2
end
end Go.Proofs.YtklknkmeljjmgaaGreatDoor
/- RelayPaper. -/
set_option linter.unusedSimpArgs false
set_option linter.unusedVariables false
namespace Go.Proofs.YtklknkmeljjmgaaGreatDoor
open Go Go.V Go.RowKit
section
variable {k : Value → World → Prop} {w : World}
theorem Three.at {n : Nat} {rs : List Rel} (h : Three n rs) {i : Nat} (hi : i < 3) : ∃ r, rs[i]? = some r ∧ GoodR r ∧ r.paper ≤ 5 + 4 * n := by
  have hl := h.len
  exact ⟨_, List.getElem?_eq_getElem (by omega), h.good _ (List.getElem_mem _), h.paper _ (List.getElem_mem _)⟩
theorem GoodR.k12 {r : Rel} (h : GoodR r) : r.kept.length ≤ 12 := by have := kept_room h.ascK h.kept; omega
/-- a variable printed: what is printed, and the relay after it, in its variable -/
theorem RV.print {n b : Nat} {r : Rel} {J : Value → Value → World → Prop} {w0 : World} (h : RV n b w r) (hg : Gl w) (hr : GoodR r) (h0 : Below w0.heap.size w0 w) (hb0 : w0.heap.size ≤ b)
    (hk : ∀ dv w' r', Below w0.heap.size w0 w' → RV 0 b w' r' → GoodR r' → r'.id = r.id → r'.kept = r.kept → r'.paper = (printT r.paper (waitL r)).2 → (∀ s, s ∈ r'.slips ↔ s ∈ r.slips ∨ s ∈ (printT r.paper (waitL r)).1.map (slipOf r)) → waitL r' = (waitL r).drop (printT r.paper (waitL r)).1.length →
      IsSl fD w' dv (printT r.paper (waitL r)).1 → J dv (I 0) w') :
    opW Tryz.prog (Instr.loadAt 27 (.pointer (some ⟨b, 0, none⟩))) (fun t w => callW Tryz.prog (.func (.func 29) #[] #[]) #[t] (fun t w => opW Tryz.prog (Instr.extract t 0) (fun x w => opW Tryz.prog (Instr.extract t 1) (fun y w => opW Tryz.prog (Instr.extract t 2) (fun z w => opU Tryz.prog (Instr.storeAt 27 (.pointer (some ⟨b, 0, none⟩)) x) (fun _ w => J y z w) w) w) w) w) w) w := by
  refine h.ld fun v hv => ?_
  refine c29 hv hg hr.small hr.k12 fun v' dv w1 e r' done hb1 hp hv' hdv hf hfd => ?_
  obtain ⟨rfl, rfl, g1, g2, g3, g4, g5, g6⟩ := print_good hr hp
  rw [w_extract (v := v') rfl, w_extract (v := dv) rfl, w_extract (v := I 0) rfl]
  have hl := h.lt
  refine RV.st (n := 0) (r := r) ⟨_, ((h.below hb1).v.choose_spec).1, ((h.below hb1).v.choose_spec).2.1, fun _ _ => Nat.zero_le _⟩ hv' (fun _ _ => Nat.zero_le _) (fun c hc => by have := hf c hc; omega) fun w2 ho2 R2 => ?_
  exact hk dv w2 r' ((h0.trans (hb1.mono h0.size)).trans (ho2.rest _ hb0)) R2 g4 g1 g3 g2 g5 g6 (hdv.off (Off.only (p := (· = b)) ho2 rfl) fun c hc he => by have := hfd c hc; omega)
theorem slipOf_id {a b : Rel} (h : a.id = b.id) (d : Disp) : slipOf a d = slipOf b d := by unfold slipOf; rw [h]
theorem s9 {xv : Value} {xs : List Q4} {one two : Int} (hg : Gl w) (hx : IsSl fQ w xv xs) (hok : ∀ q ∈ xs, okQ q) (h1 : in64 one) (h2 : in64 two) (hk : ∀ w', Below w.heap.size w w' → k (.bool true) w') : S9 xv (I one) (I two) k w := by
  unfold S9
  refine c10 hg fun w1 hb1 => ?_
  rw [w_not, Bool.not_true, condW_false]
  refine c12 (hx.below hb1) hok fun lv w2 rs hb2 hrs h3 => ?_
  have hg2 := (hg.below hb1 hg.2).below hb2 (by have := hg.2; have := hb1.size; omega)
  obtain ⟨r, hr, hgr, hpap⟩ := h3.at (i := 2) (by omega)
  obtain ⟨ys, hsl, hys⟩ := hrs
  obtain ⟨x, hxk, hrv⟩ := hys.at hr
  have hp1 := pickI_range (c := one) (n := 6) (by omega) h1
  have hp2 := pickI_range (c := two) (n := 6) (by omega) h2
  rw [ga34 (i := 2) rfl hsl (by omega) (a := x) hxk]
  refine RV.new (n := 0) (v := agR x) hrv (fun _ _ => Nat.zero_le _) fun w3 hb3 hsz3 R3 => ?_
  have hg3 := hg2.below hb3 hg2.2
  generalize hn1 : pickI one 6 = n1 at *
  generalize hn2 : pickI two 6 = n2 at *
  refine joinW_use2 (Pre := fun av ev w' => ∃ b a, av = .pointer (some ⟨b, 0, none⟩) ∧ ev = I 0 ∧ Below w3.heap.size w3 w' ∧ RV w3.heap.size b w' a ∧ w3.heap.size ≤ b ∧ a = { r with paper := r.paper + n1 } ∧ GoodR a) ?_ ?_
  · rintro _ _ w4 ⟨ba, a, rfl, rfl, hb4, A4, hba, ha, hga⟩
    refine A4.print (w0 := w3) (hg3.below hb4 hg3.2) hga hb4 hba fun d1 w5 a2 hb5 A5 hga2 hid2 hkp2 hpp2 hsl2 hwt2 hd1 => ?_
    have hba5 := A5.lt
    have hg5 := hg3.below hb5 hg3.2
    refine joinW_use2 (Pre := fun bv ev w' => ∃ b a, bv = .pointer (some ⟨b, 0, none⟩) ∧ ev = I 0 ∧ Below w5.heap.size w5 w' ∧ RV w5.heap.size b w' a ∧ w5.heap.size ≤ b ∧ a = { a2 with paper := a2.paper + n2 } ∧ GoodR a) ?_ ?_
    · rintro _ _ w6 ⟨bb, b1, rfl, rfl, hb6, B6, hbb, hb1e, hgb⟩
      refine B6.print (w0 := w5) (hg5.below hb6 hg5.2) hgb hb6 hbb fun d2 w7 b2 hb7 B7 hgb2 hid3 hkp3 hpp3 hsl3 hwt3 hd2 => ?_
      have hbb7 := B7.lt
      have hg7 := hg5.below hb7 hg5.2
      have hb37 := below_trans hb5 hb7
      refine joinW_use2 (Pre := fun cv ev w' => ∃ b a, cv = .pointer (some ⟨b, 0, none⟩) ∧ ev = I 0 ∧ Below w7.heap.size w7 w' ∧ RV w7.heap.size b w' a ∧ w7.heap.size ≤ b ∧ a = { r with paper := r.paper + (n1 + n2) } ∧ GoodR a) ?_ ?_
      · rintro _ _ w8 ⟨bc, c1, rfl, rfl, hb8, C8, hbc, hc1e, hgc⟩
        refine C8.print (w0 := w7) (hg7.below hb8 hg7.2) hgc hb8 hbc fun d3 w9 c2 hb9 C9 hgc2 hid4 hkp4 hpp4 hsl4 hwt4 hd3 => ?_
        have hg9 := hg7.below hb9 hg7.2
        refine (B7.below hb9).ld fun v9 hv9 => ?_
        have hbp : b2.paper ≤ 1000 := by
          have := printT_range (waitL b1) b1.paper hgb.paper.1
          have := printT_range (waitL a) a.paper hga.paper.1
          have e1 : b1.paper = a2.paper + n2 := by rw [hb1e]
          have e2 : a.paper = r.paper + n1 := by rw [ha]
          omega
        refine c34 hv9 hgb2.small fun v10 w10 e10 dr hb10 hp10 hv10 hf10 => ?_
        obtain ⟨rfl, hde, hgd⟩ := refill_good hgb2 (by omega) hp10
        rw [w_extract (v := v10) rfl, w_extract (v := I 0) rfl]
        refine RV.new (n := 0) hv10 (fun _ _ => Nat.zero_le _) fun w11 hb11 hsz11 D11 => ?_
        have hb911 := below_trans hb10 hb11
        refine D11.print (w0 := w9) (hg9.below hb911 hg9.2) hgd hb911 hb10.size fun d4 w12 dr2 hb12 D12 hgd2 hid5 hkp5 hpp5 hsl5 hwt5 hd4 => ?_
        simp only [w_neq, decide_true, Bool.not_true, guardW_ff, pickW_false, condW_false]
        have hb712 := below_trans hb9 hb12
        have hb512 := below_trans hb7 hb712
        have B12 := B7.below hb712
        have C12 := C9.below hb12
        have hd1' := hd1.below hb512
        have hd2' := hd2.below hb712
        have hd3' := hd3.below hb12
        clear hd1 hd2 hd3
        -- what the four prints are, in words
        have hwa : waitL a = waitL r := by rw [ha]; rfl
        have hap : a.paper = r.paper + n1 := by rw [ha]
        have hwb : waitL b1 = waitL a2 := by rw [hb1e]; rfl
        have hbp1 : b1.paper = a2.paper + n2 := by rw [hb1e]
        have hwc : waitL c1 = waitL r := by rw [hc1e]; rfl
        have hcp : c1.paper = r.paper + (n1 + n2) := by rw [hc1e]
        have hwd : waitL dr = waitL b2 := by rw [hde]; rfl
        have hdp : dr.paper = b2.paper + 500 := by rw [hde]
        rw [hwa, hap] at hpp2 hsl2 hwt2 hd1'
        rw [hwb, hbp1, hpp2, hwt2] at hpp3 hsl3 hwt3 hd2'
        rw [hwc, hcp, show r.paper + (n1 + n2) = r.paper + n1 + n2 by omega, printT_two _ _ _ hp2.1] at hpp4 hsl4 hwt4 hd3'
        have hrl : (waitL b2).length ≤ 6 := by
          have h1 := waitL_len b2
          have h2 := kept_room hgb2.ascK hgb2.kept
          omega
        have hall : (printT dr.paper (waitL dr)).1 = waitL b2 := by
          rw [hwd, hdp]
          exact printT_all _ _ (fun d hd => made_pages (hgb2.kept d (waitL_sub hgb2.valid.2.2.2.1 hd))) (by have := hgb2.paper; omega)
        rw [hall] at hwt5 hd4
        generalize hD1 : (printT (r.paper + n1) (waitL r)).1 = D1 at *
        generalize hq1 : (printT (r.paper + n1) (waitL r)).2 = q1 at *
        generalize hD2 : (printT (q1 + n2) ((waitL r).drop D1.length)).1 = D2 at *
        generalize hq2 : (printT (q1 + n2) ((waitL r).drop D1.length)).2 = q2 at *
        have ida : a.id = r.id := by rw [ha]
        have idb : b1.id = r.id := by rw [hb1e]; show a2.id = r.id; rw [hid2, ida]
        have idc : c1.id = r.id := by rw [hc1e]
        have hbc2 : b2 = c2 := by
          refine Rel.ext' ?_ ?_ ?_ (asc_ext CP hgb2.ascS hgc2.ascS fun s => ?_)
          · rw [hid3, hid4, idb, idc]
          · rw [hpp3, hpp4]
          · rw [hkp3, hkp4]
            have e1 : b1.kept = a2.kept := by rw [hb1e]
            have e2 : a.kept = r.kept := by rw [ha]
            have e3 : c1.kept = r.kept := by rw [hc1e]
            rw [e1, hkp2, e2, e3]
          · rw [hsl3, hsl4]
            have e1 : b1.slips = a2.slips := by rw [hb1e]
            have e2 : a.slips = r.slips := by rw [ha]
            have e3 : c1.slips = r.slips := by rw [hc1e]
            rw [e1, hsl2, e2, e3, List.map_append, List.mem_append, List.map_congr_left (f := slipOf a) (g := slipOf r) (fun d _ => slipOf_id ida d), List.map_congr_left (f := slipOf b1) (g := slipOf r) (fun d _ => slipOf_id idb d),
              List.map_congr_left (f := slipOf c1) (g := slipOf r) (l := D1) (fun d _ => slipOf_id idc d), List.map_congr_left (f := slipOf c1) (g := slipOf r) (l := D2) (fun d _ => slipOf_id idc d), or_assoc]
        have hDl : D1.length + D2.length ≤ 1000 := by
          have h1 := printT_len (waitL r) (r.paper + n1)
          have h2 := printT_len ((waitL r).drop D1.length) (q1 + n2)
          rw [hD1] at h1; rw [hD2] at h2
          have h3 := waitL_len r
          have h4 := kept_room hgr.ascK hgr.kept
          simp at h2; omega
        refine mkSl (F := fD) sty24 fun bv w13 hb13 hbm _ _ => ?_
        refine Mine.append (F := fD) sty24 eD.one hbm (hd1'.below hb13) hb13.size (by simp; unfold maxLen; omega) (by simp; omega) fun bv2 w14 hbm2 hb14 _ _ => ?_
        have hb1214 := hb13.trans hb14
        refine Mine.append (F := fD) sty24 eD.one hbm2 (hd2'.below hb1214) hb1214.size (by simp; unfold maxLen; omega) (by simp; omega) fun bv3 w15 hbm3 hb15 _ _ => ?_
        have hb1215 := hb1214.trans hb15
        replace hbm3 : Mine fD 31 w15 w12.heap.size bv3 (D1 ++ D2) := by simpa using hbm3
        refine (B12.below hb1215).ld fun vb hvb => ?_
        refine (C12.below hb1215).ld fun vc hvc => ?_
        refine c18 hvb hvc hgb2.small fun w16 hb16 => ?_
        have hb1216 := below_trans hb1215 hb16
        rw [decide_eq_true hbc2]
        simp only [guardW_tt]
        refine c19 (hbm3.below hb16).sl (hd3'.below hb1216) (by simp; unfold maxLen; omega) fun w17 hb17 => ?_
        have hb1217 := below_trans hb1216 hb17
        rw [decide_eq_true rfl]
        simp only [pickW_true, guardW_tt]
        refine (D12.below hb1217).ld fun vd hvd => ?_
        refine c20 hvd hgd2.small hgd2.k12 fun wv w18 hb18 hwv hfv => ?_
        have hb1218 := below_trans hb1217 hb18
        unfold waitV at hwv
        rw [if_pos hgd2.valid, hwt5, hwd, List.drop_length] at hwv
        refine (len24 hwv).mpr ?_
        rw [w_eql, decide_eq_true (by rfl)]
        simp only [pickW_true, guardW_tt]
        refine (B12.below hb1218).ld fun vb2 hvb2 => ?_
        refine c20 hvb2 hgb2.small hgb2.k12 fun wb w19 hb19 hwb' hfb => ?_
        unfold waitV at hwb'
        rw [if_pos hgb2.valid] at hwb'
        refine c19 (hd4.below (below_trans hb1218 hb19)) hwb' (by unfold maxLen; omega) fun w20 hb20 => ?_
        rw [decide_eq_true rfl]
        exact hk w20 (below_trans (below_trans (below_trans (below_trans (below_trans hb1 hb2) hb3) hb5) hb512) (below_trans (below_trans hb1218 hb19) hb20))
      intro J hJ
      rw [drewW_eq]
      have hb78 := below_drew w7
      have R8 := R3.below (below_trans hb37 hb78)
      generalize w7.drew = w8 at *
      refine ⟨after w8, after_refl _, ?_⟩
      refine R8.la (after_refl _) fun v hv => ?_
      have hn := NS.start w8
      have fin : ∀ x w' e r', after w8 w' → refillR r (n1 + n2) e r' → RV w8.heap.size x w' r' → w8.heap.size ≤ x → J (.pointer (some ⟨x, 0, none⟩)) (I e) w' := fun x w' e r' h1 h2 h3 h4 => by
        obtain ⟨rfl, e2, e3⟩ := refill_good hgr (by omega) h2
        have hs := hb78.size
        obtain ⟨y, g1, g2, g3⟩ := h3
        exact hJ _ _ _ ⟨x, r', rfl, rfl, hb78.trans (h1.mono hs), ⟨y, g1, g2, fun b hb => Nat.le_trans hs (g3 b hb)⟩, by omega, e2, e3⟩
      have hres := resRefill (n := n1 + n2) hv hgr.small
      repeat' first
        | exact ns_callA hres (by assumption) fin
        | exact ns_callB hres (by assumption) fin
        | (refine ns_pick (by omega) (by assumption) fun _ => ?_; rw [hn1])
        | (refine ns_pick (by omega) (by assumption) fun _ => ?_; rw [hn2])
        | rw [t_add, wrap_id (by omega)]
        | refine ns_al (by assumption) fun _ _ _ => ?_
        | refine And.intro ?_ ?_
    intro J hJ
    rw [drewW_eq]
    have hb56 := below_drew w5
    have A6 := A5.below hb56
    generalize w5.drew = w6 at *
    refine ⟨after w6, after_refl _, ?_⟩
    refine A6.la (after_refl _) fun v hv => ?_
    have hn := NS.start w6
    have fin : ∀ x w' e r', after w6 w' → refillR a2 n2 e r' → RV w6.heap.size x w' r' → w6.heap.size ≤ x → J (.pointer (some ⟨x, 0, none⟩)) (I e) w' := fun x w' e r' h1 h2 h3 h4 => by
      have := printT_range (waitL a) a.paper hga.paper.1
      have e2 : a.paper = r.paper + n1 := by rw [ha]
      obtain ⟨rfl, e2, e3⟩ := refill_good hga2 (by omega) h2
      have hs := hb56.size
      obtain ⟨y, g1, g2, g3⟩ := h3
      exact hJ _ _ _ ⟨x, r', rfl, rfl, hb56.trans (h1.mono hs), ⟨y, g1, g2, fun b hb => Nat.le_trans hs (g3 b hb)⟩, by omega, e2, e3⟩
    have hres := resRefill (n := n2) hv hga2.small
    repeat' first
      | exact ns_callA hres (by assumption) fin
      | exact ns_callB hres (by assumption) fin
      | (refine ns_pick (by omega) (by assumption) fun _ => ?_; rw [hn2])
      | refine ns_al (by assumption) fun _ _ _ => ?_
      | refine And.intro ?_ ?_
  intro J hJ
  rw [drewW_eq]
  have hb34 := below_drew w3
  have R4 := R3.below hb34
  generalize w3.drew = w4 at *
  refine ⟨after w4, after_refl _, ?_⟩
  refine R4.la (after_refl _) fun v hv => ?_
  have hn := NS.start w4
  have fin : ∀ x w' e r', after w4 w' → refillR r n1 e r' → RV w4.heap.size x w' r' → w4.heap.size ≤ x → J (.pointer (some ⟨x, 0, none⟩)) (I e) w' := fun x w' e r' h1 h2 h3 h4 => by
    obtain ⟨rfl, e2, e3⟩ := refill_good hgr (by omega) h2
    have hs := hb34.size
    obtain ⟨y, g1, g2, g3⟩ := h3
    exact hJ _ _ _ ⟨x, r', rfl, rfl, hb34.trans (h1.mono hs), ⟨y, g1, g2, fun b hb => Nat.le_trans hs (g3 b hb)⟩, by omega, e2, e3⟩
  have hres := resRefill (n := n1) hv hgr.small
  repeat' first
    | exact ns_callA hres (by assumption) fin
    | exact ns_callB hres (by assumption) fin
    | (refine ns_pick (by omega) (by assumption) fun _ => ?_; rw [hn1])
    | refine ns_al (by assumption) fun _ _ _ => ?_
    | refine And.intro ?_ ?_
end
end Go.Proofs.YtklknkmeljjmgaaGreatDoor
