/- Part 7 of the proof of relayContradicts: lemmas for it; no condition beyond the statement. -/
import Derived.Test.YtklknkmeljjmgaaGreatDoorKe5
/- RelayContradicts. -/
set_option linter.unusedSimpArgs false
set_option linter.unusedVariables false
namespace Go.V
open Go Go.RowKit
theorem getAi {P : Program} {w w0 : World} {α : Type} {F : Fl α} {t e : Nat} {v : Value} {l : List α} (h : ETy P t e F) {K : Value → Prop} {q : IntKind} {a : α} {m : Int} {i : Nat} (hm : m = (i : Int)) (hs : IsSl F w0 v l) (hx : l[i]? = some a) (ha : after w0 w) (hp : 0 < F.sz) :
    takeW P anyW (Instr.indexAt t v (.int q m)) (fun p => takeW P (after w0) (Instr.loadAt e p) K w) w = K (.agg (F.e a).toArray) := by
  subst hm; exact getA h hs hx ha hp
end Go.V
namespace Go.Proofs.YtklknkmeljjmgaaGreatDoor
open Go Go.V Go.RowKit
theorem hearR_bad {r : Rel} {p : Pack} {e : Int} {r' : Rel} (ho : mergeG cmpD newerD r.kept p.kept = none) (h : hearR r p e r') : e = 250 ∧ r' = zeroR := by
  rcases h with ⟨_, _, ⟨o', s', h4, h5, h6⟩ | ⟨_, h1, h2⟩⟩ | ⟨_, h1, h2⟩
  · rw [ho] at h4; cases h4
  · exact ⟨h1, h2⟩
  · exact ⟨h1, h2⟩
theorem merge_conflict {a b : List Disp} (ha : Asc cmpD a) (hb : Asc cmpD b) {x y : Disp} (hx : x ∈ a) (hy : y ∈ b) (h0 : x.story = y.story) (hf : (newerD x y).2 = false) : mergeG cmpD newerD a b = none := by
  have hs := merge_spec CD (comb := newerD) (fun x y => newer_story) ha hb
  cases hm : mergeG cmpD newerD a b with
  | none => rfl
  | some o =>
    have := (hs.1 o hm).2.2 x hx y hy (cmpD_eq.2 h0)
    rw [hf] at this; cases this
theorem edOf_mem {l : List Disp} {x : Disp} (hx : x ∈ l) (hp : ∀ d ∈ l, 1 ≤ d.ed) : 1 ≤ edOf l x.story := by
  induction l with
  | nil => cases hx
  | cons d l ih =>
    rw [edOf]
    split
    · exact hp d (by simp)
    · rename_i hne
      rcases List.mem_cons.1 hx with rfl | hx
      · exact absurd rfl hne
      · exact ih hx fun d hd => hp d (by simp [hd])
theorem in64_half {x : Int} (h : in64 x) : in64 (x.tdiv 2) := by
  unfold in64 at *
  rcases Int.le_total 0 x with h0 | h0
  · rw [Int.tdiv_eq_ediv_of_nonneg h0]; omega
  · have e : x.tdiv 2 = -((-x).tdiv 2) := by rw [Int.neg_tdiv]; omega
    rw [e, Int.tdiv_eq_ediv_of_nonneg (by omega)]; omega
theorem resPut {w : World} {v : Value} {r : Rel} {d : Disp} (hv : RelV w v r) (hs : small r) : ResC (.func (.func 23) #[] #[]) #[v, agD d] (putR r d) w := fun w1 k ha hk => c23 (hv.below ha) hs hk
section
variable {k : Value → World → Prop} {w : World}
theorem b27_02 {a : Int} {kv : Value} {l : List Disp} {w0 : World} (h1 : IsSl fD w0 kv l) : opW Tryz.prog (Instr.build 27 #[(0, I a), (2, kv)]) k w = k (.agg #[I a, I 0, kv, .slice none 0 0]) w := by
  obtain ⟨a1, c1, rfl, _⟩ := h1
  exact opW_ok (by kernel_rfl)
theorem b29_2 {a : Int} {kv : Value} {l : List Disp} {w0 : World} (h1 : IsSl fD w0 kv l) : opW Tryz.prog (Instr.build 29 #[(0, I a), (1, kv)]) k w = k (.agg #[I a, kv, .slice none 0 0]) w := by
  obtain ⟨a1, c1, rfl, _⟩ := h1
  exact opW_ok (by kernel_rfl)
theorem s8 {xv : Value} {xs : List Q4} {y0 y1 how : Int} (hg : Gl w) (hx : IsSl fQ w xv xs) (hok : ∀ q ∈ xs, okQ q) (h0 : in64 y0) (h1 : in64 y1) (h2 : in64 how) (hk : ∀ w', Below w.heap.size w w' → k (.bool true) w') : S8 xv (.agg #[I y0, I y1]) (I how) k w := by
  unfold S8
  refine w_boxN (v := .agg #[I y0, I y1]) fun w1 hb1 hsz1 hr1 => ?_
  replace hr1 : RowAt w1 w.heap.size 23 [I y0, I y1] := hr1
  refine c10 (hg.below hb1 hg.2) fun w2 hb2 => ?_
  have hb02 := below_trans hb1 hb2
  rw [w_not, Bool.not_true, condW_false]
  refine c12 (hx.below hb02) hok fun lv w3 rs hb3 hrs h3 => ?_
  have hr3 := (hr1.below hb2).below hb3
  obtain ⟨ys, hsl, hys⟩ := hrs
  obtain ⟨r0, hr0, hgr, hpap⟩ := h3.at (i := 0) (by omega)
  obtain ⟨x, hxk, hrv⟩ := hys.at hr0
  rw [ld23 (vs := [I y0, I y1]) rfl hr3.cells]
  refine c22 h0 h1 fun w4 hb4 => ?_
  have hmd := madeD_made h0 h1
  generalize madeD y0 y1 = d at *
  refine nvD (d := d) fun w5 hb5 hsz5 hr5 => ?_
  have hb35 := below_trans hb4 hb5
  refine joinW_use2 (Pre := fun av ev w' => ∃ b a, av = .pointer (some ⟨b, 0, none⟩) ∧ ev = I 0 ∧ Below w5.heap.size w5 w' ∧ RV 0 b w' a ∧ GoodR a ∧ mergeG cmpD newerD r0.kept [d] = some a.kept) ?_ ?_
  · rintro _ _ w6 ⟨b, a, rfl, rfl, hb6, A6, hga, hmg⟩
    have hrd := hr5.below hb6
    rw [w_neq]
    simp only [decide_true, Bool.not_true, guardW_ff]
    -- one of the story is kept
    obtain ⟨o, ho, hos⟩ : ∃ o ∈ a.kept, o.story = d.story := by
      have hs := merge_spec CD (comb := newerD) (fun x y => newer_story) hgr.ascK (List.pairwise_singleton _ d)
      obtain ⟨_, hz, _⟩ := hs.1 _ hmg
      by_cases hh : ∃ x ∈ r0.kept, cmpD x d = 0
      · obtain ⟨x, hx, he⟩ := hh
        refine ⟨(newerD x d).1, (hz _).2 (.inr (.inr ⟨x, hx, d, by simp, he, rfl⟩)), ?_⟩
        have h1 := cmpD_eq.1 (newer_story he)
        have h2 := cmpD_eq.1 he
        omega
      · exact ⟨d, (hz _).2 (.inr (.inl ⟨by simp, fun x hx he => hh ⟨x, hx, he⟩⟩)), rfl⟩
    have hom := hga.kept o ho
    refine A6.ld fun v6 hv6 => ?_
    rw [rw31_0 (hrd.cell (i := 0) rfl)]
    refine c39 hv6 (by have := hga.k12; omega) fun w7 hb7 => ?_
    have hed : 1 ≤ edOf a.kept d.story := by rw [← hos]; exact edOf_mem ho fun d hd => (hga.kept d hd).2.1.1
    rw [w_eql, decide_eq_false (by omega)]
    simp only [pickW_false, condW_false]
    have hb57 := hb6.trans (hb7.mono hb6.size)
    have A7 := A6.below hb7
    have hrd7 := hrd.below hb7
    refine al31 fun w8 hb8 hsz8 hr8 => ?_
    have A8 := A7.below hb8
    have hrd8 := hrd7.below hb8
    have hasc : a.kept.Pairwise fun x y => x.story < y.story := hga.valid.2.2.2.1.asc
    rw [List.pairwise_iff_getElem] at hasc
    have hba := A7.lt
    have hdl := hrd7.lt
    refine Loop1.intro (fun n av w' => ∃ (i : Nat) (od : Disp), av = I i ∧ i ≤ a.kept.length ∧ n = a.kept.length - i ∧ Below w7.heap.size w7 w' ∧ RowAt w' w7.heap.size 31 (fD.e od) ∧ ∀ (j : Nat) y, j < i → a.kept[j]? = some y → y.story = d.story → od = y) _
      ⟨0, ⟨0, 0, 0, ⟨#[]⟩⟩, rfl, by omega, rfl, hb8, hr8, by omega⟩ ?_
    rintro n _ w9 ⟨i, od, rfl, hi, rfl, hb9, hro9, hod⟩
    obtain ⟨kA, sA, rA, hAk, hAs⟩ := (A7.below hb9).open
    have hrd9 := hrd7.below hb9
    rw [rw27_2 (rA.cell (i := 2) rfl)]
    refine (len24 hAk).mpr ?_
    rw [w_lss]
    by_cases hlt : i < a.kept.length
    · rw [decide_eq_true (by omega), condW_true]
      obtain ⟨y, hy⟩ : ∃ y, a.kept[i]? = some y := ⟨_, List.getElem?_eq_getElem hlt⟩
      refine joinW_use0 (Pre := fun w' => ∃ od, Below w7.heap.size w7 w' ∧ RowAt w' w7.heap.size 31 (fD.e od) ∧ ∀ (j : Nat) y, j < i + 1 → a.kept[j]? = some y → y.story = d.story → od = y) ?_ ?_
      · rintro w10 ⟨od', g1, g2, g3⟩
        rw [w_add, wrap_id (by have := hga.k12; omega), loopK_self]
        exact ⟨a.kept.length - (i + 1), by omega, i + 1, od', by simp [I], by omega, rfl, g1, g2, g3⟩
      intro J hJ
      rw [drewW_eq]
      have hb10 := hb9.trans (Below.refl _ w9).drew
      have rA := rA.drew
      have hAk := hAk.below (below_drew w9)
      have hrd10 := hrd9.drew
      have hro10 := hro9.drew
      generalize w9.drew = w10 at *
      rw [rt27_2 (rA.cell (i := 2) rfl), nt24_0 rfl hAk hy rfl, rt31_0 (hrd10.cell (i := 0) rfl), t_eql]
      by_cases hys : y.story = d.story
      · rw [decide_eq_true hys, condW_true, rw27_2 (rA.cell (i := 2) rfl), na24 rfl hAk hy]
        refine sr31 (vs := fD.e y) rfl hro10 rfl (eD.one y) fun w11 ho11 hr11 => ?_
        refine hJ _ ⟨y, hb10.trans (ho11.rest _ (Nat.le_refl _)), hr11, fun j z hj hz hzs => ?_⟩
        by_cases hji : j = i
        · subst hji; rw [hy] at hz; cases hz; rfl
        · have := hasc j i (by omega) hlt (by omega)
          rw [(List.getElem?_eq_some_iff.1 hz).2, (List.getElem?_eq_some_iff.1 hy).2] at this
          omega
      · rw [decide_eq_false hys, condW_false]
        refine hJ _ ⟨od, hb10, hro10, fun j z hj hz hzs => ?_⟩
        by_cases hji : j = i
        · subst hji; rw [hy] at hz; cases hz; exact absurd hzs hys
        · exact hod j z (by omega) hz hzs
    · rw [decide_eq_false (by omega), condW_false]
      have hoe : od = o := by
        obtain ⟨j, hj, rfl⟩ := List.getElem_of_mem ho
        exact hod j _ (by omega) (List.getElem?_eq_getElem hj) hos
      subst hoe
      rw [ld31 (vs := fD.e od) rfl hro9.cells]
      refine nvD (d := od) fun w10 hb10 hsz10 hr10 => ?_
      have A10 := (A7.below hb9).below hb10
      have hl10 := A10.lt
      have hs9 := hb9.size
      refine joinW_use0 (Pre := fun w' => ∃ ot : Disp, Below w9.heap.size w10 w' ∧ RowAt w' w9.heap.size 31 (fD.e ot) ∧ ot.story = od.story ∧ (newerD od ot).2 = false ∧ (newerD ot od).2 = false) ?_ ?_
      · rintro w11 ⟨ot, hb11, hr11, hst, hf1, hf2⟩
        have A11 := (A7.below hb9).below (hb10.trans hb11)
        refine A11.ld fun v11 hv11 => ?_
        rw [ld31 (vs := fD.e ot) rfl hr11.cells]
        refine c23 (d := ot) hv11 hga.small fun v12 w12 e12 r12 hb12 hp12 hv12 hf12 => ?_
        obtain ⟨rfl, rfl⟩ := putR_bad (merge_conflict hga.ascK (List.pairwise_singleton _ ot) ho (by simp) hst.symm hf1) hp12
        rw [w_extract (v := v12) rfl, w_extract (v := I 250) rfl]
        refine RV.new (n := 0) hv12 (fun _ _ => Nat.zero_le _) fun w13 hb13 hsz13 _ => ?_
        have hb1113 := below_trans hb12 hb13
        refine (A11.below hb1113).ld fun v13 hv13 => ?_
        rw [ld31 (vs := fD.e ot) rfl (hr11.below hb1113).cells]
        refine w_oneS (F := fD) (x := ot) sty24 rfl (by decide) fun u14 w14 hb14 hu14 => ?_
        rw [b29_2 hu14]
        refine c27 (p := ⟨5, [ot], []⟩) (hv13.below hb14) ⟨u14, _, rfl, hu14, IsSl.nil _⟩ hga.small ⟨by simp, by simp⟩ fun v15 w15 e15 r15 hb15 hp15 hv15 hf15 => ?_
        obtain ⟨rfl, rfl⟩ := hearR_bad (merge_conflict hga.ascK (List.pairwise_singleton _ ot) ho (by simp) hst.symm hf1) hp15
        rw [w_extract (v := v15) rfl, w_extract (v := I 250) rfl]
        refine RV.new (n := 0) hv15 (fun _ _ => Nat.zero_le _) fun w16 hb16 hsz16 _ => ?_
        have hb1116 := below_trans hb1113 (below_trans hb14 (below_trans hb15 hb16))
        rw [ld31 (vs := fD.e ot) rfl (hr11.below hb1116).cells]
        refine w_oneS (F := fD) (x := ot) sty24 rfl (by decide) fun u17 w17 hb17 hu17 => ?_
        rw [b27_02 hu17]
        obtain ⟨kB, sB, rB, hBk, hBs⟩ := ((A11.below hb1116).below hb17).open
        rw [rw27_0 (rB.cell (i := 0) rfl), rw27_2 (rB.cell (i := 2) rfl), b29_2 hBk]
        refine c27 (r := ⟨5, 0, [ot], []⟩) (p := ⟨a.id, a.kept, []⟩) ⟨u17, _, rfl, hu17, IsSl.nil _⟩ ⟨kB, _, rfl, hBk, IsSl.nil _⟩ ⟨by simp, by simp⟩ ⟨by have := hga.k12; show a.kept.length ≤ 5000; omega, by simp⟩ fun v18 w18 e18 r18 hb18 hp18 hv18 hf18 => ?_
        obtain ⟨rfl, rfl⟩ := hearR_bad (merge_conflict (List.pairwise_singleton _ ot) hga.ascK (by simp) ho hst hf2) hp18
        rw [w_extract (v := v18) rfl, w_extract (v := I 250) rfl]
        refine RV.new (n := 0) hv18 (fun _ _ => Nat.zero_le _) fun w19 hb19 hsz19 _ => ?_
        simp only [w_eql, decide_true, guardW_tt, pickW_true]
        exact hk w19 (below_trans (below_trans (below_trans (below_trans (below_trans (below_trans hb02 hb3) hb35) hb57) hb9) (hb10.trans hb11)) (below_trans hb1116 (below_trans hb17 (below_trans hb18 hb19))))
      intro J hJ
      refine c33 (by decide) ?_
      rw [w_eql]
      have hsz : (od.text.size : Int) ≤ 155 := by
        have e : od.text = (madeOf od.story od.ed).text := by rw [← hom.2.2]
        rw [e]
        show ((madeTxt od.ed (30 * od.ed + od.story).toNat).size : Int) ≤ 155
        have := hom.1; have := hom.2.1
        rw [madeTxt_size (by omega)]; omega
      have hcl := hom.right.2.2.1
      by_cases hh : pickI how 2 = 0
      · rw [decide_eq_true hh, condW_true, rw31_3 (hr10.cell (i := 3) rfl), w_addStr (by show od.text.size + 1 ≤ _; omega), fl31_3]
        refine (st9 rfl (hr10.cell (i := 3) rfl) (hr10.free 3)).mpr ?_
        have hne : od ≠ ⟨od.story, od.ed, od.cls, od.text ++ ⟨#[120]⟩⟩ := fun he => by
          have := congrArg (fun d : Disp => d.text.size) he
          simp [ByteArray.size_append] at this
          exact absurd this (by decide)
        refine hJ _ ⟨⟨od.story, od.ed, od.cls, od.text ++ ⟨#[120]⟩⟩, (Below.refl _ _).setCell (p := ⟨w9.heap.size, 3, none⟩) (Nat.le_refl _) _, hr10.set 3 _, rfl, ?_, ?_⟩
        · unfold newerD; rw [if_pos (.inr ⟨rfl, hne⟩)]
        · unfold newerD; rw [if_pos (.inr ⟨rfl, fun h => hne h.symm⟩)]
      · rw [decide_eq_false hh, condW_false, rw31_2 (hr10.cell (i := 2) rfl), w_rem (by decide)]
        have hm := tmod3 (x := od.cls) (by omega)
        have hmc : 1 + od.cls.tmod 3 ≠ od.cls := by rw [Int.tmod_eq_emod_of_nonneg (by omega)]; omega
        rw [w_add, wrap_id (by omega), fl31_2]
        refine (st3 rfl (hr10.cell (i := 2) rfl) (hr10.free 2)).mpr ?_
        have hr11 := hr10.set 2 (I (1 + od.cls.tmod 3))
        have hb11 : Below w9.heap.size w10 (w10.setCell ⟨w9.heap.size, 2, none⟩ (I (1 + od.cls.tmod 3))) := (Below.refl _ _).setCell (p := ⟨w9.heap.size, 2, none⟩) (Nat.le_refl _) _
        generalize w10.setCell ⟨w9.heap.size, 2, none⟩ (I (1 + od.cls.tmod 3)) = w11 at *
        have hq : in64 (how.tdiv 2) := in64_half h2
        rw [w_quo (by decide), wrap_id hq]
        refine c33 (by decide) ?_
        have hpk := pickI_range (c := how.tdiv 2) (n := 9) (by omega) hq
        rw [w_add, wrap_id (by omega), fl31_1]
        refine (st3 rfl (hr11.cell (i := 1) rfl) (hr11.free 1)).mpr ?_
        refine hJ _ ⟨⟨od.story, 1 + pickI (how.tdiv 2) 9, 1 + od.cls.tmod 3, od.text⟩, hb11.setCell (p := ⟨w9.heap.size, 1, none⟩) (Nat.le_refl _) _, hr11.set 1 _, rfl, ?_, ?_⟩
        · unfold newerD; rw [if_pos (.inl (fun h => hmc h.symm))]
        · unfold newerD; rw [if_pos (.inl hmc)]
  intro J hJ
  rw [drewW_eq]
  have hb56 := below_drew w5
  have hsl6 := hsl.below (below_trans hb35 hb56)
  have hrv6 := hrv.below (below_trans hb35 hb56)
  have hr6 := hr5.drew
  generalize w5.drew = w6 at *
  refine ⟨after w6, after_refl _, ?_⟩
  have hn := NS.start w6
  rw [getAi eR (m := 0) (i := 0) rfl hsl6 hxk (after_refl _) (by decide), la31 (vs := fD.e d) rfl hr6.cells (after_refl _)]
  have fin : ∀ x w' e r', after w6 w' → putR r0 d e r' → RV w6.heap.size x w' r' → w6.heap.size ≤ x → J (.pointer (some ⟨x, 0, none⟩)) (I e) w' := fun x w' e r' h1 h2 h3 h4 => by
    obtain ⟨rfl, e2, e3, e4⟩ := putR_good hgr hmd h2
    obtain ⟨y, g1, g2, g3⟩ := h3
    exact hJ _ _ _ ⟨x, r', rfl, rfl, hb56.trans (h1.mono hb56.size), ⟨y, g1, g2, fun _ _ => Nat.zero_le _⟩, e2, e3⟩
  have hres := resPut (d := d) hrv6 hgr.small
  repeat' first
    | exact ns_callA hres (by assumption) fin
    | exact ns_callB hres (by assumption) fin
    | refine ns_al (by assumption) fun _ _ _ => ?_
    | refine And.intro ?_ ?_
end
end Go.Proofs.YtklknkmeljjmgaaGreatDoor
