/- Contracts of package sched's functions, sixth part: the ticks. -/
import Derived.Test.YtidnjppalebbfaaA8
set_option linter.unusedSimpArgs false
set_option linter.unusedVariables false
namespace Go.Proofs.Ytidnjppalebbfaa
open Go Go.V Go.RowKit
/-- the plain part of the ticks' state -/
structure Ps (l : List Stream) (a : List Arr) (R : List Nat) (tr : List Int) (rem : Nat → Int) (next : Nat) (Lf : List Int) : Prop where
  run : Run l a tr rem
  nlt : next ≤ a.length
  past : ∀ j, j < next → atA a j ≤ tr.length
  fresh : ∀ j, next ≤ j → j < a.length → rem j = szA l a j
  left : LeftOk l a R next rem Lf
theorem el26' : Try.prog.elem 26 = 3 := by kernel_rfl
theorem und26 : Try.prog.underlying 26 = some (.slice (Try.prog.elem 26)) := by kernel_rfl
section
variable {k : Value → World → Prop} {w : World}
theorem or_cond {P : Program} {d1 : Bool} {x y : Int} {q : IntKind} {t : TypeId} {ox oy : Operand} {K : Value → World → Prop} (h : K (.bool (d1 || decide (y < x))) w) :
    guardW (some (.bool d1), false) (fun k w => k (.int q x) w) (fun t26 w => guardW (some (.bool d1), false) (fun k w => opW P (binS .gtr t ox oy t26 (.int q y)) k w) (fun t27 w => pickW (.bool d1) (.bool true) t27 K w) w) w := by
  cases d1
  · simpa [w_gtr] using h
  · simpa using h
theorem absorb_cond {wI : World} {av : Value} {l : List Stream} {a : List Arr} {bx2 nx : Nat} {t : Int} {ox oy : Operand} {K : Value → World → Prop} (hp : ProperP l a) (haw : IsSl fA w av a) (hb : RowAt w bx2 23 [av])
    (h : K (.bool (decide (nx < a.length) && decide (atA a nx ≤ t))) w) :
    guardW (some (.bool (decide ((nx : Int) < (a.length : Int)))), true) (fun k w => opW Try.prog (Instr.loadAt 23 (.pointer (some ⟨bx2, 0, none⟩))) k w) (fun t36 w =>
      guardW (some (.bool (decide ((nx : Int) < (a.length : Int)))), true) (fun k w => k (I nx) w) (fun t37 w =>
        guardW (some (.bool (decide ((nx : Int) < (a.length : Int)))), true) (fun k w => opW Try.prog (Instr.indexAt 23 t36 t37) k w) (fun t38 w =>
          guardW (some (.bool (decide ((nx : Int) < (a.length : Int)))), true) (fun k w => opW Try.prog (Instr.fieldAt 31 t38 1) k w) (fun t39 w =>
            guardW (some (.bool (decide ((nx : Int) < (a.length : Int)))), true) (fun k w => opW Try.prog (Instr.loadAt 3 t39) k w) (fun t40 w =>
              guardW (some (.bool (decide ((nx : Int) < (a.length : Int)))), true) (fun k w => k (I t) w) (fun t41 w =>
                guardW (some (.bool (decide ((nx : Int) < (a.length : Int)))), true) (fun k w => opW Try.prog (binS .leq 3 ox oy t40 t41) k w) (fun t42 w =>
                  pickW (.bool (decide ((nx : Int) < (a.length : Int)))) t42 (.bool false) K w) w) w) w) w) w) w) w := by
  by_cases hlt : nx < a.length
  · obtain ⟨x, hx, hax, _⟩ := proper_at hp hlt
    rw [decide_eq_true (show (nx : Int) < a.length by omega)]
    rw [decide_eq_true hlt, hax] at h
    simp only [guardW_tt]
    refine (ld23 (hb.cell (i := 0) rfl)).mpr ?_
    refine ix23 (x := x) haw rfl (by omega) hx fun b o hc => ?_
    rw [fl31_1]
    refine (ld3 (hc 1 _ rfl)).mpr ?_
    rw [w_leq, pickW_true]
    simpa using h
  · rw [decide_eq_false (show ¬ (nx : Int) < a.length by omega)]
    rw [decide_eq_false hlt] at h
    simp only [guardW_ft, guardW_u, pickW_false]
    simpa using h
theorem Ps.absorb {l : List Stream} {a : List Arr} {R : List Nat} {tr : List Int} {rem : Nat → Int} {nx : Nat} {Lf : List Int} (h : Ps l a R tr rem nx Lf) (hp : ProperP l a) (hlt : nx < a.length) (hat : atA a nx ≤ tr.length) :
    (Qu a R nx rem (rk R (stA a nx)) = [] → Ps l a R tr rem (nx + 1) (Lf.set (rk R (stA a nx)) (szA l a nx))) ∧ (Qu a R nx rem (rk R (stA a nx)) ≠ [] → Ps l a R tr rem (nx + 1) Lf) ∧ cnt rem (nx + 1) = cnt rem nx + 1 ∧
      (fun r' => if r' = rk R (stA a nx) then Qu a R nx rem (rk R (stA a nx)) ++ [nx] else Qu a R nx rem r') = Qu a R (nx + 1) rem := by
  have hs := h.fresh nx (Nat.le_refl _) hlt
  have h0 : rem nx ≠ 0 := by have := szA_range hp hlt; omega
  have hl := h.left.absorb h0 hs
  have hpast : ∀ j, j < nx + 1 → atA a j ≤ tr.length := fun j hj => by
    by_cases hjn : j = nx
    · subst hjn; exact hat
    · exact h.past j (by omega)
  refine ⟨fun hq => ⟨h.run, by omega, hpast, fun j hj => h.fresh j (by omega), hl.1 hq⟩, fun hq => ⟨h.run, by omega, hpast, fun j hj => h.fresh j (by omega), hl.2 hq⟩, by simp only [cnt]; rw [if_neg h0], ?_⟩
  funext r'
  rw [Qu_succ]
  by_cases he : r' = rk R (stA a nx)
  · rw [if_pos he, if_pos ⟨he.symm, h0⟩, he]
  · rw [if_neg he, if_neg fun hh => he hh.1.symm]
theorem s46 {wI : World} {lv av yv : Value} {l : List Stream} {a : List Arr} {Inv : List Int → (Nat → Prop) → World → Prop} {bx1 bx2 : Nat} {F0 : Nat → Prop} (hp : ProperP l a) (hl : IsSl fS wI lv l) (ha : IsSl fA wI av a) (Y : YieldLaw wI yv a.length Inv)
    (hb : Below wI.heap.size wI w) (h1 : RowAt w bx1 59 [lv]) (h2 : RowAt w bx2 23 [av]) (hF : ¬ F0 bx1 ∧ ¬ F0 bx2) (h0 : Inv [] F0 w)
    (hk : ∀ tr F w', TraceP l a tr → Below wI.heap.size wI w' → Inv tr F w' → k (.tuple #[]) w') : S46 yv (.pointer (some ⟨bx1, 0, none⟩)) (.pointer (some ⟨bx2, 0, none⟩)) k w := by
  unfold S46
  refine (ld59 (h1.cell (i := 0) rfl)).mpr ?_
  have hv := (valid_at hp.valid).1
  refine c47 (hl.below hb) hv.2 fun R gR cR w1 hb1 hgR hR hoR => ?_
  have hb01 : Below wI.heap.size wI w1 := hb.trans (hb1.mono hb.size)
  refine joinW_use2 (Pre := fun vW vL w2 => ∃ c : Cx, c.wI = wI ∧ c.lv = lv ∧ c.av = av ∧ c.bx1 = bx1 ∧ c.bx2 = bx2 ∧ c.gR = gR ∧ c.cR = cR ∧ c.R = R ∧ c.Inv = Inv ∧ c.n = l.length ∧ vW = .slice (some ⟨c.gW, 0, none⟩) c.n c.n ∧ vL = .slice (some ⟨c.gL, 0, none⟩) c.n c.n ∧
    Cx.Ok c yv a.length ∧ Ms c [] (fun _ => []) F0 w2 (List.replicate l.length (.slice none 0 0)) (fun _ => none) (List.replicate l.length 0)) ?_ ?_
  · clear hb1 hb01 hoR hgR h1 h2 hF h0 hb
    rintro _ _ w2 ⟨c, rfl, rfl, rfl, rfl, rfl, rfl, rfl, rfl, rfl, hcn, rfl, rfl, ok, hm⟩
    refine Loop3.intro (fun mm vn vo vt w' => ∃ (tr : List Int) (rem : Nat → Int) (next : Nat) (V : List Value) (G : Nat → Option Nat) (Lf : List Int) (F : Nat → Prop), vn = I next ∧ vo = I (cnt rem next) ∧ vt = I tr.length ∧ Ps l a c.R tr rem next Lf ∧ Ms c tr (Qu a c.R next rem) F w' V G Lf ∧ mm = (2001 - tr.length) + (tot rem a.length).toNat)
      _ ⟨[], szA l a, 0, List.replicate l.length (.slice none 0 0), fun _ => none, List.replicate l.length 0, F0, rfl, rfl, rfl, ⟨.start, by omega, fun j hj => by omega, fun j _ _ => rfl, by simp, fun r j tl hr hq => by simp [Qu] at hq⟩, by rw [show Qu a c.R 0 (szA l a) = fun _ => [] from funext fun r => by simp [Qu]]; exact hm, rfl⟩ ?_
    clear hm w2
    rintro mm _ _ _ w' ⟨tr, rem, next, V, G, Lf, F, rfl, rfl, rfl, hps, hms, rfl⟩
    have haw := ha.below hms.below
    refine (ld23 (hms.b2.cell (i := 0) rfl)).mpr ((len23 haw).mpr ?_)
    rw [w_lss]
    refine or_cond ?_
    have hrng := hps.run.range hp
    have hshort := hps.run.short hp
    by_cases hgo : next < a.length ∨ 0 < cnt rem next
    · rw [show (decide ((next : Int) < (a.length : Int)) || decide ((0 : Int) < (cnt rem next : Int))) = true by simp; omega, condW_true]
      have hnd : ¬ Done a rem := fun hd => by
        rcases hgo with h | h
        · have h1 := hd next h
          rw [hps.fresh next (Nat.le_refl _) h] at h1
          have := szA_range hp h; omega
        · obtain ⟨j, hj, h0⟩ := cnt_pos h
          exact h0 (hd j (by have := hps.nlt; omega))
      refine joinW_use2 (Pre := fun vn vo w3 => ∃ (tr' : List Int) (rem' : Nat → Int) (next' : Nat) (V' : List Value) (G' : Nat → Option Nat) (Lf' : List Int) (F' : Nat → Prop), vn = I next' ∧ vo = I (cnt rem' next') ∧ tr'.length = tr.length + 1 ∧ Ps l a c.R tr' rem' next' Lf' ∧ Ms c tr' (Qu a c.R next' rem') F' w3 V' G' Lf' ∧
        (2001 - tr'.length) + (tot rem' a.length).toNat < (2001 - tr.length) + (tot rem a.length).toNat) ?_ ?_
      · rintro _ _ w3 ⟨tr', rem', next', V', G', Lf', F', rfl, rfl, htl, hps', hms', hlt⟩
        have htot := tot_nonneg (rem := rem) (n := a.length) fun j hj => (hrng j hj).1
        rw [w_add, wrap_id (by omega), loopK_self]
        exact ⟨_, hlt, tr', rem', next', V', G', Lf', F', rfl, rfl, by rw [htl]; simp [I], hps', hms', rfl⟩
      · intro J hJ
        refine Loop2.intro (fun mm vn vo w3 => ∃ (nx : Nat) (V : List Value) (G : Nat → Option Nat) (Lf : List Int), vn = I nx ∧ vo = I (cnt rem nx) ∧ Ps l a c.R tr rem nx Lf ∧ Ms c tr (Qu a c.R nx rem) F w3 V G Lf ∧ mm = a.length - nx) _ ⟨next, V, G, Lf, rfl, rfl, hps, hms, rfl⟩ ?_
        clear hps hms haw hgo next V G Lf w'
        rintro mm _ _ w3 ⟨nx, V, G, Lf, rfl, rfl, hps, hms, rfl⟩
        have haw := ha.below hms.below
        have hlw := hl.below hms.below
        refine (ld23 (hms.b2.cell (i := 0) rfl)).mpr ((len23 haw).mpr ?_)
        rw [w_lss]
        refine absorb_cond (wI := c.wI) hp haw hms.b2 ?_
        have hcl := cnt_le (rem := rem) nx
        have hnl := hps.nlt
        have hal := hp.len
        by_cases hgo : nx < a.length ∧ atA a nx ≤ tr.length
        · obtain ⟨hlt, hat⟩ := hgo
          obtain ⟨x, hx, hax, hsx, hsl, hxt⟩ := proper_at hp hlt
          obtain ⟨pe, pn, pc, pq⟩ := hps.absorb hp hlt hat
          have hrk := hR.get hsl
          have hrn : rk c.R (stA a nx) < c.n := by rw [hcn]; exact hrk.2
          have hqlen : (Qu a c.R nx rem (rk c.R (stA a nx))).length ≤ nx := by
            unfold Qu
            exact Nat.le_trans (List.length_filter_le _ _) (by simp)
          rw [decide_eq_true hlt, decide_eq_true hat]
          simp only [Bool.and_true, condW_true]
          refine joinW_use1 (Pre := fun vo w4 => ∃ (V : List Value) (G : Nat → Option Nat) (Lf : List Int), vo = I (cnt rem (nx + 1)) ∧ Ps l a c.R tr rem (nx + 1) Lf ∧ Ms c tr (Qu a c.R (nx + 1) rem) F w4 V G Lf) ?_ ?_
          · rintro _ w4 ⟨V', G', Lf', rfl, hps', hms'⟩
            rw [w_add, wrap_id (by omega), loopK_self]
            exact ⟨a.length - (nx + 1), by omega, nx + 1, V', G', Lf', by simp [I], rfl, hps', hms', rfl⟩
          · intro J2 hJ2
            refine (ld23 (hms.b2.cell (i := 0) rfl)).mpr ?_
            refine ix23 (x := x) haw rfl (by omega) hx fun b o hc => ?_
            rw [fl31_0]
            refine (ld3 (v := I x.stream) (hc 0 _ rfl)).mpr ?_
            rw [← hsx, ixz26 (by rw [hR.len]; exact hsl)]
            have hcR := hms.oR.cell hrk.1 0 _ rfl
            simp only [fN, Nat.mul_one, Nat.add_zero] at hcR
            refine (ld3 (v := I (rk c.R (stA a nx))) hcR).mpr ?_
            obtain ⟨v, hv, hq, hcell⟩ := hms.at hrn
            rw [ixz44 hrn]
            refine (ld26 hcell).mpr ?_
            refine (len26 hq.sl).mpr ?_
            rw [w_eql]
            by_cases hq0 : Qu a c.R nx rem (rk c.R (stA a nx)) = []
            · rw [hq0]
              simp only [List.length_nil]
              rw [decide_eq_true (show ((0 : Nat) : Int) = 0 by rfl), condW_true, drewW_eq]
              have hd := hms.drew ok
              have hs : l[x.stream.toNat]? = some l[stA a nx] := by rw [show x.stream.toNat = stA a nx by omega]; exact List.getElem?_eq_getElem hsl
              have hsz : l[stA a nx].size = szA l a nx := by unfold szA; rw [List.getD_eq_getElem?_getD, List.getElem?_eq_getElem hsl]; rfl
              rw [xld59 (w := w3.drew) (hd.b1.cell (i := 0) rfl), xld23 (w := w3.drew) (hd.b2.cell (i := 0) rfl)]
              refine tix23 (x := x) haw.drew rfl (by omega) hx fun b2 o2 hc2 => ?_
              rw [tfl31_0, xld3 (w := w3.drew) (show w3.drew.cell? ⟨b2, o2, none⟩ = some (I x.stream) from hc2 0 _ rfl)]
              refine tix59 (x := l[stA a nx]) (F := fS) hlw.drew rfl (by omega) hs fun b3 o3 hc3 => ?_
              rw [tfl34_1, xld3 (w := w3.drew) (hc3 1 _ rfl), hsz, tixz26 hrn]
              obtain ⟨hm4, ⟨old, hold⟩, hfr⟩ := hd.setLeft ok hrn (szA l a nx)
              refine (st3 (by rfl) hold hfr).mpr ?_
              refine Ms.pushAll ok hm4 hrn (x := nx) (by omega) fun w5 V5 G5 hm5 => ?_
              rw [pq] at hm5
              rw [w_add, wrap_id (by omega)]
              exact hJ2 _ _ ⟨V5, G5, _, by rw [pc]; simp [I], pe hq0, hm5⟩
            · have hq1 : (Qu a c.R nx rem (rk c.R (stA a nx))).length ≠ 0 := fun h => hq0 (List.eq_nil_of_length_eq_zero h)
              rw [decide_eq_false (by omega), condW_false]
              refine Ms.pushAll ok hms hrn (x := nx) (by omega) fun w5 V5 G5 hm5 => ?_
              rw [pq] at hm5
              rw [w_add, wrap_id (by omega)]
              exact hJ2 _ _ ⟨V5, G5, Lf, by rw [pc]; simp [I], pn hq0, hm5⟩
        · rw [show (decide (nx < a.length) && decide (atA a nx ≤ (tr.length : Int))) = false by simpa using hgo, condW_false, leno44]
          have hcome : ∀ j, j < a.length → atA a j ≤ tr.length → j < nx := fun j hj hat => by
            apply Classical.byContradiction
            intro hnj
            have hlt : nx < a.length := by omega
            have : ¬ atA a nx ≤ tr.length := fun h => hgo ⟨hlt, h⟩
            by_cases hjn : nx = j
            · subst hjn; exact this hat
            · have := at_mono hp (show nx < j by omega) hj; omega
          refine Loop2.intro (fun mm vo vi w4 => ∃ i : Nat, vo = I (cnt rem nx) ∧ vi = I i ∧ i ≤ c.n ∧ w4 = w3 ∧ mm = c.n - i ∧ ∀ r, r < i → Qu a c.R nx rem r = []) _ ⟨0, rfl, rfl, by omega, rfl, rfl, by omega⟩ ?_
          rintro mm _ _ w5 ⟨i, rfl, rfl, hi, hw5, rfl, hlow⟩
          obtain rfl : w3 = w5 := hw5.symm
          have hn8 := ok.n8
          rw [w_lss]
          by_cases hin : i < c.n
          · rw [decide_eq_true (by omega), condW_true, ixz44 hin]
            obtain ⟨v, hv, hq, hcell⟩ := hms.at hin
            refine (ld26 hcell).mpr ((len26 hq.sl).mpr ?_)
            rw [w_eql]
            cases hQ : Qu a c.R nx rem i with
            | nil =>
              rw [List.length_nil, decide_eq_true (show ((0 : Nat) : Int) = 0 by rfl), condW_true, w_add, wrap_id (by omega), loopK_self]
              refine ⟨c.n - (i + 1), by omega, i + 1, rfl, by simp [I], by omega, rfl, rfl, fun r hr => ?_⟩
              by_cases hri : r = i
              · subst hri; exact hQ
              · exact hlow r (by omega)
            | cons j tl =>
              rw [List.length_cons, decide_eq_false (by omega), condW_false]
              rw [hQ] at hq
              have hjm := mem_Qu.1 (show j ∈ Qu a c.R nx rem i by rw [hQ]; simp)
              have hbest := best_of_queue hp hR hps.nlt (fun j hj => (hrng j hj).1) hps.past hcome hQ hlow
              obtain ⟨x, hx, hax, hsx, hsl, hxt⟩ := proper_at hp hbest.lt
              have hrj := hrng j hbest.lt
              have hszr := szA_range hp hbest.lt
              obtain ⟨hLj, hLt⟩ := hps.left.2 i j tl (by omega) hQ
              obtain ⟨g, hG⟩ : ∃ g, G i = some g := by
                cases hG : G i with
                | none => rw [hG] at hq; exact absurd hq.2 (by simp)
                | some g => exact ⟨g, rfl⟩
              have hdg := hms.dis i g hin hG
              rw [hG] at hq
              have hcL := hms.oL.cell hLj 0 _ rfl
              simp only [fI, Nat.mul_one, Nat.add_zero] at hcL
              rw [ixz26 hin]
              refine (ld3 hcL).mpr ?_
              rw [w_sub, wrap_id (by omega), ixz26 hin]
              obtain ⟨hm4, ⟨old, hold⟩, hfr⟩ := hms.setLeft ok hin (rem j - 1)
              refine (st3 (by rfl) hold hfr).mpr ?_
              have hoff4 : Off (· = c.gL) w3 (w3.setCell ⟨c.gL, i, none⟩ (I (rem j - 1))) := Off.set rfl
              generalize w3.setCell ⟨c.gL, i, none⟩ (I (rem j - 1)) = w4 at *
              have hq4 : SubS fN w4 c.B1 3 g v (j :: tl) := SubS.off hq hoff4 hdg.2.1
              have hilf : i < Lf.length := by rw [hms.llen]; exact hin
              have hcL4 := hm4.oL.cell (show (Lf.set i (rem j - 1))[i]? = some (rem j - 1) by rw [List.getElem?_set, if_pos rfl, if_pos hilf]) 0 _ rfl
              simp only [fI, Nat.mul_one, Nat.add_zero] at hcL4
              rw [ixz26 hin]
              refine (ld3 hcL4).mpr ?_
              rw [w_eql]
              have htot := tot_nonneg (rem := rem) (n := a.length) fun j hj => (hrng j hj).1
              have htd := tot_dec rem j a.length
              rw [if_pos hbest.lt] at htd
              have htp := tot_pos (rem := rem) (n := a.length) (fun j hj => (hrng j hj).1) ⟨j, hbest.lt, hjm.2.2⟩
              have hmeas : (2001 - (tr ++ [(j : Int)]).length) + (tot (dec rem j) a.length).toNat < (2001 - tr.length) + (tot rem a.length).toNat := by
                rw [htd]; simp only [List.length_append, List.length_singleton]; omega
              have hpast' : ∀ j', j' < nx → atA a j' ≤ (tr ++ [(j : Int)]).length := fun j' hj' => by have := hps.past j' hj'; simp; omega
              have hfresh' : ∀ j', nx ≤ j' → j' < a.length → dec rem j j' = szA l a j' := fun j' h1 h2 => by rw [dec_ne (by omega)]; exact hps.fresh j' h1 h2
              by_cases hone : rem j = 1
              · rw [decide_eq_true (by omega), condW_true, drewW_eq]
                rw [show rem j - 1 = 0 by omega] at hm4
                have hd4 := hm4.drew ok
                have hq4d : SubS fN w4.drew c.B1 3 g v (j :: tl) := hq4.same rfl
                obtain ⟨o, cp, hvv, hcp1, hcp2, htail⟩ := SubS.tail rfl hq4d
                subst hvv
                have hs : l[x.stream.toNat]? = some l[stA a j] := by rw [show x.stream.toNat = stA a j by omega]; exact List.getElem?_eq_getElem hsl
                have hsz : l[stA a j].size = szA l a j := by unfold szA; rw [List.getD_eq_getElem?_getD, List.getElem?_eq_getElem hsl]; rfl
                have hb1c := hd4.b1.cell (i := 0) (u := c.lv) rfl
                have hb2c := hd4.b2.cell (i := 0) (u := c.av) rfl
                refine ⟨fun w' => RowAt w' c.bx1 59 [c.lv] ∧ RowAt w' c.bx2 23 [c.av], ⟨hd4.b1, hd4.b2⟩, ?_⟩
                rw [t_from1 und26 (by rw [el26']; exact known3) (by rw [el26', size3]) (by omega), Nat.add_sub_cancel, tld59 (w := w4.drew) (v := c.lv) hb1c (fun w' h => by rw [h.1.cell (i := 0) (u := c.lv) rfl]; exact hb1c.symm), tld23 (w := w4.drew) (v := c.av) hb2c (fun w' h => by rw [h.2.cell (i := 0) (u := c.av) rfl]; exact hb2c.symm)]
                refine tix26 (x := j) (F := fN) hq4d.sl rfl (by omega) rfl fun b1 o1 hc1 => ?_
                rw [xld3 (show w4.drew.cell? ⟨b1, o1, none⟩ = some (I j) from hc1 0 _ rfl)]
                refine tix23 (x := x) (ha.below hd4.below) rfl (by omega) (by simpa using hx) fun b2 o2 hc2 => ?_
                rw [tfl31_0, xld3 (show w4.drew.cell? ⟨b2, o2, none⟩ = some (I x.stream) from hc2 0 _ rfl)]
                refine tix59 (x := l[stA a j]) (F := fS) (hl.below hd4.below) rfl (by omega) hs fun b3 o3 hc3 => ?_
                rw [tfl34_1, xld3 (w := w4.drew) (hc3 1 _ rfl), hsz, tixz44 hin]
                obtain ⟨hm5, ⟨old5, hold5⟩, hfr5⟩ := hd4.setQ ok hin (Q := tl) (G' := some g) htail (fun g' hg' => by cases hg'; exact ⟨hdg.1, hdg.2.1, hdg.2.2.1, hdg.2.2.2, fun r' hr' hne he => hne (hms.inj r' i g hr' hin he hG)⟩)
                refine (st26 rfl hold5 hfr5).mpr ?_
                have hq5 : SubS fN _ c.B1 3 g _ (j :: tl) := hq4d.off (Off.set (p := (· = c.gW)) (g := c.gW) (i := i) (u := .slice (some (if cp = 1 then ⟨g, o, none⟩ else ⟨g, o + 1, none⟩)) tl.length (cp - 1)) rfl) hdg.1
                generalize w4.drew.setCell ⟨c.gW, i, none⟩ _ = w5 at *
                rw [keepS_eq]
                refine ⟨⟨hm5.b1, hm5.b2⟩, ?_⟩
                rw [tixz26 hin]
                obtain ⟨hm6, ⟨old6, hold6⟩, hfr6⟩ := hm5.setLeft ok hin (szA l a j)
                refine (st3 rfl hold6 hfr6).mpr ?_
                have hq6 : SubS fN _ c.B1 3 g _ (j :: tl) := hq5.off (Off.set (p := (· = c.gL)) (g := c.gL) (i := i) (u := I (szA l a j)) rfl) hdg.2.1
                generalize w5.setCell ⟨c.gL, i, none⟩ _ = w6 at *
                rw [keepS_eq]
                refine ⟨⟨hm6.b1, hm6.b2⟩, ?_⟩
                have hcf := cnt_fin hone nx
                rw [if_pos hjm.1] at hcf
                rw [w_sub, wrap_id (by omega)]
                refine ix26 (x := j) (F := fN) hq6.sl rfl (by omega) rfl fun b o hc => ?_
                refine (ld3 (v := I j) (hc 0 _ rfl)).mpr ?_
                refine ok.y.call tr j F _ _ hm6.inv hm6.below (.inr ⟨by omega, by have := hbest.lt; omega⟩) (by omega) fun F' w7 hb7 ho7 hF7 hi7 => ?_
                rw [w_not]
                simp only [Bool.not_true, condW_false]
                have hm7 := hm6.yield ok hb7 ho7 hF7 hi7
                rw [show (fun r' => if r' = i then tl else Qu a c.R nx rem r') = Qu a c.R nx (dec rem j) from (funext fun r => by
                  by_cases hr : r = i
                  · subst hr; rw [if_pos rfl, Qu_fin hone hQ]
                  · rw [if_neg hr, Qu_fin_other (by rw [hjm.2.1]; exact fun hh => hr hh.symm)])] at hm7
                exact hJ _ _ _ ⟨tr ++ [(j : Int)], dec rem j, nx, _, _, _, F', rfl, by rw [hcf]; simp [I], by simp, ⟨.send hps.run hbest, hps.nlt, hpast', hfresh', hps.left.finish hp hR hps.nlt (by omega) hQ hone⟩, hm7, hmeas⟩
              · rw [decide_eq_false (by omega), condW_false]
                refine ix26 (x := j) (F := fN) hq4.sl rfl (by omega) rfl fun b o hc => ?_
                refine (ld3 (v := I j) (hc 0 _ rfl)).mpr ?_
                refine ok.y.call tr j F _ _ hm4.inv hm4.below (.inr ⟨by omega, by have := hbest.lt; omega⟩) (by omega) fun F' w7 hb7 ho7 hF7 hi7 => ?_
                rw [w_not]
                simp only [Bool.not_true, condW_false]
                refine hJ _ _ _ ⟨tr ++ [(j : Int)], dec rem j, nx, V, G, _, F', rfl, by rw [cnt_dec hjm.2.2 hone], by simp, ⟨.send hps.run hbest, hps.nlt, hpast', hfresh', hps.left.send (by omega) hQ hone⟩, ?_, hmeas⟩
                rw [show Qu a c.R nx (dec rem j) = Qu a c.R nx rem from funext fun r => Qu_dec hjm.2.2 hone]
                exact hm4.yield ok hb7 ho7 hF7 hi7
          · rw [decide_eq_false (by omega), condW_false]
            have hidle := idle_of_queue hp hR hcome (fun r hr => hlow r (by omega))
            refine ok.y.call tr (-1) F _ _ hms.inv hms.below (.inl rfl) (by have := tot_nonneg (rem := rem) (n := a.length) fun j hj => (hrng j hj).1; omega) fun F' w7 hb7 ho7 hF7 hi7 => ?_
            rw [w_not]
            simp only [Bool.not_true, condW_false]
            refine hJ _ _ _ ⟨tr ++ [-1], rem, nx, V, G, Lf, F', rfl, rfl, by simp, ⟨.idle hps.run hidle hnd, hps.nlt, fun j hj => by have := hps.past j hj; simp; omega, hps.fresh, hps.left⟩, hms.yield ok hb7 ho7 hF7 hi7, ?_⟩
            have : ∃ j, j < a.length ∧ rem j ≠ 0 := Classical.byContradiction fun hn => hnd fun j hj => Classical.byContradiction fun h0 => hn ⟨j, hj, h0⟩
            obtain ⟨j, hj, h0⟩ := this
            obtain ⟨x, hx, hax, _, _, ht⟩ := proper_at hp hj
            have h2 : ¬ atA a j ≤ tr.length := fun hh => h0 (hidle j hj hh)
            simp only [List.length_append, List.length_singleton]; omega
    · rw [show (decide ((next : Int) < (a.length : Int)) || decide ((0 : Int) < (cnt rem next : Int))) = false by simp; omega, condW_false]
      refine hk tr F w' ⟨rem, hps.run, fun j hj => cnt_zero (n := next) (by omega) j (by omega)⟩ hms.below hms.inv
  · intro J hJ
    have h1' := h1.below hb1
    have h2' := h2.below hb1
    rw [drewW_eq]
    refine ⟨fun w' => Below w1.heap.size w1 w', below_drew w1, ?_⟩
    have tl : ∀ {K : Value → Prop}, takeW Try.prog (fun w' => Below w1.heap.size w1 w') (Instr.loadAt 59 (.pointer (some ⟨bx1, 0, none⟩))) K w1.drew = K lv := fun {K} =>
      tld59 (w := w1.drew) (v := lv) (h1'.cell (i := 0) rfl) (fun w' hw' => World.cell?_of_block (w := w1) (hw'.block bx1 h1'.lt))
    rw [tl, tlen59 (w := w1.drew) (hl.below hb01).drew, tl, tlen59 (w := w1.drew) (hl.below hb01).drew]
    have hx1 := h1.lt
    have hx2 := h2.lt
    have hoRg := hoR.ge
    have e1 : (w1.drew).heap.size = w1.heap.size := rfl
    have mk : ∀ (gW gL : Nat) (w3 : World), gW ≠ gL → w1.heap.size ≤ gW → w1.heap.size ≤ gL → Below w1.heap.size w1 w3 → OwnS fV w3 gW 26 gW l.length (List.replicate l.length (.slice none 0 0)) → OwnS fI w3 gL 3 gL l.length (List.replicate l.length 0) →
        J (.slice (some ⟨gW, 0, none⟩) l.length l.length) (.slice (some ⟨gL, 0, none⟩) l.length l.length) w3 := fun gW gL w3 hne hgW hgL hb3 hoW hoL => by
      refine hJ _ _ _ ⟨⟨wI, lv, av, bx1, bx2, gR, cR, gW, gL, w.heap.size, l.length, R, Inv⟩, rfl, rfl, rfl, rfl, rfl, rfl, rfl, rfl, rfl, rfl, rfl, rfl, ⟨Y, hne, by show gW ≠ gR; omega, by show gL ≠ gR; omega, hx1, hx2, hb.size, hv.2⟩, ?_⟩
      have hlt := fun b hb => (Y.lt [] F0 w b h0 hb).2
      have hsz := hb1.size
      refine ⟨Y.stab [] F0 w w3 (fun _ => False) h0 (Off.below (hb1.trans (hb3.mono hsz))) (fun _ _ => id), hb01.trans (hb3.mono hb01.size), hoW.base (by show w.heap.size ≤ gW; omega), hoL.base (by show w.heap.size ≤ gL; omega), hoR.below hb3, h1'.below hb3, h2'.below hb3, by simp, by simp, fun r hr => ⟨.slice none 0 0, by simp [hr], rfl, rfl⟩, fun _ _ _ _ _ h => (by cases h), fun _ _ _ h => (by cases h),
        fun h => (by have : gW < w.heap.size := hlt _ h; omega), fun h => (by have : gL < w.heap.size := hlt _ h; omega), fun h => (by have : gR < w.heap.size := hlt _ h; omega), hF.1, hF.2⟩
    refine ⟨?_, ?_⟩
    · refine w_make (base := w1.heap.size) sty44 (by omega) (by unfold maxLen; omega) (Nat.le_refl _) fun w2 ho2 hg2 => ?_
      have ho2 := OwnS.zerosV rfl ho2
      have hb2 : Below w1.heap.size w1 w2 := below_grown (B := w1.heap.size) (below_drew w1) (Nat.le_refl _) hg2 (by simp)
      rw [keepS_eq]
      refine ⟨hb2, ?_⟩
      refine w_make (base := w2.heap.size) sty26 (by omega) (by unfold maxLen; omega) (Nat.le_refl _) fun w3 ho3 hg3 => ?_
      have ho3 := OwnS.zeros ho3
      have hb3 : Below w2.heap.size w2 w3 := below_grown (B := w2.heap.size) (Below.refl _ _) (Nat.le_refl _) hg3 (by simp)
      have hb13 := hb2.trans (hb3.mono hb2.size)
      rw [keepS_eq]
      have hlt := ho2.ge
      exact ⟨hb13, mk _ _ _ (by omega) (Nat.le_refl _) hb2.size hb13 (ho2.below hb3) ho3⟩
    · refine w_make (base := w1.heap.size) sty26 (by omega) (by unfold maxLen; omega) (Nat.le_refl _) fun w2 ho2 hg2 => ?_
      have ho2 := OwnS.zeros ho2
      have hb2 : Below w1.heap.size w1 w2 := below_grown (B := w1.heap.size) (below_drew w1) (Nat.le_refl _) hg2 (by simp)
      rw [keepS_eq]
      refine ⟨hb2, ?_⟩
      refine w_make (base := w2.heap.size) sty44 (by omega) (by unfold maxLen; omega) (Nat.le_refl _) fun w3 ho3 hg3 => ?_
      have ho3 := OwnS.zerosV rfl ho3
      have hb3 : Below w2.heap.size w2 w3 := below_grown (B := w2.heap.size) (Below.refl _ _) (Nat.le_refl _) hg3 (by simp)
      have hb13 := hb2.trans (hb3.mono hb2.size)
      rw [keepS_eq]
      have hlt := ho2.ge
      exact ⟨hb13, mk _ _ _ (by omega) hb2.size (Nat.le_refl _) hb13 ho3 (ho2.below hb3)⟩
end
end Go.Proofs.Ytidnjppalebbfaa
