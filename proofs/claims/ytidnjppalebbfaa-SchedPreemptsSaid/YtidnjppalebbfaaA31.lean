/- The law of preemption: the walk. -/
import Derived.Test.YtidnjppalebbfaaA30
set_option linter.unusedSimpArgs false
set_option linter.unusedVariables false
namespace Go.Proofs.Ytidnjppalebbfaa
open Go Go.V Go.RowKit
abbrev B8 := { gs : List Bool // gs.length = 8 }
def fB : Fl B8 := ⟨8, fun g => g.1.map Value.bool, fun g => by simp [g.2]⟩
section
variable {k : Value → World → Prop} {w : World}
theorem bs51 {x y : B8} (hk : ∀ v w', Below w.heap.size w w' → IsSl fB w' v [x, y] → k v w') : opW Try.prog (Instr.buildSlice 51 2 #[(0, .agg (x.1.map Value.bool).toArray), (1, .agg (y.1.map Value.bool).toArray)]) k w := by
  obtain ⟨x, hx⟩ := x
  obtain ⟨y, hy⟩ := y
  match x, hx, y, hy with
  | [a0, a1, a2, a3, a4, a5, a6, a7], hx, [b0, b1, b2, b3, b4, b5, b6, b7], hy =>
    have := hk (.slice (some ⟨w.heap.size, 0, none⟩) 2 2) _ (below_alloc w _) (IsSl.row (F := fB) w 50 2 [⟨[a0, a1, a2, a3, a4, a5, a6, a7], hx⟩, ⟨[b0, b1, b2, b3, b4, b5, b6, b7], hy⟩] (Nat.le_refl _))
    rw [opW_ok (show (Instr.buildSlice 51 2 #[(0, .agg ([a0, a1, a2, a3, a4, a5, a6, a7].map Value.bool).toArray), (1, .agg ([b0, b1, b2, b3, b4, b5, b6, b7].map Value.bool).toArray)]).run Try.prog w = .ok (.slice (some ⟨w.heap.size, 0, none⟩) 2 2) (w.alloc (.cells (flat fB [⟨[a0, a1, a2, a3, a4, a5, a6, a7], hx⟩, ⟨[b0, b1, b2, b3, b4, b5, b6, b7], hy⟩]).toArray 50 (0, 0))) by kernel_rfl)]
    exact this
theorem nv50 {x : B8} {kk : Value → Value → World → Prop} (h : ∀ w', Below w.heap.size w w' → w'.heap.size = w.heap.size + 1 → RowAt w' w.heap.size 50 (x.1.map Value.bool) → kk (.pointer (some ⟨w.heap.size, 0, none⟩)) undef w') :
    opW Try.prog (Instr.alloc 50 true (.tuple #[])) (fun p w => opU Try.prog (Instr.storeAt 50 p (.agg (x.1.map Value.bool).toArray)) (kk p) w) w :=
  w_var (vs := x.1.map Value.bool) hz50 (by rw [zc50]; simp [x.2]) (by intro v hv; obtain ⟨b, _, rfl⟩ := List.mem_map.1 hv; rfl) (by rw [size50]; simp [x.2]) known50 h
/-- which of eight streams go: up to j those after i -/
def laterL (l : List Stream) (i j : Nat) : List Bool := (List.range 8).map fun s => decide (s < j) && beforeB l i s
theorem laterL_length (l : List Stream) (i j : Nat) : (laterL l i j).length = 8 := by simp [laterL]
theorem laterL_get {l : List Stream} {i j s : Nat} (hs : s < 8) : (laterL l i j)[s]? = some (decide (s < j) && beforeB l i s) := by
  unfold laterL
  rw [List.getElem?_map, List.getElem?_range hs]; rfl
theorem laterL_set {l : List Stream} {i j : Nat} (hj : j < 8) : (laterL l i j).set j (beforeB l i j) = laterL l i (j + 1) := by
  unfold laterL
  refine List.ext_getElem (by simp) fun s h1 h2 => ?_
  simp only [List.getElem_set, List.getElem_map, List.getElem_range]
  by_cases he : j = s
  · subst he; simp
  · rw [if_neg he]
    congr 1
    by_cases h : s < j
    · simp [h, show s < j + 1 by omega]
    · simp [h, show ¬ s < j + 1 by omega]
def otherL (kk : Nat) : List Bool := (List.range 8).map fun s => decide (s = kk)
theorem otherL_length (kk : Nat) : (otherL kk).length = 8 := by simp [otherL]
theorem map_set_bool (gs : List Bool) (j : Nat) (b : Bool) : (gs.map Value.bool).set j (.bool b) = (gs.set j b).map Value.bool := by
  rw [List.map_set]
set_option maxRecDepth 100000 in
theorem s6 {xv yv : Value} {one two : Int} {xs : List (Int × Int × Int)} {ys : List (Int × Int)} (hx : IsSl fT3 w xv xs) (hxr : ∀ x ∈ xs, inI64 x.1 ∧ inI64 x.2.1 ∧ inI64 x.2.2) (hy : IsSl fT2 w yv ys) (hyr : ∀ x ∈ ys, inI64 x.1 ∧ inI64 x.2) (h1 : inI64 one) (h2 : inI64 two) (hk : ∀ w', Below w.heap.size w w' → k (.bool true) w') : S6 xv yv (I one) (I two) k w := by
  unfold S6
  refine c9 fun w1 hb1 => ?_
  rw [w_not, Bool.not_true, condW_false]
  refine c10 (hx.below hb1) hxr fun lv l w2 hb2 hl hv => ?_
  have hb02 := below_trans hb1 hb2
  refine c11 hl hv (hy.below hb02) hyr fun av a w3 hb3 ha hp h40 => ?_
  have hln := (valid_at hv).1
  have hlm : l.length ≤ maxLen := by unfold maxLen; omega
  replace hl := hl.below hb3
  have hb03 := below_trans hb02 hb3
  refine (len22 hl).mpr ?_
  refine c12 (by omega) ?_
  have p1 := pickI_range (c := one) (n := l.length) (by omega) h1
  generalize pickI one l.length = ps at *
  obtain ⟨i, rfl⟩ : ∃ i : Nat, ps = i := ⟨ps.toNat, by omega⟩
  refine (len22 hl).mpr ?_
  refine c12 (by omega) ?_
  have p2 := pickI_range (c := two) (n := l.length) (by omega) h2
  generalize pickI two l.length = pt at *
  obtain ⟨kk, rfl⟩ : ∃ kk : Nat, pt = kk := ⟨pt.toNat, by omega⟩
  refine al50 fun w4 hb4 hsz4 hr4 => ?_
  have hb04 := below_trans hb03 hb4
  refine Loop1.intro (fun n c w' => ∃ j : Nat, c = I j ∧ j ≤ l.length ∧ n = l.length - j ∧ Below w3.heap.size w3 w' ∧ RowAt w' w3.heap.size 50 ((laterL l i j).map Value.bool)) _ ⟨0, rfl, by omega, rfl, hb4, by simpa [laterL, List.range_succ] using hr4⟩ ?_
  rintro n _ w5 ⟨j, rfl, hj, rfl, hb5, hr5⟩
  have hl5 := hl.below hb5
  refine (len22 hl5).mpr ?_
  rw [w_lss]
  by_cases hlt : j < l.length
  · rw [decide_eq_true (by omega), condW_true]
    refine c26 hl5 (by omega) hlt fun w6 hb6 => ?_
    have hr6 := hr5.below hb6
    rw [war50 (by omega) (by omega), show 0 + ((j : Nat) : Int).toNat = j by omega]
    refine (st4 (v := .bool (beforeB l i j)) rfl (hr6.cell (i := j) (u := .bool (decide (j < j) && beforeB l i j)) (by rw [List.getElem?_map, laterL_get (by omega)]; rfl)) (hr6.free _)).mpr ?_
    have hr7 := hr6.set j (.bool (beforeB l i j))
    rw [map_set_bool, laterL_set (by omega)] at hr7
    rw [w_add, wrap_id (by omega), loopK_self]
    exact ⟨l.length - (j + 1), by omega, j + 1, by simp [I], by omega, rfl, (hb5.trans (hb6.mono hb5.size)).setCell (Nat.le_refl _) _, by simpa using hr7⟩
  · rw [decide_eq_false (by omega), condW_false]
    obtain rfl : j = l.length := by omega
    refine al50 fun w6 hb6 hsz6 hr6 => ?_
    have hr56 := hr5.below hb6
    have hg := hr5.lt
    rw [war50 (by omega) (by omega), show 0 + ((kk : Nat) : Int).toNat = kk by omega]
    have hrz : RowAt w6 w5.heap.size 50 ((List.replicate 8 false).map Value.bool) := hr6
    refine (st4 (v := .bool true) rfl (hrz.cell (i := kk) (u := .bool false) (by rw [List.getElem?_map, List.getElem?_replicate, if_pos (by omega)]; rfl)) (hrz.free _)).mpr ?_
    have hr7 : RowAt (w6.setCell ⟨w5.heap.size, kk, none⟩ (.bool true)) w5.heap.size 50 ((otherL kk).map Value.bool) := by
      have := hrz.set kk (.bool true)
      rw [map_set_bool] at this
      have e : (List.replicate 8 false).set kk true = otherL kk := by
        refine List.ext_getElem (by simp [otherL]) fun s h1 h2 => ?_
        simp only [List.getElem_set, List.getElem_replicate, otherL, List.getElem_map, List.getElem_range]
        by_cases he : kk = s
        · subst he; simp
        · rw [if_neg he]; simp; omega
      rwa [e] at this
    have hof7 : Off (· = w5.heap.size) w6 (w6.setCell ⟨w5.heap.size, kk, none⟩ (.bool true)) := Off.set rfl
    have hr57 := hr56.off hof7 (by omega)
    have hb7 : Below w3.heap.size w3 (w6.setCell ⟨w5.heap.size, kk, none⟩ (.bool true)) := (hb5.trans (hb6.mono hb5.size)).setCell (by have := hb5.size; exact this) _
    generalize w6.setCell ⟨w5.heap.size, kk, none⟩ (.bool true) = w7 at *
    have hl7 := hl.below hb7
    have ha7 := ha.below hb7
    have hb07 := below_trans hb03 hb7
    refine c20 hl7 ha7 hlm (fun w' _ hn => absurd hp hn) fun tr fv w8 hb8 _ htr hf => ?_
    have lo := line_ok hp htr
    generalize finOf a.length tr = f at *
    have e0 : (!decide ((0 : Int) = 0)) = false := by decide
    rw [w_ex0, w_ex1, w_neq, e0]
    simp only [guardW_ff, pickW_false]
    refine (len26 hf).mpr ((len23 (ha7.below hb8)).mpr ?_)
    rw [w_neq, show (!decide ((f.length : Int) = (a.length : Int))) = false by simp [lo.flen], condW_false]
    rw [ld50 (vs := (laterL l i l.length).map Value.bool) (by simp [laterL_length]) (hr57.below hb8).cells, ld50 (vs := (otherL kk).map Value.bool) (by simp [otherL_length]) (hr7.below hb8).cells]
    refine bs51 (x := ⟨laterL l i l.length, laterL_length _ _ _⟩) (y := ⟨otherL kk, otherL_length _⟩) fun gv w9 hb9 hgv => ?_
    refine (len51 hgv).mpr ?_
    have ha9 := (ha7.below hb8).below hb9
    have hl9 := (hl7.below hb8).below hb9
    have hf9 := hf.below hb9
    have hb09 := below_trans (below_trans hb07 hb8) hb9
    have hkeep : ∀ (t : Nat) (g : B8), ([⟨laterL l i l.length, laterL_length _ _ _⟩, ⟨otherL kk, otherL_length _⟩] : List B8)[t]? = some g → t = 0 → ∀ y z, y < l.length → z < l.length → (!(g.1.getD y false)) = true → beforeB l z y = true → (!(g.1.getD z false)) = true := by
      rintro t g hg rfl y z hyl hzl h1 h2
      simp at hg
      subst hg
      simp only [List.getD_eq_getElem?_getD, laterL_get (l := l) (i := i) (j := l.length) (show y < 8 by omega), laterL_get (l := l) (i := i) (j := l.length) (show z < 8 by omega), Option.getD_some, decide_eq_true hyl, decide_eq_true hzl, Bool.true_and, Bool.not_eq_true'] at h1 ⊢
      cases hz : beforeB l i z with
      | false => rfl
      | true =>
        rw [beforeB_iff (by omega) hzl] at hz
        rw [beforeB_iff hzl hyl] at h2
        have h3 : beforeB l i y = true := by rw [beforeB_iff (by omega) hyl]; omega
        rw [h3] at h1; cases h1
    refine Loop1.intro (fun n c w' => ∃ t : Nat, c = I t ∧ t ≤ 2 ∧ n = 2 - t ∧ Below w9.heap.size w9 w') _ ⟨0, rfl, by omega, rfl, Below.refl _ _⟩ ?_
    rintro n _ wa ⟨t, rfl, ht, rfl, hba⟩
    rw [w_lss]
    by_cases ht2 : t < 2
    · rw [decide_eq_true (by simp; omega), condW_true]
      obtain ⟨g, hgt⟩ : ∃ g, ([⟨laterL l i l.length, laterL_length _ _ _⟩, ⟨otherL kk, otherL_length _⟩] : List B8)[t]? = some g := ⟨_, List.getElem?_eq_getElem (by simp; omega)⟩
      refine ix51 (x := g) (F := fB) (hgv.below hba) rfl (by omega) (by rw [show ((t : Int)).toNat = t by omega]; exact hgt) fun b o hc => ?_
      rw [ld50 (vs := g.1.map Value.bool) (by simp [g.2]) hc]
      refine nv50 fun wb hbb hszb hrb => ?_
      rw [ld50 (vs := g.1.map Value.bool) (by simp [g.2]) hrb.cells]
      have hb9b := below_trans hba hbb
      refine c27 g.2 (ha9.below hb9b) (fun x hx => by
        obtain ⟨m, hm, rfl⟩ := List.getElem_of_mem hx
        have := (hp.all m _ (List.getElem?_eq_getElem hm)).s
        omega) (by omega) fun bv wc hbc hbv => ?_
      have hb9c := below_trans hb9b hbc
      have hpb := hp.filter (fun s => !(g.1.getD s false))
      refine c20 (hl9.below hb9c) hbv hlm (fun w' _ hn => absurd hpb hn) fun tr' gv2 wd hbd _ htr' hg2 => ?_
      have lo' := line_ok hpb htr'
      generalize finOf (a.filter (kept fun s => !(g.1.getD s false))).length tr' = gf at *
      have hb9d := below_trans hb9c hbd
      rw [w_ex0, w_ex1, w_neq, e0]
      simp only [guardW_ff, pickW_false]
      refine (len26 hg2).mpr ((len23 (hbv.below hbd)).mpr ?_)
      rw [w_neq, show (!decide ((gf.length : Int) = ((a.filter (kept fun s => !(g.1.getD s false))).length : Int))) = false by simp [lo'.flen], condW_false]
      refine Loop2.intro (fun n c d w' => ∃ j : Nat, c = I (pos (fun s => !(g.1.getD s false)) a j) ∧ d = I j ∧ j ≤ a.length ∧ n = a.length - j ∧ Below wd.heap.size wd w') _ ⟨0, by simp [pos], rfl, by omega, rfl, Below.refl _ _⟩ ?_
      rintro n _ _ we ⟨j, rfl, rfl, hj, rfl, hbe⟩
      have hb9e := below_trans hb9d hbe
      have hae := ha9.below hb9e
      refine (len23 hae).mpr ?_
      rw [w_lss]
      by_cases hjl : j < a.length
      · rw [decide_eq_true (by omega), condW_true]
        obtain ⟨x, hxj, hax, hsx, hsl, _⟩ := proper_at hp hjl
        have hplen : pos (fun s => !(g.1.getD s false)) a j ≤ a.length := Nat.le_trans (List.length_filter_le _ _) (by simp; omega)
        refine joinW_use1 (Pre := fun v w' => v = I (pos (fun s => !(g.1.getD s false)) a (j + 1)) ∧ Below wd.heap.size wd w') ?_ ?_
        · rintro _ wf ⟨rfl, hbf⟩
          rw [w_add, wrap_id (by omega), loopK_self]
          exact ⟨a.length - (j + 1), by omega, j + 1, rfl, by simp [I], by omega, rfl, hbf⟩
        · intro J hJ
          have hre := ((hrb.below hbc).below hbd).below hbe
          refine getS hae (by omega) (by simpa using hxj) ?_
          rw [war50 (by omega) (by omega), show 0 + x.stream.toNat = stA a j by omega]
          have hgs : g.1[stA a j]? = some (g.1.getD (stA a j) false) := by rw [List.getD_eq_getElem?_getD, List.getElem?_eq_getElem (by rw [g.2]; omega)]; rfl
          refine (ld4 (v := .bool (g.1.getD (stA a j) false)) (hre.cell (by rw [List.getElem?_map, hgs]; rfl))).mpr ?_
          have hps : pos (fun s => !(g.1.getD s false)) a (j + 1) = pos (fun s => !(g.1.getD s false)) a j + if g.1.getD (stA a j) false then 0 else 1 := by
            unfold pos
            rw [List.take_add_one, hxj, List.filter_append, List.length_append]
            congr 1
            have : x.stream.toNat = stA a j := by omega
            have hkx : kept (fun s => !(g.1.getD s false)) x = !(g.1.getD (stA a j) false) := by unfold kept; rw [this]
            rw [show Option.toList (some x) = [x] from rfl]
            cases hb : g.1.getD (stA a j) false with
            | true =>
              rw [hb] at hkx
              rw [List.filter_cons_of_neg (by rw [hkx]; simp)]; rfl
            | false =>
              rw [hb] at hkx
              rw [List.filter_cons_of_pos (by rw [hkx]; rfl)]; rfl
          cases hgo : g.1.getD (stA a j) false with
          | true =>
            rw [hgo, if_pos rfl, Nat.add_zero] at hps
            rw [condW_true]
            exact hJ _ _ ⟨by rw [hps]; rfl, hbe⟩
          | false =>
            rw [hgo] at hps
            replace hps : pos (fun s => !(g.1.getD s false)) a (j + 1) = pos (fun s => !(g.1.getD s false)) a j + 1 := hps
            obtain ⟨u, v, hfu, hgv2, hvu, heq⟩ := without_fin (keep := fun s => !(g.1.getD s false)) hp lo lo' hjl (by show (!(g.1.getD (stA a j) false)) = true; rw [hgo]; rfl)
            have hfe := hf9.below hb9e
            have hge := (hg2.below hbe)
            rw [condW_false, drewW_eq, t_eql]
            have hfd := hfe.drew
            have hgd := hge.drew
            have hJ' := hJ (I (pos (fun s => !(g.1.getD s false)) a (j + 1))) we.drew ⟨rfl, hbe.trans ((Below.refl _ _).drew)⟩
            have hadd : Value.int IntKind.i64 (IntKind.i64.wrap ((pos (fun s => !(g.1.getD s false)) a j : Int) + 1)) = I (pos (fun s => !(g.1.getD s false)) a (j + 1)) := by
              rw [wrap_id (by omega), hps]; simp [I]
            have hlast : ∀ {P' : Prop}, J (I (pos (fun s => !(g.1.getD s false)) a (j + 1))) we.drew → condW (.bool (decide (u < v))) P' (opW Try.prog (binS BinOp.add 3 (Operand.tmp 133) (Operand.const (Value.int IntKind.i64 1)) (I (pos (fun s => !(g.1.getD s false)) a j)) (Value.int IntKind.i64 1)) (fun t134_93 w => J t134_93 w) we.drew) := fun h => by
              rw [decide_eq_false (by omega), condW_false, w_add, hadd]; exact h
            by_cases ht0 : t = 0
            · subst ht0
              have huv := heq (hkeep 0 g hgt rfl)
              rw [decide_eq_true (by omega)]
              simp only [guardT_tt]
              refine tix26 hfd rfl (by omega) (by simpa using hfu) fun b1 o1 hc1 => ?_
              refine (xld3 (hc1 0 _ rfl)).mpr ?_
              refine tix26 hgd rfl (by omega) (by simpa using hgv2) fun b2 o2 hc2 => ?_
              refine (xld3 (hc2 0 _ rfl)).mpr ?_
              rw [t_neq, decide_eq_true huv, Bool.not_true, pickT_true]
              simp only [guardT_ff]
              refine tix26 hgd rfl (by omega) (by simpa using hgv2) fun b2 o2 hc2 => ?_
              refine (xld3 (hc2 0 _ rfl)).mpr ?_
              refine tix26 hfd rfl (by omega) (by simpa using hfu) fun b1 o1 hc1 => ?_
              refine (xld3 (hc1 0 _ rfl)).mpr ?_
              rw [t_gtr, pickT_false]
              exact hlast hJ'
            · rw [decide_eq_false (by omega)]
              simp only [guardT_ft, pickT_false, guardT_ff]
              refine tix26 hgd rfl (by omega) (by simpa using hgv2) fun b2 o2 hc2 => ?_
              refine (xld3 (hc2 0 _ rfl)).mpr ?_
              refine tix26 hfd rfl (by omega) (by simpa using hfu) fun b1 o1 hc1 => ?_
              refine (xld3 (hc1 0 _ rfl)).mpr ?_
              rw [t_gtr]
              exact hlast hJ'
      · rw [decide_eq_false (by omega), condW_false, w_add, wrap_id (by omega), loopK_self]
        exact ⟨2 - (t + 1), by omega, t + 1, by simp [I], by omega, rfl, hb9e⟩
    · rw [decide_eq_false (by simp; omega), condW_false]
      exact hk _ (hb09.trans (hba.mono hb09.size))
end
end Go.Proofs.Ytidnjppalebbfaa
