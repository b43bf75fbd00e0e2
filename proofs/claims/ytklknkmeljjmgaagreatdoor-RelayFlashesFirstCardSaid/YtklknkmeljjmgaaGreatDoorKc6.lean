/- Part 7 of the proof of relayFlashesFirst: lemmas for it; no condition beyond the statement. -/
import Derived.Test.YtklknkmeljjmgaaGreatDoorKc5
/- Calls whose relay goes into a new variable. -/
set_option linter.unusedSimpArgs false
set_option linter.unusedVariables false
namespace Go.Proofs.YtklknkmeljjmgaaGreatDoor
open Go Go.V Go.RowKit
/-- a call that gives a relay and an error -/
def ResC (F : Value) (args : Array Value) (R : Int → Rel → Prop) (w0 : World) : Prop :=
  ∀ w1 k, after w0 w1 → (∀ v' w' e r', Below w1.heap.size w1 w' → R e r' → RelV w' v' r' → Fr w1.heap.size v' → k (.tuple #[v', I e]) w') → callW Tryz.prog F args k w1
/-- the variable under way -/
def NS (w0 w : World) (c : Option Nat) : Prop := after w0 w ∧ ∀ x, c = some x → RowAt w x 27 [I 0, I 0, .slice none 0 0, .slice none 0 0] ∧ w0.heap.size ≤ x
section
variable {k : Value → World → Prop} {w w0 : World} {c : Option Nat}
theorem ns_pick {a n : Int} {K : Value → World → Prop} (hn : n ≠ 0) (h : NS w0 w c) (hk : NS w0 w c → K (I (pickI a n)) w) : callW Tryz.prog (.func (.func 33) #[] #[]) #[I a, I n] (fun t w => keepS (after w0) (fun w => K t w) w) w :=
  c33 hn (by rw [keepS_eq]; exact ⟨h.1, hk h⟩)
theorem ns_al {K : Value → World → Prop} (h : NS w0 w none) (hk : ∀ x w', NS w0 w' (some x) → K (.pointer (some ⟨x, 0, none⟩)) w') : opW Tryz.prog (Instr.alloc 27 true (.tuple #[])) (fun s w => keepS (after w0) (fun w => K s w) w) w := by
  refine al27 fun w1 hb1 hs1 hr1 => ?_
  have hs := h.1.size
  have ha := h.1.trans (hb1.mono hs)
  rw [keepS_eq]
  exact ⟨ha, hk _ w1 ⟨ha, fun x e => by cases e; exact ⟨hr1, hs⟩⟩⟩
theorem ns_callA {F : Value} {args : Array Value} {R : Int → Rel → Prop} {J : Value → Value → World → Prop} (hc : ResC F args R w0) (h : NS w0 w none)
    (hJ : ∀ x w' e r', after w0 w' → R e r' → RV w0.heap.size x w' r' → w0.heap.size ≤ x → J (.pointer (some ⟨x, 0, none⟩)) (I e) w') :
    callW Tryz.prog F args (fun t w => takeW Tryz.prog anyW (Instr.extract t 0) (fun a => takeW Tryz.prog anyW (Instr.extract t 1) (fun b => opW Tryz.prog (Instr.alloc 27 true (.tuple #[])) (fun x w => keepS (after w0) (fun w => opU Tryz.prog (Instr.storeAt 27 x a) (fun _ w => J x b w) w) w) w) w) w) w := by
  refine hc w _ h.1 fun v' w1 e r' hb1 hR hv' hf => ?_
  rw [t_extract (v := v') rfl, t_extract (v := I e) rfl]
  have hs := h.1.size
  have ha1 := h.1.trans (hb1.mono hs)
  have hs1 := hb1.size
  obtain ⟨y, rfl⟩ := hv'.raw
  refine al27 fun w2 hb2 hs2 hr2 => ?_
  rw [keepS_eq]
  have ha2 := ha1.trans (hb2.mono ha1.size)
  refine ⟨ha2, ?_⟩
  refine sr27 (vs := fR.e y) rfl hr2 rfl (eR.one y) fun w3 ho3 hr3 => ?_
  have hb13 : Below w1.heap.size w1 w3 := hb2.trans (ho3.rest _ (Nat.le_refl _))
  exact hJ _ _ e r' (ha2.trans (ho3.rest _ ha1.size)) hR ⟨y, hr3, hv'.below hb13, fun b hb => Nat.le_trans hs (hf b hb)⟩ ha1.size
theorem ns_callB {F : Value} {args : Array Value} {R : Int → Rel → Prop} {J : Value → Value → World → Prop} {x : Nat} (hc : ResC F args R w0) (h : NS w0 w (some x))
    (hJ : ∀ x w' e r', after w0 w' → R e r' → RV w0.heap.size x w' r' → w0.heap.size ≤ x → J (.pointer (some ⟨x, 0, none⟩)) (I e) w') :
    callW Tryz.prog F args (fun t w => takeW Tryz.prog anyW (Instr.extract t 0) (fun a => takeW Tryz.prog anyW (Instr.extract t 1) (fun b => opU Tryz.prog (Instr.storeAt 27 (.pointer (some ⟨x, 0, none⟩)) a) (fun _ w => J (.pointer (some ⟨x, 0, none⟩)) b w) w) w) w) w := by
  refine hc w _ h.1 fun v' w1 e r' hb1 hR hv' hf => ?_
  rw [t_extract (v := v') rfl, t_extract (v := I e) rfl]
  obtain ⟨hr, hx⟩ := h.2 x rfl
  have hl := hr.lt
  have hs := h.1.size
  have ha1 := h.1.trans (hb1.mono hs)
  obtain ⟨y, rfl⟩ := hv'.raw
  refine sr27 (vs := fR.e y) rfl (hr.below hb1) rfl (eR.one y) fun w3 ho3 hr3 => ?_
  exact hJ _ _ e r' (ha1.trans (ho3.rest _ hx)) hR ⟨y, hr3, hv'.off (Off.only ho3 rfl) fun b hb he => by have := hf b hb; omega, fun b hb => Nat.le_trans hs (hf b hb)⟩ hx
theorem NS.start (w : World) : NS w w none := ⟨after_refl _, fun _ h => by cases h⟩
theorem resRefill {v : Value} {r : Rel} {n : Int} (hv : RelV w v r) (hs : small r) : ResC (.func (.func 34) #[] #[]) #[v, I n] (refillR r n) w := fun w1 k ha hk => c34 (hv.below ha) hs hk
theorem RV.la {n b : Nat} {r : Rel} {K : Value → Prop} (h : RV n b w0 r) (ha : after w0 w) (hk : ∀ v, RelV w0 v r → K v) : takeW Tryz.prog (after w0) (Instr.loadAt 27 (.pointer (some ⟨b, 0, none⟩))) K w := by
  obtain ⟨x, h1, h2, h3⟩ := h
  rw [la27 (vs := fR.e x) rfl h1.cells ha]
  exact hk _ h2
end
end Go.Proofs.YtklknkmeljjmgaaGreatDoor
/- RelayPaper. -/
set_option linter.unusedSimpArgs false
set_option linter.unusedVariables false
namespace Go.Proofs.YtklknkmeljjmgaaGreatDoor
open Go Go.V Go.RowKit
section
variable {k : Value → World → Prop} {w : World}
theorem Three.at {n : Nat} {rs : List Rel} (h : Three n rs) {i : Nat} (hi : i < 3) : ∃ r, rs[i]? = some r ∧ GoodR r ∧ r.paper ≤ 5 + 4 * n := by
  have hl := h.len
  exact ⟨_, List.getElem?_eq_getElem (by omega), h.good _ (List.getElem_mem _), h.paper _ (List.getElem_mem _)⟩
theorem GoodR.k12 {r : Rel} (h : GoodR r) : r.kept.length ≤ 12 := by have := kept_room h.ascK h.kept; omega
end
end Go.Proofs.YtklknkmeljjmgaaGreatDoor
/- RelayFlashesFirst. -/
set_option linter.unusedSimpArgs false
set_option linter.unusedVariables false
namespace Go.V
open Go Go.RowKit
theorem t_fromS {P : Program} {w0 w : World} {t : TypeId} {S : World → Prop} {K : Value → Prop} {α : Type} {F : Fl α} {v : Value} {l : List α} {q : IntKind} {m : Int} {i : Nat} (hm : m = (i : Int)) (ht : P.underlying t = some (.slice (P.elem t))) (hk : known P (P.elem t) = true) (hz : sizeT P (P.elem t) = F.sz) (hs : IsSl F w0 v l) (hi : i ≤ l.length)
    (h : ∀ v', IsSl F w0 v' (l.drop i) → K v') : takeW P S (Instr.sliceAt t v (some (.int q m)) none none) K w := by
  subst hm
  obtain ⟨a, c, rfl, hc, hx⟩ := hs
  rw [takeW_pure (fun w => run_sliceFrom ht hk hi w)]
  refine h _ ⟨_, _, by rw [List.length_drop], by simp; omega, fun j x hj => ?_⟩
  rw [List.getElem?_drop] at hj
  obtain ⟨b, o, rfl, hcl⟩ := hx _ _ hj
  have hlt := (List.getElem?_eq_some_iff.1 hj).1
  have hne : ¬ c = i := by omega
  refine ⟨b, o + i * F.sz, ?_, ?_⟩
  · rw [if_neg hne]
    simp [add_none, hz]
  · rw [Nat.add_assoc, ← Nat.add_mul]; exact hcl
end Go.V
namespace Go.Proofs.YtklknkmeljjmgaaGreatDoor
open Go Go.V Go.RowKit
def sumP : List Disp → Int
  | [] => 0
  | d :: l => pagesD d + sumP l
theorem sumP_take {l : List Disp} {k : Nat} {d : Disp} (h : l[k]? = some d) : sumP (l.take (k + 1)) = sumP (l.take k) + pagesD d := by
  rw [List.take_add_one, h]
  have : ∀ (a : List Disp) (x : Disp), sumP (a ++ [x]) = sumP a + pagesD x := fun a x => by
    induction a with
    | nil => simp [sumP]
    | cons y a ih => simp only [List.cons_append, sumP, ih]; omega
  exact this _ _
theorem sumP_nonneg : ∀ l, 0 ≤ sumP l ∧ sumP l ≤ 201 * l.length
  | [] => by simp [sumP]
  | d :: l => by have := sumP_nonneg l; have := pagesD_nonneg d; simp only [sumP, List.length_cons]; omega
theorem printT_sum : ∀ (l : List Disp) (p : Int), (printT p l).2 = p - sumP (printT p l).1
  | [], p => by simp [printT, sumP]
  | d :: l, p => by
    rw [printT]
    split
    · simp [sumP]
    · have := printT_sum l (p - pagesD d)
      simp only [sumP]; omega
theorem printT_stop : ∀ (l : List Disp) (p : Int) (d : Disp), l[(printT p l).1.length]? = some d → (printT p l).2 < pagesD d
  | [], p, d, h => by simp at h
  | x :: l, p, d, h => by
    rw [printT] at h ⊢
    split at h
    · rename_i hp
      rw [if_pos hp]
      simp at h; subst h; exact hp
    · rename_i hp
      rw [if_neg hp]
      simp only [List.length_cons, List.getElem?_cons_succ] at h
      exact printT_stop l _ d h
section
variable {k : Value → World → Prop} {w : World}
theorem s6 {xv : Value} {xs : List Q4} {pg : Int} (hg : Gl w) (hx : IsSl fQ w xv xs) (hok : ∀ q ∈ xs, okQ q) (h1 : in64 pg) (hk : ∀ w', Below w.heap.size w w' → k (.bool true) w') : S6 xv (I pg) k w := by
  unfold S6
  refine c10 hg fun w1 hb1 => ?_
  rw [w_not, Bool.not_true, condW_false]
  refine c12 (hx.below hb1) hok fun lv w2 rs hb2 hrs h3 => ?_
  have hg2 := (hg.below hb1 hg.2).below hb2 (by have := hg.2; have := hb1.size; omega)
  obtain ⟨ys, hsl, hys⟩ := hrs
  have hp1 := pickI_range (c := pg) (n := 9) (by omega) h1
  generalize hn1 : pickI pg 9 = n1 at *
  refine Loop1.intro (fun n a w' => ∃ i : Nat, a = I i ∧ i ≤ 3 ∧ n = 3 - i ∧ Below w2.heap.size w2 w') _ ⟨0, rfl, by omega, rfl, Below.refl _ _⟩ ?_
  rintro n _ w3 ⟨i, rfl, hi, rfl, hb3⟩
  rw [w_lss]
  by_cases hlt : i < 3
  case' neg =>
    rw [decide_eq_false (by omega), condW_false]
    exact hk w3 (below_trans (below_trans hb1 hb2) hb3)
  rw [decide_eq_true (by omega), condW_true]
  obtain ⟨r, hr, hgr, hpap⟩ := h3.at hlt
  obtain ⟨x, hxk, hrv⟩ := hys.at hr
  refine joinW_use2 (Pre := fun av ev w' => ∃ b a, av = .pointer (some ⟨b, 0, none⟩) ∧ ev = I 0 ∧ Below w2.heap.size w2 w' ∧ RV 0 b w' a ∧ GoodR a) ?_ ?_
  · rintro _ _ w4 ⟨b, a, rfl, rfl, hb4, A4, hga⟩
    refine A4.ld fun v4 hv4 => ?_
    refine c20 hv4 hga.small hga.k12 fun wt w5 hb5 hwt hfw => ?_
    unfold waitV at hwt
    rw [if_pos hga.valid] at hwt
    have hb25 := hb4.trans (hb5.mono hb4.size)
    refine (A4.below hb5).ld fun v5 hv5 => ?_
    refine c29 hv5 (hg2.below hb25 hg2.2) hga.small hga.k12 fun v6 dv w6 e s done hb6 hp6 hv6 hdv hf6 hfd => ?_
    obtain ⟨rfl, rfl, hid, hsp, hsk, hgs, hss, hsw⟩ := print_good hga hp6
    rw [w_extract (v := v6) rfl, w_extract (v := dv) rfl, w_extract (v := I 0) rfl]
    refine RV.new (n := 0) hv6 (fun _ _ => Nat.zero_le _) fun w7 hb7 hsz7 S7 => ?_
    have hb57 := below_trans hb6 hb7
    have hb27 := hb25.trans (hb57.mono hb25.size)
    have A7 := (A4.below hb5).below hb57
    have hwt7 := hwt.below hb57
    have hdv7 := hdv.below hb7
    simp only [w_neq, decide_true, Bool.not_true, guardW_ff, pickW_false]
    have hdl := printT_len (waitL a) a.paper
    have hwl := waitL_len a
    have hkr := kept_room hga.ascK hga.kept
    have hdt := printT_take (waitL a) a.paper
    have hsum := printT_sum (waitL a) a.paper
    have hstop := printT_stop (waitL a) a.paper
    have hrng := printT_range (waitL a) a.paper hga.paper.1
    generalize hD : (printT a.paper (waitL a)).1 = D at *
    generalize hq : (printT a.paper (waitL a)).2 = q at *
    refine (len24 hdv7).mpr ?_
    refine (len24 hwt7).mpr ?_
    rw [w_gtr, decide_eq_false (by omega), condW_false]
    have hasc := waitL_asc hga.valid.2.2.2.1
    rw [List.pairwise_iff_getElem] at hasc
    refine Loop2.intro (fun n u kk w' => ∃ j : Nat, kk = I j ∧ j ≤ (waitL a).length ∧ n = (waitL a).length - j ∧ Below w7.heap.size w7 w' ∧ u = I (sumP (D.take j))) _ ⟨0, rfl, by omega, rfl, Below.refl _ _, by simp [sumP, I]⟩ ?_
    rintro n _ _ w8 ⟨j, rfl, hj, rfl, hb8, rfl⟩
    refine (len24 (hwt7.below hb8)).mpr ?_
    rw [w_lss]
    by_cases hjl : j < (waitL a).length
    · rw [decide_eq_true (by omega), condW_true]
      obtain ⟨d, hd⟩ : ∃ d, (waitL a)[j]? = some d := ⟨_, List.getElem?_eq_getElem hjl⟩
      have hsn := sumP_nonneg (D.take j)
      have hstl : (D.take j).length ≤ 6 := by rw [List.length_take]; omega
      refine joinW_use1 (Pre := fun u w' => Below w7.heap.size w7 w' ∧ u = I (sumP (D.take (j + 1)))) ?_ ?_
      · rintro _ w9 ⟨hb9, rfl⟩
        rw [w_add, wrap_id (by omega), loopK_self]
        exact ⟨(waitL a).length - (j + 1), by omega, j + 1, by simp [I], by omega, rfl, hb9, rfl⟩
      intro J hJ
      rw [drewW_eq]
      have hb8 := hb8.trans (Below.refl _ w8).drew
      generalize w8.drew = w9 at *
      have hwt9 := hwt7.below hb8
      have hdv9 := hdv7.below hb8
      -- behind the order
      have rest : opW Tryz.prog (Builtin.len_ #[24] 3 #[dv]) (fun t106 w => opW Tryz.prog (binS BinOp.lss 3 (Operand.tmp 53) (Operand.tmp 106) (I j) t106) (fun t107 w => condW t107
          (drewW w fun w => takeW Tryz.prog anyW (Instr.indexAt 24 dv (I j)) (fun t110 => takeW Tryz.prog (sameW w) (Instr.loadAt 31 t110) (fun t111 => takeW Tryz.prog anyW (Instr.indexAt 24 wt (I j)) (fun t114 => takeW Tryz.prog (sameW w) (Instr.loadAt 31 t114) (fun t115 => takeW Tryz.prog anyW (binS BinOp.neq 31 (Operand.tmp 111) (Operand.tmp 115) t111 t115) (fun t116 => condW t116 (k (.bool false) w)
            (opW Tryz.prog (Instr.indexAt 24 dv (I j)) (fun t120 w => opW Tryz.prog (Instr.loadAt 31 t120) (fun t121 w => callW Tryz.prog (.func (.func 25) #[] #[]) #[t121] (fun t122 w => opW Tryz.prog (binS BinOp.add 3 (Operand.tmp 55) (Operand.tmp 122) (I (sumP (D.take j))) t122) (fun t123 w => J t123 w) w) w) w) w)) w) w) w) w) w)
          (J (I (sumP (D.take j))) w)) w) w9 := by
        refine (len24 hdv9).mpr ?_
        rw [w_lss]
        by_cases hjd : j < D.length
        · rw [decide_eq_true (by omega), condW_true, drewW_eq]
          have hb9 := hb8.trans (Below.refl _ w9).drew
          generalize w9.drew = w10 at *
          have hDj : D[j]? = some d := by rw [hdt, List.getElem?_take, if_pos hjd]; exact hd
          rw [nta24 rfl (hdv7.below hb9) hDj, nta24 rfl (hwt7.below hb9) hd]
          refine t_neqD.mpr ?_
          rw [decide_eq_true rfl, Bool.not_true, condW_false, na24 rfl (hdv7.below hb9) hDj]
          refine c25 (d := d) fun w11 hb11 => ?_
          have hpg := pagesD_nonneg d
          rw [w_add, wrap_id (by omega)]
          exact hJ _ _ ⟨hb9.trans (hb11.mono hb9.size), by rw [sumP_take hDj]⟩
        · rw [decide_eq_false (by omega), condW_false]
          exact hJ _ _ ⟨hb8, by rw [List.take_of_length_le (by omega), List.take_of_length_le (by omega)]⟩
      rw [t_gtr]
      rcases Nat.eq_zero_or_pos j with h0 | h0
      · subst h0
        rw [decide_eq_false (by omega)]
        simp only [guardT_ft, guardT_u, pickT_false, condW_false]
        exact rest
      · obtain ⟨m, rfl⟩ : ∃ m, j = m + 1 := ⟨j - 1, by omega⟩
        obtain ⟨d0, hd0⟩ : ∃ d0, (waitL a)[m]? = some d0 := ⟨_, List.getElem?_eq_getElem (by omega)⟩
        have hlt0 : cmpC d0 d < 0 := by
          have := hasc m (m + 1) (by omega) hjl (by omega)
          rwa [(List.getElem?_eq_some_iff.1 hd0).2, (List.getElem?_eq_some_iff.1 hd).2] at this
        rw [cmpC_lt] at hlt0
        rw [decide_eq_true (by omega)]
        simp only [guardT_tt]
        have em : ((m + 1 : Nat) : Int) - 1 = (m : Int) := by omega
        rw [nt24_2 rfl hwt9 hd rfl, t_sub, wrap_id (by omega), em, nt24_2 rfl hwt9 hd0 rfl, t_lss, decide_eq_false (by omega)]
        simp only [guardT_ff]
        rw [nt24_2 rfl hwt9 hd rfl, t_sub, wrap_id (by omega), em, nt24_2 rfl hwt9 hd0 rfl, t_eql]
        by_cases hcl : d.cls = d0.cls
        · rw [decide_eq_true hcl]
          simp only [guardT_tt]
          rw [nt24_0 rfl hwt9 hd rfl, t_sub, wrap_id (by omega), em, nt24_0 rfl hwt9 hd0 rfl, t_leq, decide_eq_false (by omega)]
          simp only [pickT_true, pickT_false, condW_false]
          exact rest
        · rw [decide_eq_false hcl]
          simp only [guardT_ft, guardT_u, pickT_true, pickT_false, condW_false]
          exact rest
    · rw [decide_eq_false (by omega), condW_false, drewW_eq]
      rw [List.take_of_length_le (by omega)]
      have hb8 := hb8.trans (Below.refl _ w8).drew
      generalize w8.drew = w9 at *
      obtain ⟨kA, sA, rA, hAk, hAs⟩ := (A7.below hb8).open
      obtain ⟨kS, sS, rS, hSk, hSs⟩ := (S7.below hb8).open
      have h9 := after_refl w9
      have hsn := sumP_nonneg D
      refine ⟨after w9, h9, ?_⟩
      rw [ra27_1 (rS.cell (i := 1) rfl) h9, ra27_1 (rA.cell (i := 1) rfl) h9, t_sub, wrap_id (by have := hga.paper; omega), t_neq, decide_eq_true (by rw [hsp, hsum])]
      simp only [Bool.not_true, guardT_ff]
      rw [ra27_1 (rS.cell (i := 1) rfl) h9, t_lss, decide_eq_false (by rw [hsp]; omega)]
      simp only [pickT_false, guardT_ff]
      rw [tlen24 (hdv7.below hb8), tlen24 (hwt7.below hb8), t_lss]
      by_cases hmore : D.length < (waitL a).length
      case' pos =>
        rw [decide_eq_true (by omega)]
        simp only [guardT_tt, guardW_tt]
        obtain ⟨d, hd⟩ : ∃ d, (waitL a)[D.length]? = some d := ⟨_, List.getElem?_eq_getElem hmore⟩
        have hst := hstop d hd
        rw [tlen24 (hdv7.below hb8), nta24 rfl (hwt7.below hb8) hd, ra27_1 (rS.cell (i := 1) rfl) h9]
        refine c25 (d := d) fun w10 hb10 => ?_
        rw [keepS_eq, t_leq, decide_eq_false (by rw [hsp]; omega)]
        refine ⟨hb10, ?_⟩
        simp only [pickT_true, pickT_false, condW_false]
        have hb9 := hb8.trans (hb10.mono hb8.size)
      case' neg =>
        rw [decide_eq_false (by omega)]
        simp only [guardT_ft, guardT_u, guardW_ft, guardW_u, pickT_false, keepS_eq, condW_false]
        refine ⟨h9, ?_⟩
        obtain ⟨w10, hw10⟩ : ∃ w10, w10 = w9 := ⟨_, rfl⟩
        rw [← hw10]
        have hb9 : Below w7.heap.size w7 w10 := by rw [hw10]; exact hb8
      all_goals
        rw [drewW_eq]
        have hb9 := hb9.trans (Below.refl _ w10).drew
        generalize w10.drew = w11 at *
        have S11 := S7.below hb9
        have A11 := A7.below hb9
        have hwt11 := hwt7.below hb9
        have hdv11 := hdv7.below hb9
        clear hb8 rA rS hAk hAs hSk hSs
        obtain ⟨kA, sA, rA, hAk, hAs⟩ := A11.open
        obtain ⟨kS, sS, rS, hSk, hSs⟩ := S11.open
        refine ⟨after w11, after_refl _, ?_⟩
        refine S11.la (after_refl _) fun vs hvs => ?_
        rw [tlen24 hdv11]
        refine t_fromS (F := fD) rfl (by kernel_rfl) (by kernel_rfl) (by kernel_rfl) hwt11 hdl fun wd hwd => ?_
        refine c20 hvs hgs.small hgs.k12 fun ws w12 hb12 hws hfs => ?_
        unfold waitV at hws
        rw [if_pos hgs.valid, hsw] at hws
        refine c19 hws (hwd.below hb12) (by simp; unfold maxLen; omega) fun w13 hb13 => ?_
        have h13 := below_trans hb12 hb13
        try rw [keepS_eq]
        rw [decide_eq_true rfl, t_not]
        refine ⟨h13, ?_⟩
        simp only [Bool.not_true, guardT_ff, guardW_ff]
        rw [rt27_2 ((rS.below h13).cell (i := 2) rfl), rt27_2 ((rA.below h13).cell (i := 2) rfl)]
        refine c19 (hSk.below h13) (hAk.below h13) (by rw [hsk]; unfold maxLen; omega) fun w14 hb14 => ?_
        have h14 := below_trans h13 hb14
        try rw [keepS_eq]
        rw [decide_eq_true hsk, t_not]
        refine ⟨h14, ?_⟩
        simp only [Bool.not_true, pickT_false, condW_false]
        rw [w_add, wrap_id (by omega), loopK_self]
        exact ⟨3 - (i + 1), by omega, i + 1, by simp [I], by omega, rfl, (hb27.trans (hb9.mono hb27.size)).trans (h14.mono (Nat.le_trans hb27.size hb9.size))⟩
  intro J hJ
  rw [drewW_eq]
  have hb34 := hb3.trans (Below.refl _ w3).drew
  generalize w3.drew = w4 at *
  refine ⟨after w4, after_refl _, ?_⟩
  have hn := NS.start w4
  rw [getA eR (hsl.below hb34) hxk (after_refl _) (by decide)]
  have fin : ∀ x w' e r', after w4 w' → refillR r n1 e r' → RV w4.heap.size x w' r' → w4.heap.size ≤ x → J (.pointer (some ⟨x, 0, none⟩)) (I e) w' := fun x w' e r' h1 h2 h3 h4 => by
    obtain ⟨rfl, e2, e3⟩ := refill_good hgr (by omega) h2
    obtain ⟨y, g1, g2, g3⟩ := h3
    exact hJ _ _ _ ⟨x, r', rfl, rfl, hb34.trans (h1.mono hb34.size), ⟨y, g1, g2, fun _ _ => Nat.zero_le _⟩, e3⟩
  have hres := resRefill (n := n1) (hrv.below hb34) hgr.small
  repeat' first
    | exact ns_callA hres (by assumption) fin
    | exact ns_callB hres (by assumption) fin
    | (refine ns_pick (by omega) (by assumption) fun _ => ?_; rw [hn1])
    | refine ns_al (by assumption) fun _ _ _ => ?_
    | refine And.intro ?_ ?_
end
end Go.Proofs.YtklknkmeljjmgaaGreatDoor
