/- The arrivals that integers determine: the walk, second part. -/
import Derived.Test.YtidnjppalebbfaaA20
set_option linter.unusedSimpArgs false
set_option linter.unusedVariables false
namespace Go.V
open Go Go.RowKit
variable {α : Type} {F : Fl α} {w : World} {a : Option Addr} {n c p : Nat} {l : List α}
theorem IsSl.to (h : IsSl F w (.slice a l.length c) l) (hp : p ≤ l.length) : IsSl F w (.slice (if p = 0 then a else a.map (·.add 0)) p p) (l.take p) := by
  obtain ⟨a', c', hh, hc, hx⟩ := h
  cases hh
  have hl : (l.take p).length = p := by rw [List.length_take]; omega
  refine ⟨_, p, by rw [hl], by omega, fun i x hi => ?_⟩
  have hip := (List.getElem?_eq_some_iff.1 hi).1
  rw [hl] at hip
  rw [List.getElem?_take, if_pos hip] at hi
  obtain ⟨b, o, rfl, hcl⟩ := hx i x hi
  exact ⟨b, o, by rw [if_neg (by omega)]; simp [add_none], hcl⟩
theorem IsSl.from_ (h : IsSl F w (.slice a l.length c) l) (hp : p ≤ l.length) : IsSl F w (.slice (if c = p then a else a.map (·.add (p * F.sz))) (l.length - p) (c - p)) (l.drop p) := by
  obtain ⟨a', c', hh, hc, hx⟩ := h
  cases hh
  refine ⟨_, c - p, by rw [List.length_drop], by rw [List.length_drop]; omega, fun i x hi => ?_⟩
  have hip := (List.getElem?_eq_some_iff.1 hi).1
  rw [List.length_drop] at hip
  rw [List.getElem?_drop] at hi
  obtain ⟨b, o, rfl, hcl⟩ := hx (p + i) x hi
  refine ⟨b, o + p * F.sz, by rw [if_neg (by omega)]; simp [add_none], ?_⟩
  rw [show o + p * F.sz + i * F.sz = o + (p + i) * F.sz by rw [Nat.add_mul]; omega]
  exact hcl
theorem from_shape {m : Nat} (hnil : a = none → c = 0) (hsp : ∀ ad, a = some ad → ad.spot = none) (hc : n ≤ c) (hpn : n - p = 0) :
    (Value.slice (if c = p then a else a.map (·.add m)) (n - p) (c - p) = .slice none 0 0) ∨ ∃ ad c', Value.slice (if c = p then a else a.map (·.add m)) (n - p) (c - p) = .slice (some ad) 0 c' := by
  rw [hpn]
  cases a with
  | none =>
    have := hnil rfl
    subst this
    left; simp
  | some ad =>
    right
    by_cases h : c = p
    · exact ⟨ad, c - p, by rw [if_pos h]⟩
    · exact ⟨ad.add m, c - p, by rw [if_neg h]; rfl⟩
theorem to_none (hnil : a = none → c = 0) (hn : (if p = 0 then a else a.map (·.add 0)) = none) (hc : n ≤ c) (hp : p ≤ n) : p = 0 := by
  by_cases h : p = 0
  · exact h
  · rw [if_neg h] at hn
    have : a = none := by cases a with | none => rfl | some ad => simp at hn
    have := hnil this
    omega
end Go.V
namespace Go.Proofs.Ytidnjppalebbfaa
open Go Go.V Go.RowKit
theorem OutS.shape {w : World} {B gN : Nat} {out : Value} {ol : List Arr} (h : OutS w B gN out ol) : ∃ a c, out = .slice a ol.length c ∧ ol.length ≤ c ∧ (a = none → c = 0) ∧ ∀ ad, a = some ad → ad.spot = none := by
  rcases h with ⟨rfl, rfl⟩ | ⟨g, c, rfl, ho, _⟩
  · exact ⟨none, 0, rfl, Nat.le_refl _, fun _ => rfl, fun ad h => by cases h⟩
  · refine ⟨some ⟨g, 0, none⟩, c, rfl, ?_, (fun h => by cases h), (fun ad h => by cases h; rfl)⟩
    obtain ⟨a', c', hh, hc, _⟩ := ho.sl
    cases hh; exact hc
theorem und23 : Try.prog.underlying 23 = some (.slice (Try.prog.elem 23)) := by kernel_rfl
theorem el23' : Try.prog.elem 23 = 31 := by kernel_rfl
theorem kn23 : known Try.prog (Try.prog.elem 23) = true := by kernel_rfl
section
variable {k : Value → World → Prop} {w : World}
theorem s11 {lv xv : Value} {l : List Stream} {xs : List (Int × Int)} (hl : IsSl fS w lv l) (hv : validS l = true) (hs : IsSl fT2 w xv xs) (hr : ∀ x ∈ xs, inI64 x.1 ∧ inI64 x.2) (hk : ∀ u a w', Below w.heap.size w w' → IsSl fA w' u a → ProperP l a → a.length ≤ 40 → k u w') : S11 lv xv k w := by
  unfold S11
  obtain ⟨hln, hstr⟩ := valid_at hv
  refine (len22 hl).mpr ?_
  refine w_make (base := w.heap.size) sty26 (by omega) (by unfold maxLen; omega) (Nat.le_refl _) fun w1 ho1 hg1 => ?_
  have ho1 := OwnS.zeros ho1
  have hb1 : Below w.heap.size w w1 := below_grown (B := w.heap.size) (Below.refl _ _) (Nat.le_refl _) hg1 (by simp)
  generalize hgN : (.slice (some ⟨w.heap.size, 0, none⟩) l.length l.length : Value) = nv
  obtain ⟨gN, hgN', hoN0⟩ : ∃ gN, nv = .slice (some ⟨gN, 0, none⟩) l.length l.length ∧ OwnS fI w1 w.heap.size 3 gN l.length (List.replicate l.length 0) := ⟨_, hgN.symm, ho1⟩
  subst hgN'
  clear hgN ho1
  refine Loop2.intro (fun n out c w' => ∃ (i : Nat) (next : List Int) (ol : List Arr), c = I i ∧ i ≤ 40 ∧ n = 40 - i ∧ OutS w' w.heap.size gN out ol ∧ OwnS fI w' w.heap.size 3 gN l.length next ∧ ArrOk l next ol ∧ ol.length ≤ i ∧ Below w.heap.size w w') 40
    ⟨0, List.replicate l.length 0, [], rfl, by omega, rfl, .inl ⟨rfl, rfl⟩, hoN0, ⟨by simp, by simp, by simp, by simp, by simp, by simp⟩, by simp, hb1⟩ ?_
  rintro n out _ w2 ⟨i, next, ol, rfl, hi, rfl, hout, hoN, harr, hol, hb2⟩
  have hs2 := hs.below hb2
  refine (len25 hs2).mpr ?_
  rw [w_lss]
  refine and_lss ?_
  by_cases hgo : i < xs.length ∧ i < 40
  · rw [show (decide ((i : Int) < (xs.length : Int)) && decide ((i : Int) < 40)) = true by simp; omega, condW_true]
    refine joinW_use1 (Pre := fun out' w' => ∃ (next : List Int) (ol : List Arr), OutS w' w.heap.size gN out' ol ∧ OwnS fI w' w.heap.size 3 gN l.length next ∧ ArrOk l next ol ∧ ol.length ≤ i + 1 ∧ Below w.heap.size w w') ?_ ?_
    · rintro out' w' ⟨next', ol', h1, h2, h3, h4, h5⟩
      rw [w_add, wrap_id (by omega), loopK_self]
      exact ⟨40 - (i + 1), by omega, i + 1, next', ol', by simp [I], by omega, rfl, h1, h2, h3, h4, h5⟩
    · intro J hJ
      obtain ⟨x, hx⟩ : ∃ x, xs[i]? = some x := ⟨xs[i], by simp [hgo.1]⟩
      obtain ⟨r1, r2⟩ := hr x (List.mem_of_getElem? hx)
      refine ix25 (x := x) (F := fT2) hs2 rfl (by omega) (by simpa using hx) fun b o hc => ?_
      rw [war57 (by decide) (by decide)]
      refine (ld3 (v := I x.1) (hc 0 _ rfl)).mpr ?_
      refine (len22 (hl.below hb2)).mpr ?_
      refine c29 (by omega) ?_
      have p1 := pickI_range (c := x.1) (n := l.length) (by omega) r1
      generalize pickI x.1 l.length = ps at *
      obtain ⟨sn, rfl⟩ : ∃ sn : Nat, ps = sn := ⟨ps.toNat, by omega⟩
      have hsn : sn < l.length := by omega
      obtain ⟨s, hsl⟩ : ∃ s, l[sn]? = some s := ⟨l[sn], by simp [hsn]⟩
      obtain ⟨_, _, hper⟩ := hstr sn s hsl
      obtain ⟨m, hm⟩ : ∃ m, next[sn]? = some m := ⟨next[sn]'(by rw [harr.nlen]; exact hsn), by simp⟩
      have hmr := harr.nn m (List.mem_of_getElem? hm)
      refine joinW_use1 (Pre := fun pv wr => ∃ (bA : Nat) (q : Int), pv = .pointer (some ⟨bA, 0, none⟩) ∧ 0 ≤ q ∧ q ≤ 11 ∧ w.heap.size ≤ bA ∧ RowAt wr bA 31 [I sn, I (m + q)] ∧ bA ≠ gN ∧ OutS wr w.heap.size gN out ol ∧ OwnS fI wr w.heap.size 3 gN l.length next ∧ Below w.heap.size w wr ∧ ∀ g c, out = .slice (some ⟨g, 0, none⟩) ol.length c → g ≠ bA) ?_ ?_
      · rintro _ wq ⟨bA, q, rfl, hq0, hq1, hbA, hrA, hAN, hout, hoN, hbw, hgA⟩
        have hs3 := hs.below hbw
        refine ix25 (x := x) (F := fT2) hs3 rfl (by omega) (by simpa using hx) fun b o hc => ?_
        rw [war57 (by decide) (by decide)]
        refine (ld3 (v := I x.2) (hc 1 _ rfl)).mpr ?_
        rw [w_quo (by decide)]
        refine c29 (by decide) ?_
        rw [w_eql]
        have hcN := hoN.cell hm 0 _ rfl
        simp only [fI, Nat.mul_one, Nat.add_zero] at hcN
        by_cases hev : pickI (IntKind.i64.wrap (x.2.tdiv 12)) 2 = 0
        · rw [decide_eq_true hev, condW_true, ixz26 hsn]
          refine (ld3 hcN).mpr ?_
          rw [fl31_1]
          refine (st3 rfl (hrA.cell (i := 1) rfl) (hrA.free _)).mpr ?_
          have hofA : Off (· = bA) wq (wq.setCell ⟨bA, 0 + 1, none⟩ (I m)) := Off.set rfl
          have hrA : RowAt (wq.setCell ⟨bA, 0 + 1, none⟩ (I m)) bA 31 [I sn, I m] := hrA.set 1 (I m)
          have hout := hout.off hofA (fun g c h _ => hgA g c h)
          have hoN := hoN.off hofA (Ne.symm hAN)
          have hbw : Below w.heap.size w (wq.setCell ⟨bA, 0 + 1, none⟩ (I m)) := hbw.setCell hbA _
          generalize wq.setCell ⟨bA, 0 + 1, none⟩ (I m) = wr at *
          rw [fl31_1]
          refine (ld3 (v := I m) (hrA.cell (i := 1) rfl)).mpr ?_
          rw [w_gtr]
          by_cases hbig : 2000 < m
          · rw [decide_eq_true hbig, condW_true]
            exact hJ _ _ ⟨next, ol, hout, hoN, harr, by omega, hbw⟩
          · rw [decide_eq_false hbig, condW_false, drewW_eq, tfl31_1, xld3 (w := wr.drew) (v := I m) (hrA.cell (i := 1) rfl)]
            refine tix22 (x := s) (F := fS) (hl.below hbw).drew rfl (by omega) (by simpa using hsl) fun b2 o2 hc2 => ?_
            rw [tfl34_2, xld3 (w := wr.drew) (hc2 2 _ rfl), t_add, wrap_id (by omega), tixz26 hsn]
            have hoNd : OwnS fI wr.drew w.heap.size 3 gN l.length next := hoN.same rfl
            obtain ⟨hoN5, _, old5, hold5⟩ := hoNd.store rfl hm (y := m + s.period) (u := I (m + s.period)) rfl
            refine (st3 rfl hold5 (hoNd.free _)).mpr ?_
            have hof5 : Off (· = gN) wr.drew (wr.drew.setCell ⟨gN, sn, none⟩ (I (m + s.period))) := Off.set rfl
            have hrA5 : RowAt _ bA 31 [I sn, I m] := (hrA.drew).off hof5 hAN
            have hout5 := (hout.off (off_drew (fun _ => False) wr) (fun _ _ _ _ => id)).off hof5 (fun g _ _ hg => hg)
            have hbw5 : Below w.heap.size w (wr.drew.setCell ⟨gN, sn, none⟩ (I (m + s.period))) := (hbw.trans (Below.refl _ _).drew).setCell (by have := hoN.ge; show w.heap.size ≤ gN; omega) _
            generalize wr.drew.setCell ⟨gN, sn, none⟩ (I (m + s.period)) = w5 at *
            refine Loop1.intro (fun n c w' => ∃ p : Nat, c = I p ∧ p ≤ ol.length ∧ n = ol.length - p ∧ Below w.heap.size w w' ∧ RowAt w' bA 31 [I sn, I m] ∧ OutS w' w.heap.size gN out ol ∧ OwnS fI w' w.heap.size 3 gN l.length (next.set sn (m + s.period)) ∧ ∀ j y, j < p → ol[j]? = some y → ltA y ⟨sn, m⟩) _
              ⟨0, rfl, by omega, rfl, hbw5, hrA5, hout5, hoN5, by omega⟩ ?_
            rintro n _ w6 ⟨p, rfl, hp, rfl, hb6, hr6, hout6, hoN6, hlo⟩
            have hsl6 := hout6.sl
            rw [drewW_eq, tlen23 (w := w6.drew) hsl6.drew, t_lss]
            refine c_before hsl6.drew hr6.drew rfl ?_
            have hbd : Below w.heap.size w w6.drew := hb6.trans (Below.refl _ _).drew
            have hod : OutS w6.drew w.heap.size gN out ol := hout6.off (off_drew (fun _ => False) w6) (fun _ _ _ _ => id)
            by_cases hgo : p < ol.length ∧ ltA (ol.getD p ⟨0, 0⟩) ⟨sn, m⟩
            · rw [show (decide ((p : Int) < (ol.length : Int)) && (decide ((ol.getD p ⟨0, 0⟩).at_ < m) || (decide ((ol.getD p ⟨0, 0⟩).at_ = m) && decide ((ol.getD p ⟨0, 0⟩).stream < (sn : Int))))) = true by
                have := hgo.2; unfold ltA at this; simp only [Bool.and_eq_true, Bool.or_eq_true, decide_eq_true_eq]; exact ⟨by omega, this⟩, condW_true, w_add, wrap_id (by omega), loopK_self]
              refine ⟨ol.length - (p + 1), by omega, p + 1, by simp [I], by omega, rfl, hbd, hr6.drew, hod, hoN6.same rfl, fun j y hj hy => ?_⟩
              by_cases hjp : j = p
              · subst hjp
                have := hgo.2
                rwa [List.getD_eq_getElem?_getD, hy] at this
              · exact hlo j y (by omega) hy
            · rw [show (decide ((p : Int) < (ol.length : Int)) && (decide ((ol.getD p ⟨0, 0⟩).at_ < m) || (decide ((ol.getD p ⟨0, 0⟩).at_ = m) && decide ((ol.getD p ⟨0, 0⟩).stream < (sn : Int))))) = false by
                apply Bool.eq_false_iff.2
                intro hh
                simp only [Bool.and_eq_true, Bool.or_eq_true, decide_eq_true_eq] at hh
                exact hgo ⟨by omega, hh.2⟩, condW_false, drewW_eq]
              have hhi : ∀ y, ol[p]? = some y → ¬ ltA y ⟨sn, m⟩ := fun y hy hh => hgo ⟨(List.getElem?_eq_some_iff.1 hy).1, by rw [List.getD_eq_getElem?_getD, hy]; exact hh⟩
              have harr' := harr.insert (a := ⟨sn, m⟩) (s := s) (m := m) (p := p) (by simpa using hsl) hper ⟨by simp, by show (sn : Int) ≤ _; omega⟩ (by simpa using hm) (by show m ≤ m; omega) (by show m ≤ 2000; omega) hp hlo hhi
              rw [show (((⟨sn, m⟩ : Arr).stream).toNat) = sn by simp] at harr'
              obtain ⟨ao, co, hov, hco, hnil, hspot⟩ := hod.shape
              have hsd : IsSl fA w6.drew out ol := hod.sl
              rw [hov] at hsd
              refine ⟨fun w' => RowAt w' bA 31 [I sn, I m], hr6.drew, ?_⟩
              rw [hov, takeW_pure (fun w => run_sliceTo und23 kn23 (show p ≤ co by omega) w), tldS31 hr6.drew.drew (fun w' h => h), takeW_pure (fun w => run_sliceFrom und23 kn23 (show p ≤ ol.length by omega) w), el23', size31]
              have hTo := hsd.drew.to hp
              have hFrom := hsd.drew.from_ hp
              have hlb := hr6.lt
              have hlN := hoN6.ge
              have hpl : ol.drop p = [] → ol.length - p = 0 := fun hnl => by
                have := congrArg List.length hnl
                rw [List.length_drop] at this
                simpa using this
              refine one23 (s := A_ sn m) fun w7 hb7 hsz7 ho7 => ?_
              rw [keepS_eq]
              have hr7 := hr6.drew.drew.below hb7
              refine ⟨hr7, ?_⟩
              have e6 : w6.drew.drew.heap.size = w6.heap.size := rfl
              have ho7' : OwnS fA w7 w6.heap.size 31 w6.heap.size 1 [A_ sn m] := ho7
              refine w_appendAny (F := fA) (l0 := [A_ sn m]) (base := w6.heap.size) sty23 oneA (hFrom.below hb7) (fun hnl => from_shape hnil hspot hco (hpl hnl)) ho7' (by simp; unfold maxLen; omega) (by simp; omega) hb7.size fun g1 c1 w8 ho8 hg8 => ?_
              rw [keepS_eq]
              have hr8 := hr7.grown hg8 (by simp; omega)
              refine ⟨hr8, ?_⟩
              have hb68 : Below w6.heap.size w6.drew.drew w8 := below_grown (a := w6.drew.drew) hb7 (by exact Nat.le_refl _) hg8 (by simp)
              have hl1 : ([A_ sn m] ++ ol.drop p).length = 1 + (ol.drop p).length := by simp; omega
              have ho8s := ho8.sl
              refine w_appendNew (F := fA) (l0 := ol.take p) (l := [A_ sn m] ++ ol.drop p) (c0 := p) sty23 oneA (hTo.below hb68) (by rw [List.length_take, show min p ol.length = p by omega]) (by rw [List.length_take]; simp; omega) (fun hn => to_none hnil hn hco hp) (by rw [hl1] at ho8s; exact ho8s) (by simp) (by simp; unfold maxLen; omega) (by simp; omega) fun g2 c2 w9 ho9 hb9 => ?_
              rw [keepS_eq]
              have hr9 := hr8.below hb9
              refine ⟨hr9, ?_⟩
              have hb09 : Below w.heap.size w w9 := (((hb6.trans (Below.refl _ _).drew.drew).trans (hb68.mono (by have := hb6.size; omega)))).trans (hb9.mono (by have := hb6.size; have := hb68.size; omega))
              have hoN9 : OwnS fI w9 w.heap.size 3 gN l.length (next.set sn (m + s.period)) := by
                have h8 := hoN6.same (w' := w8) (hb68.block gN hlN.2)
                exact h8.below hb9
              have hg2 := ho9.ge
              have hs68 := hb68.size
              refine hJ _ _ ⟨next.set sn (m + s.period), ol.take p ++ ([A_ sn m] ++ ol.drop p), .inr ⟨g2, c2, by simp, ho9.base (by have := hb6.size; omega), by omega⟩, hoN9, by rw [← List.append_assoc]; exact harr', by simp; omega, hb09⟩
        · rw [decide_eq_false hev, condW_false]
          generalize wq = wr at *
          rw [fl31_1]
          refine (ld3 (v := I (m + q)) (hrA.cell (i := 1) rfl)).mpr ?_
          rw [w_gtr]
          by_cases hbig : 2000 < (m + q)
          · rw [decide_eq_true hbig, condW_true]
            exact hJ _ _ ⟨next, ol, hout, hoN, harr, by omega, hbw⟩
          · rw [decide_eq_false hbig, condW_false, drewW_eq, tfl31_1, xld3 (w := wr.drew) (v := I (m + q)) (hrA.cell (i := 1) rfl)]
            refine tix22 (x := s) (F := fS) (hl.below hbw).drew rfl (by omega) (by simpa using hsl) fun b2 o2 hc2 => ?_
            rw [tfl34_2, xld3 (w := wr.drew) (hc2 2 _ rfl), t_add, wrap_id (by omega), tixz26 hsn]
            have hoNd : OwnS fI wr.drew w.heap.size 3 gN l.length next := hoN.same rfl
            obtain ⟨hoN5, _, old5, hold5⟩ := hoNd.store rfl hm (y := (m + q) + s.period) (u := I ((m + q) + s.period)) rfl
            refine (st3 rfl hold5 (hoNd.free _)).mpr ?_
            have hof5 : Off (· = gN) wr.drew (wr.drew.setCell ⟨gN, sn, none⟩ (I ((m + q) + s.period))) := Off.set rfl
            have hrA5 : RowAt _ bA 31 [I sn, I (m + q)] := (hrA.drew).off hof5 hAN
            have hout5 := (hout.off (off_drew (fun _ => False) wr) (fun _ _ _ _ => id)).off hof5 (fun g _ _ hg => hg)
            have hbw5 : Below w.heap.size w (wr.drew.setCell ⟨gN, sn, none⟩ (I ((m + q) + s.period))) := (hbw.trans (Below.refl _ _).drew).setCell (by have := hoN.ge; show w.heap.size ≤ gN; omega) _
            generalize wr.drew.setCell ⟨gN, sn, none⟩ (I ((m + q) + s.period)) = w5 at *
            refine Loop1.intro (fun n c w' => ∃ p : Nat, c = I p ∧ p ≤ ol.length ∧ n = ol.length - p ∧ Below w.heap.size w w' ∧ RowAt w' bA 31 [I sn, I (m + q)] ∧ OutS w' w.heap.size gN out ol ∧ OwnS fI w' w.heap.size 3 gN l.length (next.set sn ((m + q) + s.period)) ∧ ∀ j y, j < p → ol[j]? = some y → ltA y ⟨sn, (m + q)⟩) _
              ⟨0, rfl, by omega, rfl, hbw5, hrA5, hout5, hoN5, by omega⟩ ?_
            rintro n _ w6 ⟨p, rfl, hp, rfl, hb6, hr6, hout6, hoN6, hlo⟩
            have hsl6 := hout6.sl
            rw [drewW_eq, tlen23 (w := w6.drew) hsl6.drew, t_lss]
            refine c_before hsl6.drew hr6.drew rfl ?_
            have hbd : Below w.heap.size w w6.drew := hb6.trans (Below.refl _ _).drew
            have hod : OutS w6.drew w.heap.size gN out ol := hout6.off (off_drew (fun _ => False) w6) (fun _ _ _ _ => id)
            by_cases hgo : p < ol.length ∧ ltA (ol.getD p ⟨0, 0⟩) ⟨sn, (m + q)⟩
            · rw [show (decide ((p : Int) < (ol.length : Int)) && (decide ((ol.getD p ⟨0, 0⟩).at_ < (m + q)) || (decide ((ol.getD p ⟨0, 0⟩).at_ = (m + q)) && decide ((ol.getD p ⟨0, 0⟩).stream < (sn : Int))))) = true by
                have := hgo.2; unfold ltA at this; simp only [Bool.and_eq_true, Bool.or_eq_true, decide_eq_true_eq]; exact ⟨by omega, this⟩, condW_true, w_add, wrap_id (by omega), loopK_self]
              refine ⟨ol.length - (p + 1), by omega, p + 1, by simp [I], by omega, rfl, hbd, hr6.drew, hod, hoN6.same rfl, fun j y hj hy => ?_⟩
              by_cases hjp : j = p
              · subst hjp
                have := hgo.2
                rwa [List.getD_eq_getElem?_getD, hy] at this
              · exact hlo j y (by omega) hy
            · rw [show (decide ((p : Int) < (ol.length : Int)) && (decide ((ol.getD p ⟨0, 0⟩).at_ < (m + q)) || (decide ((ol.getD p ⟨0, 0⟩).at_ = (m + q)) && decide ((ol.getD p ⟨0, 0⟩).stream < (sn : Int))))) = false by
                apply Bool.eq_false_iff.2
                intro hh
                simp only [Bool.and_eq_true, Bool.or_eq_true, decide_eq_true_eq] at hh
                exact hgo ⟨by omega, hh.2⟩, condW_false, drewW_eq]
              have hhi : ∀ y, ol[p]? = some y → ¬ ltA y ⟨sn, (m + q)⟩ := fun y hy hh => hgo ⟨(List.getElem?_eq_some_iff.1 hy).1, by rw [List.getD_eq_getElem?_getD, hy]; exact hh⟩
              have harr' := harr.insert (a := ⟨sn, (m + q)⟩) (s := s) (m := m) (p := p) (by simpa using hsl) hper ⟨by simp, by show (sn : Int) ≤ _; omega⟩ (by simpa using hm) (by show m ≤ (m + q); omega) (by show (m + q) ≤ 2000; omega) hp hlo hhi
              rw [show (((⟨sn, (m + q)⟩ : Arr).stream).toNat) = sn by simp] at harr'
              obtain ⟨ao, co, hov, hco, hnil, hspot⟩ := hod.shape
              have hsd : IsSl fA w6.drew out ol := hod.sl
              rw [hov] at hsd
              refine ⟨fun w' => RowAt w' bA 31 [I sn, I (m + q)], hr6.drew, ?_⟩
              rw [hov, takeW_pure (fun w => run_sliceTo und23 kn23 (show p ≤ co by omega) w), tldS31 hr6.drew.drew (fun w' h => h), takeW_pure (fun w => run_sliceFrom und23 kn23 (show p ≤ ol.length by omega) w), el23', size31]
              have hTo := hsd.drew.to hp
              have hFrom := hsd.drew.from_ hp
              have hlb := hr6.lt
              have hlN := hoN6.ge
              have hpl : ol.drop p = [] → ol.length - p = 0 := fun hnl => by
                have := congrArg List.length hnl
                rw [List.length_drop] at this
                simpa using this
              refine one23 (s := A_ sn (m + q)) fun w7 hb7 hsz7 ho7 => ?_
              rw [keepS_eq]
              have hr7 := hr6.drew.drew.below hb7
              refine ⟨hr7, ?_⟩
              have e6 : w6.drew.drew.heap.size = w6.heap.size := rfl
              have ho7' : OwnS fA w7 w6.heap.size 31 w6.heap.size 1 [A_ sn (m + q)] := ho7
              refine w_appendAny (F := fA) (l0 := [A_ sn (m + q)]) (base := w6.heap.size) sty23 oneA (hFrom.below hb7) (fun hnl => from_shape hnil hspot hco (hpl hnl)) ho7' (by simp; unfold maxLen; omega) (by simp; omega) hb7.size fun g1 c1 w8 ho8 hg8 => ?_
              rw [keepS_eq]
              have hr8 := hr7.grown hg8 (by simp; omega)
              refine ⟨hr8, ?_⟩
              have hb68 : Below w6.heap.size w6.drew.drew w8 := below_grown (a := w6.drew.drew) hb7 (by exact Nat.le_refl _) hg8 (by simp)
              have hl1 : ([A_ sn (m + q)] ++ ol.drop p).length = 1 + (ol.drop p).length := by simp; omega
              have ho8s := ho8.sl
              refine w_appendNew (F := fA) (l0 := ol.take p) (l := [A_ sn (m + q)] ++ ol.drop p) (c0 := p) sty23 oneA (hTo.below hb68) (by rw [List.length_take, show min p ol.length = p by omega]) (by rw [List.length_take]; simp; omega) (fun hn => to_none hnil hn hco hp) (by rw [hl1] at ho8s; exact ho8s) (by simp) (by simp; unfold maxLen; omega) (by simp; omega) fun g2 c2 w9 ho9 hb9 => ?_
              rw [keepS_eq]
              have hr9 := hr8.below hb9
              refine ⟨hr9, ?_⟩
              have hb09 : Below w.heap.size w w9 := (((hb6.trans (Below.refl _ _).drew.drew).trans (hb68.mono (by have := hb6.size; omega)))).trans (hb9.mono (by have := hb6.size; have := hb68.size; omega))
              have hoN9 : OwnS fI w9 w.heap.size 3 gN l.length (next.set sn ((m + q) + s.period)) := by
                have h8 := hoN6.same (w' := w8) (hb68.block gN hlN.2)
                exact h8.below hb9
              have hg2 := ho9.ge
              have hs68 := hb68.size
              refine hJ _ _ ⟨next.set sn ((m + q) + s.period), ol.take p ++ ([A_ sn (m + q)] ++ ol.drop p), .inr ⟨g2, c2, by simp, ho9.base (by have := hb6.size; omega), by omega⟩, hoN9, by rw [← List.append_assoc]; exact harr', by simp; omega, hb09⟩
      · intro J2 hJ2
        rw [drewW_eq]
        have hcN := hoN.cell hm 0 _ rfl
        simp only [fI, Nat.mul_one, Nat.add_zero] at hcN
        have ld : ∀ {K : Value → Prop} {b o : Nat} {u : Value}, w2.cell? ⟨b, o, none⟩ = some u → takeW Try.prog (fun w' => Below w2.heap.size w2 w') (Instr.loadAt 3 (.pointer (some ⟨b, o, none⟩))) K w2.drew = K u := fun {K b o u} hc =>
          tld3 (w := w2.drew) hc (fun w' hw' => World.cell?_of_block (w := w2) (hw'.block b (World.block_lt_of_cell? w2 _ hc)))
        refine ⟨fun w' => Below w2.heap.size w2 w', below_drew w2, ?_⟩
        rw [tixz26 hsn, ld hcN]
        refine tix25 (x := x) (F := fT2) hs2.drew rfl (by omega) (by simpa using hx) fun b o hc => ?_
        rw [tar57 (by decide) (by decide), show o + Int.toNat 1 = o + 1 from rfl, ld (show w2.cell? ⟨b, o + 1, none⟩ = some (I x.2) from hc 1 _ rfl)]
        have p2 := pickI_range (c := x.2) (n := 12) (by decide) r2
        have hgN := hoN.ge
        have hsz2 := hb2.size
        have fin : ∀ (wz : World) (bA : Nat), Below w2.heap.size w2 wz → RowAt wz bA 31 [I 0, I 0] → w2.heap.size ≤ bA → opU Try.prog (Instr.storeAt 31 (.pointer (some ⟨bA, 0, none⟩)) (.agg #[I sn, I (m + pickI x.2 12)])) (fun _ w => keepS (fun w' => Below w2.heap.size w2 w') (fun w => J2 (.pointer (some ⟨bA, 0, none⟩)) w) w) wz := fun wz bA hbz hrz hge => by
          refine w_storeRow (vs := [I sn, I (m + pickI x.2 12)]) hrz rfl (by intro v hv; simp at hv; rcases hv with rfl | rfl <;> rfl) size31 known31 fun w9 hon hr9 => ?_
          rw [keepS_eq]
          have hb29 := hbz.trans (hon.rest _ hge)
          refine ⟨hb29, hJ2 _ _ ⟨bA, pickI x.2 12, rfl, by omega, by omega, by omega, hr9, by omega, ?_, ?_, hb2.trans (hb29.mono hsz2), fun g c hh => ?_⟩⟩
          · exact hout.off (Off.below (p := fun _ => False) hb29) (fun _ _ _ _ => id)
          · exact hoN.below hb29
          · rcases hout with ⟨h1, _⟩ | ⟨g', c', h1, h2, _⟩
            · rw [h1] at hh; cases hh
            · rw [h1] at hh; cases hh
              have := h2.ge.2; omega
        have b31' : ∀ {k : Value → World → Prop} {w : World}, opW Try.prog (Instr.build 31 #[(0, I sn), (1, I (m + pickI x.2 12))]) k w = k (.agg #[I sn, I (m + pickI x.2 12)]) w := fun {k w} => b31
        refine ⟨?_, ?_⟩
        · refine c29 (by decide) ?_
          rw [keepS_eq]
          refine ⟨below_drew w2, ?_⟩
          rw [t_add, wrap_id (by omega)]
          refine ⟨?_, ?_⟩
          · rw [b31', keepS_eq]
            refine ⟨below_drew w2, ?_⟩
            refine al31 fun w3 hb3 hsz3 hr3 => ?_
            have hb23 : Below w2.heap.size w2 w3 := (below_drew w2).trans hb3
            rw [keepS_eq]
            exact ⟨hb23, fin w3 _ hb23 hr3 (Nat.le_refl _)⟩
          · refine al31 fun w3 hb3 hsz3 hr3 => ?_
            have hb23 : Below w2.heap.size w2 w3 := (below_drew w2).trans hb3
            rw [keepS_eq]
            refine ⟨hb23, ?_⟩
            rw [b31', keepS_eq]
            exact ⟨hb23, fin w3 _ hb23 hr3 (Nat.le_refl _)⟩
        · refine al31 fun w3 hb3 hsz3 hr3 => ?_
          have hb23 : Below w2.heap.size w2 w3 := (below_drew w2).trans hb3
          rw [keepS_eq]
          refine ⟨hb23, ?_⟩
          refine c29 (by decide) ?_
          rw [keepS_eq]
          refine ⟨hb23, ?_⟩
          rw [t_add, wrap_id (by omega), b31', keepS_eq]
          exact ⟨hb23, fin w3 _ hb23 hr3 (Nat.le_refl _)⟩
  · rw [show (decide ((i : Int) < (xs.length : Int)) && decide ((i : Int) < 40)) = false by simp; omega, condW_false]
    exact hk out ol w2 hb2 hout.sl (harr.proper hv (by omega)) (by omega)
end
end Go.Proofs.Ytidnjppalebbfaa
