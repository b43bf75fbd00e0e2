/- Contracts of package sched's functions, tenth part: Response. -/
import Derived.Test.YtidnjppalebbfaaA12
set_option linter.unusedSimpArgs false
set_option linter.unusedVariables false
namespace Go.Proofs.Ytidnjppalebbfaa
open Go Go.V Go.RowKit
section
variable {k : Value → World → Prop} {w : World}
theorem befS_length (l : List Stream) (i : Nat) : (befS l i).length = l.length := by simp [befS]
theorem befS_get {l : List Stream} {i j : Nat} (hj : j < l.length) : (befS l i)[j]? = some (if beforeB l j i then l[j] else ⟨l[j].cls, 0, l[j].period⟩) := by
  simp [befS, List.getElem?_mapIdx, List.getElem?_eq_getElem hj]
theorem mix_get {l m : List Stream} {j : Nat} (hm : m.length = l.length) (hj : j < l.length) : (m.take j ++ l.drop j)[j]? = some l[j] := by
  rw [List.getElem?_append_right (by simp; omega), List.length_take, List.getElem?_drop, show j + (j - min j m.length) = j by omega, List.getElem?_eq_getElem hj]
theorem mix_set {l m : List Stream} {j : Nat} {y : Stream} (hm : m.length = l.length) (hj : j < l.length) (hy : m[j]? = some y) : (m.take j ++ l.drop j).set j y = m.take (j + 1) ++ l.drop (j + 1) := by
  rw [List.set_append_right _ _ (by simp; omega), List.length_take, show j - min j m.length = 0 by omega, List.drop_eq_getElem_cons hj, List.set_cons_zero, List.take_add_one, hy]
  simp
theorem mix_same {l m : List Stream} {j : Nat} (hm : m.length = l.length) (hj : j < l.length) (hy : m[j]? = some l[j]) : m.take j ++ l.drop j = m.take (j + 1) ++ l.drop (j + 1) := by
  rw [List.drop_eq_getElem_cons hj, List.take_add_one, hy]
  simp
theorem s13 {v : Value} {l : List Stream} (hs : IsSl fS w v l) (hl : l.length ≤ maxLen)
    (hbad : ∀ w', Below w.heap.size w w' → validS l = false → k (.tuple #[.slice none 0 0, I 240]) w')
    (hok : ∀ out u w', Below w.heap.size w w' → validS l = true → out.length = l.length → (∀ j x, out[j]? = some x → RespP l j x) → IsSl fI w' u out → k (.tuple #[u, I 0]) w') : S13 v k w := by
  unfold S13
  refine c15 hs hl fun w1 hb1 => ?_
  rw [w_not]
  cases hv : validS l with
  | false =>
    simp only [Bool.not_false, condW_true]
    exact hbad _ hb1 hv
  | true =>
    simp only [Bool.not_true, condW_false]
    obtain ⟨hln, hst⟩ := valid_at hv
    refine (len22 (hs.below hb1)).mpr ?_
    refine Loop2.intro (fun n a c w' => ∃ (i : Nat) (outs : List Int) (g : Nat), c = I i ∧ i ≤ l.length ∧ n = l.length - i ∧ Below w.heap.size w w' ∧ outs.length = i ∧ ((a = .slice none 0 0 ∧ outs = []) ∨ SubS fI w' w.heap.size 3 g a outs) ∧ ∀ j x, outs[j]? = some x → RespP l j x)
      l.length ⟨0, [], 0, rfl, by omega, by omega, hb1, rfl, .inl ⟨rfl, rfl⟩, by simp⟩ ?_
    rintro n out _ w2 ⟨i, outs, g, rfl, hi, rfl, hb2, hlen, hout, hresp⟩
    rw [w_lss]
    by_cases hlt : i < l.length
    · rw [decide_eq_true (show (i : Int) < l.length by omega), condW_true]
      refine joinW_use1 (Pre := fun out' w3 => ∃ (x : Int) (g : Nat), RespP l i x ∧ SubS fI w3 w.heap.size 3 g out' (outs ++ [x]) ∧ Below w.heap.size w w3) ?_ ?_
      · rintro out' w3 ⟨x, g', hx, hS, hb3⟩
        rw [w_add, wrap_id (by omega), loopK_self]
        refine ⟨l.length - (i + 1), by omega, i + 1, outs ++ [x], g', by simp [I], by omega, rfl, hb3, by simp [hlen], .inr hS, fun j y hy => ?_⟩
        rcases Nat.lt_or_ge j outs.length with h | h
        · rw [List.getElem?_append_left h] at hy; exact hresp j y hy
        · rw [List.getElem?_append_right h] at hy
          have := (List.getElem?_eq_some_iff.1 hy).1
          simp at this
          have h0 : j - outs.length = 0 := by omega
          rw [h0] at hy
          simp at hy; subst hy
          obtain rfl : j = i := by omega
          exact hx
      · intro J hJ
        have hs2 := hs.below hb2
        obtain ⟨s, hsi⟩ : ∃ s, l[i]? = some s := ⟨l[i], by simp [hlt]⟩
        obtain ⟨hc1, hc2, hc3⟩ := hst i s hsi
        have hsz : szL l i = s.size := by unfold szL; rw [List.getD_eq_getElem?_getD, hsi]; rfl
        have hpe : perL l i = s.period := by unfold perL; rw [List.getD_eq_getElem?_getD, hsi]; rfl
        have hne : l ≠ [] := fun h => by rw [h] at hlt; simp at hlt
        refine ix22 (x := s) hs2 rfl (by omega) hsi fun b o hc => ?_
        rw [ld34 (by rfl) hc]
        refine nv34 fun w3 hb3 hsz3 hr3 => ?_
        refine c30 (hs2.below hb3) hne hln.2 fun gB cB w4 hb4 hoB => ?_
        refine al22 fun w5 hb5 hsz5 hr5 => ?_
        have hgB := hoB.ge
        have hb4s := hb4.size
        generalize hbs : w2.heap.size = bs at *
        refine (st22 rfl (hr5.cell (i := 0) rfl) (hr5.free 0)).mpr ?_
        have hof6 : Off (· = w4.heap.size) w5 (w5.setCell ⟨w4.heap.size, 0, none⟩ (.slice (some ⟨gB, 0, none⟩) l.length cB)) := Off.set rfl
        have hr6 : RowAt _ w4.heap.size 22 [.slice (some ⟨gB, 0, none⟩) l.length cB] := hr5.set 0 (.slice (some ⟨gB, 0, none⟩) l.length cB)
        have hb26 : Below bs w2 (w5.setCell ⟨w4.heap.size, 0, none⟩ (.slice (some ⟨gB, 0, none⟩) l.length cB)) := ((hb3.trans (hb4.mono (by omega))).trans (hb5.mono (by omega))).setCell (by show bs ≤ w4.heap.size; omega) _
        have ho6 := ((hoB.below hb5).off hof6 (by omega))
        have hs6 := ((hr3.below hb4).below hb5).off hof6 (by omega)
        have hsz6 : (w5.setCell ⟨w4.heap.size, 0, none⟩ (.slice (some ⟨gB, 0, none⟩) l.length cB)).heap.size = w4.heap.size + 1 := by simp [hsz5]
        generalize hbf : w4.heap.size = bf at *
        generalize w5.setCell ⟨bf, 0, none⟩ (.slice (some ⟨gB, 0, none⟩) l.length cB) = w6 at *
        refine (ld22 (hr6.cell (i := 0) rfl)).mpr ?_
        rw [leno22]
        have hbl := befS_length l i
        have hbw : ∀ w', Below bs w2 w' → Below w.heap.size w w' := fun w' h => hb2.trans (h.mono (by have := hb2.size; omega))
        refine Loop1.intro (fun n c w' => ∃ j : Nat, c = I j ∧ j ≤ l.length ∧ n = l.length - j ∧ Below bs w2 w' ∧ RowAt w' bs 34 [I s.cls, I s.size, I s.period] ∧ RowAt w' bf 22 [.slice (some ⟨gB, 0, none⟩) l.length cB] ∧ OwnS fS w' w3.heap.size 34 gB cB ((befS l i).take j ++ l.drop j)) l.length
          ⟨0, rfl, by omega, by omega, hb26, hs6, hr6, by simpa using ho6⟩ ?_
        clear hs6 hr6 ho6 hb26 hof6 hsz6
        rintro n _ w7 ⟨j, rfl, hj, rfl, hb7, hr7, hv7, ho7⟩
        rw [w_lss]
        by_cases hjl : j < l.length
        · rw [decide_eq_true (by omega), condW_true]
          refine joinW_use0 (Pre := fun w' => Below bs w2 w' ∧ RowAt w' bs 34 [I s.cls, I s.size, I s.period] ∧ RowAt w' bf 22 [.slice (some ⟨gB, 0, none⟩) l.length cB] ∧ OwnS fS w' w3.heap.size 34 gB cB ((befS l i).take (j + 1) ++ l.drop (j + 1))) ?_ ?_
          · rintro w8 ⟨hb8, hr8, hv8, ho8⟩
            rw [w_add, wrap_id (by omega), loopK_self]
            exact ⟨l.length - (j + 1), by omega, j + 1, by simp [I], by omega, rfl, hb8, hr8, hv8, ho8⟩
          · intro J2 hJ2
            refine C31 _ _ _ _ _ (s31 (hs.below (hbw _ hb7)) hjl hlt fun w8 hb8 => ?_)
            have hb28 := hb7.trans (hb8.mono (by have := hb7.size; omega))
            have hr8 := hr7.below hb8
            have hv8 := hv7.below hb8
            have ho8 := ho7.below hb8
            rw [w_geq]
            by_cases hbe : beforeB l j i = true
            · have := (cmpS_before hjl hlt).2 hbe
              rw [decide_eq_false (by omega), condW_false]
              rw [mix_same hbl hjl (by rw [befS_get hjl, if_pos hbe])] at ho8
              exact hJ2 _ ⟨hb28, hr8, hv8, ho8⟩
            · have : ¬ cmpS l j i < 0 := fun h => hbe ((cmpS_before hjl hlt).1 h)
              rw [decide_eq_true (by omega), condW_true]
              refine (ld22 (hv8.cell (i := 0) rfl)).mpr ?_
              rw [ixo22 (by omega) (by omega), fl34_1]
              obtain ⟨ho9, old, hold⟩ := ho8.storeF (x := l[j]) (y := ⟨l[j].cls, 0, l[j].period⟩) (f := 1) (u := I 0) (mix_get hbl hjl) (by decide) rfl
              have ead : (⟨gB, 0 + (j : Int).toNat * 3 + 1, none⟩ : Addr) = ⟨gB, j * fS.sz + 1, none⟩ := by simp [fS]
              rw [ead]
              refine (st3 rfl hold (ho8.free _)).mpr ?_
              have hof9 : Off (· = gB) w8 (w8.setCell ⟨gB, j * fS.sz + 1, none⟩ (I 0)) := Off.set rfl
              rw [mix_set hbl hjl (by rw [befS_get hjl, if_neg hbe])] at ho9
              exact hJ2 _ ⟨hb28.setCell (by show bs ≤ gB; omega) _, hr8.off hof9 (by omega), hv8.off hof9 (by omega), ho9⟩
        · rw [decide_eq_false (by omega), condW_false]
          obtain rfl : j = l.length := by omega
          rw [List.drop_eq_nil_of_le (by omega), List.append_nil, List.take_of_length_le (by omega)] at ho7
          rw [w_makeFunc, fl34_1]
          refine (ld3 (v := I s.size) (hr7.cell (i := 1) rfl)).mpr ?_
          have hslB := ho7.sl
          rw [hbl] at hslB
          have hokB := befS_ok hv i
          have hdem : ∀ r, dem l i r = demF s.size (befS l i) r := fun r => by unfold dem; rw [hsz]
          have callD : ∀ (w' : World) (kk : Value → World → Prop) (r : Int), Below w7.heap.size w7 w' → 0 ≤ r ∧ r ≤ 1000 → (∀ w'', Below w'.heap.size w' w'' → kk (I (dem l i r)) w'') → callW Try.prog (.func (.func 32) #[] #[.pointer (some ⟨bs, 0, none⟩), .pointer (some ⟨bf, 0, none⟩)]) #[I r] kk w' := fun w' kk r hb hr hk => by
            refine c32 (hr7.below hb) ((hv7.below hb).cell (i := 0) rfl) (hslB.below hb) hokB (by rw [hbl]; exact hln.2) (by omega) hr fun w'' hw'' => ?_
            rw [← hdem]; exact hk w'' hw''
          have hr7' := hr7
          refine Loop1.intro (fun n c w' => ∃ r : Int, c = I r ∧ s.size ≤ r ∧ r ≤ 1000000 ∧ n = (s.period + 1 - r).toNat ∧ Below w7.heap.size w7 w' ∧ (r ≤ s.period → r ≤ dem l i r) ∧ ∀ r', s.size ≤ r' → r' < r → dem l i r' ≠ r') _
            ⟨s.size, rfl, by omega, by omega, rfl, Below.refl _ _, fun h => by rw [hdem]; exact (demF_range (by omega) _ hokB).1, fun r' h1 h2 => by omega⟩ ?_
          rintro n _ w8 ⟨r, rfl, hr0, hrm, rfl, hb8, hle, hfix⟩
          have hr8 := hr7.below hb8
          have hb28 := hb7.trans (hb8.mono (by have := hb7.size; omega))
          rw [fl34_2]
          refine (ld3 (v := I s.period) (hr8.cell (i := 2) rfl)).mpr ?_
          rw [w_leq]
          have endW : ∀ (w9 : World) (x : Int) (K : Value → World → Prop), Below bs w2 w9 → RespP l i x → (∀ u w', (∃ (x : Int) (g : Nat), RespP l i x ∧ SubS fI w' w.heap.size 3 g u (outs ++ [x]) ∧ Below w.heap.size w w') → K u w') →
              opW Try.prog (Instr.buildSlice 26 1 #[(0, I x)]) (fun t60 w => opW Try.prog (Builtin.append_ #[26, 26] 26 #[out, t60]) (fun t61 w => K t61 w) w) w9 := fun w9 x K hb9 hx hK => by
            rw [w_one (v := I x) sty26 rfl (by omega)]
            have hba := below_alloc w9 (.cells (I x).cells 3 (0, 0))
            have hbt := hb9.trans (hba.mono (by have := hb9.size; omega))
            have hq : (out = .slice none 0 0 ∧ outs = []) ∨ SubS fI (w9.alloc (.cells (I x).cells 3 (0, 0))) w.heap.size 3 g out outs := hout.imp id fun h => h.same (hbt.block _ (by have := h.lt.2; omega))
            refine w_append1 (F := fI) (base := w.heap.size) (u := I x) sty26 rfl rfl rfl (by rw [World.cell?_alloc_new]; rfl) hq (by unfold maxLen; omega) (by omega) (hbw _ hbt).size fun u g' w10 hS hw10 => ?_
            refine hK u w10 ⟨x, g', hx, hS, (hbw _ hbt).trans ?_⟩
            rcases hw10 with ⟨h0, _, rfl, hon⟩ | ⟨_, hb⟩
            · exact hon.rest _ h0.lt.1
            · exact hb.mono (hbw _ hbt).size
          by_cases hrp : r ≤ s.period
          · have hdr := (demF_range (s := s.size) (r := r) (by omega) _ hokB)
            rw [← hdem, hbl] at hdr
            rw [decide_eq_true hrp]
            simp only [guardW_tt, pickW_true]
            refine callD w8 _ r hb8 (by omega) fun w9 hb9 => ?_
            have hb79 := below_trans hb8 hb9
            rw [w_gtr]
            have hler := hle hrp
            by_cases hgt : r < dem l i r
            · rw [decide_eq_true hgt, condW_true]
              refine callD w9 _ r hb79 (by omega) fun w10 hb10 => ?_
              rw [loopK_self]
              refine ⟨(s.period + 1 - dem l i r).toNat, by omega, dem l i r, rfl, by omega, by omega, rfl, below_trans hb79 hb10, fun h => ?_, fun r' h1 h2 => ?_⟩
              · have := demF_mono (s := s.size) (r := r) (r' := dem l i r) (by omega) _ hokB
                rw [← hdem, ← hdem] at this; exact this
              · rcases Int.lt_or_le r' r with h | h
                · exact hfix r' h1 h
                · have := demF_mono (s := s.size) (r := r) (r' := r') h _ hokB
                  rw [← hdem, ← hdem] at this; omega
            · rw [decide_eq_false hgt, condW_false, fl34_2]
              refine (ld3 (v := I s.period) ((hr8.below hb9).cell (i := 2) rfl)).mpr ?_
              rw [w_gtr, decide_eq_false (by omega), condW_false]
              exact endW w9 r _ (hb7.trans (hb79.mono (by have := hb7.size; omega))) (.inl ⟨by omega, by omega, by omega, fun r' h1 h2 => hfix r' (by omega) h2⟩) hJ
          · rw [decide_eq_false hrp]
            simp only [guardW_ft, guardW_u, pickW_false, condW_false]
            rw [fl34_2]
            refine (ld3 (v := I s.period) (hr8.cell (i := 2) rfl)).mpr ?_
            rw [w_gtr, decide_eq_true (by omega), condW_true]
            exact endW w8 (-1) _ hb28 (.inr ⟨rfl, fun r' h1 h2 => hfix r' (by omega) (by omega)⟩) hJ
    · rw [decide_eq_false (show ¬ (i : Int) < l.length by omega), condW_false]
      refine hok outs out w2 hb2 hv (by omega) hresp ?_
      rcases hout with ⟨rfl, rfl⟩ | h
      · exact .nil _
      · exact h.sl
theorem c13 {v : Value} {l : List Stream} (hs : IsSl fS w v l) (hl : l.length ≤ maxLen)
    (hbad : ∀ w', Below w.heap.size w w' → validS l = false → k (.tuple #[.slice none 0 0, I 240]) w')
    (hok : ∀ out u w', Below w.heap.size w w' → validS l = true → out.length = l.length → (∀ j x, out[j]? = some x → RespP l j x) → IsSl fI w' u out → k (.tuple #[u, I 0]) w') : callW Try.prog (.func (.func 13) #[] #[]) #[v] k w := C13 _ _ _ (s13 hs hl hbad hok)
end
end Go.Proofs.Ytidnjppalebbfaa
