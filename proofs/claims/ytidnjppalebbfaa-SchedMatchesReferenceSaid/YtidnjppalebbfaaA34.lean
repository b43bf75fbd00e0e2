/- Contracts of the reference's functions: Trace, Finish. -/
import Derived.Test.YtidnjppalebbfaaA33
set_option linter.unusedSimpArgs false
set_option linter.unusedVariables false
namespace Go.Proofs.Ytidnjppalebbfaa
open Go Go.V Go.RowKit
/-- the best of the arrivals before i -/
def BestTo (l : List Stream) (a : List Arr) (t : Int) (rem : Nat → Int) (i : Nat) (b : Int) : Prop :=
  (b = -1 ∧ ∀ j, j < i → atA a j ≤ t → rem j = 0) ∨ ∃ n : Nat, b = n ∧ n < i ∧ atA a n ≤ t ∧ 0 < rem n ∧ ∀ j, j < i → atA a j ≤ t → rem j ≠ 0 → j ≠ n → beforeB l (stA a n) (stA a j) = true ∨ stA a j = stA a n ∧ n < j
section
variable {l : List Stream} {a : List Arr} {t : Int} {rem : Nat → Int} {i : Nat} {b : Int}
theorem BestTo.skip (h : BestTo l a t rem i b) (hi : ¬ (atA a i ≤ t ∧ rem i ≠ 0)) : BestTo l a t rem (i + 1) b := by
  rcases h with ⟨rfl, h⟩ | ⟨n, rfl, h1, h2, h3, h4⟩
  · refine .inl ⟨rfl, fun j hj ht => ?_⟩
    rcases Nat.lt_or_ge j i with h' | h'
    · exact h j h' ht
    · obtain rfl : j = i := by omega
      exact Classical.byContradiction fun h0 => hi ⟨ht, h0⟩
  · refine .inr ⟨n, rfl, by omega, h2, h3, fun j hj ht h0 hne => ?_⟩
    rcases Nat.lt_or_ge j i with h' | h'
    · exact h4 j h' ht h0 hne
    · obtain rfl : j = i := by omega
      exact absurd ⟨ht, h0⟩ hi
theorem BestTo.first (h : BestTo l a t rem i (-1)) (hi : atA a i ≤ t) (h0 : 0 < rem i) : BestTo l a t rem (i + 1) i := by
  rcases h with ⟨_, h⟩ | ⟨n, hn, _⟩
  · refine .inr ⟨i, rfl, by omega, hi, h0, fun j hj ht hr hne => ?_⟩
    exact absurd (h j (by omega) ht) hr
  · omega
theorem BestTo.keep (hs : ∀ k, k < a.length → stA a k < l.length) (hil : i < a.length) {n : Nat} (h : BestTo l a t rem i n) (hb : beforeB l (stA a i) (stA a n) = false) : BestTo l a t rem (i + 1) n := by
  rcases h with ⟨h, _⟩ | ⟨m, hm, h1, h2, h3, h4⟩
  · omega
  · obtain rfl : n = m := by omega
    refine .inr ⟨n, rfl, by omega, h2, h3, fun j hj ht hr hne => ?_⟩
    rcases Nat.lt_or_ge j i with h' | h'
    · exact h4 j h' ht hr hne
    · obtain rfl : j = i := by omega
      have q1 := hs j hil
      have q2 := hs n (by omega)
      have hb' : ¬ beforeB l (stA a j) (stA a n) = true := by rw [hb]; simp
      rw [beforeB_iff q1 q2] at hb'
      rw [beforeB_iff q2 q1]
      by_cases he : stA a j = stA a n
      · exact .inr ⟨he, h1⟩
      · exact .inl (by omega)
theorem BestTo.better (hs : ∀ k, k < a.length → stA a k < l.length) (hil : i < a.length) {n : Nat} (h : BestTo l a t rem i n) (hb : beforeB l (stA a i) (stA a n) = true) (hi : atA a i ≤ t) (h0 : 0 < rem i) : BestTo l a t rem (i + 1) i := by
  rcases h with ⟨h, _⟩ | ⟨m, hm, h1, h2, h3, h4⟩
  · omega
  · obtain rfl : n = m := by omega
    refine .inr ⟨i, rfl, by omega, hi, h0, fun j hj ht hr hne => ?_⟩
    by_cases hjn : j = n
    · subst hjn; exact .inl hb
    · rcases h4 j (by omega) ht hr hjn with h5 | ⟨h5, _⟩
      · have q1 := hs i hil
        have q2 := hs n (by omega)
        have q3 := hs j (by omega)
        rw [beforeB_iff q1 q2] at hb
        rw [beforeB_iff q2 q3] at h5
        rw [beforeB_iff q1 q3]
        exact .inl (by omega)
      · rw [h5]; exact .inl hb
end
section
variable {k : Value → World → Prop} {w : World}
theorem setI {v : Value} {l : List Int} {i : Nat} {x y : Int} {B : Nat} {K : Value → World → Prop} (hown : Mine fI 3 w B v l) (hx : l[i]? = some x)
    (hk : ∀ w', Mine fI 3 w' B v (l.set i y) → Below B w w' → Off (isOf v) w w' → K undef w') :
    opW Try.prog (Instr.indexAt 26 v (I i)) (fun p w => opU Try.prog (Instr.storeAt 3 p (I y)) K w) w :=
  Mine.setE (i := (i : Int)) (u := I y) (y := y) (x := x) (by kernel_rfl) (by kernel_rfl) (by kernel_rfl) rfl (by kernel_rfl) (by kernel_rfl) hown (by omega) (by simpa using hx) rfl rfl (by simpa using hk)
theorem tot_zero {rem : Nat → Int} {n : Nat} (h : ∀ j, j < n → 0 ≤ rem j) (h0 : ¬ 0 < tot rem n) : ∀ j, j < n → rem j = 0 := fun j hj =>
  Classical.byContradiction fun hne => h0 (tot_pos h ⟨j, hj, hne⟩)
theorem map_range_get {f : Nat → Int} {n i : Nat} (hi : i < n) : ((List.range n).map f)[i]? = some (f i) := by
  rw [List.getElem?_map, List.getElem?_range hi]; rfl
theorem map_range_dec {rem : Nat → Int} {n j : Nat} (hj : j < n) : ((List.range n).map rem).set j (rem j - 1) = (List.range n).map (dec rem j) := by
  refine List.ext_getElem (by simp) fun i h1 h2 => ?_
  simp only [List.getElem_set, List.getElem_map, List.getElem_range, dec]
  by_cases h : j = i
  · subst h; simp
  · rw [if_neg h, if_neg (Ne.symm h)]
theorem c19 {lv av : Value} {l : List Stream} {a : List Arr} (hs : IsSl fS w lv l) (ha : IsSl fA w av a) (hl : l.length ≤ maxLen)
    (hbad : ∀ w', Below w.heap.size w w' → ¬ ProperP l a → k (.tuple #[.slice none 0 0, I 240]) w')
    (hok : ∀ tr v w', Below w.heap.size w w' → ProperP l a → TraceP l a tr → IsSl fI w' v tr → k (.tuple #[v, I 0]) w') : callW Try.prog (.func (.func 19) #[] #[]) #[lv, av] k w := C19 _ _ _ _ (by
  unfold S19
  refine c23 hs ha hl (fun w1 hb1 hp => ?_) (fun w1 hb1 hnp => ?_)
  · rw [w_not, Bool.not_true, condW_false]
    have hn := hp.len
    have hstl : ∀ k, k < a.length → stA a k < l.length := fun k hk => by obtain ⟨_, _, _, _, h, _⟩ := proper_at hp hk; exact h
    refine Loop3.intro (fun n lf to c w' => ∃ i : Nat, c = I i ∧ i ≤ a.length ∧ n = a.length - i ∧ Below w.heap.size w w' ∧ to = I (tot (szA l a) i) ∧ Mine fI 3 w' w.heap.size lf ((List.range i).map (szA l a))) _ ⟨0, rfl, by omega, rfl, hb1, rfl, Mine.nil _ _⟩ ?_
    rintro n lf _ _ w2 ⟨i, rfl, hi, rfl, hb2, rfl, ho2⟩
    have hs2 := hs.below hb2
    have ha2 := ha.below hb2
    refine (len23 ha2).mpr ?_
    rw [w_lss]
    have htl := tot_le (rem := szA l a) (b := 50) (n := i) fun j hj => (szA_range hp (by omega)).2
    have htn := tot_nonneg (rem := szA l a) (n := i) fun j hj => by have := szA_range hp (j := j) (by omega); omega
    by_cases hlt : i < a.length
    · rw [decide_eq_true (by omega), condW_true]
      obtain ⟨x, hx, hax, hst, hsl, hat⟩ := proper_at hp hlt
      obtain ⟨s, hsx⟩ : ∃ s, l[stA a i]? = some s := ⟨_, List.getElem?_eq_getElem hsl⟩
      have hsx' : l[x.stream.toNat]? = some s := by rw [← hst]; exact hsx
      have hsz : szA l a i = s.size := by unfold szA; rw [List.getD_eq_getElem?_getD, hsx]; rfl
      have hzr := szA_range hp hlt
      rw [nw23_0 rfl ha2 hx rfl, gw22_1 rfl hs2 (by omega) hsx' rfl]
      refine pushI ho2 hb2.size (by simp; omega) fun lf' w3 ho3 hb3 _ _ => ?_
      rw [nw23_0 rfl (ha.below (hb2.trans hb3)) hx rfl, gw22_1 rfl (hs.below (hb2.trans hb3)) (by omega) hsx' rfl, w_add, wrap_id (by omega), w_add, wrap_id (by omega), loopK_self]
      refine ⟨a.length - (i + 1), by omega, i + 1, by simp [I], by omega, rfl, hb2.trans hb3, by rw [← hsz]; rfl, ?_⟩
      rw [List.range_succ, List.map_append, List.map_singleton, hsz]; exact ho3
    · rw [decide_eq_false (by omega), condW_false]
      obtain rfl : i = a.length := by omega
      refine Loop2.intro (fun n to ov w' => ∃ tr rem, Run l a tr rem ∧ to = I (tot rem a.length) ∧ n = (tot rem a.length).toNat * 3000 + (2001 - tr.length) ∧ Below w.heap.size w w' ∧ Mine fI 3 w' w.heap.size ov tr ∧ Mine fI 3 w' w.heap.size lf ((List.range a.length).map rem) ∧ ∀ b, isOf lf b → ¬ isOf ov b) _
        ⟨[], szA l a, .start, rfl, rfl, hb2, Mine.nil _ _, ho2, fun b _ h => by simp [isOf, Value.ownBlock] at h⟩ ?_
      rintro n _ ov w3 ⟨tr, rem, hrun, rfl, rfl, hb3, hto, hlo, hdis⟩
      have hrr := hrun.range hp
      have hsh := hrun.short hp
      have htn := tot_nonneg (rem := rem) (n := a.length) fun j hj => (hrr j hj).1
      rw [w_gtr]
      by_cases hgo : 0 < tot rem a.length
      · rw [decide_eq_true hgo, condW_true]
        refine joinW_use2 (Pre := fun to' ov' w' => ∃ tr' rem', Run l a tr' rem' ∧ to' = I (tot rem' a.length) ∧ (tot rem' a.length).toNat * 3000 + (2001 - tr'.length) < (tot rem a.length).toNat * 3000 + (2001 - tr.length) ∧ Below w.heap.size w w' ∧ Mine fI 3 w' w.heap.size ov' tr' ∧ Mine fI 3 w' w.heap.size lf ((List.range a.length).map rem') ∧ ∀ b, isOf lf b → ¬ isOf ov' b) ?_ ?_
        · rintro _ ov' w4 ⟨tr', rem', h1, rfl, h2, h3, h4, h5, h6⟩
          rw [loopK_self]
          exact ⟨_, h2, tr', rem', h1, rfl, rfl, h3, h4, h5, h6⟩
        · intro J hJ
          refine Loop2.intro (fun n be c w' => ∃ (i : Nat) (b : Int), c = I i ∧ be = I b ∧ i ≤ a.length ∧ n = a.length - i ∧ Below w3.heap.size w3 w' ∧ BestTo l a tr.length rem i b) _ ⟨0, -1, rfl, rfl, by omega, rfl, Below.refl _ _, .inl ⟨rfl, by omega⟩⟩ ?_
          rintro n _ _ w4 ⟨i, b, rfl, rfl, hi, rfl, hb4, hbest⟩
          have hb34 := hb3.trans (hb4.mono hb3.size)
          have ha4 := ha.below hb34
          have hs4 := hs.below hb34
          refine (len23 ha4).mpr ?_
          rw [w_lss]
          by_cases hlt : i < a.length
          · rw [decide_eq_true (by omega), condW_true]
            refine joinW_use1 (Pre := fun v w' => ∃ b', v = I b' ∧ Below w3.heap.size w3 w' ∧ BestTo l a tr.length rem (i + 1) b') ?_ ?_
            · rintro _ w5 ⟨b', rfl, hb5, hbest'⟩
              rw [w_add, wrap_id (by omega), loopK_self]
              exact ⟨a.length - (i + 1), by omega, i + 1, b', by simp [I], rfl, by omega, rfl, hb5, hbest'⟩
            · intro J2 hJ2
              obtain ⟨x, hx, hax, hst, hsl, hat⟩ := proper_at hp hlt
              rw [nw23_1 rfl ha4 hx rfl]
              refine (len26 (hto.below hb4).sl).mpr ?_
              rw [w_gtr]
              by_cases h1 : (tr.length : Int) < x.at_
              · rw [decide_eq_true h1]
                simp only [guardW_tf, guardW_u, pickW_true, condW_true]
                exact hJ2 _ _ ⟨b, rfl, hb4, hbest.skip fun h => by omega⟩
              · rw [decide_eq_false h1]
                simp only [guardW_ff, pickW_false]
                rw [nw26 rfl (hlo.below hb4).sl (map_range_get hlt) rfl, w_eql]
                by_cases h2 : rem i = 0
                · rw [decide_eq_true h2, condW_true]
                  exact hJ2 _ _ ⟨b, rfl, hb4, hbest.skip fun h => h.2 h2⟩
                · rw [decide_eq_false h2, condW_false, drewW_eq, t_lss]
                  have hb4d := hb4.trans ((Below.refl w3.heap.size _).drew)
                  have hri := hrr i hlt
                  rcases hbest with ⟨rfl, hb0⟩ | ⟨m, rfl, hm1, hm⟩
                  · have e : decide ((-1 : Int) < 0) = true := by decide
                    rw [e]
                    simp only [guardT_tf, guardT_u, guardW_tf, guardW_u, pickT_true, condW_true]
                    exact hJ2 _ _ ⟨i, rfl, hb4d, BestTo.first (.inl ⟨rfl, hb0⟩) (by omega) (by omega)⟩
                  · rw [decide_eq_false (by omega)]
                    simp only [guardT_ff, guardW_ff]
                    obtain ⟨y, hy, hay, hsty, hsly, _⟩ := proper_at hp (show m < a.length by omega)
                    rw [nt23_0 rfl ha4.drew hx rfl, nt23_0 rfl ha4.drew hy rfl, ← hst, ← hsty]
                    refine c26 hs4.drew hsl hsly fun w5 hb5 => ?_
                    have hb5' := hb4d.trans (hb5.mono (by have := hb4.size; simpa using this))
                    cases hbe : beforeB l (stA a i) (stA a m) with
                    | true =>
                      simp only [pickT_false, condW_true]
                      exact hJ2 _ _ ⟨i, rfl, hb5', BestTo.better hstl hlt (.inr ⟨m, rfl, hm1, hm⟩) hbe (by omega) (by omega)⟩
                    | false =>
                      simp only [pickT_false, condW_false]
                      exact hJ2 _ _ ⟨m, rfl, hb5', BestTo.keep hstl hlt (.inr ⟨m, rfl, hm1, hm⟩) hbe⟩
          · rw [decide_eq_false (by omega), condW_false]
            obtain rfl : i = a.length := by omega
            refine pushI (hto.below hb4) hb34.size (by omega) fun ov' w5 ho5 hb5 hof5 hnew => ?_
            have hlo5 : Mine fI 3 w5 w.heap.size lf ((List.range a.length).map rem) := (hlo.below hb4).off hof5 hdis
            have hdis5 : ∀ b, isOf lf b → ¬ isOf ov' b := fun b h1 h2 => by
              rcases hnew b h2 with h | h
              · exact hdis b h1 h
              · have := ((hlo.below hb4).ge h1).2; omega
            have hb35 := hb34.trans hb5
            rw [w_geq]
            rcases hbest with ⟨rfl, hb0⟩ | ⟨m, rfl, hm1, hm2, hm3, hm4⟩
            · have e : decide ((0 : Int) ≤ -1) = false := by decide
              rw [e, condW_false]
              have hnd : ¬ Done a rem := fun h => by
                have : ∀ n, n ≤ a.length → tot rem n = 0 := by
                  intro n
                  induction n with
                  | zero => intro _; rfl
                  | succ n ih => intro hn; simp only [tot]; rw [ih (by omega), h n (by omega)]; rfl
                rw [this _ (Nat.le_refl _)] at hgo; omega
              have hidle : Idle a tr.length rem := hb0
              refine hJ _ _ _ ⟨tr ++ [-1], rem, .idle hrun hidle hnd, rfl, ?_, hb35, ho5, hlo5, hdis5⟩
              have hlen : tr.length < 2001 := by
                obtain ⟨j, hj, h0⟩ : ∃ j, j < a.length ∧ rem j ≠ 0 := Classical.byContradiction fun hn => hnd fun j hj => Classical.byContradiction fun h0 => hn ⟨j, hj, h0⟩
                obtain ⟨x, hx, hax, _, _, ht⟩ := proper_at hp hj
                have h2 : ¬ atA a j ≤ tr.length := fun hh => h0 (hidle j hj hh)
                omega
              rw [List.length_append, List.length_singleton]; omega
            · rw [decide_eq_true (by omega), condW_true, nw26 rfl hlo5.sl (map_range_get (by omega)) rfl]
              have hrm := hrr m (by omega)
              have hzm := szA_range hp (j := m) (by omega)
              rw [w_sub, wrap_id (by omega)]
              refine setI (x := rem m) hlo5 (map_range_get (by omega)) fun w6 ho6 hb6 hof6 => ?_
              rw [map_range_dec (by omega)] at ho6
              rw [w_sub, wrap_id (by omega)]
              refine hJ _ _ _ ⟨tr ++ [(m : Int)], dec rem m, .send hrun ⟨by omega, hm2, hm3, fun j h1 h2 h3 h4 => hm4 j h1 h2 h3 h4⟩, by rw [tot_dec, if_pos (by omega)], ?_, hb35.trans hb6, ho5.off hof6 fun b h1 h2 => hdis5 b h2 h1, ho6, hdis5⟩
              rw [tot_dec, if_pos (by omega), List.length_append, List.length_singleton]; omega
      · rw [decide_eq_false hgo, condW_false]
        exact hok tr ov w3 hb3 hp ⟨rem, hrun, tot_zero (fun j hj => (hrr j hj).1) hgo⟩ hto.sl
  · rw [w_not, Bool.not_false, condW_true]
    exact hbad _ hb1 hnp)
theorem c21 {lv av : Value} {l : List Stream} {a : List Arr} (hs : IsSl fS w lv l) (ha : IsSl fA w av a) (hl : l.length ≤ maxLen)
    (hbad : ∀ w', Below w.heap.size w w' → ¬ ProperP l a → k (.tuple #[.slice none 0 0, I 240]) w')
    (hok : ∀ tr v w', Below w.heap.size w w' → ProperP l a → TraceP l a tr → IsSl fI w' v (finOf a.length tr) → k (.tuple #[v, I 0]) w') : callW Try.prog (.func (.func 21) #[] #[]) #[lv, av] k w := C21 _ _ _ _ (by
  unfold S21
  refine c19 hs ha hl (fun w1 hb1 hnp => ?_) (fun tr tv w1 hb1 hp htr htv => ?_)
  · rw [w_ex0, w_ex1, w_neq, show (!decide ((240 : Int) = 0)) = true by decide, condW_true]
    exact hbad _ hb1 hnp
  · rw [w_ex0, w_ex1, w_neq, show (!decide ((0 : Int) = 0)) = false by decide, condW_false]
    have hn := hp.len
    refine (len23 (ha.below hb1)).mpr ?_
    refine w_make (base := w1.heap.size) sty26 (by omega) (by unfold maxLen; omega) (Nat.le_refl _) fun w2 ho2 hg2 => ?_
    have ho2' : Mine fI 3 w2 w1.heap.size (.slice (some ⟨w1.heap.size, 0, none⟩) a.length a.length) (List.replicate a.length 0) := by
      have := OwnS.zeros ho2
      unfold OwnS at this
      unfold Mine
      rw [List.length_replicate] at *
      exact this
    have hb2 : Below w1.heap.size w1 w2 := below_grown (B := w1.heap.size) (Below.refl _ _) (Nat.le_refl _) hg2 (by simp)
    generalize (Value.slice (some ⟨w1.heap.size, 0, none⟩) a.length a.length) = ov at *
    have lo := line_ok hp htr
    obtain ⟨rem, hrun, hdone⟩ := id htr
    have hsh := hrun.short hp
    have hrr := hrun.range hp
    have htn := tot_nonneg (rem := rem) (n := a.length) fun j hj => (hrr j hj).1
    refine Loop1.intro (fun n c w' => ∃ t : Nat, c = I t ∧ t ≤ tr.length ∧ n = tr.length - t ∧ Below w1.heap.size w1 w' ∧ Mine fI 3 w' w1.heap.size ov (finOf a.length (tr.take t))) _ ⟨0, rfl, by omega, rfl, hb2, by simpa [finOf] using ho2'⟩ ?_
    rintro n _ w3 ⟨t, rfl, ht, rfl, hb3, ho3⟩
    have htv3 := htv.below hb3
    refine (len26 htv3).mpr ?_
    rw [w_lss]
    by_cases hlt : t < tr.length
    · rw [decide_eq_true (by omega), condW_true]
      have hx : tr[t]? = some tr[t] := List.getElem?_eq_getElem hlt
      refine joinW_use0 (Pre := fun w' => Below w1.heap.size w1 w' ∧ Mine fI 3 w' w1.heap.size ov (finOf a.length (tr.take (t + 1)))) ?_ ?_
      · rintro w4 ⟨hb4, ho4⟩
        rw [w_add, wrap_id (by omega), loopK_self]
        exact ⟨tr.length - (t + 1), by omega, t + 1, by simp [I], by omega, rfl, hb4, ho4⟩
      · intro J hJ
        have hsn := finOf_snoc a.length (tr.take t) tr[t]
        rw [← List.take_succ_eq_append_getElem hlt, List.length_take, Nat.min_eq_left (by omega)] at hsn
        rw [nw26 rfl htv3 hx rfl, w_geq]
        by_cases h0 : 0 ≤ tr[t]
        · rw [if_pos h0] at hsn
          rw [decide_eq_true h0, condW_true, nw26 rfl htv3 hx rfl, w_add, wrap_id (by omega)]
          have hin : tr[t] < a.length := by
            rcases hrun.spec.2 t _ hx with ⟨h, _⟩ | ⟨j, h, hb⟩
            · omega
            · have := hb.lt; omega
          obtain ⟨m, hm⟩ : ∃ m : Nat, tr[t] = m := ⟨tr[t].toNat, by omega⟩
          rw [hm]
          refine setI (x := (finOf a.length (tr.take t)).getD m 0) ho3 (by rw [List.getD_eq_getElem?_getD, List.getElem?_eq_getElem (by rw [finOf_length]; omega)]; rfl) fun w4 ho4 hb4 _ => ?_
          exact hJ _ ⟨hb3.trans hb4, by rw [hsn, hm]; simpa using ho4⟩
        · rw [if_neg h0] at hsn
          rw [decide_eq_false h0, condW_false]
          exact hJ _ ⟨hb3, by rw [hsn]; exact ho3⟩
    · rw [decide_eq_false (by omega), condW_false]
      rw [List.take_of_length_le (by omega)] at ho3
      exact hok tr ov w3 (hb1.trans (hb3.mono hb1.size)) hp htr ho3.sl)
end
end Go.Proofs.Ytidnjppalebbfaa
