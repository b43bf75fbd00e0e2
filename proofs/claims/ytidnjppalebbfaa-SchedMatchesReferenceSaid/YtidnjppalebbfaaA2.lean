/- Contracts of package sched's functions, second part: comparisons, small functions of the reference. -/
import Derived.Test.YtidnjppalebbfaaA1
set_option linter.unusedSimpArgs false
set_option linter.unusedVariables false
namespace Go.Proofs.Ytidnjppalebbfaa
open Go Go.V Go.RowKit
section
variable {k : Value → World → Prop} {w : World}
theorem c49 {x : Int} (h : k (.bool false) w) : callW Try.prog (.func (.func 49) #[] #[]) #[I x] k w := C49 _ _ _ (by unfold S49; rw [w_neq]; simpa using h)
def cmpI (x y : Int) : Int := if x < y then -1 else if y < x then 1 else 0
theorem c44 {x y : Int} (h : k (I (cmpI x y)) w) : callW Try.prog (.func (.func 44) #[] #[]) #[I x, I y] k w := C44 _ _ _ _ (by
  unfold S44
  refine c49 (c49 ?_)
  unfold cmpI at h
  by_cases h1 : x < y
  · simpa [w_lss, h1] using h
  · by_cases h2 : y < x
    · simpa [w_lss, w_gtr, h1, h2] using h
    · simpa [w_lss, w_gtr, h1, h2] using h)
/-- the first that is not 0 -/
def orI (l : List Int) : Int := (l.find? (fun x => !decide (x = 0))).getD 0
theorem s43 {v : Value} {l : List Int} (hs : IsSl fI w v l) (hl : l.length ≤ maxLen) (h : k (I (orI l)) w) : S43 v k w := by
  unfold S43
  refine (len26 hs).mpr ?_
  refine Loop1.intro (fun n a w' => ∃ i : Nat, a = I i ∧ i ≤ l.length ∧ n = l.length - i ∧ w' = w ∧ ∀ x ∈ l.take i, x = 0) l.length ⟨0, rfl, by omega, by omega, rfl, by simp⟩ ?_
  rintro n _ w' ⟨i, rfl, hi, rfl, rfl, hno⟩
  rw [w_lss]
  by_cases hlt : i < l.length
  · rw [decide_eq_true (show (i : Int) < l.length by omega), condW_true]
    refine ix26 (x := l[i]) hs rfl (by omega) (by simp [hlt]) ?_
    intro b o hc
    refine (ld3 (hc 0 _ rfl)).mpr ?_
    rw [w_neq]
    by_cases hx : l[i] = 0
    · simp only [hx, decide_true, Bool.not_true, condW_false]
      rw [w_add, wrap_id (by unfold maxLen at hl; omega), loopK_self]
      refine ⟨l.length - (i + 1), by omega, i + 1, by simp [I], by omega, rfl, rfl, ?_⟩
      intro x hxm
      rw [List.take_succ_eq_append_getElem hlt, List.mem_append] at hxm
      rcases hxm with hxm | hxm
      · exact hno x hxm
      · simp at hxm; subst hxm; exact hx
    · simp only [hx, decide_false, Bool.not_false, condW_true]
      have : orI l = l[i] := by
        have h1 : (l.take i).find? (fun x => !decide (x = 0)) = none := List.find?_eq_none.2 fun x hxm => by simp [hno x hxm]
        have h2 : l.find? (fun x => !decide (x = 0)) = some l[i] := by
          have := List.find?_append (p := fun x : Int => !decide (x = 0)) (xs := l.take i) (ys := l.drop i)
          rw [List.take_append_drop, h1] at this
          rw [this, Option.none_or, List.drop_eq_getElem_cons hlt]; exact List.find?_cons_of_pos (by simp [hx])
        unfold orI; rw [h2]; rfl
      rw [this] at h; exact h
  · rw [decide_eq_false (show ¬ (i : Int) < l.length by omega), condW_false]
    have : orI l = 0 := by
      unfold orI
      rw [List.find?_eq_none.2 fun x hxm => ?_]
      · rfl
      · rw [List.take_of_length_le (by omega)] at hno; simp [hno x hxm]
    rw [this] at h; exact h
theorem c43 {v : Value} {l : List Int} (hs : IsSl fI w v l) (hl : l.length ≤ maxLen) (h : k (I (orI l)) w) : callW Try.prog (.func (.func 43) #[] #[]) #[v] k w := C43 _ _ _ (s43 hs hl h)
def cmpS (l : List Stream) (a b : Nat) : Int := match l[a]?, l[b]? with
  | some x, some y => orI [cmpI x.cls y.cls, cmpI a b]
  | _, _ => 0
theorem below_alloc (w : World) (o : Obj) : Below w.heap.size w (w.alloc o) := (Below.refl _ _).alloc (Nat.le_refl _) _
theorem below_drew (w : World) : Below w.heap.size w w.drew := (Below.refl _ _).drew
theorem IsSl.two (w : World) (a b : Int) : IsSl fI (w.alloc (.cells #[I a, I b] 3 (0, 0))) (.slice (some ⟨w.heap.size, 0, none⟩) 2 2) [a, b] := by
  refine ⟨_, _, rfl, by simp, fun i x hi => ⟨w.heap.size, 0, rfl, fun j u hu => ?_⟩⟩
  rw [World.cell?_alloc_new]
  match i, j with
  | 0, 0 => simp at hi hu ⊢; subst hi; simpa [fI] using hu
  | 1, 0 => simp at hi hu ⊢; subst hi; simpa [fI] using hu
  | 0, j + 1 => simp [fI] at hu
  | 1, j + 1 => simp [fI] at hu
  | i + 2, j => simp at hi
theorem s31 {v : Value} {l : List Stream} {a b : Nat} (hs : IsSl fS w v l) (ha : a < l.length) (hb : b < l.length) (h : ∀ w', Below w.heap.size w w' → k (I (cmpS l a b)) w') : S31 v (I a) (I b) k w := by
  unfold S31
  rw [drewW_eq]
  have hs' := hs.drew
  refine ⟨fun w' => Below w.heap.size w w', below_drew w, ?_⟩
  refine tix59 (x := l[a]) hs' rfl (by omega) (by simp [ha]) fun ba oa hca => ?_
  rw [tfl34_0]
  have stay : ∀ (bb o : Nat) (x : Stream), Cells w.drew bb o (fS.e x) → ∀ w', Below w.heap.size w w' → w'.cell? ⟨bb, o, none⟩ = w.drew.cell? ⟨bb, o, none⟩ := fun bb o x hc w' hw' => by
    have := hc.lt (by simp [fS])
    exact World.cell?_of_block (w := w) (hw'.block bb this)
  refine (tld3 (hca 0 _ rfl) (stay _ _ _ hca)).mpr ?_
  refine tix59 (x := l[b]) hs' rfl (by omega) (by simp [hb]) fun bb ob hcb => ?_
  rw [tfl34_0]
  refine (tld3 (hcb 0 _ rfl) (stay _ _ _ hcb)).mpr ?_
  refine c44 ?_
  rw [keepS_eq]
  refine ⟨below_drew w, ?_⟩
  refine c44 ?_
  rw [keepS_eq]
  refine ⟨below_drew w, ?_⟩
  rw [opW_ok (v := .slice (some ⟨w.drew.heap.size, 0, none⟩) 2 2) (w' := w.drew.alloc (.cells #[I (cmpI l[a].cls l[b].cls), I (cmpI a b)] 3 (0, 0))) (by kernel_rfl), keepS_eq]
  have hbel : Below w.heap.size w (w.drew.alloc (.cells #[I (cmpI l[a].cls l[b].cls), I (cmpI a b)] 3 (0, 0))) := below_trans (below_drew w) (below_alloc w.drew _)
  refine ⟨hbel, ?_⟩
  refine c43 (IsSl.two _ _ _) (by unfold maxLen; simp) ?_
  rw [keepS_eq]
  refine ⟨hbel, ?_⟩
  have := h _ hbel
  unfold cmpS at this
  simpa [ha, hb] using this
theorem s17 {u v : Value} {l m : List Int} (hu : IsSl fI w u l) (hv : IsSl fI w v m) (hl : l.length ≤ maxLen) (h : ∀ w', Below w.heap.size w w' → k (.bool (decide (l = m))) w') : S17 u v k w := by
  unfold S17
  refine (len26 hu).mpr ((len26 hv).mpr ?_)
  rw [w_neq]
  by_cases hlen : l.length = m.length
  · rw [show (!decide ((l.length : Int) = m.length)) = false by simp; omega, condW_false]
    refine Loop1.intro (fun n a w' => ∃ i : Nat, a = I i ∧ i ≤ l.length ∧ n = l.length - i ∧ Below w.heap.size w w' ∧ l.take i = m.take i) l.length ⟨0, rfl, by omega, by omega, Below.refl _ _, by simp⟩ ?_
    rintro n _ w' ⟨i, rfl, hi, rfl, hb, heq⟩
    refine (len26 (hu.below hb)).mpr ?_
    rw [w_lss]
    by_cases hlt : i < l.length
    · rw [decide_eq_true (show (i : Int) < l.length by omega), condW_true, drewW_eq]
      have hb' : Below w.heap.size w w'.drew := below_trans hb (below_drew w')
      refine tix26 (x := l[i]) (hu.below hb') rfl (by omega) (by simp [hlt]) fun b1 o1 hc1 => ?_
      refine (xld3 (hc1 0 _ rfl)).mpr ?_
      refine tix26 (x := m[i]) (hv.below hb') rfl (by omega) (by simp [← hlen, hlt]) fun b2 o2 hc2 => ?_
      refine (xld3 (hc2 0 _ rfl)).mpr ?_
      rw [t_neq]
      by_cases hx : l[i] = m[i]
      · simp only [hx, decide_true, Bool.not_true, condW_false]
        rw [w_add, wrap_id (by unfold maxLen at hl; omega), loopK_self]
        refine ⟨l.length - (i + 1), by omega, i + 1, by simp [I], by omega, rfl, hb', ?_⟩
        rw [List.take_succ_eq_append_getElem hlt, List.take_succ_eq_append_getElem (by omega), heq, hx]
      · simp only [hx, decide_false, Bool.not_false, condW_true]
        have := h _ hb'
        rwa [decide_eq_false (fun h => hx (by subst h; rfl))] at this
    · rw [decide_eq_false (show ¬ (i : Int) < l.length by omega), condW_false]
      rw [List.take_of_length_le (by omega), List.take_of_length_le (by omega)] at heq
      have := h _ hb
      rwa [decide_eq_true heq] at this
  · rw [show (!decide ((l.length : Int) = m.length)) = true by simp; omega, condW_true]
    have := h _ (Below.refl _ _)
    rwa [decide_eq_false (fun h => hlen (by rw [h]))] at this
theorem c17 {u v : Value} {l m : List Int} (hu : IsSl fI w u l) (hv : IsSl fI w v m) (hl : l.length ≤ maxLen) (h : ∀ w', Below w.heap.size w w' → k (.bool (decide (l = m))) w') : callW Try.prog (.func (.func 17) #[] #[]) #[u, v] k w := C17 _ _ _ _ (s17 hu hv hl h)
theorem c36 {x lo hi : Int} (h : k (.bool (decide (lo ≤ x ∧ x ≤ hi))) w) : callW Try.prog (.func (.func 36) #[] #[]) #[I x, I lo, I hi] k w := C36 _ _ _ _ _ (by
  unfold S36
  by_cases h1 : lo ≤ x <;> simp [w_geq, w_leq, h1] <;> simpa [h1] using h)
/-- pick: an index below n out of any integer -/
def pickI (c n : Int) : Int := if c < 0 then (IntKind.i64.wrap (-(IntKind.i64.wrap (c + 1)))).tmod n else c.tmod n
theorem c12 {c n : Int} (hn : n ≠ 0) (h : k (I (pickI c n)) w) : callW Try.prog (.func (.func 12) #[] #[]) #[I c, I n] k w := C12 _ _ _ _ (by
  unfold S12
  unfold pickI at h
  by_cases h1 : c < 0 <;> simp [w_lss, w_add, w_neg, w_rem hn, h1] <;> simpa [h1] using h)
theorem c29 {c n : Int} (hn : n ≠ 0) (h : k (I (pickI c n)) w) : callW Try.prog (.func (.func 29) #[] #[]) #[I c, I n] k w := C29 _ _ _ _ (by
  unfold S29
  unfold pickI at h
  by_cases h1 : c < 0 <;> simp [w_lss, w_add, w_neg, w_rem hn, h1] <;> simpa [h1] using h)
theorem pickI_range {c n : Int} (hn : 0 < n) (hc : -9223372036854775808 ≤ c ∧ c ≤ 9223372036854775807) : 0 ≤ pickI c n ∧ pickI c n < n := by
  unfold pickI
  split
  · rw [wrap_id (n := c + 1) (by omega), wrap_id (by omega)]
    rw [Int.tmod_eq_emod_of_nonneg (by omega)]
    exact ⟨Int.emod_nonneg _ (by omega), Int.emod_lt_of_pos _ hn⟩
  · rw [Int.tmod_eq_emod_of_nonneg (by omega)]
    exact ⟨Int.emod_nonneg _ (by omega), Int.emod_lt_of_pos _ hn⟩
def beforeB (l : List Stream) (a b : Nat) : Bool := match l[a]?, l[b]? with
  | some x, some y => decide (x.cls < y.cls) || (decide (x.cls = y.cls) && decide (a < b))
  | _, _ => false
theorem s26 {v : Value} {l : List Stream} {a b : Nat} (hs : IsSl fS w v l) (ha : a < l.length) (hb : b < l.length) (h : ∀ w', Below w.heap.size w w' → k (.bool (beforeB l a b)) w') : S26 v (I a) (I b) k w := by
  unfold S26
  rw [drewW_eq]
  have hs' := hs.drew
  have hk := h _ (below_drew w)
  unfold beforeB at hk
  simp only [List.getElem?_eq_getElem ha, List.getElem?_eq_getElem hb] at hk
  refine tix22 (x := l[a]) hs' rfl (by omega) (by simp [ha]) fun ba oa hca => ?_
  rw [tfl34_0]
  refine (xld3 (hca 0 _ rfl)).mpr ?_
  refine tix22 (x := l[b]) hs' rfl (by omega) (by simp [hb]) fun bb ob hcb => ?_
  rw [tfl34_0]
  refine (xld3 (hcb 0 _ rfl)).mpr ?_
  rw [t_lss]
  by_cases h1 : l[a].cls < l[b].cls
  · simpa [h1] using hk
  · simp only [h1, decide_false, guardT_ff]
    refine tix22 (x := l[a]) hs' rfl (by omega) (by simp [ha]) fun ba oa hca => ?_
    rw [tfl34_0]
    refine (xld3 (hca 0 _ rfl)).mpr ?_
    refine tix22 (x := l[b]) hs' rfl (by omega) (by simp [hb]) fun bb ob hcb => ?_
    rw [tfl34_0]
    refine (xld3 (hcb 0 _ rfl)).mpr ?_
    rw [t_eql]
    by_cases h2 : l[a].cls = l[b].cls
    · have h1' : ¬ l[b].cls < l[b].cls := by omega
      simp only [h2, decide_true, guardT_tt, t_lss, pickT_true, pickT_false]
      by_cases h3 : a < b
      · simpa [h2, h3, h1'] using hk
      · simpa [h2, h3, h1'] using hk
    · simpa [h1, h2] using hk
theorem c26 {v : Value} {l : List Stream} {a b : Nat} (hs : IsSl fS w v l) (ha : a < l.length) (hb : b < l.length) (h : ∀ w', Below w.heap.size w w' → k (.bool (beforeB l a b)) w') : callW Try.prog (.func (.func 26) #[] #[]) #[v, I a, I b] k w := C26 _ _ _ _ _ (s26 hs ha hb h)
end
end Go.Proofs.Ytidnjppalebbfaa
