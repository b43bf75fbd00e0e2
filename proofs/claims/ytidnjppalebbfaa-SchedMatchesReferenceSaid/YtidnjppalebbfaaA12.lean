/- Contracts of package sched's functions, ninth part: Response. -/
import Derived.Test.YtidnjppalebbfaaA11
import Derived.Test.YtidnjppalebbfaaVp
set_option linter.unusedSimpArgs false
set_option linter.unusedVariables false
namespace Go.V
open Go Go.RowKit
theorem flat_setF {α : Type} {F : Fl α} {x y : α} {f : Nat} {u : Value} (hf : f < F.sz) (hy : F.e y = (F.e x).set f u) : ∀ (l : List α) (i : Nat), l[i]? = some x → flat F (l.set i y) = (flat F l).set (i * F.sz + f) u
  | [], i, h => by simp at h
  | z :: r, 0, h => by
    simp at h; subst h
    simp only [List.set_cons_zero, flat, hy, Nat.zero_mul, Nat.zero_add]
    rw [List.set_append_left _ _ (by rw [F.len]; exact hf)]
  | z :: r, i + 1, h => by
    simp only [List.getElem?_cons_succ] at h
    simp only [List.set_cons_succ, flat, flat_setF hf hy r i h]
    rw [List.set_append_right _ _ (by rw [F.len, Nat.add_mul]; omega), F.len, show (i + 1) * F.sz + f - F.sz = i * F.sz + f by rw [Nat.add_mul]; omega]
/-- a store of one cell of an element -/
theorem OwnS.storeF {α : Type} {F : Fl α} {w : World} {base e g c : Nat} {l : List α} (h : OwnS F w base e g c l) {i f : Nat} {x y : α} {u : Value} (hx : l[i]? = some x) (hf : f < F.sz) (hy : F.e y = (F.e x).set f u) :
    OwnS F (w.setCell ⟨g, i * F.sz + f, none⟩ u) base e g c (l.set i y) ∧ (∃ old, w.cell? ⟨g, i * F.sz + f, none⟩ = some old) := by
  have hs := World.ownsRow.stored h (i * F.sz + f) u
  refine ⟨?_, ?_⟩
  · unfold OwnS
    rw [flat_setF hf hy l i hx, List.length_set]
    exact hs.1
  · have hl : f < (F.e x).length := by rw [F.len]; exact hf
    exact ⟨(F.e x)[f], h.cell hx f _ (List.getElem?_eq_getElem hl)⟩
end Go.V
namespace Go.Proofs.Ytidnjppalebbfaa
open Go Go.V Go.RowKit
/-- how many bytes go before the end of a dispatch, if it takes r -/
def demF (s : Int) (bf : List Stream) (r : Int) : Int := bf.foldl (fun sum x => sum + x.size * ((r + x.period - 1) / x.period)) s
theorem demF_snoc (s : Int) (bf : List Stream) (x : Stream) (r : Int) : demF s (bf ++ [x]) r = demF s bf r + x.size * ((r + x.period - 1) / x.period) := by simp [demF]
def okB (bf : List Stream) : Prop := ∀ x ∈ bf, (0 ≤ x.size ∧ x.size ≤ 50) ∧ 1 ≤ x.period ∧ x.period ≤ 1000
theorem term_range {x : Stream} {r : Int} (hx : (0 ≤ x.size ∧ x.size ≤ 50) ∧ 1 ≤ x.period ∧ x.period ≤ 1000) (hr : 0 ≤ r ∧ r ≤ 1000) :
    (0 ≤ (r + x.period - 1) / x.period ∧ (r + x.period - 1) / x.period ≤ 2000) ∧ 0 ≤ x.size * ((r + x.period - 1) / x.period) ∧ x.size * ((r + x.period - 1) / x.period) ≤ 100000 := by
  have h1 : 0 ≤ (r + x.period - 1) / x.period := Int.ediv_nonneg (by omega) (by omega)
  have h2 : (r + x.period - 1) / x.period ≤ 2000 := Int.le_trans (Int.ediv_le_self _ (by omega)) (by omega)
  refine ⟨⟨h1, h2⟩, Int.mul_nonneg hx.1.1 h1, ?_⟩
  have := Int.mul_le_mul hx.1.2 h2 h1 (by omega)
  omega
theorem demF_range {s r : Int} (hr : 0 ≤ r ∧ r ≤ 1000) : ∀ (bf : List Stream), okB bf → s ≤ demF s bf r ∧ demF s bf r ≤ s + 100000 * bf.length := by
  intro bf hb
  have : ∀ n, n ≤ bf.length → s ≤ demF s (bf.take n) r ∧ demF s (bf.take n) r ≤ s + 100000 * n := by
    intro n
    induction n with
    | zero => intro _; simp [demF]
    | succ n ih =>
      intro hn
      have h1 := ih (by omega)
      rw [List.take_succ_eq_append_getElem (by omega), demF_snoc]
      have := (term_range (hb bf[n] (by simp)) hr).2
      omega
  have h := this bf.length (Nat.le_refl _)
  rwa [List.take_length] at h
theorem demF_mono {s r r' : Int} (h : r ≤ r') : ∀ (bf : List Stream), okB bf → demF s bf r ≤ demF s bf r' := by
  intro bf hb
  have : ∀ n, n ≤ bf.length → demF s (bf.take n) r ≤ demF s (bf.take n) r' := by
    intro n
    induction n with
    | zero => intro _; simp [demF]
    | succ n ih =>
      intro hn
      have h1 := ih (by omega)
      rw [List.take_succ_eq_append_getElem (by omega), demF_snoc, demF_snoc]
      have hx := hb bf[n] (by simp)
      have := Int.mul_le_mul_of_nonneg_left (Int.ediv_le_ediv (a := r + bf[n].period - 1) (b := r' + bf[n].period - 1) (c := bf[n].period) (by omega) (by omega)) hx.1.1
      omega
  have h := this bf.length (Nat.le_refl _)
  rwa [List.take_length] at h
def befS (l : List Stream) (i : Nat) : List Stream := l.mapIdx fun k x => if beforeB l k i then x else ⟨x.cls, 0, x.period⟩
theorem befS_ok {l : List Stream} (hv : validS l = true) (i : Nat) : okB (befS l i) := by
  intro x hx
  obtain ⟨k, hk, he⟩ := List.mem_mapIdx.1 hx
  have := (valid_at hv).2 k l[k] (List.getElem?_eq_getElem hk)
  subst he
  split
  · exact ⟨⟨by omega, this.2.1.2⟩, this.2.2⟩
  · exact ⟨⟨by simp, by simp⟩, this.2.2⟩
def szL (l : List Stream) (i : Nat) : Int := (l.getD i ⟨0, 0, 0⟩).size
def perL (l : List Stream) (i : Nat) : Int := (l.getD i ⟨0, 0, 0⟩).period
def dem (l : List Stream) (i : Nat) (r : Int) : Int := demF (szL l i) (befS l i) r
/-- the response of stream i -/
def RespP (l : List Stream) (i : Nat) (x : Int) : Prop :=
  (szL l i ≤ x ∧ x ≤ perL l i ∧ dem l i x = x ∧ ∀ r, szL l i ≤ r → r < x → dem l i r ≠ r) ∨ (x = -1 ∧ ∀ r, szL l i ≤ r → r ≤ perL l i → dem l i r ≠ r)
section
variable {k : Value → World → Prop} {w : World}
theorem und22 : Try.prog.underlying 22 = some (.slice 34) := by kernel_rfl
theorem c30 {v : Value} {l : List Stream} (hs : IsSl fS w v l) (hne : l ≠ []) (h8 : l.length ≤ 8) (hk : ∀ g c w', Below w.heap.size w w' → OwnS fS w' w.heap.size 34 g c l → k (.slice (some ⟨g, 0, none⟩) l.length c) w') : callW Try.prog (.func (.func 30) #[] #[]) #[v] k w := C30 _ _ _ (by
  unfold S30
  obtain ⟨b, o, c, hv, _⟩ := hs.flatAt hne
  rw [hv, w_eqlNil und22]
  simp only [Option.isNone_some, condW_false]
  rw [← hv, w_build0 sty22]
  have hb1 := below_alloc w (.cells #[] 34 (0, 0))
  have hrow : (w.alloc (.cells #[] 34 (0, 0))).heap[w.heap.size]? = some (.cells #[] 34 (0, 0)) := World.alloc_heap_new _ _
  refine w_appendS (F := fS) (base := w.heap.size) (l0 := []) sty22 (fun x u hu => ?_) (hs.below hb1) hne ⟨by simp [flat], .inr ⟨w.heap.size, 0, #[], rfl, Nat.le_refl _, hrow, Nat.le_refl _, by unfold maxLen; omega, by simp, by simp [flat]⟩⟩ (by unfold maxLen; simp; omega) (by simp; omega) hb1.size fun g c w' ho hg => ?_
  · simp [fS] at hu
    rcases hu with rfl | rfl | rfl <;> rfl
  · simp only [List.nil_append, List.length_nil, Nat.zero_add] at ho ⊢
    exact hk g c w' (hb1.grown hg hb1.size (fun k hk => by simp [Value.ownBlock] at hk; omega)) ho)
theorem c32 {s : Stream} {bf : List Stream} {v : Value} {b1 b2 : Nat} {r : Int} (h1 : RowAt w b1 34 [I s.cls, I s.size, I s.period]) (h2 : w.cell? ⟨b2, 0, none⟩ = some v) (hs : IsSl fS w v bf) (hb : okB bf) (h8 : bf.length ≤ 8) (hsz : 0 ≤ s.size ∧ s.size ≤ 50) (hr : 0 ≤ r ∧ r ≤ 1000)
    (hk : ∀ w', Below w.heap.size w w' → k (I (demF s.size bf r)) w') : callW Try.prog (.func (.func 32) #[] #[.pointer (some ⟨b1, 0, none⟩), .pointer (some ⟨b2, 0, none⟩)]) #[I r] k w := C32 _ _ _ _ _ (by
  unfold S32
  rw [fl34_1]
  refine (ld3 (h1.cell (i := 1) rfl)).mpr ((ld22 h2).mpr ((len22 hs).mpr ?_))
  refine Loop2.intro (fun n a c w' => ∃ i : Nat, a = I (demF s.size (bf.take i) r) ∧ c = I i ∧ i ≤ bf.length ∧ n = bf.length - i ∧ Below w.heap.size w w') bf.length ⟨0, rfl, rfl, by omega, by omega, Below.refl _ _⟩ ?_
  rintro n _ _ w' ⟨i, rfl, rfl, hi, rfl, hb'⟩
  rw [w_lss]
  by_cases hlt : i < bf.length
  · rw [decide_eq_true (show (i : Int) < bf.length by omega), condW_true]
    refine ix22 (x := bf[i]) (hs.below hb') rfl (by omega) (by simp [hlt]) fun b o hc => ?_
    rw [ld34 (by rfl) hc]
    refine nv34 fun w3 hb3 hsz3 hr3 => ?_
    have hx := hb bf[i] (by simp)
    have ht := term_range hx hr
    have hd := demF_range (s := s.size) hr (bf.take i) (fun x hx => hb x (List.mem_of_mem_take hx))
    have hl : (bf.take i).length ≤ 8 := by simp; omega
    have hdiv : (r + bf[i].period - 1).tdiv bf[i].period = (r + bf[i].period - 1) / bf[i].period := Int.tdiv_eq_ediv_of_nonneg (by omega)
    rw [drewW_eq, tfl34_1, xld3 (w := w3.drew) (v := I bf[i].size) (hr3.cell (i := 1) rfl), tfl34_2, xld3 (w := w3.drew) (v := I bf[i].period) (hr3.cell (i := 2) rfl), t_add, wrap_id (by omega), t_sub, wrap_id (by omega), tfl34_2, xld3 (w := w3.drew) (v := I bf[i].period) (hr3.cell (i := 2) rfl), t_quo (by omega), hdiv, wrap_id (by omega), t_mul, wrap_id (by omega), t_add, wrap_id (by omega), w_add, wrap_id (by omega), loopK_self]
    exact ⟨bf.length - (i + 1), by omega, i + 1, by rw [List.take_succ_eq_append_getElem hlt, demF_snoc], by simp [I], by omega, rfl, (hb'.trans (hb3.mono hb'.size)).trans (Below.refl _ _).drew⟩
  · rw [decide_eq_false (show ¬ (i : Int) < bf.length by omega), condW_false]
    rw [List.take_of_length_le (by omega)]
    exact hk _ hb')
end
end Go.Proofs.Ytidnjppalebbfaa
