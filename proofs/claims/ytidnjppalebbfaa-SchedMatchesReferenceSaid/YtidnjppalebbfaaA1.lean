/- Contracts of package sched's functions, first part. -/
import Derived.Test.YtidnjppalebbfaaS0
import Derived.Test.YtidnjppalebbfaaS1
set_option linter.unusedSimpArgs false
set_option linter.unusedVariables false
namespace Go.Proofs.Ytidnjppalebbfaa
open Go Go.V Go.RowKit

abbrev I (n : Int) : Value := .int .i64 n
structure Stream where
  cls : Int
  size : Int
  period : Int
def fS : Fl Stream := ⟨3, fun s => [I s.cls, I s.size, I s.period], fun _ => rfl⟩
structure Arr where
  stream : Int
  at_ : Int
def fA : Fl Arr := ⟨2, fun s => [I s.stream, I s.at_], fun _ => rfl⟩

section
variable {k : Value → World → Prop} {w : World}
theorem s34 {x lo hi : Int} (h : k (.bool (decide (lo ≤ x ∧ x ≤ hi))) w) : S34 (I x) (I lo) (I hi) k w := by
  unfold S34
  by_cases h1 : lo ≤ x <;> simp [w_leq, h1] <;> simpa [h1] using h
theorem c34 {x lo hi : Int} (h : k (.bool (decide (lo ≤ x ∧ x ≤ hi))) w) : callW Try.prog (.func (.func 34) #[] #[]) #[I x, I lo, I hi] k w := C34 _ _ _ _ _ (s34 h)
def wrongS (s : Stream) : Bool := !decide (1 ≤ s.cls ∧ s.cls ≤ 3) || !decide (1 ≤ s.size ∧ s.size ≤ 50) || !decide (1 ≤ s.period ∧ s.period ≤ 1000)
theorem s33 {s : Stream} (h : ∀ w', Below w.heap.size w w' → k (.bool (wrongS s)) w') : S33 (.agg #[I s.cls, I s.size, I s.period]) k w := by
  unfold S33
  have hb : Below w.heap.size w (w.alloc (.cells #[I s.cls, I s.size, I s.period] 34 (0, 0))) := (Below.refl _ _).alloc (Nat.le_refl _) _
  have hc : ∀ i v, #[I s.cls, I s.size, I s.period][i]? = some v → (w.alloc (.cells #[I s.cls, I s.size, I s.period] 34 (0, 0))).cell? ⟨w.heap.size, i, none⟩ = some v := fun i v hv => by rw [World.cell?_alloc_new]; exact hv
  have hk := h _ hb
  unfold wrongS at hk
  rw [w_box, fl34_0]
  refine (ld3 (hc 0 _ rfl)).mpr ?_
  refine c34 ?_
  rw [w_not]
  cases h1 : decide (1 ≤ s.cls ∧ s.cls ≤ 3) with
  | false => simpa [h1] using hk
  | true =>
    simp only [Bool.not_true, guardW_ff, fl34_1]
    refine (ld3 (hc 1 _ rfl)).mpr ?_
    refine c34 ?_
    rw [w_not]
    cases h2 : decide (1 ≤ s.size ∧ s.size ≤ 50) with
    | false => simpa [h1, h2] using hk
    | true =>
      simp only [Bool.not_true, guardW_ff, pickW_false, fl34_2]
      refine (ld3 (hc 2 _ rfl)).mpr ?_
      refine c34 ?_
      rw [w_not]
      simpa [h1, h2] using hk
theorem c33 {s : Stream} (h : ∀ w', Below w.heap.size w w' → k (.bool (wrongS s)) w') : callW Try.prog (.func (.func 33) #[] #[]) #[.agg #[I s.cls, I s.size, I s.period]] k w := C33 _ _ _ (s33 h)
/-- a function value that answers a bool and changes nothing that was there -/
def Pred {α : Type} (F : α → Array Value) (w : World) (f : Value) (p : α → Bool) : Prop :=
  ∀ x w' kk, Below w.heap.size w w' → (∀ w'', Below w'.heap.size w' w'' → kk (.bool (p x)) w'') → callW Try.prog f (F x) kk w'
theorem below_trans {a b c : World} (h : Below a.heap.size a b) (h' : Below b.heap.size b c) : Below a.heap.size a c := h.trans (h'.mono h.size)
theorem s45 {α : Type} {F : Fl α} (hF : F.sz = 3) {v f : Value} {l : List α} {p : α → Bool} (hs : IsSl F w v l) (hl : l.length ≤ maxLen) (hp : Pred (fun x => #[.agg (F.e x).toArray]) w f p)
    (h : ∀ (r : Int) w', Below w.heap.size w w' → (0 ≤ r ↔ l.any p = true) → k (I r) w') : S45 v f k w := by
  unfold S45
  refine (len22 hs).mpr ?_
  refine Loop1.intro (fun n a w' => ∃ i : Nat, a = I i ∧ i ≤ l.length ∧ n = l.length - i ∧ Below w.heap.size w w' ∧ ∀ x ∈ l.take i, p x = false) l.length ⟨0, rfl, by omega, by omega, Below.refl _ _, by simp⟩ ?_
  rintro n _ w' ⟨i, rfl, hi, rfl, hb, hno⟩
  rw [w_lss]
  by_cases hlt : i < l.length
  · have hx : l[i]? = some l[i] := by simp [hlt]
    have h1 : decide ((i : Int) < (l.length : Int)) = true := by simp; omega
    rw [h1, condW_true]
    refine ix22 (x := l[i]) (hs.below hb) hF (by omega) (by simp [hlt]) ?_
    intro b o hc
    rw [ld34 (by rw [F.len, hF]) hc]
    refine hp l[i] w' _ hb ?_
    intro w'' hb'
    have hb2 := below_trans hb hb'
    cases hpx : p l[i] with
    | true =>
      rw [condW_true]
      refine h _ _ hb2 ⟨fun _ => List.any_eq_true.2 ⟨l[i], by simp, hpx⟩, fun _ => by omega⟩
    | false =>
      rw [condW_false, w_add, wrap_id (by unfold maxLen at hl; omega), loopK_self]
      refine ⟨l.length - (i + 1), by omega, i + 1, by simp [I], by omega, rfl, hb2, ?_⟩
      intro x hxm
      rw [List.take_succ_eq_append_getElem hlt, List.mem_append] at hxm
      rcases hxm with hxm | hxm
      · exact hno x hxm
      · simp at hxm; subst hxm; exact hpx
  · have h1 : decide ((i : Int) < (l.length : Int)) = false := by simp; omega
    rw [h1, condW_false]
    refine h _ _ hb ⟨fun h0 => by omega, fun hany => ?_⟩
    obtain ⟨x, hx, hpx⟩ := List.any_eq_true.1 hany
    rw [List.take_of_length_le (by omega)] at hno
    rw [hno x hx] at hpx; cases hpx
theorem s35 {α : Type} {F : Fl α} (hF : F.sz = 3) {v f : Value} {l : List α} {p : α → Bool} (hs : IsSl F w v l) (hl : l.length ≤ maxLen) (hp : Pred (fun x => #[.agg (F.e x).toArray]) w f p)
    (h : ∀ w', Below w.heap.size w w' → k (.bool (l.any p)) w') : S35 v f k w := by
  unfold S35
  refine C45 _ _ _ _ (s45 hF hs hl hp ?_)
  intro r w' hb hr
  rw [w_geq]
  have : decide (0 ≤ r) = l.any p := by
    cases ha : l.any p with
    | true => simpa using hr.2 ha
    | false => simp; rw [ha] at hr; have := hr.1; simp at this; omega
  rw [this]
  exact h w' hb
def validS (l : List Stream) : Bool := decide (1 ≤ (l.length : Int) ∧ (l.length : Int) ≤ 8) && !l.any wrongS
theorem s15 {v : Value} {l : List Stream} (hs : IsSl fS w v l) (hl : l.length ≤ maxLen) (h : ∀ w', Below w.heap.size w w' → k (.bool (validS l)) w') : S15 v k w := by
  unfold S15
  refine (len22 hs).mpr ?_
  refine c34 ?_
  unfold validS at h
  cases h1 : decide (1 ≤ (l.length : Int) ∧ (l.length : Int) ≤ 8) with
  | false => simpa [h1] using h w (Below.refl _ _)
  | true =>
    simp only [guardW_tt, pickW_true]
    refine C35 _ _ _ _ (s35 (p := wrongS) rfl hs hl ?_ ?_)
    · intro x w' kk hb hk
      exact c33 hk
    · intro w' hb
      rw [w_not]
      simpa [h1] using h w' hb
theorem c15 {v : Value} {l : List Stream} (hs : IsSl fS w v l) (hl : l.length ≤ maxLen) (h : ∀ w', Below w.heap.size w w' → k (.bool (validS l)) w') : callW Try.prog (.func (.func 15) #[] #[]) #[v] k w := C15 _ _ _ (s15 hs hl h)
end
end Go.Proofs.Ytidnjppalebbfaa
