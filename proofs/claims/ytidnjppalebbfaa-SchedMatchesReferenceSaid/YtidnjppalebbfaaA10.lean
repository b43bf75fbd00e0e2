/- Contracts of package sched's functions, seventh part: a range over the ticks. -/
import Derived.Test.YtidnjppalebbfaaA9
set_option linter.unusedSimpArgs false
set_option linter.unusedVariables false
namespace Go.V
open Go Go.RowKit
theorem below_putObj {B r : Nat} {w : World} {o : Obj} (h : B ≤ r) : Below B w (w.putObj r o) := ⟨rfl, rfl, rfl, by simp, fun k hk => World.putObj_heap_other (by omega)⟩
theorem off_putObj {p : Nat → Prop} {r : Nat} {w : World} {o : Obj} (h : p r) : Off p w (w.putObj r o) := ⟨by simp, fun b _ hb => World.putObj_heap_other fun hh => hb (hh ▸ h)⟩
theorem enterW_calls {P : Program} {f : FuncId} {first caps args : Array Value} {k : Value → World → Prop} {w : World} (hf : callOk P f = true) (h : Calls P f (first ++ args ++ caps) w (retP k)) : enterW P k (callRun P (.func (.func f) first caps) args w) := by
  unfold callOk at hf
  split at hf
  · rename_i fn hfn
    split at hf
    · rename_i h1 h2
      have h1' : ¬ fn.name = "runtime.NumGoroutine" := by simpa using h1
      have hr : callRun P (.func (.func f) first caps) args w = .ok (.enter f (first ++ args ++ caps)) w := by
        simp [callRun, Deferred.ofValue, Sem.run_bind, Result.andThen, invoke, callFunc, program, Sem.run, hfn, h1', h2]
      rw [hr]
      exact h
    · cases hf
  · cases hf
end Go.V
namespace Go.Proofs.Ytidnjppalebbfaa
open Go Go.V Go.RowKit
section
variable {k : Value → World → Prop} {w : World}
theorem c37 {lv av : Value} (h : ∀ w', Below w.heap.size w w' → w'.heap.size = w.heap.size + 2 → RowAt w' w.heap.size 59 [lv] → RowAt w' (w.heap.size + 1) 23 [av] →
    k (.func (.func 46) #[] #[.pointer (some ⟨w.heap.size, 0, none⟩), .pointer (some ⟨w.heap.size + 1, 0, none⟩)]) w') (h1 : lv.cells = #[lv]) (h2 : av.cells = #[av]) : callW Try.prog (.func (.func 37) #[] #[]) #[lv, av] k w := C37 _ _ _ _ (by
  unfold S37
  refine w_boxN fun w1 hb1 hs1 hr1 => w_boxN fun w2 hb2 hs2 hr2 => ?_
  rw [w_makeFunc]
  rw [hs1] at hr2 ⊢
  refine h w2 (hb1.trans (hb2.mono hb1.size)) (by omega) ?_ ?_
  · have := hr1.below hb2; rwa [h1] at this
  · rwa [h2] at hr2)
theorem range_ticks {wI : World} {lv av : Value} {l : List Stream} {a : List Arr} {Inv : List Int → (Nat → Prop) → World → Prop} {bx1 bx2 : Nat} {F0 : Nat → Prop}
    {B : Nat → (World → Prop) → (World → World) → List Value → World → (Option Code → World → Prop) → Prop} {Q : Nat → Option Code → World → Prop} (hp : ProperP l a) (hl : IsSl fS wI lv l) (ha : IsSl fA wI av a)
    (hb : Below wI.heap.size wI w) (h1 : RowAt w bx1 59 [lv]) (h2 : RowAt w bx2 23 [av]) (hF : ¬ F0 bx1 ∧ ¬ F0 bx2) (h0 : Inv [] F0 w)
    (stab : ∀ tr F w w' p, Inv tr F w → Off p w w' → (∀ b, F b → ¬ p b) → Inv tr F w') (lt : ∀ tr F w b, Inv tr F w → F b → wI.heap.size ≤ b ∧ b < w.heap.size)
    (hB : ∀ (tr : List Int) (i : Int) F w' (d : Nat) (ready : World → Prop) (o : Obj) (kk : Option Code → World → Prop), Inv tr F w' → Below wI.heap.size wI w' → (i = -1 ∨ 0 ≤ i ∧ i < (a.length : Int)) → tr.length ≤ 5001 → ready w' → d < w'.heap.size → wI.heap.size ≤ d → ¬ F d →
      (∀ F' w'', Below wI.heap.size wI w'' → Off F (w'.putObj d o) w'' → (∀ b, F' b → F b ∨ w'.heap.size ≤ b) → Inv (tr ++ [i]) F' w'' → kk none w'') → B d ready (fun w => w.putObj d o) [I tr.length, I i] w' kk)
    (hQ : ∀ tr F w' d, TraceP l a tr → Below wI.heap.size wI w' → Inv tr F w' → d < w'.heap.size → wI.heap.size ≤ d → ¬ F d → w'.heap[d]? = some (.deferred (some [])) → Q d none w') :
    rangeW Try.prog (.func (.func 46) #[] #[.pointer (some ⟨bx1, 0, none⟩), .pointer (some ⟨bx2, 0, none⟩)]) 2 B Q w := by
  refine ⟨fun L hy => ?_⟩
  have hsz := hb.size
  let rdy : Obj := .loop (Loop.at L .ready none w.heap.size)
  let bsy : Obj := .loop (Loop.at L .busy none w.heap.size)
  let J : List Int → (Nat → Prop) → World → Prop := fun tr F w' => ∃ F', (∀ b, F b ↔ F' b ∨ b = w.heap.size ∨ b = w.heap.size + 1) ∧ ¬ F' w.heap.size ∧ ¬ F' (w.heap.size + 1) ∧ w'.heap[w.heap.size]? = some (.deferred (some [])) ∧ w'.heap[w.heap.size + 1]? = some rdy ∧ Inv tr F' w'
  have hJ : YieldLaw wI (.func (.yield (w.heap.size + 1)) #[] #[]) a.length J := by
    constructor
    · rintro tr F u u' p ⟨F', hF', n1, n2, hd, hr, hi⟩ ho hp
      have l1 := (Array.getElem?_eq_some_iff.1 hd).1
      have l2 := (Array.getElem?_eq_some_iff.1 hr).1
      exact ⟨F', hF', n1, n2, by rw [ho.block _ l1 (hp _ ((hF' _).2 (.inr (.inl rfl))))]; exact hd, by rw [ho.block _ l2 (hp _ ((hF' _).2 (.inr (.inr rfl))))]; exact hr, stab _ _ _ _ _ hi ho fun b hb => hp b ((hF' b).2 (.inl hb))⟩
    · rintro tr F u b ⟨F', hF', n1, n2, hd, hr, hi⟩ hFb
      have l2 := (Array.getElem?_eq_some_iff.1 hr).1
      rcases (hF' b).1 hFb with h | h | h
      · exact lt _ _ _ _ hi h
      · omega
      · omega
    · rintro tr i F u kk ⟨F', hF', n1, n2, hd, hr, hi⟩ hbu hleg hlen hkk
      have l2 := (Array.getElem?_eq_some_iff.1 hr).1
      refine hy [I tr.length, I i] u kk rfl hr ?_
      refine hB tr i F' u (w.heap.size + 1) _ _ _ hi hbu hleg hlen hr l2 (by omega) n2 fun F2 u2 hb2 ho2 hF2 hi2 => ?_
      have l1 := (Array.getElem?_eq_some_iff.1 hd).1
      have hd2 : u2.heap[w.heap.size]? = some (.deferred (some [])) := by rw [ho2.block _ (by simpa using l1) n1, World.putObj_heap_other (by omega)]; exact hd
      have hr2 : u2.heap[w.heap.size + 1]? = some bsy := by rw [ho2.block _ (by simpa using l2) n2, World.putObj_heap_same l2]
      refine ⟨hr2, ?_⟩
      have l3 := (Array.getElem?_eq_some_iff.1 hr2).1
      have hsz2 : u.heap.size ≤ u2.heap.size := by have := ho2.size; simpa using this
      have hn1 : ¬ F2 w.heap.size := fun h => by rcases hF2 _ h with h | h <;> first | exact n1 h | omega
      have hn2 : ¬ F2 (w.heap.size + 1) := fun h => by rcases hF2 _ h with h | h <;> first | exact n2 h | omega
      have hsub : ∀ b, F b → F' b ∨ b = w.heap.size ∨ b = w.heap.size + 1 := fun b hb => (hF' b).1 hb
      refine hkk (fun b => F2 b ∨ b = w.heap.size ∨ b = w.heap.size + 1) _ (hb2.trans (below_putObj (by omega))) ?_ (fun b hb => ?_) ⟨F2, fun b => Iff.rfl, hn1, hn2, by rw [World.putObj_heap_other (by omega)]; exact hd2, World.putObj_heap_same l3, stab _ _ _ _ (fun b => b = w.heap.size + 1) hi2 (off_putObj rfl) fun b hb hh => hn2 (hh ▸ hb)⟩
      · have e1 : Off F u (u.putObj (w.heap.size + 1) bsy) := off_putObj ((hF' _).2 (.inr (.inr rfl)))
        have e2 : Off F (u.putObj (w.heap.size + 1) bsy) u2 := ho2.mono fun b _ h => (hF' b).2 (.inl h)
        have e3 : Off F u2 (u2.putObj (w.heap.size + 1) (.loop (Loop.at L (if (none : Option Code).isNone then .ready else .done) none w.heap.size))) := off_putObj ((hF' _).2 (.inr (.inr rfl)))
        exact (e1.trans e2).trans e3
      · rcases hb with h | h
        · rcases hF2 b h with h | h
          · exact .inl ((hF' b).2 (.inl h))
          · exact .inr h
        · exact .inl ((hF' b).2 (.inr h))
  have hw1 : Below w.heap.size w ((w.alloc (.deferred (some []))).alloc (.loop (Loop.at L .ready none w.heap.size))) := (below_alloc w _).trans (Below.alloc (Below.refl _ _) (by simp) _)
  refine enterW_calls ok46 ?_
  have hlt0 := fun b hb => (lt [] F0 w b h0 hb).2
  refine S46_calls _ _ _ _ _ (s46 (F0 := fun b => F0 b ∨ b = w.heap.size ∨ b = w.heap.size + 1) hp hl ha hJ (hb.trans (hw1.mono hsz)) (h1.below hw1) (h2.below hw1) ⟨?_, ?_⟩ ⟨F0, fun b => Iff.rfl, fun h => ?_, fun h => ?_, ?_, ?_, stab _ _ _ _ (fun _ => False) h0 (Off.below hw1) fun _ _ => id⟩ fun tr F w3 htr hb3 hinv => ?_)
  · have := h1.lt; rintro (h | h | h)
    · exact hF.1 h
    · omega
    · omega
  · have := h2.lt; rintro (h | h | h)
    · exact hF.2 h
    · omega
    · omega
  · have := hlt0 _ h; omega
  · have := hlt0 _ h; omega
  · rw [Below.heap_alloc _ _ _ (by simp), World.alloc_heap_new]
  · rw [show w.heap.size + 1 = (w.alloc (.deferred (some []))).heap.size by simp, World.alloc_heap_new]
  · obtain ⟨F', hF', n1, n2, hd, hr, hi⟩ := hinv
    have l1 := (Array.getElem?_eq_some_iff.1 hd).1
    refine ⟨.ready, none, by decide, hr, ?_⟩
    refine hQ tr F' _ _ htr (hb3.trans (below_putObj (by omega))) (stab _ _ _ _ (fun b => b = w.heap.size + 1) hi (off_putObj rfl) fun b hb hh => n2 (hh ▸ hb)) (by simpa using l1) hsz n1 (by rw [World.putObj_heap_other (by omega)]; exact hd)
end
end Go.Proofs.Ytidnjppalebbfaa
