/- Results of the program and of the reference, told alike: unique. -/
import Derived.Test.YtidnjppalebbfaaA34
import Derived.Test.YtidnjppalebbfaaVs
set_option linter.unusedSimpArgs false
set_option linter.unusedVariables false
namespace Go.Proofs.Ytidnjppalebbfaa
open Go Go.V Go.RowKit
def RespR (L : List Stream) (e : Int) (out : List Int) : Prop := (validS L = false ∧ e = 240 ∧ out = []) ∨ (validS L = true ∧ e = 0 ∧ out.length = L.length ∧ ∀ j x, out[j]? = some x → RespP L j x)
theorem RespR.unique {L : List Stream} {e e' : Int} {out out' : List Int} (h : RespR L e out) (h' : RespR L e' out') : e = e' ∧ out = out' := by
  rcases h with ⟨h1, rfl, rfl⟩ | ⟨h1, rfl, h2, h3⟩ <;> rcases h' with ⟨h1', rfl, rfl⟩ | ⟨h1', rfl, h2', h3'⟩
  · exact ⟨rfl, rfl⟩
  · rw [h1] at h1'; cases h1'
  · rw [h1] at h1'; cases h1'
  · refine ⟨rfl, List.ext_getElem (by omega) fun j p1 p2 => ?_⟩
    have hj : j < L.length := by omega
    have := ((valid_at h1).2 j _ (List.getElem?_eq_getElem hj)).2.1
    refine (h3 j _ (List.getElem?_eq_getElem p1)).unique (h3' j _ (List.getElem?_eq_getElem p2)) ?_
    unfold szL; rw [List.getD_eq_getElem?_getD, List.getElem?_eq_getElem hj]; simp only [Option.getD_some]; omega
def TraceR (L : List Stream) (A : List Arr) (e : Int) (tr : List Int) : Prop := (¬ ProperP L A ∧ e = 240 ∧ tr = []) ∨ (ProperP L A ∧ e = 0 ∧ TraceP L A tr)
theorem TraceR.unique {L : List Stream} {A : List Arr} {e e' : Int} {tr tr' : List Int} (h : TraceR L A e tr) (h' : TraceR L A e' tr') : e = e' ∧ tr = tr' := by
  rcases h with ⟨h1, rfl, rfl⟩ | ⟨h1, rfl, h2⟩ <;> rcases h' with ⟨h1', rfl, rfl⟩ | ⟨h1', rfl, h2'⟩
  · exact ⟨rfl, rfl⟩
  · exact absurd h1' h1
  · exact absurd h1 h1'
  · exact ⟨rfl, h2.unique (fun k hk => by obtain ⟨_, _, _, _, h, _⟩ := proper_at h1 hk; exact h) h2'⟩
def FinR (L : List Stream) (A : List Arr) (e : Int) (f : List Int) : Prop := (¬ ProperP L A ∧ e = 240 ∧ f = []) ∨ (ProperP L A ∧ e = 0 ∧ ∃ tr, TraceP L A tr ∧ f = finOf A.length tr)
theorem FinR.unique {L : List Stream} {A : List Arr} {e e' : Int} {tr tr' : List Int} (h : FinR L A e tr) (h' : FinR L A e' tr') : e = e' ∧ tr = tr' := by
  rcases h with ⟨h1, rfl, rfl⟩ | ⟨h1, rfl, t, h2, rfl⟩ <;> rcases h' with ⟨h1', rfl, rfl⟩ | ⟨h1', rfl, t', h2', rfl⟩
  · exact ⟨rfl, rfl⟩
  · exact absurd h1' h1
  · exact absurd h1 h1'
  · obtain rfl := h2.unique (fun k hk => by obtain ⟨_, _, _, _, h, _⟩ := proper_at h1 hk; exact h) h2'
    exact ⟨rfl, rfl⟩
def DivR (bytes : Int) (l : List Int) (e : Int) (out : List Int) : Prop := (¬ (0 ≤ bytes ∧ bytes ≤ 1000000 ∧ l.length ≤ 8 ∧ okW l) ∧ e = 240 ∧ out = []) ∨ ((0 ≤ bytes ∧ bytes ≤ 1000000 ∧ l.length ≤ 8 ∧ okW l) ∧ e = 0 ∧ ∃ L, IsLevel bytes l L ∧ out = giveI L (bytes - needsI l L) l)
theorem DivR.unique {b : Int} {l : List Int} {e e' : Int} {o o' : List Int} (h : DivR b l e o) (h' : DivR b l e' o') : e = e' ∧ o = o' := by
  rcases h with ⟨h1, rfl, rfl⟩ | ⟨h1, rfl, L, h2, rfl⟩ <;> rcases h' with ⟨h1', rfl, rfl⟩ | ⟨h1', rfl, L', h2', rfl⟩
  · exact ⟨rfl, rfl⟩
  · exact absurd h1' h1
  · exact absurd h1 h1'
  · obtain rfl := level_unique h2 h2'
    exact ⟨rfl, rfl⟩
section
variable {k : Value → World → Prop} {w : World} {v lv av : Value} {L : List Stream} {A : List Arr}
theorem d13 (hs : IsSl fS w v L) (hl : L.length ≤ maxLen) (hk : ∀ e out u w', Below w.heap.size w w' → RespR L e out → IsSl fI w' u out → k (.tuple #[u, I e]) w') : callW Try.prog (.func (.func 13) #[] #[]) #[v] k w :=
  c13 hs hl (fun w' hb h => hk 240 [] _ w' hb (.inl ⟨h, rfl, rfl⟩) (IsSl.nil _)) (fun out u w' hb h h1 h2 h3 => hk 0 out u w' hb (.inr ⟨h, rfl, h1, h2⟩) h3)
theorem d14 (hs : IsSl fS w v L) (hk : ∀ e out u w', Below w.heap.size w w' → RespR L e out → IsSl fI w' u out → k (.tuple #[u, I e]) w') : callW Try.prog (.func (.func 14) #[] #[]) #[v] k w :=
  c14 hs (fun w' hb h => hk 240 [] _ w' hb (.inl ⟨h, rfl, rfl⟩) (IsSl.nil _)) (fun out u w' hb h h1 h2 h3 => hk 0 out u w' hb (.inr ⟨h, rfl, h1, h2⟩) h3)
theorem d18 (hs : IsSl fS w lv L) (ha : IsSl fA w av A) (hl : L.length ≤ maxLen) (hk : ∀ e out u w', Below w.heap.size w w' → TraceR L A e out → IsSl fI w' u out → k (.tuple #[u, I e]) w') : callW Try.prog (.func (.func 18) #[] #[]) #[lv, av] k w :=
  c18 hs ha hl (fun w' hb h => hk 240 [] _ w' hb (.inl ⟨h, rfl, rfl⟩) (IsSl.nil _)) (fun out u w' hb h h1 h2 => hk 0 out u w' hb (.inr ⟨h, rfl, h1⟩) h2)
theorem d19 (hs : IsSl fS w lv L) (ha : IsSl fA w av A) (hl : L.length ≤ maxLen) (hk : ∀ e out u w', Below w.heap.size w w' → TraceR L A e out → IsSl fI w' u out → k (.tuple #[u, I e]) w') : callW Try.prog (.func (.func 19) #[] #[]) #[lv, av] k w :=
  c19 hs ha hl (fun w' hb h => hk 240 [] _ w' hb (.inl ⟨h, rfl, rfl⟩) (IsSl.nil _)) (fun out u w' hb h h1 h2 => hk 0 out u w' hb (.inr ⟨h, rfl, h1⟩) h2)
theorem d20 (hs : IsSl fS w lv L) (ha : IsSl fA w av A) (hl : L.length ≤ maxLen) (hk : ∀ e out u w', Below w.heap.size w w' → FinR L A e out → IsSl fI w' u out → k (.tuple #[u, I e]) w') : callW Try.prog (.func (.func 20) #[] #[]) #[lv, av] k w :=
  c20 hs ha hl (fun w' hb h => hk 240 [] _ w' hb (.inl ⟨h, rfl, rfl⟩) (IsSl.nil _)) (fun tr u w' hb h h1 h2 => hk 0 _ u w' hb (.inr ⟨h, rfl, tr, h1, rfl⟩) h2)
theorem d21 (hs : IsSl fS w lv L) (ha : IsSl fA w av A) (hl : L.length ≤ maxLen) (hk : ∀ e out u w', Below w.heap.size w w' → FinR L A e out → IsSl fI w' u out → k (.tuple #[u, I e]) w') : callW Try.prog (.func (.func 21) #[] #[]) #[lv, av] k w :=
  c21 hs ha hl (fun w' hb h => hk 240 [] _ w' hb (.inl ⟨h, rfl, rfl⟩) (IsSl.nil _)) (fun tr u w' hb h h1 h2 => hk 0 _ u w' hb (.inr ⟨h, rfl, tr, h1, rfl⟩) h2)
theorem d22 (hs : IsSl fS w lv L) (ha : IsSl fA w av A) (hl : L.length ≤ maxLen) (hk : ∀ b w', Below w.heap.size w w' → (b = true ↔ ProperP L A) → k (.bool b) w') : callW Try.prog (.func (.func 22) #[] #[]) #[lv, av] k w :=
  c22 hs ha hl (fun w' hb h => hk true w' hb ⟨fun _ => h, fun _ => rfl⟩) (fun w' hb h => hk false w' hb ⟨(fun h' => by cases h'), fun h' => absurd h' h⟩)
theorem d23 (hs : IsSl fS w lv L) (ha : IsSl fA w av A) (hl : L.length ≤ maxLen) (hk : ∀ b w', Below w.heap.size w w' → (b = true ↔ ProperP L A) → k (.bool b) w') : callW Try.prog (.func (.func 23) #[] #[]) #[lv, av] k w :=
  c23 hs ha hl (fun w' hb h => hk true w' hb ⟨fun _ => h, fun _ => rfl⟩) (fun w' hb h => hk false w' hb ⟨(fun h' => by cases h'), fun h' => absurd h' h⟩)
theorem d24 {b : Int} {l : List Int} (hs : IsSl fI w v l) (hl : l.length ≤ maxLen) (hk : ∀ e out u w', Below w.heap.size w w' → DivR b l e out → IsSl fI w' u out → k (.tuple #[u, I e]) w') : callW Try.prog (.func (.func 24) #[] #[]) #[I b, v] k w :=
  c24 hs hl (fun w' hb h => hk 240 [] _ w' hb (.inl ⟨h, rfl, rfl⟩) (IsSl.nil _)) (fun L u w' hb h h1 h2 => hk 0 _ u w' hb (.inr ⟨h1, rfl, L, h, rfl⟩) h2)
theorem d25 {b : Int} {l : List Int} (hs : IsSl fI w v l) (hl : l.length ≤ maxLen) (hk : ∀ e out u w', Below w.heap.size w w' → DivR b l e out → IsSl fI w' u out → k (.tuple #[u, I e]) w') : callW Try.prog (.func (.func 25) #[] #[]) #[I b, v] k w :=
  c25 hs hl (fun w' hb h => hk 240 [] _ w' hb (.inl ⟨h, rfl, rfl⟩) (IsSl.nil _)) (fun L u w' hb h h1 h2 => hk 0 _ u w' hb (.inr ⟨h1, rfl, L, h, rfl⟩) h2)
/-- slices of slices -/
theorem bs3V {t e : Nat} {x y z : Value} {w : World} (hx : ∃ a n c, x = .slice a n c) (hy : ∃ a n c, y = .slice a n c) (hz : ∃ a n c, z = .slice a n c)
    (hr : ∀ a n c a' n' c' a'' n'' c'', (Instr.buildSlice t 3 #[(0, .slice a n c), (1, .slice a' n' c'), (2, .slice a'' n'' c'')]).run Try.prog w = .ok (.slice (some ⟨w.heap.size, 0, none⟩) 3 3) (w.alloc (.cells #[.slice a n c, .slice a' n' c', .slice a'' n'' c''] e (0, 0))))
    (hk : ∀ v w', Below w.heap.size w w' → IsSl fV w' v [x, y, z] → k v w') : opW Try.prog (Instr.buildSlice t 3 #[(0, x), (1, y), (2, z)]) k w := by
  obtain ⟨a, n, c, rfl⟩ := hx
  obtain ⟨a', n', c', rfl⟩ := hy
  obtain ⟨a'', n'', c'', rfl⟩ := hz
  have := hk _ _ (below_alloc w _) (IsSl.rowV (F := fV) w e 3 [.slice a n c, .slice a' n' c', .slice a'' n'' c''] (Nat.le_refl _))
  rw [opW_ok (hr a n c a' n' c' a'' n'' c'')]
  exact this
theorem bs2V {t e : Nat} {x y : Value} {w : World} (hx : ∃ a n c, x = .slice a n c) (hy : ∃ a n c, y = .slice a n c)
    (hr : ∀ a n c a' n' c', (Instr.buildSlice t 2 #[(0, .slice a n c), (1, .slice a' n' c')]).run Try.prog w = .ok (.slice (some ⟨w.heap.size, 0, none⟩) 2 2) (w.alloc (.cells #[.slice a n c, .slice a' n' c'] e (0, 0))))
    (hk : ∀ v w', Below w.heap.size w w' → IsSl fV w' v [x, y] → k v w') : opW Try.prog (Instr.buildSlice t 2 #[(0, x), (1, y)]) k w := by
  obtain ⟨a, n, c, rfl⟩ := hx
  obtain ⟨a', n', c', rfl⟩ := hy
  have := hk _ _ (below_alloc w _) (IsSl.rowV (F := fV) w e 2 [.slice a n c, .slice a' n' c'] (Nat.le_refl _))
  rw [opW_ok (hr a n c a' n' c')]
  exact this
theorem isSlice {α : Type} {F : Fl α} {w : World} {v : Value} {l : List α} (h : IsSl F w v l) : ∃ a n c, v = .slice a n c := by
  obtain ⟨a, c, rfl, _⟩ := h; exact ⟨_, _, _, rfl⟩
theorem bs35 {x y z : Value} (hx : ∃ a n c, x = .slice a n c) (hy : ∃ a n c, y = .slice a n c) (hz : ∃ a n c, z = .slice a n c) (hk : ∀ v w', Below w.heap.size w w' → IsSl fV w' v [x, y, z] → k v w') : opW Try.prog (Instr.buildSlice 35 3 #[(0, x), (1, y), (2, z)]) k w :=
  bs3V (e := 22) hx hy hz (fun a n c a' n' c' a'' n'' c'' => by kernel_rfl) hk
theorem bs41 {x y z : Value} (hx : ∃ a n c, x = .slice a n c) (hy : ∃ a n c, y = .slice a n c) (hz : ∃ a n c, z = .slice a n c) (hk : ∀ v w', Below w.heap.size w w' → IsSl fV w' v [x, y, z] → k v w') : opW Try.prog (Instr.buildSlice 41 3 #[(0, x), (1, y), (2, z)]) k w :=
  bs3V (e := 23) hx hy hz (fun a n c a' n' c' a'' n'' c'' => by kernel_rfl) hk
theorem bs44 {x y : Value} (hx : ∃ a n c, x = .slice a n c) (hy : ∃ a n c, y = .slice a n c) (hk : ∀ v w', Below w.heap.size w w' → IsSl fV w' v [x, y] → k v w') : opW Try.prog (Instr.buildSlice 44 2 #[(0, x), (1, y)]) k w :=
  bs2V (e := 26) hx hy (fun a n c a' n' c' => by kernel_rfl) hk
theorem bs26 {x y : Int} (hk : ∀ v w', Below w.heap.size w w' → IsSl fI w' v [x, y] → k v w') : opW Try.prog (Instr.buildSlice 26 2 #[(0, I x), (1, I y)]) k w := by
  have := hk _ _ (below_alloc w _) (IsSl.rowV (F := fI) w 3 2 [x, y] (Nat.le_refl _))
  rw [opW_ok (show (Instr.buildSlice 26 2 #[(0, I x), (1, I y)]).run Try.prog w = .ok (.slice (some ⟨w.heap.size, 0, none⟩) 2 2) (w.alloc (.cells #[I x, I y] 3 (0, 0))) by kernel_rfl)]
  exact this
/-- append([]T{}, v...) -/
theorem copyS {α : Type} {F : Fl α} {t e ty : Nat} {bytes : Nat} {z : Value} {v : Value} {l : List α} {K : Value → World → Prop} (h : STy Try.prog t e F.sz bytes z) (hone : ∀ x, ∀ u ∈ F.e x, u.oneCell' = true) (hs : IsSl F w v l) (hl : l.length ≤ 1000) (hb : bytes ≤ 1000)
    (hk : ∀ u w', Below w.heap.size w w' → Mine F e w' w.heap.size u l → K u w') :
    opW Try.prog (Instr.buildSlice t 0 #[]) (fun s w => opW Try.prog (Builtin.append_ #[t, t] ty #[s, v]) (fun r w => K r w) w) w := by
  rw [w_build0 h]
  have hb1 := below_alloc w (.cells #[] e (0, 0))
  have hrow : (w.alloc (.cells #[] e (0, 0))).heap[w.heap.size]? = some (.cells #[] e (0, 0)) := World.alloc_heap_new _ _
  have hown : OwnS F (w.alloc (.cells #[] e (0, 0))) w.heap.size e w.heap.size 0 [] := ⟨by simp [flat], .inr ⟨w.heap.size, 0, #[], rfl, Nat.le_refl _, hrow, Nat.le_refl _, by unfold maxLen; omega, by simp, by simp [flat]⟩⟩
  cases l with
  | nil =>
    obtain ⟨a, c, rfl, _⟩ := hs
    simp only [List.length_nil]
    rw [opW_ok (run_append_zero h (Nat.zero_le _))]
    exact hk _ _ hb1 hown
  | cons x r =>
    refine w_appendS (F := F) (base := w.heap.size) (l0 := []) h hone (hs.below hb1) (by simp) hown (by unfold maxLen; simp at hl ⊢; omega) (by
      have : (([] : List α).length + (x :: r).length) * bytes ≤ 1000 * 1000 := Nat.mul_le_mul (by simpa using hl) hb
      omega) hb1.size fun g c w' ho hg => ?_
    simp only [List.nil_append, List.length_nil, Nat.zero_add] at ho ⊢
    exact hk _ w' (hb1.grown hg hb1.size (fun k hk => by simp [Value.ownBlock] at hk; omega)) ho
end
end Go.Proofs.Ytidnjppalebbfaa
