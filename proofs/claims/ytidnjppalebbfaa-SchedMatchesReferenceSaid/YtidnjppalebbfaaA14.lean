/- The law package's fixed examples. -/
import Derived.Test.YtidnjppalebbfaaA13
set_option linter.unusedSimpArgs false
set_option linter.unusedVariables false
namespace Go.V
open Go Go.RowKit
theorem IsSl.row {α : Type} {F : Fl α} (w : World) (e c : Nat) (l : List α) (hc : l.length ≤ c) : IsSl F (w.alloc (.cells (flat F l).toArray e (0, 0))) (.slice (some ⟨w.heap.size, 0, none⟩) l.length c) l := by
  refine ⟨_, c, rfl, hc, fun i x hx => ⟨w.heap.size, 0, rfl, fun j u hu => ?_⟩⟩
  rw [World.cell?_alloc_new, Nat.zero_add]
  simpa using flat_get l i j x u hx hu
end Go.V
namespace Go.Proofs.Ytidnjppalebbfaa
open Go Go.V Go.RowKit
abbrev S_ (a b c : Int) : Stream := ⟨a, b, c⟩
abbrev A_ (a b : Int) : Arr := ⟨a, b⟩
theorem RespP.unique {l : List Stream} {i : Nat} {x y : Int} (hx : RespP l i x) (hy : RespP l i y) (hs : 0 ≤ szL l i) : x = y := by
  unfold RespP at hx hy
  rcases hx with ⟨h1, h2, h3, h4⟩ | ⟨h1, h2⟩ <;> rcases hy with ⟨g1, g2, g3, g4⟩ | ⟨g1, g2⟩
  · rcases Int.lt_trichotomy x y with h | h | h
    · exact absurd h3 (g4 x h1 h)
    · exact h
    · exact absurd g3 (h4 y g1 h)
  · exact absurd h3 (g2 x h1 h2)
  · exact absurd g3 (h2 y g1 g2)
  · omega
theorem resp_list {l : List Stream} {out m : List Int} (hl : out.length = l.length) (hm : m.length = l.length) (hv : validS l = true) (ho : ∀ j x, out[j]? = some x → RespP l j x) (hm' : ∀ j x, m[j]? = some x → RespP l j x) : out = m := by
  refine List.ext_getElem (by omega) fun j h1 h2 => ?_
  have hs := (valid_at hv).2 j (l[j]'(by omega)) (by simp)
  refine (ho j _ (List.getElem?_eq_getElem h1)).unique (hm' j _ (List.getElem?_eq_getElem h2)) ?_
  simp only [szL, List.getD_eq_getElem?_getD, List.getElem?_eq_getElem (show j < l.length by omega), Option.getD_some]
  omega
def exL : List Stream := [S_ 3 4 20, S_ 1 2 10]
def exA : List Arr := [A_ 0 0, A_ 1 1]
theorem below1000 {P : Int → Prop} [DecidablePred P] (n : Nat) (h : (List.range n).all (fun (i : Nat) => decide (P i)) = true) : ∀ r : Int, 0 ≤ r → r < n → P r := by
  intro r h0 h1
  have := List.all_eq_true.1 h r.toNat (by simp; omega)
  have h2 : P ((r.toNat : Nat) : Int) := by simpa using this
  rwa [show ((r.toNat : Nat) : Int) = r by omega] at h2
theorem ex_resp : ∀ j x, ([6, 2] : List Int)[j]? = some x → RespP exL j x := by
  have s0 : szL exL 0 = 4 := by decide
  have s1 : szL exL 1 = 2 := by decide
  have p0 : perL exL 0 = 20 := by decide
  intro j x h
  match j with
  | 0 =>
    simp at h; subst h
    refine .inl ⟨by decide, by decide, by decide, fun r h1 h2 => ?_⟩
    exact below1000 (P := fun r => szL exL 0 ≤ r → dem exL 0 r ≠ r) 6 (by decide) r (by omega) (by omega) h1
  | 1 =>
    simp at h; subst h
    exact .inl ⟨by decide, by decide, by decide, fun r h1 h2 => by omega⟩
  | n + 2 => simp at h
def exS : List Stream := [S_ 3 10 20, S_ 1 2 10]
theorem ex_respS : ∀ j x, ([14, 2] : List Int)[j]? = some x → RespP exS j x := by
  have s0 : szL exS 0 = 10 := by decide
  have s1 : szL exS 1 = 2 := by decide
  have p0 : perL exS 0 = 20 := by decide
  intro j x h
  match j with
  | 0 =>
    simp at h; subst h
    refine .inl ⟨by decide, by decide, by decide, fun r h1 h2 => ?_⟩
    exact below1000 (P := fun r => szL exS 0 ≤ r → dem exS 0 r ≠ r) 14 (by decide) r (by omega) (by omega) h1
  | 1 =>
    simp at h; subst h
    exact .inl ⟨by decide, by decide, by decide, fun r h1 h2 => by omega⟩
  | n + 2 => simp at h
def exU : List Stream := [S_ 3 10 12, S_ 1 2 10]
theorem ex_respU : ∀ j x, ([-1, 2] : List Int)[j]? = some x → RespP exU j x := by
  have s0 : szL exU 0 = 10 := by decide
  have s1 : szL exU 1 = 2 := by decide
  have p0 : perL exU 0 = 12 := by decide
  intro j x h
  match j with
  | 0 =>
    simp at h; subst h
    refine .inr ⟨rfl, fun r h1 h2 => ?_⟩
    exact below1000 (P := fun r => szL exU 0 ≤ r → dem exU 0 r ≠ r) 13 (by decide) r (by omega) (by omega) h1
  | 1 =>
    simp at h; subst h
    exact .inl ⟨by decide, by decide, by decide, fun r h1 h2 => by omega⟩
  | n + 2 => simp at h
theorem ex_proper : ProperP exL exA := by
  refine ⟨by decide, by decide, fun i x hx => ?_⟩
  match i with
  | 0 =>
    simp [exA] at hx; subst hx
    exact ⟨by decide, by decide, fun k y h => by omega, fun k y s h => by omega⟩
  | 1 =>
    simp [exA] at hx; subst hx
    refine ⟨by decide, by decide, fun k y h hy => ?_, fun k y s h hy he => ?_⟩
    · obtain rfl : k = 0 := by omega
      simp [exA] at hy; subst hy
      unfold ltA; decide
    · obtain rfl : k = 0 := by omega
      simp [exA] at hy; subst hy
      simp at he
  | n + 2 => simp [exA] at hx
theorem ex_trace : TraceP exL exA [0, 1, 1, 0, 0, 0] := by
  have b0 : IsBest exL exA (([] : List Int).length) (szA exL exA) 0 := ⟨by decide, by decide, by decide, by decide⟩
  have r1 := Run.send Run.start b0
  have b1 : IsBest exL exA (([0] : List Int).length) (dec (szA exL exA) 0) 1 := ⟨by decide, by decide, by decide, by decide⟩
  have r2 := Run.send r1 b1
  have b2 : IsBest exL exA (([0, 1] : List Int).length) (dec (dec (szA exL exA) 0) 1) 1 := ⟨by decide, by decide, by decide, by decide⟩
  have r3 := Run.send r2 b2
  have b3 : IsBest exL exA (([0, 1, 1] : List Int).length) (dec (dec (dec (szA exL exA) 0) 1) 1) 0 := ⟨by decide, by decide, by decide, by decide⟩
  have r4 := Run.send r3 b3
  have b4 : IsBest exL exA (([0, 1, 1, 0] : List Int).length) (dec (dec (dec (dec (szA exL exA) 0) 1) 1) 0) 0 := ⟨by decide, by decide, by decide, by decide⟩
  have r5 := Run.send r4 b4
  have b5 : IsBest exL exA (([0, 1, 1, 0, 0] : List Int).length) (dec (dec (dec (dec (dec (szA exL exA) 0) 1) 1) 0) 0) 0 := ⟨by decide, by decide, by decide, by decide⟩
  have r6 := Run.send r5 b5
  exact ⟨_, r6, by unfold Done; decide⟩
theorem ex_bad : ¬ ProperP exL [A_ 1 0, A_ 1 9] := fun h => by
  have := (h.all 1 (A_ 1 9) rfl).gap 0 (A_ 1 0) (S_ 1 2 10) (by decide) rfl rfl rfl
  simp at this
theorem ex_level {L : Int} (h : IsLevel 11 [2, 9, 9] L) : L = 4 := by
  have h1 := h.lo
  have h2 := h.hi
  have h3 := h.fits
  have h4 := h.next
  have hm : mostI [2, 9, 9] = 9 := by decide
  rw [hm] at h2 h4
  have : L = 0 ∨ L = 1 ∨ L = 2 ∨ L = 3 ∨ L = 4 ∨ L = 5 ∨ L = 6 ∨ L = 7 ∨ L = 8 ∨ L = 9 := by omega
  rcases this with rfl | rfl | rfl | rfl | rfl | rfl | rfl | rfl | rfl | rfl <;> first | rfl | (exfalso; revert h3 h4; decide)
end Go.Proofs.Ytidnjppalebbfaa
