/- The arrivals that integers determine, in plain words. -/
import Derived.Test.YtidnjppalebbfaaA18
set_option linter.unusedSimpArgs false
set_option linter.unusedVariables false
namespace Go.Proofs.Ytidnjppalebbfaa
open Go Go.V Go.RowKit
/-- arrivals behind each other, and from when on the next of each stream may come -/
structure ArrOk (l : List Stream) (next : List Int) (out : List Arr) : Prop where
  sorted : out.Pairwise ltA
  gap : out.Pairwise fun y x => y.stream = x.stream → ∀ s, l[x.stream.toNat]? = some s → s.period ≤ x.at_ - y.at_
  rng : ∀ x, x ∈ out → (0 ≤ x.stream ∧ x.stream ≤ (l.length : Int) - 1) ∧ 0 ≤ x.at_ ∧ x.at_ ≤ 2000
  nx : ∀ x, x ∈ out → ∀ s m, l[x.stream.toNat]? = some s → next[x.stream.toNat]? = some m → x.at_ + s.period ≤ m
  nlen : next.length = l.length
  nn : ∀ m, m ∈ next → 0 ≤ m ∧ m ≤ 3000
theorem ArrOk.proper {l : List Stream} {next : List Int} {out : List Arr} (h : ArrOk l next out) (hv : validS l = true) (hl : out.length ≤ 60) : ProperP l out := by
  refine ⟨hv, hl, fun i x hx => ?_⟩
  have hi := (List.getElem?_eq_some_iff.1 hx).1
  have hxe : out[i] = x := by rw [List.getElem?_eq_getElem hi] at hx; exact Option.some.inj hx
  have hr := h.rng x (List.mem_of_getElem? hx)
  refine ⟨hr.1, hr.2, fun k y hk hy => ?_, fun k y s hk hy he hs => ?_⟩
  · have hkl := (List.getElem?_eq_some_iff.1 hy).1
    have hye : out[k] = y := by rw [List.getElem?_eq_getElem hkl] at hy; exact Option.some.inj hy
    have := List.pairwise_iff_getElem.1 h.sorted k i hkl hi hk
    rwa [hye, hxe] at this
  · have hkl := (List.getElem?_eq_some_iff.1 hy).1
    have hye : out[k] = y := by rw [List.getElem?_eq_getElem hkl] at hy; exact Option.some.inj hy
    have := List.pairwise_iff_getElem.1 h.gap k i hkl hi hk
    rw [hye, hxe] at this
    exact this he s hs
theorem ltA_total {x y : Arr} (h : ¬ ltA x y) (hne : ¬ (x.stream = y.stream ∧ x.at_ = y.at_)) : ltA y x := by unfold ltA at *; omega
theorem ArrOk.insert {l : List Stream} {next : List Int} {out : List Arr} {a : Arr} {s : Stream} {m : Int} {p : Nat} (h : ArrOk l next out) (hs : l[a.stream.toNat]? = some s) (hper : 1 ≤ s.period ∧ s.period ≤ 1000) (hst : 0 ≤ a.stream ∧ a.stream ≤ (l.length : Int) - 1)
    (hm : next[a.stream.toNat]? = some m) (hma : m ≤ a.at_) (hat : a.at_ ≤ 2000) (hp : p ≤ out.length) (hlo : ∀ j y, j < p → out[j]? = some y → ltA y a) (hhi : ∀ y, out[p]? = some y → ¬ ltA y a) :
    ArrOk l (next.set a.stream.toNat (a.at_ + s.period)) (out.take p ++ [a] ++ out.drop p) := by
  have h0 := (h.nn m (List.mem_of_getElem? hm)).1
  have hil := (List.getElem?_eq_some_iff.1 hm).1
  -- of the same stream all came before
  have hsame : ∀ y, y ∈ out → y.stream = a.stream → y.at_ + s.period ≤ a.at_ := fun y hy he => by
    have := h.nx y hy s m (by rw [he]; exact hs) (by rw [he]; exact hm)
    omega
  have hlow : ∀ y, y ∈ out.take p → ltA y a := fun y hy => by
    obtain ⟨j, hj, hje⟩ := List.getElem_of_mem hy
    have hj' : j < p := by rw [List.length_take] at hj; omega
    refine hlo j y hj' ?_
    rw [List.getElem_take] at hje
    rw [List.getElem?_eq_getElem (by omega), hje]
  have hhigh : ∀ y, y ∈ out.drop p → ltA a y := fun y hy => by
    have hyo := List.mem_of_mem_drop hy
    have hne : ¬ (y.stream = a.stream ∧ y.at_ = a.at_) := fun hh => by have := hsame y hyo hh.1; omega
    refine ltA_total ?_ hne
    obtain ⟨j, hj, hje⟩ := List.getElem_of_mem hy
    rw [List.length_drop] at hj
    rw [List.getElem_drop] at hje
    have hz : out[p]? = some (out[p]'(by omega)) := List.getElem?_eq_getElem (by omega)
    have hzn := hhi _ hz
    by_cases hj0 : j = 0
    · subst hj0
      have : out[p]'(by omega) = y := by rw [← hje]; rfl
      rw [← this]; exact hzn
    · have := List.pairwise_iff_getElem.1 h.sorted p (p + j) (by omega) (by omega) (by omega)
      rw [hje] at this
      intro hya
      exact hzn (ltA_trans this hya)
  have hmem : ∀ x, x ∈ out.take p ++ [a] ++ out.drop p → x = a ∨ x ∈ out := fun x hx => by
    simp only [List.mem_append, List.mem_singleton] at hx
    rcases hx with (hx | hx) | hx
    · exact .inr (List.mem_of_mem_take hx)
    · exact .inl hx
    · exact .inr (List.mem_of_mem_drop hx)
  have split : ∀ {Rel : Arr → Arr → Prop}, out.Pairwise Rel → (∀ y, y ∈ out.take p → Rel y a) → (∀ y, y ∈ out.drop p → Rel a y) → (out.take p ++ [a] ++ out.drop p).Pairwise Rel := fun {Rel} hr h1 h2 => by
    have hd := hr
    rw [← List.take_append_drop p out] at hd
    rw [List.pairwise_append] at hd
    rw [List.append_assoc, List.pairwise_append]
    refine ⟨hd.1, ?_, fun y hy x hx => ?_⟩
    · rw [List.singleton_append, List.pairwise_cons]
      exact ⟨h2, hd.2.1⟩
    · rcases List.mem_append.1 hx with hx | hx
      · simp at hx; subst hx; exact h1 y hy
      · exact hd.2.2 y hy x hx
  refine ⟨split h.sorted hlow hhigh, split h.gap (fun y hy he s' hs' => ?_) (fun y hy he s' hs' => ?_), fun x hx => ?_, fun x hx s' m' hs' hm' => ?_, by rw [List.length_set]; exact h.nlen, fun m' hm' => ?_⟩
  · rw [hs] at hs'; cases hs'
    have := hsame y (List.mem_of_mem_take hy) he; omega
  · have := hsame y (List.mem_of_mem_drop hy) he.symm
    have := hhigh y hy
    unfold ltA at this; omega
  · rcases hmem x hx with rfl | hx
    · exact ⟨hst, by omega, hat⟩
    · exact h.rng x hx
  · rw [List.getElem?_set] at hm'
    by_cases he : a.stream.toNat = x.stream.toNat
    · rw [if_pos he, if_pos hil] at hm'
      cases hm'
      rcases hmem x hx with rfl | hx'
      · rw [hs] at hs'; cases hs'; omega
      · have hxr := (h.rng x hx').1
        have hes : x.stream = a.stream := by omega
        rw [← he, hs] at hs'; cases hs'
        have := hsame x hx' hes; omega
    · rw [if_neg he] at hm'
      rcases hmem x hx with rfl | hx'
      · exact absurd rfl he
      · exact h.nx x hx' s' m' hs' hm'
  · rcases List.mem_or_eq_of_mem_set hm' with h' | h'
    · exact h.nn m' h'
    · omega
end Go.Proofs.Ytidnjppalebbfaa
