/- How a division is fair, in plain words. -/
import Derived.Test.YtidnjppalebbfaaA3
set_option linter.unusedSimpArgs false
set_option linter.unusedVariables false
namespace Go.Proofs.Ytidnjppalebbfaa
open Go Go.V Go.RowKit
def sumI : List Int → Int
  | [] => 0
  | x :: r => x + sumI r
def gtI (L : Int) : List Int → Int
  | [] => 0
  | x :: r => (if L < x then 1 else 0) + gtI L r
theorem sumI_app : ∀ a b : List Int, sumI (a ++ b) = sumI a + sumI b
  | [], b => by simp [sumI]
  | x :: a, b => by simp [sumI, sumI_app a b]; omega
theorem gtI_nonneg (L : Int) : ∀ l, 0 ≤ gtI L l
  | [] => by simp [gtI]
  | x :: r => by have := gtI_nonneg L r; simp only [gtI]; split <;> omega
theorem needs_succ (L : Int) : ∀ l, needsI l (L + 1) = needsI l L + gtI L l
  | [] => by simp [needsI, gtI]
  | x :: r => by
    simp only [needsI, gtI, needs_succ L r, minI]
    by_cases h1 : L < x
    · rw [if_pos h1]
      by_cases h2 : L + 1 < x
      · rw [if_pos h2, if_pos h1]; omega
      · rw [if_neg h2, if_pos h1]; omega
    · rw [if_neg h1, if_neg (by omega), if_neg h1]; omega
theorem needs_mono {L L' : Int} (h : L ≤ L') : ∀ l, needsI l L ≤ needsI l L'
  | [] => by simp [needsI]
  | x :: r => by
    have := needs_mono h r
    simp only [needsI, minI]
    split <;> split <;> omega
theorem needs_most : ∀ (l : List Int) (L : Int), mostI l ≤ L → needsI l L = sumI l ∧ gtI L l = 0
  | [], L, _ => by simp [needsI, sumI, gtI]
  | x :: r, L, h => by
    simp only [mostI] at h
    have := needs_most r L (by omega)
    simp only [needsI, sumI, gtI, minI]
    rw [if_neg (by omega), if_neg (by omega)]
    omega
theorem needs_le_sum (L : Int) : ∀ l, needsI l L ≤ sumI l
  | [] => by simp [needsI, sumI]
  | x :: r => by
    have := needs_le_sum L r
    simp only [needsI, sumI, minI]
    split <;> omega
theorem give_at (L : Int) : ∀ (l : List Int) (left : Int) (i : Nat) (a x : Int), (giveI L left l)[i]? = some a → l[i]? = some x → minI x L ≤ a ∧ a ≤ minI x L + 1 ∧ (minI x L < a → L < x)
  | [], left, i, a, x, h, _ => by simp [giveI] at h
  | y :: r, left, 0, a, x, h, hx => by
    simp at hx; subst hx
    simp only [giveI] at h
    split at h
    · simp at h; subst h; rename_i hh; exact ⟨by omega, by omega, fun _ => hh.1⟩
    · simp at h; subst h; exact ⟨by omega, by omega, by omega⟩
  | y :: r, left, i + 1, a, x, h, hx => by
    simp only [List.getElem?_cons_succ] at hx
    simp only [giveI] at h
    split at h
    · exact give_at L r _ i a x (by simpa using h) hx
    · exact give_at L r _ i a x (by simpa using h) hx
theorem give_mono (L : Int) : ∀ (l : List Int) (left left' : Int) (i : Nat) (a b : Int), left ≤ left' → (giveI L left l)[i]? = some a → (giveI L left' l)[i]? = some b → a ≤ b
  | [], _, _, i, a, b, _, h, _ => by simp [giveI] at h
  | y :: r, left, left', 0, a, b, hle, h, h' => by
    simp only [giveI] at h h'
    split at h <;> split at h' <;> simp at h h' <;> omega
  | y :: r, left, left', i + 1, a, b, hle, h, h' => by
    simp only [giveI] at h h'
    split at h <;> split at h' <;> simp only [List.getElem?_cons_succ] at h h'
    · exact give_mono L r _ _ i a b (by omega) h h'
    · rename_i h1 h2; exact absurd ⟨h1.1, by omega⟩ h2
    · rename_i h1 h2; exact give_mono L r _ _ i a b (by omega) h h'
    · exact give_mono L r _ _ i a b hle h h'
theorem give_sum (L : Int) : ∀ (l : List Int) (left : Int), 0 ≤ left → sumI (giveI L left l) = needsI l L + min left (gtI L l)
  | [], left, h => by simp only [giveI, sumI, needsI, gtI]; omega
  | y :: r, left, h => by
    have hn := gtI_nonneg L r
    by_cases h1 : L < y
    · have e : gtI L (y :: r) = 1 + gtI L r := by simp [gtI, h1]
      rw [e]
      by_cases h2 : 0 < left
      · have := give_sum L r (left - 1) (by omega)
        simp only [giveI, needsI, if_pos (show L < y ∧ 0 < left from ⟨h1, h2⟩), sumI]; omega
      · have := give_sum L r left h
        simp only [giveI, needsI, if_neg (show ¬ (L < y ∧ 0 < left) from fun hh => h2 hh.2), sumI]; omega
    · have e : gtI L (y :: r) = gtI L r := by simp [gtI, h1]
      have := give_sum L r left h
      rw [e]
      simp only [giveI, needsI, if_neg (show ¬ (L < y ∧ 0 < left) from fun hh => h1 hh.1), sumI]; omega
theorem level_unique {n : Int} {l : List Int} {L L' : Int} (h : IsLevel n l L) (h' : IsLevel n l L') : L = L' := by
  have key : ∀ {L L' : Int}, IsLevel n l L → IsLevel n l L' → ¬ L < L' := fun {L L'} h h' hlt => by
    have h1 := h.next (by have := h'.hi; omega)
    have h2 := needs_mono (show L + 1 ≤ L' by omega) l
    have h3 := h'.fits
    omega
  have h1 := key h h'
  have h2 := key h' h
  omega
theorem needs_reverse (L : Int) (l : List Int) : needsI l.reverse L = needsI l L := by
  induction l with
  | nil => rfl
  | cons x r ih => rw [List.reverse_cons, needsI_append, ih]; simp [needsI]; omega
theorem most_reverse {l : List Int} (h : ∀ y ∈ l, 0 ≤ y) : mostI l.reverse = mostI l := by
  induction l with
  | nil => rfl
  | cons x r ih =>
    have hr := ih fun y hy => h y (by simp [hy])
    rw [List.reverse_cons, mostI_snoc r.reverse x (fun y hy => h y (by simp at hy; simp [hy])) (h x (by simp)), hr, mostI]
    omega
structure Fair (W A B C : List Int) (n : Int) : Prop where
  la : A.length = W.length
  lb : B.length = W.length
  lc : C.length = W.length
  each : ∀ (i : Nat) (a b c x : Int), A[i]? = some a → B[i]? = some b → W[i]? = some x → C[W.length - 1 - i]? = some c → 0 ≤ a ∧ a ≤ x ∧ a ≤ b ∧ c ≤ a + 1 ∧ a - 1 ≤ c
  pair : ∀ (i k : Nat) (a a' x' : Int), A[i]? = some a → A[k]? = some a' → W[k]? = some x' → a' < x' → a ≤ a' + 1
  sum : sumI A = minI n (sumI W)
theorem fair {W : List Int} {n d La Lb Lc : Int} (hw : okW W) (hd : 0 ≤ d) (ha : IsLevel n W La) (hb : IsLevel (n + d) W Lb) (hc : IsLevel n W.reverse Lc) :
    Fair W (giveI La (n - needsI W La) W) (giveI Lb (n + d - needsI W Lb) W) (giveI Lc (n - needsI W.reverse Lc) W.reverse) n := by
  have hc' : IsLevel n W Lc := ⟨hc.lo, by have := hc.hi; rwa [most_reverse fun y hy => (hw y hy).1] at this, by have := hc.fits; rwa [needs_reverse] at this, by have := hc.next; rwa [most_reverse fun y hy => (hw y hy).1, needs_reverse] at this⟩
  obtain rfl := level_unique ha hc'
  have hx : ∀ (i : Nat) (x : Int), W[i]? = some x → 0 ≤ x := fun i x h => (hw x (List.mem_of_getElem? h)).1
  have hlo := ha.lo
  refine ⟨giveI_length _ _ _, giveI_length _ _ _, by rw [giveI_length, List.length_reverse], fun i a b c x h1 h2 h3 h4 => ?_, fun i k a a' x' h1 h2 h3 h4 => ?_, ?_⟩
  · have g1 := give_at La W _ i a x h1 h3
    have g2 := give_at Lb W _ i b x h2 h3
    have hx0 := hx i x h3
    have hi := (List.getElem?_eq_some_iff.1 h3).1
    have hr : W.reverse[W.length - 1 - i]? = some x := by
      rw [List.getElem?_reverse (by omega), show W.length - 1 - (W.length - 1 - i) = i by omega]; exact h3
    have g3 := give_at La W.reverse _ _ c x h4 hr
    have hab : a ≤ b := by
      rcases Int.lt_trichotomy La Lb with h | h | h
      · unfold minI at g1 g2
        have := g1.2.2
        split at g1 <;> split at g2 <;> omega
      · subst h
        exact give_mono La W _ _ i a b (by omega) h1 h2
      · have h5 := hb.next (by have := ha.hi; omega)
        have h6 := needs_mono (show Lb + 1 ≤ La by omega) W
        have h7 := ha.fits
        omega
    unfold minI at g1 g3
    have := g1.2.2
    refine ⟨?_, ?_, hab, ?_, ?_⟩ <;> (split at g1 <;> split at g3 <;> omega)
  · obtain ⟨x, hx1⟩ : ∃ x, W[i]? = some x := ⟨W[i]'(by have := (List.getElem?_eq_some_iff.1 h1).1; rw [giveI_length] at this; exact this), by simp⟩
    have g1 := give_at La W _ i a x h1 hx1
    have g2 := give_at La W _ k a' x' h2 h3
    unfold minI at g1 g2
    split at g1 <;> split at g2 <;> omega
  · have hf := ha.fits
    rw [give_sum _ _ _ (by omega)]
    have hle := needs_le_sum La W
    by_cases hm : La < mostI W
    · have h1 := ha.next hm
      rw [needs_succ] at h1
      have := needs_le_sum (La + 1) W
      rw [needs_succ] at this
      unfold minI
      split <;> omega
    · have h1 := needs_most W La (by omega)
      rw [h1.1] at hf
      rw [h1.2, h1.1]
      unfold minI
      split <;> omega
end Go.Proofs.Ytidnjppalebbfaa
