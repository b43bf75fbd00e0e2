/- Streams that all send at once: the first arrival takes the whole response. In plain words. -/
import Derived.Test.YtidnjppalebbfaaA25
set_option linter.unusedSimpArgs false
set_option linter.unusedVariables false
namespace Go.Proofs.Ytidnjppalebbfaa
open Go Go.V Go.RowKit
/-- does stream k send at t, if all that go before i, and i, send as often as they may? -/
def incB (l : List Stream) (i k : Nat) (t : Int) : Prop := t % perL l k = 0 ∧ (k = i ∨ beforeB l k i = true)
/-- the arrivals up to (t, k) -/
structure SyncOk (l : List Stream) (i : Nat) (A : List Arr) (t : Int) (k : Nat) : Prop where
  sound : ∀ x, x ∈ A → ∃ k' : Nat, x.stream = k' ∧ k' < l.length ∧ 0 ≤ x.at_ ∧ (x.at_ < t ∨ x.at_ = t ∧ k' < k) ∧ incB l i k' x.at_
  complete : ∀ (k' : Nat) (t' : Int), k' < l.length → 0 ≤ t' → (t' < t ∨ t' = t ∧ k' < k) → incB l i k' t' → (⟨k', t'⟩ : Arr) ∈ A
  sorted : A.Pairwise ltA
theorem SyncOk.skip {l : List Stream} {i : Nat} {A : List Arr} {t : Int} {k : Nat} (h : SyncOk l i A t k) (hn : ¬ incB l i k t) : SyncOk l i A t (k + 1) := by
  refine ⟨fun x hx => ?_, fun k' t' h1 h2 h3 h4 => ?_, h.sorted⟩
  · obtain ⟨k', g1, g2, g3, g4, g5⟩ := h.sound x hx
    exact ⟨k', g1, g2, g3, by omega, g5⟩
  · by_cases he : t' = t ∧ k' = k
    · rw [he.1, he.2] at h4; exact absurd h4 hn
    · exact h.complete k' t' h1 h2 (by omega) h4
theorem SyncOk.add {l : List Stream} {i : Nat} {A : List Arr} {t : Int} {k : Nat} (h : SyncOk l i A t k) (hk : k < l.length) (ht : 0 ≤ t) (hi : incB l i k t) : SyncOk l i (A ++ [⟨k, t⟩]) t (k + 1) := by
  refine ⟨fun x hx => ?_, fun k' t' h1 h2 h3 h4 => ?_, ?_⟩
  · rcases List.mem_append.1 hx with hx | hx
    · obtain ⟨k', g1, g2, g3, g4, g5⟩ := h.sound x hx
      exact ⟨k', g1, g2, g3, by omega, g5⟩
    · simp at hx; subst hx
      exact ⟨k, rfl, hk, ht, .inr ⟨rfl, by omega⟩, hi⟩
  · by_cases he : t' = t ∧ k' = k
    · rw [he.1, he.2]; simp
    · exact List.mem_append_left _ (h.complete k' t' h1 h2 (by omega) h4)
  · rw [List.pairwise_append]
    refine ⟨h.sorted, by simp, fun x hx y hy => ?_⟩
    simp at hy; subst hy
    obtain ⟨k', g1, g2, g3, g4, g5⟩ := h.sound x hx
    unfold ltA; simp only; omega
theorem SyncOk.next {l : List Stream} {i : Nat} {A : List Arr} {t : Int} (h : SyncOk l i A t l.length) : SyncOk l i A (t + 1) 0 := by
  refine ⟨fun x hx => ?_, fun k' t' h1 h2 h3 h4 => h.complete k' t' h1 h2 (by omega) h4, h.sorted⟩
  obtain ⟨k', g1, g2, g3, g4, g5⟩ := h.sound x hx
  exact ⟨k', g1, g2, g3, by omega, g5⟩
theorem mod_gap {x y p : Int} (hp : 1 ≤ p) (hx : x % p = 0) (hy : y % p = 0) (hlt : x < y) : p ≤ y - x := by
  obtain ⟨c, rfl⟩ := Int.dvd_of_emod_eq_zero hx
  obtain ⟨d, rfl⟩ := Int.dvd_of_emod_eq_zero hy
  have hcd : c < d := by
    apply Classical.byContradiction
    intro h
    have := Int.mul_le_mul_of_nonneg_left (show d ≤ c by omega) (show 0 ≤ p by omega)
    omega
  have := Int.mul_le_mul_of_nonneg_left (show c + 1 ≤ d by omega) (show 0 ≤ p by omega)
  rw [Int.mul_add, Int.mul_one] at this
  omega
theorem SyncOk.proper {l : List Stream} {i : Nat} {A : List Arr} {t : Int} (h : SyncOk l i A t 0) (hv : validS l = true) (ht : t ≤ 2001) (hl : A.length ≤ 60) : ProperP l A := by
  refine ⟨hv, hl, fun j x hx => ?_⟩
  obtain ⟨k, g1, g2, g3, g4, g5⟩ := h.sound x (List.mem_of_getElem? hx)
  have hj := (List.getElem?_eq_some_iff.1 hx).1
  have hxe : A[j] = x := by rw [List.getElem?_eq_getElem hj] at hx; exact Option.some.inj hx
  have hord : ∀ m y, m < j → A[m]? = some y → ltA y x := fun m y hm hy => by
    have hml := (List.getElem?_eq_some_iff.1 hy).1
    have hye : A[m] = y := by rw [List.getElem?_eq_getElem hml] at hy; exact Option.some.inj hy
    have := List.pairwise_iff_getElem.1 h.sorted m j hml hj hm
    rwa [hye, hxe] at this
  refine ⟨by omega, by omega, hord, fun m y s hm hy he hs => ?_⟩
  obtain ⟨k', q1, q2, q3, q4, q5⟩ := h.sound y (List.mem_of_getElem? hy)
  have hkk : k' = k := by omega
  subst hkk
  have hlt := hord m y hm hy
  have hper : perL l k' = s.period := by
    unfold perL
    rw [List.getD_eq_getElem?_getD, show k' = x.stream.toNat by omega, hs]; rfl
  have hp1 := ((valid_at hv).2 _ s hs).2.2.1
  have := mod_gap (p := perL l k') (by omega) q5.1 g5.1 (by unfold ltA at hlt; omega)
  omega
/-- one tick more of a window -/
theorem cntK_succ (a : List Arr) (R : Int) (k : Nat) (hR : 0 ≤ R) : ∀ m, cntK a 0 R k m ≤ cntK a 0 (R + 1) k m ∧ ((∃ j, j < m ∧ stA a j = k ∧ atA a j = R) → cntK a 0 R k m + 1 ≤ cntK a 0 (R + 1) k m)
  | 0 => ⟨Int.le_refl _, fun ⟨j, hj, _⟩ => by omega⟩
  | m + 1 => by
    have ih := cntK_succ a R k hR m
    simp only [cntK]
    by_cases h1 : stA a m = k ∧ 0 ≤ atA a m ∧ atA a m < 0 + R
    · rw [if_pos h1, if_pos (show stA a m = k ∧ 0 ≤ atA a m ∧ atA a m < 0 + (R + 1) from ⟨h1.1, h1.2.1, by omega⟩)]
      refine ⟨by omega, fun ⟨j, hj, hs, ha⟩ => ?_⟩
      have := ih.2 ⟨j, by
        have : j ≠ m := fun h => by subst h; omega
        omega, hs, ha⟩
      omega
    · rw [if_neg h1]
      by_cases h2 : stA a m = k ∧ 0 ≤ atA a m ∧ atA a m < 0 + (R + 1)
      · rw [if_pos h2]
        exact ⟨by omega, fun _ => by omega⟩
      · rw [if_neg h2]
        refine ⟨by omega, fun ⟨j, hj, hs, ha⟩ => ?_⟩
        have := ih.2 ⟨j, by
          have : j ≠ m := fun h => by subst h; exact h2 ⟨hs, by omega, by omega⟩
          omega, hs, ha⟩
        omega
theorem cntK_all {l : List Stream} {i : Nat} {A : List Arr} {r : Int} (h : SyncOk l i A r 0) (hp : ProperP l A) {k : Nat} (hk : k < l.length) (hper : 1 ≤ perL l k) (hin : k = i ∨ beforeB l k i = true) : ∀ F : Nat, (F : Int) ≤ r → (F + perL l k - 1) / perL l k ≤ cntK A 0 F k A.length
  | 0, _ => by
    have : ((0 : Nat) + perL l k - 1) / perL l k = 0 := Int.ediv_eq_zero_of_lt (by omega) (by omega)
    rw [this]
    have := cntK_bound hp (t0 := 0) (r := 1) (k := k) (by omega) hper A.length (Nat.le_refl _)
    have h0 : ∀ m, 0 ≤ cntK A 0 ((0 : Nat) : Int) k m := by
      intro m
      induction m with
      | zero => exact Int.le_refl _
      | succ m ih => simp only [cntK]; split <;> omega
    exact h0 _
  | F + 1, hF => by
    have ih := cntK_all h hp hk hper hin F (by omega)
    have hs := cntK_succ A (F : Int) k (by omega) A.length
    have e1 : (((F + 1 : Nat) : Int) + perL l k - 1) / perL l k = (F : Int) / perL l k + 1 := by
      rw [show ((F + 1 : Nat) : Int) + perL l k - 1 = F + 1 * perL l k by omega, Int.add_mul_ediv_right _ _ (by omega)]
    rw [e1, show (((F + 1 : Nat) : Int)) = (F : Int) + 1 by omega]
    by_cases hz : (F : Int) % perL l k = 0
    · have hmem := h.complete k F hk (by omega) (by omega) ⟨hz, hin⟩
      obtain ⟨j, hj, hje⟩ := List.getElem_of_mem hmem
      have := hs.2 ⟨j, hj, by simp [stA, List.getD_eq_getElem?_getD, List.getElem?_eq_getElem hj, hje], by simp [atA, List.getD_eq_getElem?_getD, List.getElem?_eq_getElem hj, hje]⟩
      have hle : (F : Int) / perL l k ≤ (F + perL l k - 1) / perL l k := Int.ediv_le_ediv (by omega) (by omega)
      omega
    · have hq := Int.mul_ediv_add_emod (F : Int) (perL l k)
      have hpos := Int.emod_nonneg (F : Int) (show perL l k ≠ 0 by omega)
      have hle : (F : Int) / perL l k + 1 ≤ (F + perL l k - 1) / perL l k := by
        refine (Int.le_ediv_iff_mul_le (by omega)).2 ?_
        rw [Int.add_mul, Int.mul_comm]
        omega
      omega
/-- a demand below its time has a fixed point on the way -/
theorem fix_below {l : List Stream} {i : Nat} (hv : validS l = true) (hs : 1 ≤ szL l i) (n : Nat) : (n : Int) ≤ 1000 → szL l i ≤ n → dem l i n ≤ n → ∃ r, szL l i ≤ r ∧ r ≤ n ∧ dem l i r = r := by
  induction n with
  | zero => intro _ h _; omega
  | succ n ih =>
    intro hn h1 h2
    have hok := befS_ok hv i
    have hge := (demF_range (s := szL l i) (r := ((n + 1 : Nat) : Int)) (by omega) _ hok).1
    by_cases he : dem l i ((n + 1 : Nat) : Int) = ((n + 1 : Nat) : Int)
    · exact ⟨_, h1, Int.le_refl _, he⟩
    · have hm := demF_mono (s := szL l i) (r := (n : Int)) (r' := ((n + 1 : Nat) : Int)) (by omega) _ hok
      unfold dem at h2 he
      have h3 : szL l i ≤ n := by omega
      obtain ⟨r, g1, g2, g3⟩ := ih (by omega) h3 (by unfold dem; omega)
      exact ⟨r, g1, by omega, g3⟩
theorem tight {l : List Stream} {i : Nat} {A : List Arr} {tr f : List Int} {w : Int} {j : Nat} (hil : i < l.length) (hw : RespP l i w) (hw0 : 0 ≤ w) (h : SyncOk l i A w 0) (hp : ProperP l A) (lo : LineOk l A tr f) (hj : j < A.length) (hjs : stA A j = i) (hja : atA A j = 0) : f[j]? = some w := by
  have hv := hp.valid
  have hperI : ∀ k, k < l.length → 1 ≤ perL l k ∧ perL l k ≤ 1000 ∧ 1 ≤ szL l k := fun k hk => by
    have := (valid_at hv).2 k l[k] (List.getElem?_eq_getElem hk)
    have e1 : szL l k = l[k].size := by unfold szL; rw [List.getD_eq_getElem?_getD, List.getElem?_eq_getElem hk]; rfl
    have e2 : perL l k = l[k].period := by unfold perL; rw [List.getD_eq_getElem?_getD, List.getElem?_eq_getElem hk]; rfl
    omega
  obtain ⟨v, hv1, hv2, hv3⟩ := latest hp lo hj (w := w) (by rw [hjs]; exact hw)
  have hv3 := hv3 hw0
  rw [hja] at hv2 hv3
  rcases hw with ⟨w1, w2, w3, w4⟩ | ⟨w1, _⟩
  · obtain ⟨t0, hf, ht1, ht2, ht3, ht4⟩ := lo.fin j hj
    rw [hv1] at hf
    have hvt : v = (t0 : Int) + 1 := Option.some.inj hf
    subst hvt
    have hszI : szA l A j = szL l i := by rw [← hjs]; rfl
    apply Classical.byContradiction
    intro hne
    have hlt : (t0 : Int) + 1 < w := by
      rcases Int.lt_trichotomy ((t0 : Int) + 1) w with h | h | h
      · exact h
      · exact absurd (by rw [hv1, h]) hne
      · omega
    have htl := (List.getElem?_eq_some_iff.1 ht1).1
    have hpi := hperI i hil
    -- all that goes before and has come is done
    have hstep := lo.step t0 _ ht1
    have htk : (tr.take t0).length = t0 := by rw [List.length_take]; omega
    unfold StepOk at hstep
    rw [htk] at hstep
    have hbest : IsBest l A t0 (remT l A (tr.take t0)) j := by
      rcases hstep with ⟨h, _⟩ | ⟨j', h, hb⟩
      · omega
      · obtain rfl : j = j' := by omega
        exact hb
    have hdone : ∀ k, k < A.length → hpB l i (stA A k) = true → 0 ≤ atA A k → atA A k < 0 + ((t0 : Int) + 1) → rm l A tr (t0 + 1) k = 0 := fun k hk hh h0 h1 => by
      by_cases hkj : k = j
      · subst hkj; exact ht3 (t0 + 1) (by omega)
      · have hz : remT l A (tr.take t0) k = 0 := by
          apply Classical.byContradiction
          intro hn0
          have hfst := hbest.first k hk (by omega) hn0 hkj
          obtain ⟨_, _, _, _, hslk, _⟩ := proper_at hp hk
          rw [hjs] at hfst
          simp only [hpB, Bool.or_eq_true, decide_eq_true_eq] at hh
          rw [beforeB_iff hil hslk] at hfst
          rw [beforeB_iff hslk hil] at hh
          by_cases hst : stA A k = i
          · -- of the same stream none can have come but the first
            rcases Nat.lt_trichotomy k j with hlt | heq | hgt
            · have := gapA hp hlt hj (by rw [hst, hjs])
              rw [hjs] at this
              omega
            · exact hkj heq
            · have := gapA hp hgt hk (by rw [hst, hjs])
              rw [hst] at this
              omega
          · have hne2 : ¬ stA A k = i := hst
            omega
        have h1 := rm_mono (l := l) (a := A) (tr := tr) (show t0 ≤ t0 + 1 by omega) k
        have h2 := lo.nonneg hk (t0 + 1)
        unfold rm at h1 h2 ⊢
        omega
    -- at most one byte a tick
    have hsum : ∀ d : Nat, d ≤ t0 + 1 → tot (fun k => if hpB l i (stA A k) = true ∧ 0 ≤ atA A k ∧ atA A k < 0 + ((t0 : Int) + 1) then szA l A k else 0) A.length ≤ tot (fun k => if hpB l i (stA A k) = true ∧ 0 ≤ atA A k ∧ atA A k < 0 + ((t0 : Int) + 1) then rm l A tr d k else 0) A.length + d := by
      intro d
      induction d with
      | zero =>
        intro _
        rw [tot_congr (g := fun k => if hpB l i (stA A k) = true ∧ 0 ≤ atA A k ∧ atA A k < 0 + ((t0 : Int) + 1) then rm l A tr 0 k else 0) fun k hk => by simp [rm, remT]]
        omega
      | succ d ih =>
        intro hd
        have ih := ih (by omega)
        have hx : tr[d]? = some (tr[d]'(by omega)) := List.getElem?_eq_getElem (by omega)
        generalize tr[d]'(by omega) = x at hx
        by_cases hxx : ∃ k : Nat, x = (k : Int) ∧ k < A.length ∧ (hpB l i (stA A k) = true ∧ 0 ≤ atA A k ∧ atA A k < 0 + ((t0 : Int) + 1))
        · obtain ⟨k0, rfl, hk0, hP⟩ := hxx
          have := tot_upd (f := fun k => if hpB l i (stA A k) = true ∧ 0 ≤ atA A k ∧ atA A k < 0 + ((t0 : Int) + 1) then rm l A tr d k else 0) (g := fun k => if hpB l i (stA A k) = true ∧ 0 ≤ atA A k ∧ atA A k < 0 + ((t0 : Int) + 1) then rm l A tr (d + 1) k else 0) (k0 := k0) (c := -1) hk0
            (fun k hk hne => by
              have := rm_succ (l := l) (a := A) hx k
              rw [if_neg (show ¬ (k0 : Int) = (k : Int) by omega)] at this
              simp only [this])
            (by
              have := rm_succ (l := l) (a := A) hx k0
              rw [if_pos rfl] at this
              simp only [this, if_pos hP]; omega)
          rw [this]; omega
        · rw [tot_congr (g := fun k => if hpB l i (stA A k) = true ∧ 0 ≤ atA A k ∧ atA A k < 0 + ((t0 : Int) + 1) then rm l A tr d k else 0) (f := fun k => if hpB l i (stA A k) = true ∧ 0 ≤ atA A k ∧ atA A k < 0 + ((t0 : Int) + 1) then rm l A tr (d + 1) k else 0) fun k hk => by
            by_cases hP : hpB l i (stA A k) = true ∧ 0 ≤ atA A k ∧ atA A k < 0 + ((t0 : Int) + 1)
            · have := rm_succ (l := l) (a := A) hx k
              rw [if_neg (fun hh => hxx ⟨k, hh, hk, hP⟩)] at this
              rw [if_pos hP, if_pos hP, this]
            · rw [if_neg hP, if_neg hP]]
          omega
    have hend := hsum (t0 + 1) (Nat.le_refl _)
    have hz : ∀ n, tot (fun _ => (0 : Int)) n = 0 := by
      intro n
      induction n with
      | zero => rfl
      | succ n ih => simp only [tot, ih]; rfl
    rw [tot_congr (f := fun k => if hpB l i (stA A k) = true ∧ 0 ≤ atA A k ∧ atA A k < 0 + ((t0 : Int) + 1) then rm l A tr (t0 + 1) k else 0) (g := fun _ => 0) fun k hk => by
      by_cases hP : hpB l i (stA A k) = true ∧ 0 ≤ atA A k ∧ atA A k < 0 + ((t0 : Int) + 1)
      · rw [if_pos hP, hdone k hk hP.1 hP.2.1 hP.2.2]
      · rw [if_neg hP], hz, work_streams hp i 0 ((t0 : Int) + 1) _ (Nat.le_refl _)] at hend
    have hdem : dem l i ((t0 : Int) + 1) ≤ (t0 : Int) + 1 := by
      rw [dem_tot hil (by omega) (by omega)]
      refine Int.le_trans (tot_mono fun k hk => ?_) (show _ ≤ (t0 : Int) + 1 by simpa using hend)
      by_cases hh : hpB l i k = true
      · rw [if_pos hh, if_pos hh]
        have hh2 := hh
        simp only [hpB, Bool.or_eq_true, decide_eq_true_eq] at hh2
        have := cntK_all h hp hk (hperI k hk).1 (hh2.symm) (t0 + 1) (by omega)
        rw [show (((t0 + 1 : Nat) : Int)) = (t0 : Int) + 1 by omega] at this
        exact Int.mul_le_mul_of_nonneg_left this (by have := (hperI k hk).2.2; omega)
      · rw [if_neg hh, if_neg hh]; exact Int.le_refl _
    obtain ⟨r, r1, r2, r3⟩ := fix_below hv (hperI i hil).2.2 (t0 + 1) (by omega) (by omega) (by rw [show (((t0 + 1 : Nat) : Int)) = (t0 : Int) + 1 by omega]; exact hdem)
    exact w4 r r1 (by omega) r3
  · omega
end Go.Proofs.Ytidnjppalebbfaa
