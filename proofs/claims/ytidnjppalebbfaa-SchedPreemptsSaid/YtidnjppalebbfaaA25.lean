/- No arrival is finished later than the response of its stream says: in plain words, second part. -/
import Derived.Test.YtidnjppalebbfaaA24
set_option linter.unusedSimpArgs false
set_option linter.unusedVariables false
namespace Go.Proofs.Ytidnjppalebbfaa
open Go Go.V Go.RowKit
section
variable {l : List Stream} {a : List Arr} {tr f : List Int}
/-- streams that do not come after s -/
def hpB (l : List Stream) (s k : Nat) : Bool := beforeB l k s || decide (k = s)
theorem demF_tot (s0 : Int) (bf : List Stream) (r : Int) : demF s0 bf r = s0 + tot (fun k => (bf.getD k ⟨0, 0, 0⟩).size * ((r + (bf.getD k ⟨0, 0, 0⟩).period - 1) / (bf.getD k ⟨0, 0, 0⟩).period)) bf.length := by
  have : ∀ n, n ≤ bf.length → demF s0 (bf.take n) r = s0 + tot (fun k => (bf.getD k ⟨0, 0, 0⟩).size * ((r + (bf.getD k ⟨0, 0, 0⟩).period - 1) / (bf.getD k ⟨0, 0, 0⟩).period)) n := by
    intro n
    induction n with
    | zero => intro _; simp [demF, tot]
    | succ n ih =>
      intro hn
      have hx : bf.getD n ⟨0, 0, 0⟩ = bf[n] := by rw [List.getD_eq_getElem?_getD, List.getElem?_eq_getElem (by omega)]; rfl
      rw [List.take_succ_eq_append_getElem (by omega), demF_snoc, ih (by omega)]
      simp only [tot, hx]; omega
  have h := this bf.length (Nat.le_refl _)
  rwa [List.take_length] at h
theorem befS_getD {l : List Stream} {s k : Nat} (hk : k < l.length) : (befS l s).getD k ⟨0, 0, 0⟩ = if beforeB l k s then l[k] else ⟨l[k].cls, 0, l[k].period⟩ := by
  rw [List.getD_eq_getElem?_getD]
  simp [befS, List.getElem?_mapIdx, List.getElem?_eq_getElem hk]
theorem dem_tot {s : Nat} {r : Int} (hs : s < l.length) (hr : 1 ≤ r) (hp : r ≤ perL l s) : dem l s r = tot (fun k => if hpB l s k then szL l k * ((r + perL l k - 1) / perL l k) else 0) l.length := by
  unfold dem
  rw [demF_tot, show (befS l s).length = l.length by simp [befS]]
  have hone : (r + perL l s - 1) / perL l s = 1 := by
    refine Int.le_antisymm ?_ ?_
    · refine Int.lt_add_one_iff.1 ((Int.ediv_lt_iff_lt_mul (by omega)).2 ?_)
      omega
    · exact (Int.le_ediv_iff_mul_le (by omega)).2 (by omega)
  have hnot : beforeB l s s = false := by
    cases h : beforeB l s s with
    | false => rfl
    | true => rw [beforeB_iff hs hs] at h; omega
  have := tot_upd (f := fun k => ((befS l s).getD k ⟨0, 0, 0⟩).size * ((r + ((befS l s).getD k ⟨0, 0, 0⟩).period - 1) / ((befS l s).getD k ⟨0, 0, 0⟩).period)) (g := fun k => if hpB l s k then szL l k * ((r + perL l k - 1) / perL l k) else 0) (k0 := s) (c := szL l s) hs (fun k hk hne => ?_) ?_
  · rw [this]; omega
  · simp only [befS_getD hk, hpB, hne, decide_false, Bool.or_false]
    have e1 : szL l k = l[k].size := by unfold szL; rw [List.getD_eq_getElem?_getD, List.getElem?_eq_getElem hk]; rfl
    have e2 : perL l k = l[k].period := by unfold perL; rw [List.getD_eq_getElem?_getD, List.getElem?_eq_getElem hk]; rfl
    rw [e1, e2]
    split <;> simp
  · simp only [befS_getD hs, hpB, hnot, decide_true, Bool.or_true, if_true, hone]
    simp
/-- the work of a window, by streams -/
theorem work_streams (hp : ProperP l a) (s : Nat) (t0 r : Int) : ∀ m, m ≤ a.length →
    tot (fun j => if hpB l s (stA a j) = true ∧ t0 ≤ atA a j ∧ atA a j < t0 + r then szA l a j else 0) m = tot (fun k => if hpB l s k then szL l k * cntK a t0 r k m else 0) l.length := by
  intro m
  induction m with
  | zero =>
    intro _
    have z : ∀ n, tot (fun _ => (0 : Int)) n = 0 := by
      intro n
      induction n with
      | zero => rfl
      | succ n ih => simp only [tot, ih]; rfl
    have this : tot (fun k => if hpB l s k then szL l k * cntK a t0 r k 0 else 0) l.length = 0 := by
      rw [tot_congr (g := fun _ => 0) fun k hk => by simp only [cntK]; split <;> simp, z]
    rw [this]; rfl
  | succ m ih =>
    intro hm
    have ih := ih (by omega)
    have hst := (proper_at hp (show m < a.length by omega))
    obtain ⟨x, _, _, _, hsl, _⟩ := hst
    simp only [tot]
    by_cases hw : hpB l s (stA a m) = true ∧ t0 ≤ atA a m ∧ atA a m < t0 + r
    · rw [if_pos hw, ih]
      refine (tot_upd (k0 := stA a m) hsl (fun k hk hne => ?_) ?_).symm
      · simp only [cntK, if_neg (show ¬ (stA a m = k ∧ t0 ≤ atA a m ∧ atA a m < t0 + r) from fun h => hne h.1.symm), Int.add_zero]
      · have e : cntK a t0 r (stA a m) (m + 1) = cntK a t0 r (stA a m) m + 1 := by
          rw [cntK, if_pos (show stA a m = stA a m ∧ t0 ≤ atA a m ∧ atA a m < t0 + r from ⟨rfl, hw.2⟩)]
        show (if hpB l s (stA a m) = true then szL l (stA a m) * cntK a t0 r (stA a m) (m + 1) else 0) = (if hpB l s (stA a m) = true then szL l (stA a m) * cntK a t0 r (stA a m) m else 0) + szA l a m
        rw [if_pos hw.1, if_pos hw.1, e, Int.mul_add, Int.mul_one]; rfl
    · rw [if_neg hw, ih, Int.add_zero]
      refine tot_congr fun k hk => ?_
      simp only [cntK]
      by_cases hk2 : stA a m = k ∧ t0 ≤ atA a m ∧ atA a m < t0 + r
      · have : hpB l s k = false := by
          cases h : hpB l s k with
          | false => rfl
          | true => exact absurd ⟨hk2.1 ▸ h, hk2.2⟩ hw
        rw [this]; simp
      · rw [if_neg hk2, Int.add_zero]
theorem work_bound (hp : ProperP l a) {s : Nat} {t0 r : Int} (hs : s < l.length) (hr : 1 ≤ r) (hper : r ≤ perL l s) :
    tot (fun j => if hpB l s (stA a j) = true ∧ t0 ≤ atA a j ∧ atA a j < t0 + r then szA l a j else 0) a.length ≤ dem l s r := by
  rw [work_streams hp s t0 r _ (Nat.le_refl _), dem_tot hs hr hper]
  refine tot_mono fun k hk => ?_
  have hv := (valid_at hp.valid).2 k l[k] (List.getElem?_eq_getElem hk)
  have e1 : szL l k = l[k].size := by unfold szL; rw [List.getD_eq_getElem?_getD, List.getElem?_eq_getElem hk]; rfl
  have e2 : perL l k = l[k].period := by unfold perL; rw [List.getD_eq_getElem?_getD, List.getElem?_eq_getElem hk]; rfl
  have := cntK_bound hp (k := k) (t0 := t0) hr (by rw [e2]; omega) a.length (Nat.le_refl _)
  split
  · exact Int.mul_le_mul_of_nonneg_left this.2 (by rw [e1]; omega)
  · omega
theorem exists_last {P : Nat → Prop} (h0 : P 0) : ∀ n : Nat, ∃ m, m ≤ n ∧ P m ∧ ∀ k, m < k → k ≤ n → ¬ P k
  | 0 => ⟨0, Nat.le_refl _, h0, by omega⟩
  | n + 1 => by
    by_cases h : P (n + 1)
    · exact ⟨n + 1, Nat.le_refl _, h, by omega⟩
    · obtain ⟨m, h1, h2, h3⟩ := exists_last h0 n
      refine ⟨m, by omega, h2, fun k hk hkn => ?_⟩
      by_cases he : k = n + 1
      · subst he; exact h
      · exact h3 k hk (by omega)
theorem hpB_trans {s i j : Nat} (hi : i < l.length) (hj : j < l.length) (hs : s < l.length) (h1 : beforeB l j i = true ∨ i = j) (h2 : hpB l s i = true) : hpB l s j = true := by
  simp only [hpB, Bool.or_eq_true, decide_eq_true_eq] at h2 ⊢
  rcases h1 with h1 | rfl
  · rcases h2 with h2 | rfl
    · rw [beforeB_iff hj hi] at h1
      rw [beforeB_iff hi hs] at h2
      left
      rw [beforeB_iff hj hs]; omega
    · exact .inl h1
  · exact h2
theorem latest (hp : ProperP l a) (lo : LineOk l a tr f) {i : Nat} (hi : i < a.length) {w : Int} (hw : RespP l (stA a i) w) : ∃ v, f[i]? = some v ∧ atA a i + szA l a i ≤ v ∧ (0 ≤ w → v ≤ atA a i + w) := by
  obtain ⟨t0, hf, ht1, ht2, ht3, ht4⟩ := lo.fin i hi
  obtain ⟨xi, hxi, haxi, hsxi, hsl, hat0⟩ := proper_at hp hi
  refine ⟨(t0 : Int) + 1, hf, ?_, fun hw0 => ?_⟩
  · have hz := ht3 (t0 + 1) (by omega)
    have h1 := szA_range hp hi
    have := lo.atleast hi (by omega) (t0 + 1)
    unfold rm at this
    rw [hz] at this
    omega
  · rcases hw with ⟨w1, w2, w3, w4⟩ | ⟨w1, _⟩
    · apply Classical.byContradiction
      intro hcon
      have hsz1 : 1 ≤ szL l (stA a i) := (szA_range hp hi).1
      have htl := (List.getElem?_eq_some_iff.1 ht1).1
      -- the last moment at which all that came before was done
      obtain ⟨tc, hc1, hc2, hc3⟩ := exists_last (P := fun t : Nat => ∀ j, j < a.length → hpB l (stA a i) (stA a j) = true → atA a j < t → rm l a tr t j = 0) (fun j hj _ h => by
        obtain ⟨x, _, hax, _, _, h0⟩ := proper_at hp hj
        omega) (atA a i).toNat
      have hdown : ∀ t t' j, j < a.length → t ≤ t' → rm l a tr t j = 0 → rm l a tr t' j = 0 := fun t t' j hj htt h => by
        have h1 := rm_mono (l := l) (a := a) (tr := tr) htt j
        have h2 := lo.nonneg hj t'
        omega
      have hi1 : ∀ t, t ≤ t0 → 1 ≤ rm l a tr t i := fun t ht => ht4 t ht
      have claimA : ∀ t, tc ≤ t → (t : Int) < tc + w → ∃ j : Nat, tr[t]? = some (j : Int) ∧ j < a.length ∧ hpB l (stA a i) (stA a j) = true ∧ (tc : Int) ≤ atA a j ∧ atA a j ≤ t := fun t h1 h2 => by
        have htt : t < tr.length := by omega
        have hx : tr[t]? = some tr[t] := List.getElem?_eq_getElem htt
        have hstep := lo.step t _ hx
        have htk : (tr.take t).length = t := by rw [List.length_take]; omega
        unfold StepOk at hstep
        rw [htk] at hstep
        -- someone of those streams waits
        have hwait : ∃ k, k < a.length ∧ hpB l (stA a i) (stA a k) = true ∧ atA a k ≤ t ∧ rm l a tr t k ≠ 0 := by
          by_cases hti : atA a i ≤ t
          · exact ⟨i, hi, by simp [hpB], hti, by have := hi1 t (by omega); omega⟩
          · have hn := hc3 (t + 1) (by omega) (by omega)
            apply Classical.byContradiction
            intro hno
            refine hn fun j hj hjh hja => ?_
            apply Classical.byContradiction
            intro hne
            refine hno ⟨j, hj, hjh, by omega, fun h0 => hne (hdown t (t + 1) j hj (by omega) h0)⟩
        obtain ⟨k, hk, hkh, hka, hk0⟩ := hwait
        rcases hstep with ⟨_, hidle, _⟩ | ⟨j, hj, hb⟩
        · exact absurd (hidle k hk hka) hk0
        · have hjl := hb.lt
          obtain ⟨_, _, _, _, hslk, _⟩ := proper_at hp hk
          obtain ⟨_, _, _, _, hslj, _⟩ := proper_at hp hjl
          have hjh : hpB l (stA a i) (stA a j) = true := by
            by_cases hkj : k = j
            · subst hkj; exact hkh
            · have := hb.first k hk hka hk0 hkj
              refine hpB_trans hslk hslj hsl ?_ hkh
              rcases this with h | h
              · exact .inl h
              · exact .inr h.1
          refine ⟨j, by rw [hx, hj], hjl, hjh, ?_, hb.at_⟩
          apply Classical.byContradiction
          intro hlt
          have h0 := hdown tc t j hjl h1 (hc2 j hjl hjh (by omega))
          have := hb.left
          unfold rm at h0
          omega
      -- the work of the window
      have hsum : ∀ d : Nat, (d : Int) ≤ w → tot (fun j => if hpB l (stA a i) (stA a j) = true ∧ (tc : Int) ≤ atA a j ∧ atA a j < tc + w then rm l a tr (tc + d) j else 0) a.length ≤ dem l (stA a i) w - d := by
        intro d
        induction d with
        | zero =>
          intro _
          have := work_bound hp (t0 := (tc : Int)) hsl (show 1 ≤ w by omega) w2
          rw [tot_congr (g := fun j => if hpB l (stA a i) (stA a j) = true ∧ (tc : Int) ≤ atA a j ∧ atA a j < tc + w then szA l a j else 0) fun j hj => by
            by_cases hP : hpB l (stA a i) (stA a j) = true ∧ (tc : Int) ≤ atA a j ∧ atA a j < tc + w
            · rw [if_pos hP, if_pos hP, Nat.add_zero, lo.before hj tc hP.2.1]
            · rw [if_neg hP, if_neg hP]]
          omega
        | succ d ih =>
          intro hd
          have ih := ih (by omega)
          obtain ⟨j, hj1, hj2, hj3, hj4, hj5⟩ := claimA (tc + d) (by omega) (by omega)
          have := tot_upd (f := fun j => if hpB l (stA a i) (stA a j) = true ∧ (tc : Int) ≤ atA a j ∧ atA a j < tc + w then rm l a tr (tc + d) j else 0) (g := fun j => if hpB l (stA a i) (stA a j) = true ∧ (tc : Int) ≤ atA a j ∧ atA a j < tc + w then rm l a tr (tc + (d + 1)) j else 0) (k0 := j) (c := -1) hj2
            (fun k hk hne => by
              have := rm_succ (l := l) (a := a) hj1 k
              rw [if_neg (show ¬ (j : Int) = (k : Int) by omega)] at this
              show (if _ then rm l a tr (tc + (d + 1)) k else 0) = _
              rw [show tc + (d + 1) = tc + d + 1 by omega, this])
            (by
              have := rm_succ (l := l) (a := a) hj1 j
              rw [if_pos rfl] at this
              have hP : hpB l (stA a i) (stA a j) = true ∧ (tc : Int) ≤ atA a j ∧ atA a j < tc + w := ⟨hj3, hj4, by omega⟩
              show (if _ then rm l a tr (tc + (d + 1)) j else 0) = (if _ then rm l a tr (tc + d) j else 0) + -1
              rw [if_pos hP, if_pos hP, show tc + (d + 1) = tc + d + 1 by omega, this]; omega)
          rw [this]
          omega
      have hend := hsum w.toNat (by omega)
      rw [w3] at hend
      have hzero : ∀ j, j < a.length → hpB l (stA a i) (stA a j) = true → atA a j < ((tc + w.toNat : Nat) : Int) → rm l a tr (tc + w.toNat) j = 0 := fun j hj hjh hja => by
        by_cases hlow : atA a j < tc
        · exact hdown tc _ j hj (by omega) (hc2 j hj hjh hlow)
        · apply Classical.byContradiction
          intro hne
          have hpos := tot_pos (rem := fun j => if hpB l (stA a i) (stA a j) = true ∧ (tc : Int) ≤ atA a j ∧ atA a j < tc + w then rm l a tr (tc + w.toNat) j else 0) (n := a.length) (fun k hk => by
            split
            · exact lo.nonneg hk _
            · exact Int.le_refl _) ⟨j, hj, by
            rw [if_pos ⟨hjh, by omega, by omega⟩]; exact hne⟩
          omega
      by_cases hlast : tc + w.toNat ≤ (atA a i).toNat
      · exact hc3 (tc + w.toNat) (by omega) hlast hzero
      · have h1 := hzero i hi (by simp [hpB]) (by omega)
        have h2 := hi1 (tc + w.toNat) (by omega)
        omega
    · omega
end
end Go.Proofs.Ytidnjppalebbfaa
