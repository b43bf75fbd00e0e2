/- Arrivals without some streams: in plain words. -/
import Derived.Test.YtidnjppalebbfaaA25
set_option linter.unusedSimpArgs false
set_option linter.unusedVariables false
namespace Go.Proofs.Ytidnjppalebbfaa
open Go Go.V Go.RowKit
def kept (keep : Nat → Bool) (x : Arr) : Bool := keep x.stream.toNat
/-- where an arrival lies among those that are kept -/
def pos (keep : Nat → Bool) (a : List Arr) (j : Nat) : Nat := ((a.take j).filter (kept keep)).length
theorem pos_get {keep : Nat → Bool} {a : List Arr} {j : Nat} {x : Arr} (hx : a[j]? = some x) (hk : kept keep x = true) : (a.filter (kept keep))[pos keep a j]? = some x := by
  have hj := (List.getElem?_eq_some_iff.1 hx).1
  have hxe : a[j] = x := by rw [List.getElem?_eq_getElem hj] at hx; exact Option.some.inj hx
  have e : a.filter (kept keep) = (a.take j).filter (kept keep) ++ (a.drop j).filter (kept keep) := by rw [← List.filter_append, List.take_append_drop]
  unfold pos
  rw [e, List.getElem?_append_right (Nat.le_refl _)]
  rw [Nat.sub_self, List.drop_eq_getElem_cons hj, hxe, List.filter_cons_of_pos hk]; rfl
theorem pos_mono {keep : Nat → Bool} {a : List Arr} {i j : Nat} {x : Arr} (hij : i < j) (hx : a[i]? = some x) (hk : kept keep x = true) : pos keep a i < pos keep a j := by
  have hi := (List.getElem?_eq_some_iff.1 hx).1
  have hxe : a[i] = x := by rw [List.getElem?_eq_getElem hi] at hx; exact Option.some.inj hx
  have e : a.take j = a.take i ++ (a.drop i).take (j - i) := by
    rw [← List.take_append_drop i (a.take j), List.take_take, Nat.min_eq_left (by omega), List.drop_take]
  unfold pos
  rw [e, List.filter_append, List.length_append, List.drop_eq_getElem_cons hi, hxe, show j - i = (j - i - 1) + 1 by omega, List.take_succ_cons, List.filter_cons_of_pos hk]
  simp
theorem pos_surj {keep : Nat → Bool} : ∀ (a : List Arr) (m : Nat) (x : Arr), (a.filter (kept keep))[m]? = some x → ∃ j, a[j]? = some x ∧ kept keep x = true ∧ pos keep a j = m
  | [], m, x, h => by simp at h
  | y :: r, m, x, h => by
    by_cases hy : kept keep y = true
    · rw [List.filter_cons_of_pos hy] at h
      cases m with
      | zero =>
        simp at h; subst h
        exact ⟨0, rfl, hy, by simp [pos]⟩
      | succ m =>
        simp only [List.getElem?_cons_succ] at h
        obtain ⟨j, h1, h2, h3⟩ := pos_surj r m x h
        refine ⟨j + 1, by simpa using h1, h2, ?_⟩
        unfold pos at h3 ⊢
        rw [List.take_succ_cons, List.filter_cons_of_pos hy, List.length_cons, h3]
    · rw [List.filter_cons_of_neg hy] at h
      obtain ⟨j, h1, h2, h3⟩ := pos_surj r m x h
      refine ⟨j + 1, by simpa using h1, h2, ?_⟩
      unfold pos at h3 ⊢
      rw [List.take_succ_cons, List.filter_cons_of_neg hy, h3]
theorem ProperP.filter {l : List Stream} {a : List Arr} (hp : ProperP l a) (keep : Nat → Bool) : ProperP l (a.filter (kept keep)) := by
  refine ⟨hp.valid, Nat.le_trans (List.length_filter_le _ _) hp.len, fun m x hx => ?_⟩
  obtain ⟨j, h1, h2, h3⟩ := pos_surj a m x hx
  have hj := hp.all j x h1
  have low : ∀ m' y, m' < m → (a.filter (kept keep))[m']? = some y → ∃ j', j' < j ∧ a[j']? = some y := fun m' y hm hy => by
    obtain ⟨j', g1, g2, g3⟩ := pos_surj a m' y hy
    refine ⟨j', ?_, g1⟩
    rcases Nat.lt_trichotomy j' j with h | h | h
    · exact h
    · subst h; omega
    · have := pos_mono h h1 h2; omega
  refine ⟨hj.s, hj.t, fun m' y hm hy => ?_, fun m' y s hm hy he hs => ?_⟩
  · obtain ⟨j', g1, g2⟩ := low m' y hm hy
    exact hj.ord j' y g1 g2
  · obtain ⟨j', g1, g2⟩ := low m' y hm hy
    exact hj.gap j' y s g1 g2 he hs
section
variable {l : List Stream} {a : List Arr} {keep : Nat → Bool} {tr f tr' g : List Int}
theorem pos_facts {j : Nat} (hj : j < a.length) (hk : keep (stA a j) = true) : pos keep a j < (a.filter (kept keep)).length ∧ stA (a.filter (kept keep)) (pos keep a j) = stA a j ∧ atA (a.filter (kept keep)) (pos keep a j) = atA a j ∧ szA l (a.filter (kept keep)) (pos keep a j) = szA l a j := by
  have hx : a[j]? = some a[j] := List.getElem?_eq_getElem hj
  have hst : stA a j = a[j].stream.toNat := by simp [stA, List.getD_eq_getElem?_getD, hx]
  have h := pos_get hx (by unfold kept; rw [← hst]; exact hk)
  have e1 : stA (a.filter (kept keep)) (pos keep a j) = stA a j := by simp [stA, List.getD_eq_getElem?_getD, h, hx]
  refine ⟨(List.getElem?_eq_some_iff.1 h).1, e1, by simp [atA, List.getD_eq_getElem?_getD, h, hx], by unfold szA; rw [e1]⟩
theorem pos_back {m : Nat} (hm : m < (a.filter (kept keep)).length) : ∃ j, j < a.length ∧ keep (stA a j) = true ∧ pos keep a j = m := by
  obtain ⟨j, h1, h2, h3⟩ := pos_surj a m _ (List.getElem?_eq_getElem hm)
  have hst : stA a j = (a.filter (kept keep))[m].stream.toNat := by simp [stA, List.getD_eq_getElem?_getD, h1]
  exact ⟨j, (List.getElem?_eq_some_iff.1 h1).1, by rw [hst]; exact h2, h3⟩
theorem pos_lt {i j : Nat} (hi : i < a.length) (hj : j < a.length) (hki : keep (stA a i) = true) (hkj : keep (stA a j) = true) : pos keep a i < pos keep a j ↔ i < j := by
  have mono : ∀ {i j : Nat}, i < a.length → keep (stA a i) = true → i < j → pos keep a i < pos keep a j := fun {i j} hi hk hij => by
    have hx : a[i]? = some a[i] := List.getElem?_eq_getElem hi
    have hst : stA a i = a[i].stream.toNat := by simp [stA, List.getD_eq_getElem?_getD, hx]
    exact pos_mono hij hx (by unfold kept; rw [← hst]; exact hk)
  refine ⟨fun h => ?_, mono hi hki⟩
  rcases Nat.lt_trichotomy i j with h' | h' | h'
  · exact h'
  · subst h'; omega
  · have := mono hj hkj h'; omega
theorem rm_end {t : Nat} (lo : LineOk l a tr f) (ht : tr.length ≤ t) {j : Nat} (hj : j < a.length) : rm l a tr t j = 0 := by
  unfold rm; rw [List.take_of_length_le ht]; exact lo.done j hj
theorem step_at (lo : LineOk l a tr f) {t : Nat} (ht : t < tr.length) : StepOk l a (tr.take t) (tr[t]'ht) ∧ ((tr.take t).length : Int) = t :=
  ⟨lo.step t _ (List.getElem?_eq_getElem ht), by rw [List.length_take]; omega⟩
/-- without some streams nothing is behind -/
theorem without_le (hp : ProperP l a) (lo : LineOk l a tr f) (lo' : LineOk l (a.filter (kept keep)) tr' g) : ∀ (t j : Nat), j < a.length → keep (stA a j) = true → rm l (a.filter (kept keep)) tr' t (pos keep a j) ≤ rm l a tr t j := by
  have hp' := hp.filter keep
  intro t
  induction t with
  | zero =>
    intro j hj hk
    obtain ⟨q1, q2, q3, q4⟩ := pos_facts (l := l) hj hk
    have e1 : rm l (a.filter (kept keep)) tr' 0 (pos keep a j) = szA l (a.filter (kept keep)) (pos keep a j) := by simp [rm, remT]
    have e2 : rm l a tr 0 j = szA l a j := by simp [rm, remT]
    rw [e1, e2, q4]; exact Int.le_refl _
  | succ t ih =>
    intro j hj hk
    have ihj := ih j hj hk
    obtain ⟨q1, q2, q3, q4⟩ := pos_facts (l := l) hj hk
    have hmb := rm_mono (l := l) (a := a.filter (kept keep)) (tr := tr') (show t ≤ t + 1 by omega) (pos keep a j)
    rcases Nat.lt_or_ge t tr.length with ht | ht
    · have hx : tr[t]? = some tr[t] := List.getElem?_eq_getElem ht
      have hs := rm_succ (l := l) (a := a) hx j
      by_cases hxj : tr[t] = (j : Int)
      · rw [if_pos hxj] at hs
        by_cases heq : rm l (a.filter (kept keep)) tr' t (pos keep a j) ≤ rm l a tr t j - 1
        · omega
        · -- both wait; the best of all is the best of those that are kept
          obtain ⟨hst, htl⟩ := step_at lo ht
          have hbest : IsBest l a t (remT l a (tr.take t)) j := by
            unfold StepOk at hst
            rw [htl] at hst
            rcases hst with ⟨h, _⟩ | ⟨j', h, hb⟩
            · omega
            · obtain rfl : j = j' := by omega
              exact hb
          have hleft := hbest.left
          have hpos : 0 < rm l (a.filter (kept keep)) tr' t (pos keep a j) := by unfold rm at heq ⊢; omega
          have htb : t < tr'.length := by
            apply Classical.byContradiction
            intro hnt
            have := rm_end lo' (t := t) (by omega) q1
            omega
          obtain ⟨hst', htl'⟩ := step_at lo' htb
          have hx' : tr'[t]? = some tr'[t] := List.getElem?_eq_getElem htb
          unfold StepOk at hst'
          rw [htl'] at hst'
          have hne : remT l (a.filter (kept keep)) (tr'.take t) (pos keep a j) ≠ 0 := by unfold rm at hpos; omega
          rcases hst' with ⟨_, hidle, _⟩ | ⟨y', hy', hb'⟩
          · exact absurd (hidle _ q1 (by rw [q3]; exact hbest.at_)) hne
          · by_cases hyj : y' = pos keep a j
            · have hs' := rm_succ (l := l) (a := a.filter (kept keep)) hx' (pos keep a j)
              rw [if_pos (by rw [hy', hyj])] at hs'
              omega
            · exfalso
              obtain ⟨y, hy, hyk, hyp⟩ := pos_back hb'.lt
              obtain ⟨p1, p2, p3, p4⟩ := pos_facts (l := l) hy hyk
              have hf1 := hb'.first (pos keep a j) q1 (by rw [q3]; exact hbest.at_) hne (fun h => hyj h.symm)
              have hat := hb'.at_
              have hlf := hb'.left
              subst hyp
              have hiy := ih y hy hyk
              have hyj' : y ≠ j := fun h => hyj (by rw [h])
              have hf2 := hbest.first y hy (by rw [← p3]; exact hat) (by unfold rm at hiy; omega) hyj'
              rw [p2, q2] at hf1
              obtain ⟨_, _, _, _, hsy, _⟩ := proper_at hp hy
              obtain ⟨_, _, _, _, hsj, _⟩ := proper_at hp hj
              rw [beforeB_iff hsy hsj, pos_lt hy hj hyk hk] at hf1
              rw [beforeB_iff hsj hsy] at hf2
              by_cases hss : stA a y = stA a j
              · have : (l[stA a y]'hsy).cls = (l[stA a j]'hsj).cls := by simp only [hss]
                omega
              · omega
      · rw [if_neg hxj] at hs
        omega
    · have h1 := rm_end lo (t := t) (by omega) hj
      have h2 := rm_end lo (t := t + 1) (by omega) hj
      omega
/-- where what is kept is closed upwards, nothing changes -/
theorem without_eq (hp : ProperP l a) (lo : LineOk l a tr f) (lo' : LineOk l (a.filter (kept keep)) tr' g) (hup : ∀ y z, y < l.length → z < l.length → keep y = true → beforeB l z y = true → keep z = true) : ∀ (t j : Nat), j < a.length → keep (stA a j) = true → rm l (a.filter (kept keep)) tr' t (pos keep a j) = rm l a tr t j := by
  intro t
  induction t with
  | zero =>
    intro j hj hk
    obtain ⟨q1, q2, q3, q4⟩ := pos_facts (l := l) hj hk
    have e1 : rm l (a.filter (kept keep)) tr' 0 (pos keep a j) = szA l (a.filter (kept keep)) (pos keep a j) := by simp [rm, remT]
    have e2 : rm l a tr 0 j = szA l a j := by simp [rm, remT]
    rw [e1, e2, q4]
  | succ t ih =>
    intro j hj hk
    have hle := without_le hp lo lo' (t + 1) j hj hk
    have ihj := ih j hj hk
    obtain ⟨q1, q2, q3, q4⟩ := pos_facts (l := l) hj hk
    have hma := rm_mono (l := l) (a := a) (tr := tr) (show t ≤ t + 1 by omega) j
    rcases Nat.lt_or_ge t tr'.length with ht | ht
    · have hx : tr'[t]? = some tr'[t] := List.getElem?_eq_getElem ht
      have hs := rm_succ (l := l) (a := a.filter (kept keep)) hx (pos keep a j)
      by_cases hxj : tr'[t] = ((pos keep a j : Nat) : Int)
      · rw [if_pos hxj] at hs
        obtain ⟨hst, htl⟩ := step_at lo' ht
        have hbest : IsBest l (a.filter (kept keep)) t (remT l (a.filter (kept keep)) (tr'.take t)) (pos keep a j) := by
          unfold StepOk at hst
          rw [htl] at hst
          rcases hst with ⟨h, _⟩ | ⟨j', h, hb⟩
          · omega
          · have : pos keep a j = j' := by omega
            rw [this]; exact hb
        have hleft := hbest.left
        have hpos : 0 < rm l a tr t j := by unfold rm at ihj ⊢; omega
        have hta : t < tr.length := by
          apply Classical.byContradiction
          intro hnt
          have := rm_end lo (t := t) (by omega) hj
          omega
        obtain ⟨hst', htl'⟩ := step_at lo hta
        have hx' : tr[t]? = some tr[t] := List.getElem?_eq_getElem hta
        unfold StepOk at hst'
        rw [htl'] at hst'
        have hne : remT l a (tr.take t) j ≠ 0 := by unfold rm at hpos; omega
        rcases hst' with ⟨_, hidle, _⟩ | ⟨z, hz, hb'⟩
        · exact absurd (hidle j hj (by rw [← q3]; exact hbest.at_)) hne
        · by_cases hzj : z = j
          · have hs' := rm_succ (l := l) (a := a) hx' j
            rw [if_pos (by rw [hz, hzj])] at hs'
            omega
          · exfalso
            have hzl := hb'.lt
            obtain ⟨_, _, _, _, hsz, _⟩ := proper_at hp hzl
            obtain ⟨_, _, _, _, hsj, _⟩ := proper_at hp hj
            have hf1 := hb'.first j hj (by rw [← q3]; exact hbest.at_) hne (fun h => hzj h.symm)
            have hzk : keep (stA a z) = true := by
              rcases hf1 with h | h
              · exact hup _ _ hsj hsz hk h
              · rw [← h.1]; exact hk
            obtain ⟨p1, p2, p3, p4⟩ := pos_facts (l := l) hzl hzk
            have hiz := ih z hzl hzk
            have hlf := hb'.left
            have hpne : pos keep a z ≠ pos keep a j := fun h => by
              rcases Nat.lt_trichotomy z j with h' | h' | h'
              · have := (pos_lt hzl hj hzk hk).2 h'; omega
              · exact hzj h'
              · have := (pos_lt hj hzl hk hzk).2 h'; omega
            have hf2 := hbest.first (pos keep a z) p1 (by rw [p3]; exact hb'.at_) (by unfold rm at hiz; omega) hpne
            rw [p2, q2, pos_lt hj hzl hk hzk] at hf2
            rw [beforeB_iff hsz hsj] at hf1
            rw [beforeB_iff hsj hsz] at hf2
            by_cases hss : stA a z = stA a j
            · have : (l[stA a z]'hsz).cls = (l[stA a j]'hsj).cls := by simp only [hss]
              omega
            · omega
      · rw [if_neg hxj] at hs
        omega
    · have h1 := rm_end lo' (t := t) (by omega) q1
      have h2 := lo.nonneg hj (t + 1)
      have h3 := rm_end lo' (t := t + 1) (by omega) q1
      omega
theorem without_fin (hp : ProperP l a) (lo : LineOk l a tr f) (lo' : LineOk l (a.filter (kept keep)) tr' g) {j : Nat} (hj : j < a.length) (hk : keep (stA a j) = true) : ∃ u v, f[j]? = some u ∧ g[pos keep a j]? = some v ∧ v ≤ u ∧
    ((∀ y z, y < l.length → z < l.length → keep y = true → beforeB l z y = true → keep z = true) → u = v) := by
  obtain ⟨q1, q2, q3, q4⟩ := pos_facts (l := l) hj hk
  obtain ⟨t0, hf, _, _, h3, h4⟩ := lo.fin j hj
  obtain ⟨t1, hg, _, _, g3, g4⟩ := lo'.fin _ q1
  refine ⟨_, _, hf, hg, ?_, fun hup => ?_⟩
  · apply Classical.byContradiction
    intro hlt
    have e1 := h3 (t0 + 1) (by omega)
    have e2 := g4 (t0 + 1) (by omega)
    have := without_le hp lo lo' (t0 + 1) j hj hk
    unfold rm at this
    omega
  · rcases Nat.lt_trichotomy t0 t1 with h | h | h
    · have e1 := h3 (t0 + 1) (by omega)
      have e2 := g4 (t0 + 1) (by omega)
      have := without_eq hp lo lo' hup (t0 + 1) j hj hk
      unfold rm at this
      omega
    · rw [h]
    · have e1 := g3 (t1 + 1) (by omega)
      have e2 := h4 (t1 + 1) (by omega)
      have := without_eq hp lo lo' hup (t1 + 1) j hj hk
      unfold rm at this
      omega
end
end Go.Proofs.Ytidnjppalebbfaa
