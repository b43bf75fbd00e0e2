/- Contracts of the reference's functions: Valid, Proper. -/
import Derived.Test.YtidnjppalebbfaaG
import Derived.Test.YtidnjppalebbfaaA23
set_option linter.unusedSimpArgs false
set_option linter.unusedVariables false
namespace Go.Proofs.Ytidnjppalebbfaa
open Go Go.V Go.RowKit
section
variable {k : Value → World → Prop} {w : World}
theorem validS_of {l : List Stream} (h8 : 1 ≤ (l.length : Int) ∧ (l.length : Int) ≤ 8) (h : ∀ (j : Nat) x, j < l.length → l[j]? = some x → wrongS x = false) : validS l = true := by
  unfold validS
  rw [decide_eq_true h8, Bool.true_and, Bool.not_eq_true', List.any_eq_false]
  intro x hx
  obtain ⟨j, hj, rfl⟩ := List.getElem_of_mem hx
  rw [h j _ hj (List.getElem?_eq_getElem hj)]
  simp
theorem validS_not {l : List Stream} {j : Nat} {x : Stream} (hx : l[j]? = some x) (h : wrongS x = true) : validS l = false := by
  unfold validS
  have : l.any wrongS = true := List.any_eq_true.2 ⟨x, List.mem_of_getElem? hx, h⟩
  rw [this]; simp
theorem c16 {v : Value} {l : List Stream} (hs : IsSl fS w v l) (h : k (.bool (validS l)) w) : callW Try.prog (.func (.func 16) #[] #[]) #[v] k w := C16 _ _ _ (by
  unfold S16
  refine (len22 hs).mpr (c36 ?_)
  rw [w_not]
  by_cases h8 : 1 ≤ (l.length : Int) ∧ (l.length : Int) ≤ 8
  · rw [decide_eq_true h8, Bool.not_true, condW_false]
    refine Loop1.intro (fun n c w' => w' = w ∧ ∃ i : Nat, c = I i ∧ i ≤ l.length ∧ n = l.length - i ∧ ∀ (j : Nat) x, j < i → l[j]? = some x → wrongS x = false) _ ⟨rfl, 0, rfl, by omega, rfl, by omega⟩ ?_
    rintro n _ w' ⟨rfl, i, rfl, hi, rfl, hall⟩
    refine (len22 hs).mpr ?_
    rw [w_lss]
    by_cases hlt : i < l.length
    · rw [decide_eq_true (by omega), condW_true]
      obtain ⟨x, hx⟩ : ∃ x, l[i]? = some x := ⟨_, List.getElem?_eq_getElem hlt⟩
      rw [nw22_0 rfl hs hx rfl]
      refine c36 ?_
      rw [w_not]
      have bad : wrongS x = true → k (.bool false) w' := fun hw => by rw [validS_not hx hw] at h; exact h
      by_cases d1 : 1 ≤ x.cls ∧ x.cls ≤ 3
      · rw [decide_eq_true d1]
        simp only [Bool.not_true, guardW_ff]
        rw [nw22_1 rfl hs hx rfl]
        refine c36 ?_
        rw [w_not]
        by_cases d2 : 1 ≤ x.size ∧ x.size ≤ 50
        · rw [decide_eq_true d2]
          simp only [Bool.not_true, pickW_false, guardW_ff]
          rw [nw22_2 rfl hs hx rfl]
          refine c36 ?_
          rw [w_not]
          by_cases d3 : 1 ≤ x.period ∧ x.period ≤ 1000
          · rw [decide_eq_true d3, Bool.not_true, condW_false, w_add, wrap_id (by omega), loopK_self]
            refine ⟨l.length - (i + 1), by omega, rfl, i + 1, by simp [I], by omega, rfl, fun j y hj hy => ?_⟩
            rcases Nat.lt_or_ge j i with h1 | h1
            · exact hall j y h1 hy
            · obtain rfl : j = i := by omega
              rw [hx] at hy; cases hy
              simp [wrongS, d1, d2, d3]
          · rw [decide_eq_false d3, Bool.not_false, condW_true]
            exact bad (by unfold wrongS; rw [decide_eq_false d3]; simp)
        · rw [decide_eq_false d2]
          simp only [Bool.not_false, pickW_false, guardW_tf, guardW_u, pickW_true, condW_true]
          exact bad (by unfold wrongS; rw [decide_eq_false d2]; simp)
      · rw [decide_eq_false d1]
        simp only [Bool.not_false, guardW_tf, guardW_u, pickW_true, condW_true]
        exact bad (by unfold wrongS; rw [decide_eq_false d1]; simp)
    · rw [decide_eq_false (by omega), condW_false]
      rw [validS_of h8 (fun j x hj => hall j x (by omega))] at h
      exact h
  · rw [decide_eq_false h8, Bool.not_false, condW_true]
    have : validS l = false := by unfold validS; rw [decide_eq_false h8]; rfl
    rwa [this] at h)
theorem c23 {lv av : Value} {l : List Stream} {a : List Arr} (hs : IsSl fS w lv l) (ha : IsSl fA w av a) (hl : l.length ≤ maxLen)
    (hyes : ∀ w', Below w.heap.size w w' → ProperP l a → k (.bool true) w') (hno : ∀ w', Below w.heap.size w w' → ¬ ProperP l a → k (.bool false) w') : callW Try.prog (.func (.func 23) #[] #[]) #[lv, av] k w := C23 _ _ _ _ (by
  unfold S23
  refine c16 hs ?_
  rw [w_not]
  cases hv : validS l with
  | false =>
    simp only [Bool.not_false, guardW_tf, guardW_u, pickW_true, condW_true]
    exact hno _ (Below.refl _ _) fun h => by rw [h.valid] at hv; cases hv
  | true =>
    have hln := (valid_at hv).1
    simp only [Bool.not_true, guardW_ff, pickW_false]
    refine (len23 ha).mpr ?_
    rw [w_gtr]
    by_cases h60 : (60 : Int) < a.length
    · rw [decide_eq_true h60, condW_true]
      exact hno _ (Below.refl _ _) fun h => by have := h.len; omega
    · rw [decide_eq_false h60, condW_false]
      refine Loop1.intro (fun n c w' => Below w.heap.size w w' ∧ ∃ i : Nat, c = I i ∧ i ≤ a.length ∧ n = a.length - i ∧ ∀ j x, j < i → a[j]? = some x → OkAt l a j x) _ ⟨Below.refl _ _, 0, rfl, by omega, rfl, by omega⟩ ?_
      rintro n _ w1 ⟨hb1, i, rfl, hi, rfl, hall⟩
      have hs1 := hs.below hb1
      have ha1 := ha.below hb1
      refine (len23 ha1).mpr ?_
      rw [w_lss]
      by_cases hlt : i < a.length
      · rw [decide_eq_true (by omega), condW_true]
        obtain ⟨x, hx⟩ : ∃ x, a[i]? = some x := ⟨_, List.getElem?_eq_getElem hlt⟩
        rw [nw23_0 rfl ha1 hx rfl]
        refine (len22 hs1).mpr ?_
        rw [w_sub, wrap_id (by omega)]
        refine c36 ?_
        rw [w_not]
        have bad : ∀ w', Below w.heap.size w w' → ¬ OkAt l a i x → k (.bool false) w' := fun w' hb hn => hno _ hb fun hp => hn (hp.all i x hx)
        by_cases d1 : 0 ≤ x.stream ∧ x.stream ≤ (l.length : Int) - 1
        · rw [decide_eq_true d1]
          simp only [Bool.not_true, guardW_ff]
          rw [nw23_1 rfl ha1 hx rfl]
          refine c36 ?_
          rw [w_not, pickW_false]
          by_cases d2 : 0 ≤ x.at_ ∧ x.at_ ≤ 2000
          · rw [decide_eq_true d2, Bool.not_true, condW_false]
            refine Loop1.intro (fun n c w' => Below w.heap.size w w' ∧ ∃ j : Nat, c = I j ∧ j ≤ i ∧ n = i - j ∧ (∀ k y, k < j → a[k]? = some y → ltA y x) ∧ ∀ k y s, k < j → a[k]? = some y → y.stream = x.stream → l[x.stream.toNat]? = some s → s.period ≤ x.at_ - y.at_) _ ⟨hb1, 0, rfl, by omega, rfl, by omega, by omega⟩ ?_
            rintro n _ w2 ⟨hb2, j, rfl, hj, rfl, h1, h2⟩
            rw [w_lss]
            by_cases hji : j < i
            · rw [decide_eq_true (by omega), condW_true, drewW_eq]
              obtain ⟨y, hy⟩ : ∃ y, a[j]? = some y := ⟨_, List.getElem?_eq_getElem (by omega)⟩
              have hs2 := (hs.below hb2).drew
              have ha2 := (ha.below hb2).drew
              have hb2d := hb2.trans ((Below.refl w.heap.size _).drew)
              have hok := hall j y hji hy
              have hy2 := hok.t
              rw [nt23_1 rfl ha2 hy rfl, nt23_1 rfl ha2 hx rfl, t_gtr]
              by_cases p0 : ltA y x
              · have p1 : ¬ x.at_ < y.at_ := by unfold ltA at p0; omega
                rw [decide_eq_false p1]
                simp only [guardT_ff]
                rw [nt23_1 rfl ha2 hy rfl, nt23_1 rfl ha2 hx rfl, t_eql]
                have hc : (y.at_ = x.at_ ∧ ¬ x.stream ≤ y.stream) ∨ ¬ y.at_ = x.at_ := by unfold ltA at p0; omega
                rcases hc with ⟨p2, p3⟩ | p2
                case' inl =>
                  rw [decide_eq_true p2]
                  simp only [guardT_tt]
                  rw [nt23_0 rfl ha2 hy rfl, nt23_0 rfl ha2 hx rfl, t_geq, decide_eq_false p3]
                  simp only [pickT_true, pickT_false, guardT_ff]
                case' inr =>
                  rw [decide_eq_false p2]
                  simp only [guardT_ft, guardT_u, pickT_false, guardT_ff]
                all_goals
                  rw [nt23_0 rfl ha2 hy rfl, nt23_0 rfl ha2 hx rfl, t_eql]
                  by_cases p4 : y.stream = x.stream
                  · rw [decide_eq_true p4]
                    simp only [guardT_tt]
                    obtain ⟨s, hsx⟩ : ∃ s, l[x.stream.toNat]? = some s := ⟨_, List.getElem?_eq_getElem (by omega)⟩
                    rw [nt23_1 rfl ha2 hx rfl, nt23_1 rfl ha2 hy rfl, t_sub, wrap_id (by omega), nt23_0 rfl ha2 hx rfl, gt22_2 rfl hs2 d1.1 hsx rfl, t_lss]
                    simp only [pickT_true]
                    by_cases p5 : x.at_ - y.at_ < s.period
                    · rw [decide_eq_true p5]
                      simp only [pickT_false, pickT_true, condW_true]
                      exact bad _ hb2d fun h => by have := h.gap j y s hji hy p4 hsx; omega
                    · rw [decide_eq_false p5]
                      simp only [pickT_false, condW_false]
                      rw [w_add, wrap_id (by omega), loopK_self]
                      refine ⟨i - (j + 1), by omega, hb2d, j + 1, by simp [I], by omega, rfl, fun m z hm hz => ?_, fun m z s' hm hz he hs' => ?_⟩
                      · rcases Nat.lt_or_ge m j with h | h
                        · exact h1 m z h hz
                        · obtain rfl : m = j := by omega
                          rw [hy] at hz; cases hz; exact p0
                      · rcases Nat.lt_or_ge m j with h | h
                        · exact h2 m z s' h hz he hs'
                        · obtain rfl : m = j := by omega
                          rw [hy] at hz; cases hz
                          rw [hsx] at hs'; cases hs'
                          omega
                  · rw [decide_eq_false p4]
                    simp only [guardT_ft, guardT_u, pickT_false, condW_false]
                    rw [w_add, wrap_id (by omega), loopK_self]
                    refine ⟨i - (j + 1), by omega, hb2d, j + 1, by simp [I], by omega, rfl, fun m z hm hz => ?_, fun m z s' hm hz he hs' => ?_⟩
                    · rcases Nat.lt_or_ge m j with h | h
                      · exact h1 m z h hz
                      · obtain rfl : m = j := by omega
                        rw [hy] at hz; cases hz; exact p0
                    · rcases Nat.lt_or_ge m j with h | h
                      · exact h2 m z s' h hz he hs'
                      · obtain rfl : m = j := by omega
                        rw [hy] at hz; cases hz
                        exact absurd he p4
              · have hbad := bad _ hb2d fun h => p0 (h.ord j y hji hy)
                by_cases p1 : x.at_ < y.at_
                · rw [decide_eq_true p1]
                  simp only [guardT_tf, guardT_u, pickT_true, condW_true]
                  exact hbad
                · rw [decide_eq_false p1]
                  simp only [guardT_ff]
                  have hc : y.at_ = x.at_ ∧ x.stream ≤ y.stream := by unfold ltA at p0; omega
                  rw [nt23_1 rfl ha2 hy rfl, nt23_1 rfl ha2 hx rfl, t_eql, decide_eq_true hc.1]
                  simp only [guardT_tt]
                  rw [nt23_0 rfl ha2 hy rfl, nt23_0 rfl ha2 hx rfl, t_geq, decide_eq_true hc.2]
                  simp only [pickT_true, pickT_false, guardT_ff, guardT_tf, guardT_u, condW_true]
                  exact hbad
            · rw [decide_eq_false (by omega), condW_false, w_add, wrap_id (by omega), loopK_self]
              obtain rfl : j = i := by omega
              refine ⟨a.length - (j + 1), by omega, hb2, j + 1, by simp [I], by omega, rfl, fun m y hm hy => ?_⟩
              rcases Nat.lt_or_ge m j with h | h
              · exact hall m y h hy
              · obtain rfl : m = j := by omega
                rw [hx] at hy; cases hy
                exact ⟨d1, d2, h1, h2⟩
          · rw [decide_eq_false d2, Bool.not_false, condW_true]
            exact bad _ hb1 fun h => d2 h.t
        · rw [decide_eq_false d1]
          simp only [Bool.not_false, guardW_tf, guardW_u, pickW_true, condW_true]
          exact bad _ hb1 fun h => d1 h.s
      · rw [decide_eq_false (by omega), condW_false]
        exact hyes _ hb1 ⟨hv, by omega, fun j y hy => hall j y (by have := (List.getElem?_eq_some_iff.1 hy).1; omega) hy⟩)
end
end Go.Proofs.Ytidnjppalebbfaa
