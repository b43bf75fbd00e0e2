/- Contracts of the reference's functions: Response, Divide. -/
import Derived.Test.YtidnjppalebbfaaA32
set_option linter.unusedSimpArgs false
set_option linter.unusedVariables false
namespace Go.Proofs.Ytidnjppalebbfaa
open Go Go.V Go.RowKit
section
variable {k : Value → World → Prop} {w : World}
theorem pushI {v : Value} {l : List Int} {x : Int} {B : Nat} {K : Value → World → Prop} (hown : Mine fI 3 w B v l) (hB : B ≤ w.heap.size) (hl : l.length ≤ 1000000)
    (hk : ∀ v' w', Mine fI 3 w' B v' (l ++ [x]) → Below B w w' → Off (isOf v) w w' → (∀ b, isOf v' b → isOf v b ∨ w.heap.size ≤ b) → K v' w') :
    opW Try.prog (Instr.buildSlice 26 1 #[(0, I x)]) (fun s w => opW Try.prog (Builtin.append_ #[26, 26] 26 #[v, s]) (fun r w => K r w) w) w :=
  Mine.push (F := fI) (x := x) sty26 (by intro u hu; simp [fI] at hu; subst hu; rfl) rfl (by decide) hown hB (by unfold maxLen; omega) (by omega) hk
theorem snoc_all {l : List Int} {x : Int} {P : Nat → Int → Prop} (h : ∀ j y, l[j]? = some y → P j y) (hx : P l.length x) : ∀ j y, (l ++ [x])[j]? = some y → P j y := by
  intro j y hy
  rcases Nat.lt_or_ge j l.length with h1 | h1
  · rw [List.getElem?_append_left h1] at hy; exact h j y hy
  · rw [List.getElem?_append_right h1] at hy
    have := (List.getElem?_eq_some_iff.1 hy).1
    simp at this
    have h0 : j - l.length = 0 := by omega
    rw [h0] at hy
    simp at hy; subst hy
    obtain rfl : j = l.length := by omega
    exact hx
theorem c14 {v : Value} {l : List Stream} (hs : IsSl fS w v l)
    (hbad : ∀ w', Below w.heap.size w w' → validS l = false → k (.tuple #[.slice none 0 0, I 240]) w')
    (hok : ∀ out u w', Below w.heap.size w w' → validS l = true → out.length = l.length → (∀ j x, out[j]? = some x → RespP l j x) → IsSl fI w' u out → k (.tuple #[u, I 0]) w') : callW Try.prog (.func (.func 14) #[] #[]) #[v] k w := C14 _ _ _ (by
  unfold S14
  refine c16 hs ?_
  rw [w_not]
  cases hv : validS l with
  | false => simp only [Bool.not_false, condW_true]; exact hbad _ (Below.refl _ _) hv
  | true =>
    simp only [Bool.not_true, condW_false]
    obtain ⟨hln, hst⟩ := valid_at hv
    refine Loop2.intro (fun n a c w' => ∃ (i : Nat) (outs : List Int), c = I i ∧ i ≤ l.length ∧ n = l.length - i ∧ Below w.heap.size w w' ∧ outs.length = i ∧ Mine fI 3 w' w.heap.size a outs ∧ ∀ j x, outs[j]? = some x → RespP l j x) _ ⟨0, [], rfl, by omega, rfl, Below.refl _ _, rfl, Mine.nil _ _, by simp⟩ ?_
    rintro n out _ w1 ⟨i, outs, rfl, hi, rfl, hb1, hlen, ho1, hresp⟩
    have hs1 := hs.below hb1
    refine (len22 hs1).mpr ?_
    rw [w_lss]
    by_cases hlt : i < l.length
    · rw [decide_eq_true (by omega), condW_true]
      obtain ⟨s, hsi⟩ : ∃ s, l[i]? = some s := ⟨l[i], by simp [hlt]⟩
      obtain ⟨hc1, hc2, hc3⟩ := hst i s hsi
      have hsz : szL l i = s.size := by unfold szL; rw [List.getD_eq_getElem?_getD, hsi]; rfl
      have hpe : perL l i = s.period := by unfold perL; rw [List.getD_eq_getElem?_getD, hsi]; rfl
      have hdem : ∀ r, dem l i r = demF s.size (befS l i) r := fun r => by unfold dem; rw [hsz]
      rw [nw22_1 rfl hs1 hsi rfl]
      refine Loop2.intro (fun n a c w' => ∃ r f : Int, a = I f ∧ c = I r ∧ Below w1.heap.size w1 w' ∧ s.size ≤ r ∧ r ≤ s.period + 1 + 50 ∧ n = (s.period + 1 - r).toNat ∧ ((f = -1 ∧ ∀ r', s.size ≤ r' → r' < r → dem l i r' ≠ r') ∨ (0 ≤ f ∧ RespP l i f))) _ ⟨s.size, -1, rfl, rfl, Below.refl _ _, by omega, by omega, rfl, .inl ⟨rfl, by omega⟩⟩ ?_
      rintro n _ _ w2 ⟨r, f, rfl, rfl, hb2, hr1, hr2, rfl, hf⟩
      have hb12 := hb1.trans (hb2.mono hb1.size)
      have hs2 := hs.below hb12
      rw [nw22_2 rfl hs2 hsi rfl, w_leq]
      have hcase : (r ≤ s.period ∧ f < 0) ∨ RespP l i f := by
        rcases hf with ⟨rfl, h⟩ | ⟨_, h⟩
        · by_cases h1 : r ≤ s.period
          · exact .inl ⟨h1, by omega⟩
          · exact .inr (.inr ⟨rfl, fun r' h2 h3 => h r' (by omega) (by omega)⟩)
        · exact .inr h
      have hfr : -1 ≤ f := by rcases hf with ⟨rfl, _⟩ | ⟨h, _⟩ <;> omega
      by_cases hgo : r ≤ s.period ∧ f < 0
      · rw [decide_eq_true hgo.1]
        simp only [guardW_tt, pickW_true]
        rw [w_lss, decide_eq_true hgo.2, condW_true]
        have hf' : f = -1 ∧ ∀ r', s.size ≤ r' → r' < r → dem l i r' ≠ r' := by
          rcases hf with h | ⟨h, _⟩
          · exact h
          · omega
        obtain ⟨rfl, hno⟩ := hf'
        refine joinW_use1 (Pre := fun v w' => ∃ f' : Int, v = I f' ∧ Below w1.heap.size w1 w' ∧ ((f' = -1 ∧ dem l i r ≠ r) ∨ (f' = r ∧ dem l i r = r))) ?_ ?_
        · rintro _ w3 ⟨f', rfl, hb3, hf'⟩
          rw [w_add, wrap_id (by omega), loopK_self]
          refine ⟨(s.period + 1 - (r + 1)).toNat, by omega, r + 1, f', rfl, rfl, hb3, by omega, by omega, rfl, ?_⟩
          rcases hf' with ⟨rfl, hne⟩ | ⟨rfl, he⟩
          · refine .inl ⟨rfl, fun r' h1 h2 => ?_⟩
            rcases Int.lt_or_le r' r with h | h
            · exact hno r' h1 h
            · obtain rfl : r' = r := by omega
              exact hne
          · exact .inr ⟨by omega, .inl ⟨by omega, by omega, he, fun r' h1 h2 => hno r' (by omega) h2⟩⟩
        · intro J hJ
          rw [nw22_1 rfl hs2 hsi rfl]
          refine Loop2.intro (fun n a c w' => ∃ k : Nat, a = I (demF s.size ((befS l i).take k) r) ∧ c = I k ∧ k ≤ l.length ∧ n = l.length - k ∧ Below w2.heap.size w2 w') _ ⟨0, rfl, rfl, by omega, rfl, Below.refl _ _⟩ ?_
          rintro n _ _ w3 ⟨kk, rfl, rfl, hk, rfl, hb3⟩
          have hs3 := hs2.below hb3
          refine (len22 hs3).mpr ?_
          rw [w_lss]
          have hd := demF_range (s := s.size) (r := r) (by omega) ((befS l i).take kk) (fun x hx => befS_ok hv i x (List.mem_of_mem_take hx))
          have hdl : ((befS l i).take kk).length ≤ 8 := by rw [List.length_take, befS_length]; omega
          by_cases hkl : kk < l.length
          · rw [decide_eq_true (by omega), condW_true]
            have hbk := befS_get (i := i) hkl
            have hsn : ∀ y : Stream, (befS l i)[kk]? = some y → demF s.size ((befS l i).take (kk + 1)) r = demF s.size ((befS l i).take kk) r + y.size * ((r + y.period - 1) / y.period) := fun y hy => by
              rw [List.take_add_one, hy, Option.toList_some, demF_snoc]
            refine joinW_use1 (Pre := fun v w' => v = I (demF s.size ((befS l i).take (kk + 1)) r) ∧ Below w2.heap.size w2 w') ?_ ?_
            · rintro _ w4 ⟨rfl, hb4⟩
              rw [w_add, wrap_id (by omega), loopK_self]
              exact ⟨l.length - (kk + 1), by omega, kk + 1, rfl, by simp [I], by omega, rfl, hb4⟩
            · intro J2 hJ2
              refine c26 hs3 hkl hlt fun w4 hb4 => ?_
              have hb24 := below_trans hb3 hb4
              obtain ⟨x, hx⟩ : ∃ x, l[kk]? = some x := ⟨_, List.getElem?_eq_getElem hkl⟩
              have hxe : l[kk] = x := by rw [List.getElem?_eq_getElem hkl] at hx; exact Option.some.inj hx
              obtain ⟨x1, x2, x3⟩ := hst kk x hx
              rw [hxe] at hbk
              cases hbe : beforeB l kk i with
              | true =>
                rw [hbe, if_pos rfl] at hbk
                rw [condW_true, drewW_eq]
                have hs4 := (hs2.below hb24).drew
                have ht := term_range (x := x) (r := r) ⟨⟨by omega, x2.2⟩, x3⟩ (by omega)
                have hdiv : (r + x.period - 1).tdiv x.period = (r + x.period - 1) / x.period := Int.tdiv_eq_ediv_of_nonneg (by omega)
                rw [nt22_1 rfl hs4 hx rfl, nt22_2 rfl hs4 hx rfl, t_add, wrap_id (by omega), t_sub, wrap_id (by omega), nt22_2 rfl hs4 hx rfl, t_quo (by omega), hdiv, wrap_id (by omega), t_mul, wrap_id (by omega), t_add, wrap_id (by omega)]
                exact hJ2 _ _ ⟨by rw [hsn _ hbk], hb24.trans ((Below.refl _ _).drew)⟩
              | false =>
                rw [hbe, if_neg (by simp)] at hbk
                rw [condW_false]
                exact hJ2 _ _ ⟨by rw [hsn _ hbk]; simp, hb24⟩
          · rw [decide_eq_false (by omega), condW_false]
            rw [List.take_of_length_le (by rw [befS_length]; omega), ← hdem] at *
            have hb23 := hb2.trans (hb3.mono hb2.size)
            rw [w_eql]
            by_cases he : dem l i r = r
            · rw [decide_eq_true he, condW_true]
              exact hJ _ _ ⟨r, rfl, hb23, .inr ⟨rfl, he⟩⟩
            · rw [decide_eq_false he, condW_false]
              exact hJ _ _ ⟨-1, rfl, hb23, .inl ⟨rfl, he⟩⟩
      · have hresp' : RespP l i f := by rcases hcase with h | h <;> first | exact absurd h hgo | exact h
        rcases (show (r ≤ s.period ∧ ¬ f < 0) ∨ ¬ r ≤ s.period by omega) with ⟨h1, h2⟩ | h1
        case' inl =>
          rw [decide_eq_true h1]
          simp only [guardW_tt, pickW_true]
          rw [w_lss, decide_eq_false h2, condW_false]
        case' inr =>
          rw [decide_eq_false h1]
          simp only [guardW_ft, guardW_u, pickW_false, condW_false]
        all_goals
          refine pushI (ho1.below hb2) hb12.size (by omega) fun v' w3 ho3 hb3 _ _ => ?_
          rw [w_add, wrap_id (by omega), loopK_self]
          exact ⟨l.length - (i + 1), by omega, i + 1, outs ++ [f], by simp [I], by omega, rfl, hb12.trans hb3, by simp [hlen], ho3, snoc_all hresp (by rw [hlen]; exact hresp')⟩
    · rw [decide_eq_false (by omega), condW_false]
      exact hok outs out w1 hb1 hv (by omega) hresp ho1.sl)
theorem mostI_sn : ∀ (l : List Int) (x : Int), 0 ≤ x → mostI (l ++ [x]) = max (mostI l) x
  | [], x, h => by simp only [List.nil_append, mostI]; omega
  | y :: r, x, h => by simp only [List.cons_append, mostI, mostI_sn r x h]; omega
theorem maxI {a b : Int} : (if b > a then b else a) = max a b := by split <;> omega
theorem c25 {v : Value} {bytes : Int} {l : List Int} (hs : IsSl fI w v l) (hl : l.length ≤ maxLen)
    (hbad : ∀ w', Below w.heap.size w w' → ¬ (0 ≤ bytes ∧ bytes ≤ 1000000 ∧ l.length ≤ 8 ∧ okW l) → k (.tuple #[.slice none 0 0, I 240]) w')
    (hok : ∀ L v' w', Below w.heap.size w w' → IsLevel bytes l L → 0 ≤ bytes ∧ bytes ≤ 1000000 ∧ l.length ≤ 8 ∧ okW l → IsSl fI w' v' (giveI L (bytes - needsI l L) l) → k (.tuple #[v', I 0]) w') : callW Try.prog (.func (.func 25) #[] #[]) #[I bytes, v] k w := C25 _ _ _ _ (by
  unfold S25
  refine c36 ?_
  rw [w_not]
  by_cases h1 : 0 ≤ bytes ∧ bytes ≤ 1000000
  · rw [decide_eq_true h1]
    simp only [Bool.not_true, guardW_ff, pickW_false]
    refine (len26 hs).mpr ?_
    rw [w_gtr]
    by_cases h8 : (8 : Int) < l.length
    · rw [decide_eq_true h8, condW_true]
      exact hbad _ (Below.refl _ _) fun h => by omega
    · rw [decide_eq_false h8, condW_false]
      refine Loop2.intro (fun n a c w' => w' = w ∧ ∃ i : Nat, a = I (mostI (l.take i)) ∧ c = I i ∧ i ≤ l.length ∧ n = l.length - i ∧ okW (l.take i)) _ ⟨rfl, 0, rfl, rfl, by omega, rfl, by simp [okW]⟩ ?_
      rintro n _ _ w1 ⟨rfl, i, rfl, rfl, hi, rfl, hok1⟩
      refine (len26 hs).mpr ?_
      rw [w_lss]
      by_cases hlt : i < l.length
      · rw [decide_eq_true (by omega), condW_true]
        have hx : l[i]? = some l[i] := List.getElem?_eq_getElem hlt
        rw [nw26 rfl hs hx rfl]
        refine c36 ?_
        rw [w_not]
        by_cases h2 : 0 ≤ l[i] ∧ l[i] ≤ 1000000
        · rw [decide_eq_true h2, Bool.not_true, condW_false, nw26 rfl hs hx rfl, w_max, maxI, w_add, wrap_id (by omega), loopK_self]
          refine ⟨l.length - (i + 1), by omega, rfl, i + 1, by rw [List.take_succ_eq_append_getElem hlt, mostI_sn _ _ h2.1], by simp [I], by omega, rfl, fun x hx => ?_⟩
          rw [List.take_succ_eq_append_getElem hlt] at hx
          rcases List.mem_append.1 hx with h | h
          · exact hok1 x h
          · simp at h; subst h; exact h2
        · rw [decide_eq_false h2, Bool.not_false, condW_true]
          exact hbad _ (Below.refl _ _) fun h => h2 (h.2.2.2 l[i] (by simp))
      · rw [decide_eq_false (by omega), condW_false]
        rw [List.take_of_length_le (by omega)] at *
        have hm := mostI_range l hok1
        refine Loop2.intro (fun n a c w' => w' = w1 ∧ ∃ lo hi : Int, a = I lo ∧ c = I hi ∧ 0 ≤ lo ∧ lo ≤ hi ∧ hi ≤ mostI l ∧ n = (hi - lo).toNat ∧ needsI l lo ≤ bytes ∧ (hi < mostI l → bytes < needsI l (hi + 1))) _ ⟨rfl, 0, mostI l, rfl, rfl, by omega, by omega, by omega, rfl, by rw [needsI_zero l hok1]; omega, by omega⟩ ?_
        rintro n _ _ w2 ⟨rfl, lo, hi', rfl, rfl, hlo, hlh, hhm, rfl, hfit, hnext⟩
        rw [w_lss]
        by_cases hlh' : lo < hi'
        · rw [decide_eq_true hlh', condW_true]
          have hdiv : (lo + hi' + 1).tdiv 2 = (lo + hi' + 1) / 2 := Int.tdiv_eq_ediv_of_nonneg (by omega)
          refine joinW_use2 (Pre := fun a c w' => w' = w2 ∧ ∃ lo2 hi2 : Int, a = I lo2 ∧ c = I hi2 ∧ 0 ≤ lo2 ∧ lo2 ≤ hi2 ∧ hi2 ≤ mostI l ∧ (hi2 - lo2).toNat < (hi' - lo).toNat ∧ needsI l lo2 ≤ bytes ∧ (hi2 < mostI l → bytes < needsI l (hi2 + 1))) ?_ ?_
          · rintro _ _ w3 ⟨rfl, lo2, hi2, rfl, rfl, a1, a2, a3, a4, a5, a6⟩
            rw [loopK_self]
            exact ⟨_, a4, rfl, lo2, hi2, rfl, rfl, a1, a2, a3, rfl, a5, a6⟩
          · intro J hJ
            rw [w_add, wrap_id (by omega), w_add, wrap_id (by omega), w_quo (by omega), hdiv, wrap_id (by omega)]
            refine Loop2.intro (fun n a c w' => w' = w2 ∧ ∃ i : Nat, a = I (needsI (l.take i) ((lo + hi' + 1) / 2)) ∧ c = I i ∧ i ≤ l.length ∧ n = l.length - i) _ ⟨rfl, 0, rfl, rfl, by omega, rfl⟩ ?_
            rintro n _ _ w3 ⟨rfl, i, rfl, rfl, hi, rfl⟩
            refine (len26 hs).mpr ?_
            rw [w_lss]
            have hr := needsI_range (l := l.take i) (L := (lo + hi' + 1) / 2) (fun x hx => hok1 x (List.mem_of_mem_take hx)) (by omega)
            have hrl : (l.take i).length ≤ 8 := by rw [List.length_take]; omega
            by_cases hlt : i < l.length
            · rw [decide_eq_true (by omega), condW_true]
              have hx : l[i]? = some l[i] := List.getElem?_eq_getElem hlt
              have hmr := minI_range (L := (lo + hi' + 1) / 2) (hok1 l[i] (by simp)) (by omega)
              rw [nw26 rfl hs hx rfl, w_minI, w_add, wrap_id (by omega), w_add, wrap_id (by omega), loopK_self]
              exact ⟨l.length - (i + 1), by omega, rfl, i + 1, by rw [needsI_take hlt], by simp [I], by omega, rfl⟩
            · rw [decide_eq_false (by omega), condW_false]
              rw [List.take_of_length_le (by omega)] at *
              rw [w_leq]
              by_cases hle : needsI l ((lo + hi' + 1) / 2) ≤ bytes
              · rw [decide_eq_true hle, condW_true]
                exact hJ _ _ _ ⟨rfl, _, _, rfl, rfl, by omega, by omega, by omega, by omega, hle, hnext⟩
              · rw [decide_eq_false hle, condW_false, w_sub, wrap_id (by omega)]
                exact hJ _ _ _ ⟨rfl, _, _, rfl, rfl, by omega, by omega, by omega, by omega, hfit, fun _ => by rw [Int.sub_add_cancel]; omega⟩
        · rw [decide_eq_false hlh', condW_false]
          obtain rfl : lo = hi' := by omega
          have hL : IsLevel bytes l lo := ⟨hlo, hhm, hfit, hnext⟩
          refine Loop2.intro (fun n a c w' => w' = w2 ∧ ∃ i : Nat, a = I (bytes - needsI (l.take i) lo) ∧ c = I i ∧ i ≤ l.length ∧ n = l.length - i) _ ⟨rfl, 0, by simp [needsI], rfl, by omega, rfl⟩ ?_
          rintro n _ _ w3 ⟨rfl, i, rfl, rfl, hi, rfl⟩
          refine (len26 hs).mpr ?_
          rw [w_lss]
          have hr := needsI_range (l := l.take i) (L := lo) (fun x hx => hok1 x (List.mem_of_mem_take hx)) (by omega)
          have hrl : (l.take i).length ≤ 8 := by rw [List.length_take]; omega
          by_cases hlt : i < l.length
          · rw [decide_eq_true (by omega), condW_true]
            have hx : l[i]? = some l[i] := List.getElem?_eq_getElem hlt
            have hmr := minI_range (L := lo) (hok1 l[i] (by simp)) (by omega)
            rw [nw26 rfl hs hx rfl, w_minI, w_sub, wrap_id (by omega), w_add, wrap_id (by omega), loopK_self]
            exact ⟨l.length - (i + 1), by omega, rfl, i + 1, by rw [needsI_take hlt]; simp [I]; omega, by simp [I], by omega, rfl⟩
          · rw [decide_eq_false (by omega), condW_false]
            rw [List.take_of_length_le (by omega)] at *
            refine Loop3.intro (fun n a o c w' => Below w3.heap.size w3 w' ∧ ∃ i : Nat, a = I (leftI lo (bytes - needsI l lo) (l.take i)) ∧ c = I i ∧ i ≤ l.length ∧ n = l.length - i ∧ Mine fI 3 w' w3.heap.size o (giveI lo (bytes - needsI l lo) (l.take i))) _ ⟨Below.refl _ _, 0, rfl, rfl, by omega, rfl, Mine.nil _ _⟩ ?_
            rintro n _ o _ w4 ⟨hb4, i, rfl, rfl, hi, rfl, ho4⟩
            have hs4 := hs.below hb4
            refine (len26 hs4).mpr ?_
            rw [w_lss]
            by_cases hlt : i < l.length
            · rw [decide_eq_true (by omega), condW_true]
              have hx : l[i]? = some l[i] := List.getElem?_eq_getElem hlt
              have hmr := minI_range (L := lo) (hok1 l[i] (by simp)) (by omega)
              have hlr := leftI_range lo (l.take i) (bytes - needsI l lo) (by omega)
              have hgl := giveI_length lo (l.take i) (bytes - needsI l lo)
              rw [List.length_take] at hgl
              have e1 := giveI_app lo (l.take i) [l[i]] (bytes - needsI l lo)
              have e2 := leftI_app lo (l.take i) [l[i]] (bytes - needsI l lo)
              rw [← List.take_succ_eq_append_getElem hlt] at e1 e2
              refine joinW_use2 (Pre := fun a o' w' => Below w3.heap.size w3 w' ∧ a = I (leftI lo (bytes - needsI l lo) (l.take (i + 1))) ∧ Mine fI 3 w' w3.heap.size o' (giveI lo (bytes - needsI l lo) (l.take (i + 1)))) ?_ ?_
              · rintro _ o' w5 ⟨hb5, rfl, ho5⟩
                rw [w_add, wrap_id (by omega), loopK_self]
                exact ⟨l.length - (i + 1), by omega, hb5, i + 1, rfl, by simp [I], by omega, rfl, ho5⟩
              · intro J hJ
                rw [nw26 rfl hs4 hx rfl, w_minI, nw26 rfl hs4 hx rfl, w_gtr]
                by_cases hgo : lo < l[i] ∧ 0 < leftI lo (bytes - needsI l lo) (l.take i)
                · rw [decide_eq_true hgo.1]
                  simp only [guardW_tt, pickW_true]
                  rw [w_gtr, decide_eq_true hgo.2, condW_true, w_add, wrap_id (by omega), w_sub, wrap_id (by omega)]
                  simp only [giveI, leftI, if_pos hgo] at e1 e2
                  refine pushI ho4 hb4.size (by omega) fun v' w5 ho5 hb5 _ _ => ?_
                  exact hJ _ _ _ ⟨hb4.trans hb5, by rw [e2], by rw [e1]; exact ho5⟩
                · simp only [giveI, leftI, if_neg hgo] at e1 e2
                  rcases (show (lo < l[i] ∧ ¬ 0 < leftI lo (bytes - needsI l lo) (l.take i)) ∨ ¬ lo < l[i] by omega) with ⟨g1, g2⟩ | g1
                  case' inl =>
                    rw [decide_eq_true g1]
                    simp only [guardW_tt, pickW_true]
                    rw [w_gtr, decide_eq_false g2, condW_false]
                  case' inr =>
                    rw [decide_eq_false g1]
                    simp only [guardW_ft, guardW_u, pickW_false, condW_false]
                  all_goals
                    refine pushI ho4 hb4.size (by omega) fun v' w5 ho5 hb5 _ _ => ?_
                    exact hJ _ _ _ ⟨hb4.trans hb5, by rw [e2], by rw [e1]; exact ho5⟩
            · rw [decide_eq_false (by omega), condW_false]
              rw [List.take_of_length_le (by omega)] at *
              exact hok lo o w4 hb4 hL ⟨h1.1, h1.2, by omega, hok1⟩ ho4.sl
  · rw [decide_eq_false h1]
    simp only [Bool.not_false, guardW_tf, guardW_u, pickW_true, condW_true]
    exact hbad _ (Below.refl _ _) fun h => h1 ⟨h.1, h.2.1⟩)
end
end Go.Proofs.Ytidnjppalebbfaa
