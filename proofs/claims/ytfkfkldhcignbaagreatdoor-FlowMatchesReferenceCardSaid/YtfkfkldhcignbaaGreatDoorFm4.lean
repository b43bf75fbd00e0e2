/- Part 5 of the proof of flowMatchesReference: lemmas for it; no condition beyond the statement. -/
import Derived.Test.YtfkfkldhcignbaaGreatDoorFm3
import Derived.Lib.SliceRun
/- Labels: the reference's rising lists and counts; lists and locks compared. -/
set_option linter.unusedSimpArgs false
set_option linter.unusedVariables false
set_option maxRecDepth 4000
namespace Go.Proofs.YtfkfkldhcignbaaGreatDoor
open Go Go.V Go.RowKit
def cmpI (x y : Int) : Int := if x < y then -1 else if y < x then 1 else 0
def cmpL : List Int → List Int → Int
  | [], [] => 0
  | [], _ :: _ => -1
  | _ :: _, [] => 1
  | x :: a, y :: b => if x < y then -1 else if y < x then 1 else cmpL a b
abbrev Lock := Int × List Int
def cmpQ (a b : Lock) : Int := if a.1 < b.1 then -1 else if b.1 < a.1 then 1 else cmpL a.2 b.2
theorem cmpL_cons (x y : Int) (a b : List Int) : cmpL (x :: a) (y :: b) = if x < y then -1 else if y < x then 1 else cmpL a b := rfl
theorem cmpL_eq : ∀ {a b : List Int}, cmpL a b = 0 ↔ a = b
  | [], [] => by simp [cmpL]
  | [], _ :: _ => by simp [cmpL]
  | _ :: _, [] => by simp [cmpL]
  | x :: a, y :: b => by
    unfold cmpL
    by_cases h1 : x < y
    · rw [if_pos h1]
      constructor
      · intro h; cases h
      · intro h; cases h; omega
    · rw [if_neg h1]
      by_cases h2 : y < x
      · rw [if_pos h2]
        constructor
        · intro h; cases h
        · intro h; cases h; omega
      · rw [if_neg h2, cmpL_eq]
        constructor
        · intro h; rw [h, show x = y by omega]
        · intro h; cases h; rfl
theorem cmpQ_eq {a b : Lock} : cmpQ a b = 0 ↔ a = b := by
  unfold cmpQ
  obtain ⟨a1, a2⟩ := a
  obtain ⟨b1, b2⟩ := b
  simp only [Prod.mk.injEq]
  by_cases h1 : a1 < b1
  · rw [if_pos h1]; constructor
    · intro h; cases h
    · intro h; omega
  · rw [if_neg h1]
    by_cases h2 : b1 < a1
    · rw [if_pos h2]; constructor
      · intro h; cases h
      · intro h; omega
    · rw [if_neg h2, cmpL_eq]
      exact ⟨fun h => ⟨by omega, h⟩, fun h => h.2⟩
theorem cmpL_drop {a b : List Int} : ∀ (i : Nat), i ≤ a.length → i ≤ b.length → (∀ j : Nat, j < i → a[j]? = b[j]?) → cmpL a b = cmpL (a.drop i) (b.drop i)
  | 0, _, _, _ => by simp
  | i + 1, h1, h2, h => by
    rw [cmpL_drop i (by omega) (by omega) fun j hj => h j (by omega)]
    obtain ⟨x, hx⟩ : ∃ x, a[i]? = some x := ⟨_, List.getElem?_eq_getElem (by omega)⟩
    have hy : b[i]? = some x := by rw [← h i (by omega)]; exact hx
    rw [List.drop_eq_getElem_cons (show i < a.length by omega), List.drop_eq_getElem_cons (show i < b.length by omega), (List.getElem?_eq_some_iff.1 hx).2, (List.getElem?_eq_some_iff.1 hy).2]
    rw [cmpL_cons, if_neg (by omega), if_neg (by omega)]
/-- a lock's value -/
def QuorV (w : World) (v : Value) (q : Lock) : Prop := ∃ kv, v = .agg #[I q.1, kv] ∧ IsSl fI w kv q.2
theorem QuorV.below {w w' : World} {v : Value} {q : Lock} (h : QuorV w v q) (hb : Below w.heap.size w w') : QuorV w' v q := by
  obtain ⟨kv, rfl, h1⟩ := h
  exact ⟨kv, rfl, h1.below hb⟩
section
variable {k : Value → World → Prop} {w : World}
theorem c105 {x : Int} (hk : k (.bool false) w) : callW Tryz.prog (.func (.func 105) #[] #[]) #[I x] k w := C105 _ _ _ (by
  unfold S105
  rw [w_neq, decide_eq_true rfl]; exact hk)
theorem c64 {x y : Int} (hk : k (I (cmpI x y)) w) : callW Tryz.prog (.func (.func 64) #[] #[]) #[I x, I y] k w := C64 _ _ _ _ (by
  unfold S64
  refine c105 (c105 ?_)
  simp only [condW_false]
  rw [w_lss]
  unfold cmpI at hk
  by_cases h1 : x < y
  · rw [decide_eq_true h1, condW_true]; rw [if_pos h1] at hk; exact hk
  · rw [decide_eq_false h1, condW_false, w_gtr]
    rw [if_neg h1] at hk
    by_cases h2 : y < x
    · rw [decide_eq_true h2, condW_true]; rw [if_pos h2] at hk; exact hk
    · rw [decide_eq_false h2, condW_false]; rw [if_neg h2] at hk; exact hk)
theorem c107 {u v : Value} {a b : List Int} (hu : IsSl fI w u a) (hv : IsSl fI w v b) (hl : a.length ≤ maxLen) (hk : k (I (cmpL a b)) w) : callW Tryz.prog (.func (.func 107) #[] #[]) #[u, v] k w := C107 _ _ _ _ (by
  unfold S107
  have hml : maxLen ≤ 9223372036854775807 := by decide
  refine (len25 hu).mpr ?_
  refine Loop1.intro (fun n x w' => ∃ i : Nat, x = I i ∧ i ≤ a.length ∧ i ≤ b.length ∧ n = a.length - i ∧ w' = w ∧ ∀ j : Nat, j < i → a[j]? = b[j]?) _ ⟨0, rfl, by omega, by omega, rfl, rfl, by omega⟩ ?_
  rintro n _ _ ⟨i, rfl, hi, hib, rfl, rfl, hP⟩
  have hd := cmpL_drop i hi hib hP
  rw [w_lss]
  by_cases hlt : i < a.length
  case' neg =>
    rw [decide_eq_false (by omega), condW_false]
    refine (len25 hu).mpr ?_
    refine (len25 hv).mpr ?_
    obtain rfl : i = a.length := by omega
    rw [List.drop_length] at hd
    rw [w_lss]
    by_cases h2 : a.length < b.length
    · rw [decide_eq_true (by omega), condW_true]
      rw [List.drop_eq_getElem_cons h2] at hd
      rw [hd] at hk; exact hk
    · rw [decide_eq_false (by omega), condW_false]
      rw [List.drop_of_length_le (show b.length ≤ a.length by omega)] at hd
      rw [hd] at hk; exact hk
  rw [decide_eq_true (by omega), condW_true]
  obtain ⟨x, hx⟩ : ∃ x, a[i]? = some x := ⟨_, List.getElem?_eq_getElem hlt⟩
  rw [gw25 (F := fI) rfl hu (by omega) (by simpa using hx) rfl]
  refine (len25 hv).mpr ?_
  rw [w_geq]
  by_cases h2 : i < b.length
  case' neg =>
    rw [decide_eq_true (by omega), condW_true]
    rw [List.drop_eq_getElem_cons hlt, List.drop_of_length_le (show b.length ≤ i by omega)] at hd
    rw [hd] at hk; exact hk
  rw [decide_eq_false (by omega), condW_false]
  obtain ⟨y, hy⟩ : ∃ y, b[i]? = some y := ⟨_, List.getElem?_eq_getElem h2⟩
  rw [gw25 (F := fI) rfl hv (by omega) (by simpa using hy) rfl]
  refine c64 ?_
  rw [w_neq]
  rw [List.drop_eq_getElem_cons hlt, List.drop_eq_getElem_cons h2, (List.getElem?_eq_some_iff.1 hx).2, (List.getElem?_eq_some_iff.1 hy).2] at hd
  rw [cmpL_cons] at hd
  unfold cmpI
  by_cases h3 : x < y
  · rw [if_pos h3] at hd ⊢
    rw [decide_eq_false (by decide), Bool.not_false, condW_true]
    rw [hd] at hk; exact hk
  · rw [if_neg h3] at hd ⊢
    by_cases h4 : y < x
    · rw [if_pos h4] at hd ⊢
      rw [decide_eq_false (by decide), Bool.not_false, condW_true]
      rw [hd] at hk; exact hk
    · rw [if_neg h4, decide_eq_true rfl, Bool.not_true, condW_false, w_add, wrap_id (by omega), loopK_self]
      refine ⟨a.length - (i + 1), by omega, i + 1, by simp [I], by omega, by omega, rfl, rfl, fun j hj => ?_⟩
      by_cases hji : j = i
      · subst hji; rw [hx, hy, show x = y by omega]
      · exact hP j (by omega))
theorem c106 {v : Value} {x y : Int} (hv : IsSl fI w v [x, y]) (hk : k (I (if x ≠ 0 then x else y)) w) : callW Tryz.prog (.func (.func 106) #[] #[]) #[v] k w := C106 _ _ _ (by
  unfold S106
  refine (len25 hv).mpr ?_
  have hl2 : ([x, y] : List Int).length = 2 := rfl
  refine Loop1.intro (fun n a w' => ∃ i : Nat, a = I i ∧ i ≤ 2 ∧ n = 2 - i ∧ w' = w ∧ (1 ≤ i → x = 0) ∧ (2 ≤ i → y = 0)) _ ⟨0, rfl, by omega, rfl, rfl, by omega, by omega⟩ ?_
  rintro n _ _ ⟨i, rfl, hi, rfl, rfl, h1, h2⟩
  rw [w_lss]
  by_cases hlt : i < 2
  case' neg =>
    rw [decide_eq_false (by omega), condW_false]
    obtain rfl : i = 2 := by omega
    rw [if_neg (by rw [h1 (by omega)]; decide), h2 (by omega)] at hk; exact hk
  rw [decide_eq_true (by omega), condW_true]
  obtain ⟨z, hz⟩ : ∃ z, ([x, y] : List Int)[i]? = some z := ⟨_, List.getElem?_eq_getElem (by omega)⟩
  rw [gw25 (F := fI) rfl hv (by omega) (by simpa using hz) rfl, w_neq]
  by_cases h0 : z = 0
  case' neg =>
    rw [decide_eq_false h0, Bool.not_false, condW_true]
    match i, hz, hlt with
    | 0, hz, _ => cases hz; rw [if_pos h0] at hk; exact hk
    | 1, hz, _ => cases hz; rw [if_neg (by rw [h1 (by omega)]; decide)] at hk; exact hk
  rw [decide_eq_true h0, Bool.not_true, condW_false, w_add, wrap_id (by omega), loopK_self]
  refine ⟨2 - (i + 1), by omega, i + 1, by simp [I], by omega, rfl, rfl, fun _ => ?_, fun _ => ?_⟩
  · match i, hz, hlt with
    | 0, hz, _ => cases hz; exact h0
    | 1, hz, _ => exact h1 (by omega)
  · match i, hz, hlt with
    | 0, hz, _ => omega
    | 1, hz, _ => cases hz; exact h0)
theorem c70 {u v : Value} {a b : Lock} (hu : QuorV w u a) (hv : QuorV w v b) (hl : a.2.length ≤ maxLen) (hk : ∀ w', Below w.heap.size w w' → k (I (cmpQ a b)) w') : callW Tryz.prog (.func (.func 70) #[] #[]) #[u, v] k w := C70 _ _ _ _ (by
  unfold S70
  obtain ⟨ka, rfl, ha⟩ := hu
  obtain ⟨kb, rfl, hb⟩ := hv
  refine w_boxN (v := .agg #[I a.1, ka]) fun w1 hb1 hsz1 hr1 => ?_
  replace hr1 : RowAt w1 w.heap.size 87 [I a.1, ka] := hr1
  refine w_boxN (v := .agg #[I b.1, kb]) fun w2 hb2 hsz2 hr2 => ?_
  replace hr2 : RowAt w2 w1.heap.size 87 [I b.1, kb] := hr2
  rw [drewW_eq]
  have hb02 := below_trans (below_trans hb1 hb2) (below_drew w2)
  have hr1' := (hr1.below hb2).drew
  replace hr2 := hr2.drew
  generalize w2.drew = w3 at *
  have a3 := after_refl w3
  refine ⟨after w3, a3, ?_⟩
  rw [ra87_0 (hr1'.cell (i := 0) rfl) a3, ra87_0 (hr2.cell (i := 0) rfl) a3, ra87_1 (hr1'.cell (i := 1) rfl) a3, ra87_1 (hr2.cell (i := 1) rfl) a3]
  refine c64 ?_
  rw [keepS_eq]
  refine ⟨a3, c107 (ha.below hb02) (hb.below hb02) hl ?_⟩
  rw [keepS_eq]
  refine ⟨a3, ?_⟩
  refine w_parts (F := fI) (l := [cmpI a.1 b.1, cmpL a.2 b.2]) sty25 rfl (by decide) (by decide) (by kernel_rfl) rfl fun w4 hb4 hsz4 hm4 => ?_
  rw [keepS_eq]
  refine ⟨hb4, c106 hm4.sl ?_⟩
  rw [keepS_eq]
  refine ⟨hb4, ?_⟩
  have e : (if cmpI a.1 b.1 ≠ 0 then cmpI a.1 b.1 else cmpL a.2 b.2) = cmpQ a b := by
    unfold cmpQ cmpI
    by_cases h1 : a.1 < b.1
    · simp [h1]
    · by_cases h2 : b.1 < a.1 <;> simp [h1, h2]
  rw [e]
  exact hk _ (below_trans hb02 hb4))
theorem wrap_neg {n : Int} (h : -18446744073709551616 < n ∧ n < 18446744073709551616) : IntKind.i64.wrap n = 0 ↔ n = 0 := by
  simp only [IntKind.wrap, IntKind.signed, IntKind.bits, Bool.true_and, decide_eq_true_eq]
  constructor
  · intro hh; split at hh <;> omega
  · intro hh; subst hh; decide
/-- the reference's comparison: nought exactly if equal; below nought as cmpL, where the numbers are small -/
theorem c84 {u v : Value} {a b : List Int} (hu : IsSl fI w u a) (hv : IsSl fI w v b) (hl : a.length ≤ maxLen ∧ b.length ≤ maxLen) (ha : ∀ x ∈ a, in64 x) (hb : ∀ x ∈ b, in64 x)
    (hk : ∀ r w', Below w.heap.size w w' → (r = 0 ↔ a = b) → ((∀ x ∈ a, 0 ≤ x ∧ x ≤ 1000000) → (∀ x ∈ b, 0 ≤ x ∧ x ≤ 1000000) → (r < 0 ↔ cmpL a b < 0)) → k (I r) w') : callW Tryz.prog (.func (.func 84) #[] #[]) #[u, v] k w := C84 _ _ _ _ (by
  unfold S84
  have hml : maxLen ≤ 9223372036854775807 := by decide
  refine Loop1.intro (fun n x w' => ∃ i : Nat, x = I i ∧ i ≤ a.length ∧ i ≤ b.length ∧ n = a.length - i ∧ Below w.heap.size w w' ∧ ∀ j : Nat, j < i → a[j]? = b[j]?) _ ⟨0, rfl, by omega, by omega, rfl, Below.refl _ _, by omega⟩ ?_
  rintro n _ w1 ⟨i, rfl, hi, hib, rfl, hb1, hP⟩
  have hd := cmpL_drop i hi hib hP
  have ends : (i = a.length ∨ i = b.length) → (((a.length : Int) - b.length = 0 ↔ a = b) ∧ ((a.length : Int) - b.length < 0 ↔ cmpL a b < 0)) := fun hh => by
    have heq : a.length = b.length → a = b := fun he => List.ext_getElem? fun j => by
      by_cases hj : j < i
      · exact hP j hj
      · rw [List.getElem?_eq_none (by omega), List.getElem?_eq_none (by omega)]
    refine ⟨⟨fun h => heq (by omega), fun h => by rw [h]; omega⟩, ?_⟩
    rcases hh with rfl | rfl
    · rw [List.drop_length] at hd
      by_cases h2 : a.length < b.length
      · rw [List.drop_eq_getElem_cons h2] at hd
        rw [hd]; exact ⟨fun _ => (by show (-1 : Int) < 0; decide), fun _ => by omega⟩
      · rw [List.drop_of_length_le (show b.length ≤ a.length by omega)] at hd
        rw [hd]; exact ⟨fun h => by omega, fun h => by cases h⟩
    · rw [List.drop_length] at hd
      by_cases h2 : b.length < a.length
      · rw [List.drop_eq_getElem_cons h2] at hd
        rw [hd]; exact ⟨fun h => by omega, fun h => by cases h⟩
      · rw [List.drop_of_length_le (show a.length ≤ b.length by omega)] at hd
        rw [hd]; exact ⟨fun h => by omega, fun h => by cases h⟩
  refine (len25 (hu.below hb1)).mpr ?_
  rw [w_lss]
  by_cases hlt : i < a.length
  case' neg =>
    rw [decide_eq_false (by omega)]
    simp only [guardW_ft, guardW_u, pickW_false, condW_false]
    refine (len25 (hu.below hb1)).mpr ?_
    refine (len25 (hv.below hb1)).mpr ?_
    rw [w_sub, wrap_id (by omega)]
    obtain ⟨e1, e2⟩ := ends (.inl (by omega))
    exact hk _ _ hb1 e1 fun _ _ => e2
  rw [decide_eq_true (by omega)]
  simp only [guardW_tt]
  refine (len25 (hv.below hb1)).mpr ?_
  rw [w_lss]
  by_cases h2 : i < b.length
  case' neg =>
    rw [decide_eq_false (by omega)]
    simp only [pickW_true, condW_false]
    refine (len25 (hu.below hb1)).mpr ?_
    refine (len25 (hv.below hb1)).mpr ?_
    rw [w_sub, wrap_id (by omega)]
    obtain ⟨e1, e2⟩ := ends (.inr (by omega))
    exact hk _ _ hb1 e1 fun _ _ => e2
  rw [decide_eq_true (by omega)]
  simp only [pickW_true, condW_true]
  obtain ⟨x, hx⟩ : ∃ x, a[i]? = some x := ⟨_, List.getElem?_eq_getElem hlt⟩
  obtain ⟨y, hy⟩ : ∃ y, b[i]? = some y := ⟨_, List.getElem?_eq_getElem h2⟩
  have hxr := ha x (List.mem_of_getElem? hx)
  have hyr := hb y (List.mem_of_getElem? hy)
  unfold in64 at hxr hyr
  rw [drewW_eq]
  have hb2 := hb1.trans (Below.refl _ w1).drew
  generalize w1.drew = w2 at *
  rw [gt25 (F := fI) rfl (hu.below hb2) (by omega) (by simpa using hx) rfl, gt25 (F := fI) rfl (hv.below hb2) (by omega) (by simpa using hy) rfl, t_neq]
  rw [List.drop_eq_getElem_cons hlt, List.drop_eq_getElem_cons h2, (List.getElem?_eq_some_iff.1 hx).2, (List.getElem?_eq_some_iff.1 hy).2, cmpL_cons] at hd
  by_cases h3 : x = y
  · rw [decide_eq_true h3, Bool.not_true, condW_false, w_add, wrap_id (by omega), loopK_self]
    refine ⟨a.length - (i + 1), by omega, i + 1, by simp [I], by omega, by omega, rfl, hb2, fun j hj => ?_⟩
    by_cases hji : j = i
    · subst hji; rw [hx, hy, h3]
    · exact hP j (by omega)
  · rw [decide_eq_false h3, Bool.not_false, condW_true, drewW_eq]
    have hb3 := hb2.trans (Below.refl _ w2).drew
    generalize w2.drew = w3 at *
    rw [gt25 (F := fI) rfl (hu.below hb3) (by omega) (by simpa using hx) rfl, gt25 (F := fI) rfl (hv.below hb3) (by omega) (by simpa using hy) rfl, t_sub]
    refine hk _ _ hb3 ?_ fun h4 h5 => ?_
    · rw [wrap_neg (by omega)]
      exact ⟨fun h => by omega, fun h => by rw [h, hy] at hx; cases hx; omega⟩
    · have hx4 := h4 x (List.mem_of_getElem? hx)
      have hy5 := h5 y (List.mem_of_getElem? hy)
      rw [wrap_id (by omega), hd]
      by_cases h6 : x < y
      · rw [if_pos h6]; exact ⟨fun _ => by decide, fun _ => by omega⟩
      · rw [if_neg h6, if_pos (by omega)]; exact ⟨fun h => by omega, fun h => by cases h⟩)
end
end Go.Proofs.YtfkfkldhcignbaaGreatDoor
/- Labels: the reference's locks, rising lists, counts. -/
set_option linter.unusedSimpArgs false
set_option linter.unusedVariables false
set_option maxRecDepth 4000
namespace Go.Proofs.YtfkfkldhcignbaaGreatDoor
open Go Go.V Go.RowKit
def okL (l : List Int) : Prop := l.length ≤ maxLen ∧ ∀ x ∈ l, in64 x
def smL (l : List Int) : Prop := ∀ x ∈ l, 0 ≤ x ∧ x ≤ 1000000
section
variable {k : Value → World → Prop} {w : World}
theorem c62 {u v : Value} {a b : Lock} (hu : QuorV w u a) (hv : QuorV w v b) (ha : okL a.2) (hb : okL b.2) (sa : smL a.2) (sb : smL b.2) (hk : ∀ w', Below w.heap.size w w' → k (.bool (decide (cmpQ a b < 0))) w') : callW Tryz.prog (.func (.func 62) #[] #[]) #[u, v] k w := C62 _ _ _ _ (by
  unfold S62
  obtain ⟨ka, rfl, hka⟩ := hu
  obtain ⟨kb, rfl, hkb⟩ := hv
  refine w_boxN (v := .agg #[I a.1, ka]) fun w1 hb1 hsz1 hr1 => ?_
  replace hr1 : RowAt w1 w.heap.size 87 [I a.1, ka] := hr1
  refine w_boxN (v := .agg #[I b.1, kb]) fun w2 hb2 hsz2 hr2 => ?_
  replace hr2 : RowAt w2 w1.heap.size 87 [I b.1, kb] := hr2
  have hb02 := below_trans hb1 hb2
  have hr1' := hr1.below hb2
  rw [rw87_0 (hr1'.cell (i := 0) rfl), rw87_0 (hr2.cell (i := 0) rfl), w_lss]
  unfold cmpQ at hk
  by_cases h1 : a.1 < b.1
  · rw [decide_eq_true h1]
    simp only [guardW_tf, guardW_u, pickW_true]
    rw [if_pos h1] at hk
    exact hk _ hb02
  rw [decide_eq_false h1]
  rw [if_neg h1] at hk
  simp only [guardW_ff]
  rw [rw87_0 (hr1'.cell (i := 0) rfl), rw87_0 (hr2.cell (i := 0) rfl), w_eql]
  by_cases h2 : a.1 = b.1
  · rw [decide_eq_true h2]
    simp only [guardW_tt, guardW_ff]
    rw [rw87_1 (hr1'.cell (i := 1) rfl), rw87_1 (hr2.cell (i := 1) rfl)]
    refine c84 (hka.below hb02) (hkb.below hb02) ⟨ha.1, hb.1⟩ ha.2 hb.2 fun r w3 hb3 _ hr => ?_
    rw [w_lss]
    simp only [pickW_true, pickW_false]
    rw [if_neg (by omega)] at hk
    have := hk _ (below_trans hb02 hb3)
    rw [show decide (r < 0) = decide (cmpL a.2 b.2 < 0) by rw [decide_eq_decide]; exact hr sa sb]
    exact this
  · rw [decide_eq_false h2]
    simp only [guardW_ft, guardW_u, guardW_ff, pickW_false]
    rw [if_pos (by omega)] at hk
    exact hk _ hb02)
theorem c85 {u v : Value} {a b : Lock} (hu : QuorV w u a) (hv : QuorV w v b) (ha : okL a.2) (hb : okL b.2) (hk : ∀ w', Below w.heap.size w w' → k (.bool (decide (a = b))) w') : callW Tryz.prog (.func (.func 85) #[] #[]) #[u, v] k w := C85 _ _ _ _ (by
  unfold S85
  obtain ⟨ka, rfl, hka⟩ := hu
  obtain ⟨kb, rfl, hkb⟩ := hv
  refine w_boxN (v := .agg #[I a.1, ka]) fun w1 hb1 hsz1 hr1 => ?_
  replace hr1 : RowAt w1 w.heap.size 87 [I a.1, ka] := hr1
  refine w_boxN (v := .agg #[I b.1, kb]) fun w2 hb2 hsz2 hr2 => ?_
  replace hr2 : RowAt w2 w1.heap.size 87 [I b.1, kb] := hr2
  have hb02 := below_trans hb1 hb2
  have hr1' := hr1.below hb2
  rw [rw87_0 (hr1'.cell (i := 0) rfl), rw87_0 (hr2.cell (i := 0) rfl), w_eql]
  obtain ⟨a1, a2⟩ := a
  obtain ⟨b1, b2⟩ := b
  by_cases h2 : a1 = b1
  · rw [decide_eq_true h2]
    simp only [guardW_tt]
    rw [rw87_1 (hr1'.cell (i := 1) rfl), rw87_1 (hr2.cell (i := 1) rfl)]
    refine c84 (hka.below hb02) (hkb.below hb02) ⟨ha.1, hb.1⟩ ha.2 hb.2 fun r w3 hb3 hr _ => ?_
    rw [w_eql]
    simp only [pickW_true]
    have := hk _ (below_trans hb02 hb3)
    rw [show decide (r = 0) = decide ((a1, a2) = (b1, b2)) by rw [decide_eq_decide]; simp [h2]; exact hr]
    exact this
  · rw [decide_eq_false h2]
    simp only [guardW_ft, guardW_u, pickW_false]
    have := hk _ hb02
    rw [decide_eq_false (by simp [h2])] at this; exact this)
theorem c91 {v : Value} {l : List Int} {most : Int} (hs : IsSl fI w v l) (hl : l.length ≤ maxLen) (hk : ∀ b w', Below w.heap.size w w' → (b = true ↔ RisingP l most) → k (.bool b) w') : callW Tryz.prog (.func (.func 91) #[] #[]) #[v, I most] k w := C91 _ _ _ _ (by
  unfold S91
  have hml : maxLen ≤ 9223372036854775807 := by decide
  refine Loop1.intro (fun n a w' => ∃ i : Nat, a = I i ∧ i ≤ l.length ∧ n = l.length - i ∧ Below w.heap.size w w' ∧ ∀ (j : Nat) (x : Int), j < i → l[j]? = some x → (0 ≤ x ∧ x ≤ most) ∧ ∀ y, 0 < j → l[j - 1]? = some y → y < x) _ ⟨0, rfl, by omega, rfl, Below.refl _ _, by omega⟩ ?_
  rintro n _ w1 ⟨i, rfl, hi, rfl, hb1, hP⟩
  refine (len25 (hs.below hb1)).mpr ?_
  rw [w_lss]
  by_cases hlt : i < l.length
  case' neg =>
    rw [decide_eq_false (by omega), condW_false]
    exact hk true _ hb1 (iffT fun i x hx => hP i x (by have := (List.getElem?_eq_some_iff.1 hx).1; omega) hx)
  rw [decide_eq_true (by omega), condW_true, drewW_eq]
  have hb1 := hb1.trans (Below.refl _ w1).drew
  generalize w1.drew = w2 at *
  obtain ⟨x, hx⟩ : ∃ x, l[i]? = some x := ⟨_, List.getElem?_eq_getElem hlt⟩
  rw [gt25 (F := fI) rfl (hs.below hb1) (by omega) (by simpa using hx) rfl]
  refine c90 ?_
  rw [t_not]
  by_cases h1 : 0 ≤ x ∧ x ≤ most
  case' neg =>
    rw [decide_eq_false h1]
    simp only [Bool.not_false, guardT_tf, guardT_u, pickT_true, condW_true]
    exact hk false _ hb1 (iffF fun h => h1 (h i x hx).1)
  rw [decide_eq_true h1]
  simp only [Bool.not_true, guardT_ff]
  rw [t_gtr]
  have next : ((0 ≤ x ∧ x ≤ most) ∧ ∀ y, 0 < i → l[i - 1]? = some y → y < x) → ∃ m, m < l.length - i ∧ ∃ i' : Nat, I (i + 1 : Nat) = I i' ∧ i' ≤ l.length ∧ m = l.length - i' ∧ Below w.heap.size w w2 ∧ ∀ (j : Nat) (x : Int), j < i' → l[j]? = some x → (0 ≤ x ∧ x ≤ most) ∧ ∀ y, 0 < j → l[j - 1]? = some y → y < x := fun h =>
    ⟨l.length - (i + 1), by omega, i + 1, rfl, by omega, rfl, hb1, fun j z hj hz => by
      by_cases hji : j = i
      · subst hji; rw [hx] at hz; cases hz; exact h
      · exact hP j z (by omega) hz⟩
  by_cases h0 : 0 < i
  case' neg =>
    rw [decide_eq_false (by omega)]
    simp only [guardT_ft, guardT_u, pickT_false, condW_false]
    rw [w_add, wrap_id (by omega), loopK_self]
    exact next ⟨h1, fun y hy => absurd hy h0⟩
  rw [decide_eq_true (by omega)]
  simp only [guardT_tt]
  obtain ⟨y, hy⟩ : ∃ y, l[i - 1]? = some y := ⟨_, List.getElem?_eq_getElem (by omega)⟩
  rw [gt25 (F := fI) rfl (hs.below hb1) (by omega) (by simpa using hx) rfl, t_sub, wrap_id (by omega), gt25 (F := fI) rfl (hs.below hb1) (by omega) (by rw [show ((i : Int) - 1).toNat = i - 1 by omega]; exact hy) rfl, t_leq]
  simp only [pickT_true, pickT_false]
  by_cases h2 : y < x
  · rw [decide_eq_false (by omega), condW_false, w_add, wrap_id (by omega), loopK_self]
    exact next ⟨h1, fun y' _ hy' => by rw [hy] at hy'; cases hy'; exact h2⟩
  · rw [decide_eq_true (by omega), condW_true]
    exact hk false _ hb1 (iffF fun h => h2 ((h i x hx).2 y h0 hy)))
theorem c92 {v : Value} {l : List CW} {least : Int} (hs : IsSl fC w v l) (hl : l.length ≤ maxLen) (hk : ∀ b w', Below w.heap.size w w' → (b = true ↔ CountsP l least) → k (.bool b) w') : callW Tryz.prog (.func (.func 92) #[] #[]) #[v, I least] k w := C92 _ _ _ _ (by
  unfold S92
  have hml : maxLen ≤ 9223372036854775807 := by decide
  refine Loop1.intro (fun n a w' => ∃ i : Nat, a = I i ∧ i ≤ l.length ∧ n = l.length - i ∧ Below w.heap.size w w' ∧ ∀ (j : Nat) (x : CW), j < i → l[j]? = some x → (0 ≤ x.fact ∧ x.fact ≤ 15) ∧ (least ≤ x.count ∧ x.count ≤ 12) ∧ ∀ y, 0 < j → l[j - 1]? = some y → y.fact < x.fact) _ ⟨0, rfl, by omega, rfl, Below.refl _ _, by omega⟩ ?_
  rintro n _ w1 ⟨i, rfl, hi, rfl, hb1, hP⟩
  refine (len26 (hs.below hb1)).mpr ?_
  rw [w_lss]
  by_cases hlt : i < l.length
  case' neg =>
    rw [decide_eq_false (by omega), condW_false]
    exact hk true _ hb1 (iffT fun i x hx => hP i x (by have := (List.getElem?_eq_some_iff.1 hx).1; omega) hx)
  rw [decide_eq_true (by omega), condW_true, drewW_eq]
  have hb1 := hb1.trans (Below.refl _ w1).drew
  generalize w1.drew = w2 at *
  obtain ⟨x, hx⟩ : ∃ x, l[i]? = some x := ⟨_, List.getElem?_eq_getElem hlt⟩
  have next : ((0 ≤ x.fact ∧ x.fact ≤ 15) ∧ (least ≤ x.count ∧ x.count ≤ 12) ∧ ∀ y, 0 < i → l[i - 1]? = some y → y.fact < x.fact) → ∃ m, m < l.length - i ∧ ∃ i' : Nat, I (i + 1 : Nat) = I i' ∧ i' ≤ l.length ∧ m = l.length - i' ∧ Below w.heap.size w w2 ∧ ∀ (j : Nat) (x : CW), j < i' → l[j]? = some x → (0 ≤ x.fact ∧ x.fact ≤ 15) ∧ (least ≤ x.count ∧ x.count ≤ 12) ∧ ∀ y, 0 < j → l[j - 1]? = some y → y.fact < x.fact := fun h =>
    ⟨l.length - (i + 1), by omega, i + 1, rfl, by omega, rfl, hb1, fun j z hj hz => by
      by_cases hji : j = i
      · subst hji; rw [hx] at hz; cases hz; exact h
      · exact hP j z (by omega) hz⟩
  have a2 := after_refl w2
  have hs2 := hs.below hb1
  refine ⟨after w2, a2, ?_⟩
  rw [t_getFAi (F := fC) (x := 0) (m := (i : Int)) (i := i) (u := I x.fact) rfl (by kernel_rfl) (by kernel_rfl) (by kernel_rfl) (by kernel_rfl) (by kernel_rfl) (by kernel_rfl) hs2 hx rfl a2]
  refine c90 ?_
  rw [t_not]
  by_cases h1 : 0 ≤ x.fact ∧ x.fact ≤ 15
  case' neg =>
    rw [decide_eq_false h1]
    simp only [Bool.not_false, guardT_tf, guardT_u, guardW_tf, guardW_u, keepS_eq, pickT_true, guardT_tt, condW_true]
    exact ⟨a2, hk false _ hb1 (iffF fun h => h1 (h i x hx).1)⟩
  rw [decide_eq_true h1]
  simp only [Bool.not_true, guardT_ff, guardW_ff]
  rw [gt26_1 (F := fC) (u := I x.count) rfl hs2 (by omega) (by simpa using hx) rfl]
  refine c90 ?_
  rw [keepS_eq]
  refine ⟨a2, ?_⟩
  rw [t_not]
  by_cases h2 : least ≤ x.count ∧ x.count ≤ 12
  case' neg =>
    rw [decide_eq_false h2]
    simp only [Bool.not_false, pickT_false, pickT_true, guardT_tf, guardT_u, condW_true]
    exact hk false _ hb1 (iffF fun h => h2 (h i x hx).2.1)
  rw [decide_eq_true h2]
  simp only [Bool.not_true, pickT_false, guardT_ff]
  rw [t_gtr]
  by_cases h0 : 0 < i
  case' neg =>
    rw [decide_eq_false (by omega)]
    simp only [guardT_ft, guardT_u, pickT_false, condW_false]
    rw [w_add, wrap_id (by omega), loopK_self]
    exact next ⟨h1, h2, fun y hy => absurd hy h0⟩
  rw [decide_eq_true (by omega)]
  simp only [guardT_tt]
  obtain ⟨y, hy⟩ : ∃ y, l[i - 1]? = some y := ⟨_, List.getElem?_eq_getElem (by omega)⟩
  rw [gt26_0 (F := fC) (u := I x.fact) rfl hs2 (by omega) (by simpa using hx) rfl, t_sub, wrap_id (by omega), gt26_0 (F := fC) (u := I y.fact) rfl hs2 (by omega) (by rw [show ((i : Int) - 1).toNat = i - 1 by omega]; exact hy) rfl, t_leq]
  simp only [pickT_true, pickT_false]
  by_cases h3 : y.fact < x.fact
  · rw [decide_eq_false (by omega), condW_false, w_add, wrap_id (by omega), loopK_self]
    exact next ⟨h1, h2, fun y' _ hy' => by rw [hy] at hy'; cases hy'; exact h3⟩
  · rw [decide_eq_true (by omega), condW_true]
    exact hk false _ hb1 (iffF fun h => h3 ((h i x hx).2.2 y h0 hy)))
end
end Go.Proofs.YtfkfkldhcignbaaGreatDoor
/- Labels: their values; Valid. -/
set_option linter.unusedSimpArgs false
set_option linter.unusedVariables false
set_option maxRecDepth 4000
namespace Go.Proofs.YtfkfkldhcignbaaGreatDoor
open Go Go.V Go.RowKit
structure QW where
  need : Int
  ka : Option Addr
  kn : Nat
  kc : Nat
def fQW : Fl QW := ⟨2, fun x => [I x.need, .slice x.ka x.kn x.kc], fun _ => rfl⟩
abbrev agQ (x : QW) : Value := .agg (fQW.e x).toArray
def LocksX (w : World) (xs : List QW) (ls : List Lock) : Prop := xs.length = ls.length ∧ ∀ (i : Nat) x q, xs[i]? = some x → ls[i]? = some q → QuorV w (agQ x) q
def LocksV (w : World) (v : Value) (ls : List Lock) : Prop := ∃ xs, IsSl fQW w v xs ∧ LocksX w xs ls
structure Lab where
  til : Int
  ev : List Int
  ct : List CW
  terr : Int
  cls : Int
  locks : List Lock
def LabV (w : World) (v : Value) (L : Lab) : Prop := ∃ e c q, v = .agg #[I L.til, e, c, I L.terr, I L.cls, q] ∧ IsSl fI w e L.ev ∧ IsSl fC w c L.ct ∧ LocksV w q L.locks
def okLab (L : Lab) : Prop := okL L.ev ∧ L.ct.length ≤ maxLen ∧ L.locks.length ≤ maxLen ∧ ∀ q ∈ L.locks, okL q.2
def LocksP (ls : List Lock) : Prop := ∀ (i : Nat) (q : Lock), ls[i]? = some q → RisingP q.2 19 ∧ (1 ≤ q.1 ∧ q.1 ≤ q.2.length) ∧ ∀ p, 0 < i → ls[i - 1]? = some p → cmpQ p q < 0
def ValidLab (L : Lab) : Prop := (0 ≤ L.til ∧ L.til ≤ 50000000) ∧ (0 ≤ L.terr ∧ L.terr ≤ 255) ∧ (0 ≤ L.cls ∧ L.cls ≤ 255) ∧ L.locks.length ≤ 4 ∧ LocksP L.locks ∧ RisingP L.ev 19 ∧ CountsP L.ct 1
theorem RisingP.sm {l : List Int} {m : Int} (h : RisingP l m) (hm : m ≤ 1000000) : smL l := fun x hx => by
  obtain ⟨i, hi, rfl⟩ := List.getElem_of_mem hx
  have := (h i _ (List.getElem?_eq_getElem hi)).1
  omega
theorem LocksX.below {w w' : World} {xs : List QW} {ls : List Lock} (h : LocksX w xs ls) (hb : Below w.heap.size w w') : LocksX w' xs ls := ⟨h.1, fun i x q hx hq => (h.2 i x q hx hq).below hb⟩
theorem LocksV.below {w w' : World} {v : Value} {ls : List Lock} (h : LocksV w v ls) (hb : Below w.heap.size w w') : LocksV w' v ls := by
  obtain ⟨xs, h1, h2⟩ := h
  exact ⟨xs, h1.below hb, h2.below hb⟩
theorem LabV.below {w w' : World} {v : Value} {L : Lab} (h : LabV w v L) (hb : Below w.heap.size w w') : LabV w' v L := by
  obtain ⟨e, c, q, rfl, h1, h2, h3⟩ := h
  exact ⟨e, c, q, rfl, h1.below hb, h2.below hb, h3.below hb⟩
theorem eQ : ETy Tryz.prog 59 87 fQW := ⟨by kernel_rfl, by kernel_rfl, by kernel_rfl, by kernel_rfl, by kernel_rfl, by kernel_rfl, fun x u hu => by simp [fQW] at hu; rcases hu with rfl | rfl <;> rfl⟩
section
variable {k : Value → World → Prop} {w : World}
theorem c48 {v : Value} {L : Lab} (h : LabV w v L) (hok : okLab L) (hk : ∀ b w', Below w.heap.size w w' → (b = true ↔ ValidLab L) → k (.bool b) w') : callW Tryz.prog (.func (.func 48) #[] #[]) #[v] k w := C48 _ _ _ (by
  unfold S48
  obtain ⟨e, c, q, rfl, he, hc, ⟨xs, hq, hxs⟩⟩ := h
  obtain ⟨ok1, ok2, ok3, ok4⟩ := hok
  have hml : maxLen ≤ 9223372036854775807 := by decide
  have hxl := hxs.1
  refine w_boxN (v := .agg #[I L.til, e, c, I L.terr, I L.cls, q]) fun w1 hb1 hsz1 hr1 => ?_
  replace hr1 : RowAt w1 w.heap.size 61 [I L.til, e, c, I L.terr, I L.cls, q] := hr1
  rw [rw61_0 (hr1.cell (i := 0) rfl)]
  refine c86 ?_
  rw [w_not]
  by_cases h1 : 0 ≤ L.til ∧ L.til ≤ 50000000
  case' neg =>
    rw [decide_eq_false h1]
    simp only [Bool.not_false, guardW_tf, guardW_u, pickW_true, condW_true]
    exact hk false _ hb1 (iffF fun h => h1 h.1)
  rw [decide_eq_true h1]
  simp only [Bool.not_true, guardW_ff]
  rw [rw61_3 (hr1.cell (i := 3) rfl)]
  refine c86 ?_
  rw [w_not]
  by_cases h2 : 0 ≤ L.terr ∧ L.terr ≤ 255
  case' neg =>
    rw [decide_eq_false h2]
    simp only [Bool.not_false, guardW_tf, guardW_u, pickW_true, pickW_false, condW_true]
    exact hk false _ hb1 (iffF fun h => h2 h.2.1)
  rw [decide_eq_true h2]
  simp only [Bool.not_true, guardW_ff, pickW_false]
  rw [rw61_4 (hr1.cell (i := 4) rfl)]
  refine c86 ?_
  rw [w_not]
  by_cases h3 : 0 ≤ L.cls ∧ L.cls ≤ 255
  case' neg =>
    rw [decide_eq_false h3]
    simp only [Bool.not_false, guardW_tf, guardW_u, pickW_true, pickW_false, condW_true]
    exact hk false _ hb1 (iffF fun h => h3 h.2.2.1)
  rw [decide_eq_true h3]
  simp only [Bool.not_true, guardW_ff, pickW_false]
  rw [rw61_5 (hr1.cell (i := 5) rfl)]
  refine (len59 (hq.below hb1)).mpr ?_
  rw [w_gtr]
  by_cases h4 : L.locks.length ≤ 4
  case' neg =>
    rw [decide_eq_true (by omega)]
    simp only [pickW_false, condW_true]
    exact hk false _ hb1 (iffF fun h => h4 h.2.2.2.1)
  rw [decide_eq_false (by omega)]
  simp only [pickW_false, condW_false]
  rw [rw61_5 (hr1.cell (i := 5) rfl)]
  refine (len59 (hq.below hb1)).mpr ?_
  rw [hxl]
  refine Loop1.intro (fun n a w' => ∃ i : Nat, a = I i ∧ i ≤ L.locks.length ∧ n = L.locks.length - i ∧ Below w.heap.size w w' ∧ RowAt w' w.heap.size 61 [I L.til, e, c, I L.terr, I L.cls, q] ∧ ∀ (j : Nat) (x : Lock), j < i → L.locks[j]? = some x → RisingP x.2 19 ∧ (1 ≤ x.1 ∧ x.1 ≤ x.2.length) ∧ ∀ p, 0 < j → L.locks[j - 1]? = some p → cmpQ p x < 0) _ ⟨0, rfl, by omega, rfl, hb1, hr1, by omega⟩ ?_
  rintro n _ w2 ⟨i, rfl, hi, rfl, hb2, hr2, hP⟩
  rw [w_lss]
  by_cases hlt : i < L.locks.length
  case' neg =>
    rw [decide_eq_false (by omega), condW_false]
    have hLP : LocksP L.locks := fun i x hx => hP i x (by have := (List.getElem?_eq_some_iff.1 hx).1; omega) hx
    rw [rw61_1 (hr2.cell (i := 1) rfl)]
    refine c87 (he.below hb2) ok1.1 fun b5 h5 => ?_
    cases b5 with
    | false =>
      simp only [guardW_ft, guardW_u, pickW_false]
      exact hk false _ hb2 (iffF fun h => by have := h5.2 h.2.2.2.2.2.1; cases this)
    | true =>
      simp only [guardW_tt]
      rw [rw61_2 (hr2.cell (i := 2) rfl)]
      refine c88 (hc.below hb2) ok2 fun b6 w3 hb3 h6 => ?_
      simp only [pickW_true]
      refine hk b6 _ (hb2.trans (hb3.mono hb2.size)) (h6.trans ⟨fun h => ⟨h1, h2, h3, h4, hLP, h5.1 rfl, h⟩, fun h => h.2.2.2.2.2.2⟩)
  rw [decide_eq_true (by omega), condW_true]
  obtain ⟨p, hp⟩ : ∃ p, L.locks[i]? = some p := ⟨_, List.getElem?_eq_getElem hlt⟩
  obtain ⟨x, hx⟩ : ∃ x, xs[i]? = some x := ⟨_, List.getElem?_eq_getElem (by omega)⟩
  have hqv := hxs.2 i x p hx hp
  rw [ga59 (F := fQW) rfl (hq.below hb2) (by omega) (a := x) (by simpa using hx)]
  refine w_var (vs := fQW.e x) hz87 (by rw [zc87]; rfl) (eQ.one x) size87 known87 fun w3 hb3 hsz3 hr3 => ?_
  have hb03 := hb2.trans (hb3.mono hb2.size)
  have hr23 := hr2.below hb3
  rw [drewW_eq]
  have hb04 := hb03.trans (Below.refl _ w3).drew
  replace hr3 := hr3.drew
  replace hr23 := hr23.drew
  generalize w3.drew = w4 at *
  have a4 := after_refl w4
  obtain ⟨kv, hkv, hks⟩ := hqv.below hb04
  obtain ⟨e1, e2⟩ : I x.need = I p.1 ∧ (.slice x.ka x.kn x.kc : Value) = kv := by simpa [fQW] using hkv
  have hok4 := ok4 p (List.mem_of_getElem? hp)
  refine ⟨after w4, a4, ?_⟩
  rw [ra87_1 (hr3.cell (i := 1) rfl) a4, e2]
  refine c87 hks hok4.1 fun b5 h5 => ?_
  rw [keepS_eq]
  refine ⟨a4, ?_⟩
  rw [t_not]
  cases b5 with
  | false =>
    simp only [Bool.not_false, guardT_tf, guardT_u, guardW_tf, guardW_u, keepS_eq, pickT_true, guardT_tt, guardW_ft, condW_true, guardT_ft]
    exact ⟨a4, a4, hk false _ hb04 (iffF fun h => by have := h5.2 (h.2.2.2.2.1 i p hp).1; cases this)⟩
  | true =>
  simp only [Bool.not_true, guardT_ff, guardW_ff]
  rw [ra87_0 (hr3.cell (i := 0) rfl) a4, ra87_1 (hr3.cell (i := 1) rfl) a4, e1, e2, tlen25 hks]
  refine c86 ?_
  rw [keepS_eq]
  refine ⟨a4, ?_⟩
  rw [t_not]
  by_cases h6 : 1 ≤ p.1 ∧ p.1 ≤ (p.2.length : Int)
  case' neg =>
    rw [decide_eq_false h6]
    simp only [Bool.not_false, pickT_false, pickT_true, guardT_tf, guardT_u, guardW_tf, guardW_u, keepS_eq, guardT_tt, guardW_ft, guardT_ft, condW_true]
    exact ⟨a4, hk false _ hb04 (iffF fun h => h6 (h.2.2.2.2.1 i p hp).2.1)⟩
  rw [decide_eq_true h6]
  simp only [Bool.not_true, pickT_false, guardT_ff]
  rw [t_gtr]
  have next : ∀ w', Below w4.heap.size w4 w' → (∀ p', 0 < i → L.locks[i - 1]? = some p' → cmpQ p' p < 0) → ∃ m, m < L.locks.length - i ∧ ∃ i' : Nat, I (i + 1 : Nat) = I i' ∧ i' ≤ L.locks.length ∧ m = L.locks.length - i' ∧ Below w.heap.size w w' ∧ RowAt w' w.heap.size 61 [I L.til, e, c, I L.terr, I L.cls, q] ∧ ∀ (j : Nat) (x : Lock), j < i' → L.locks[j]? = some x → RisingP x.2 19 ∧ (1 ≤ x.1 ∧ x.1 ≤ x.2.length) ∧ ∀ p, 0 < j → L.locks[j - 1]? = some p → cmpQ p x < 0 := fun w' hb h =>
    ⟨L.locks.length - (i + 1), by omega, i + 1, rfl, by omega, rfl, hb04.trans (hb.mono hb04.size), hr23.below hb, fun j z hj hz => by
      by_cases hji : j = i
      · subst hji; rw [hp] at hz; cases hz; exact ⟨h5.1 rfl, h6, h⟩
      · exact hP j z (by omega) hz⟩
  by_cases h0 : 0 < i
  case' neg =>
    rw [decide_eq_false (by omega)]
    simp only [guardT_ft, guardT_u, guardW_ft, guardW_u, keepS_eq, pickT_false, condW_false]
    refine ⟨a4, ?_⟩
    rw [w_add, wrap_id (by omega), loopK_self]
    exact next _ a4 fun y hy => absurd hy h0
  rw [decide_eq_true (by omega)]
  simp only [guardT_tt, guardW_tt]
  obtain ⟨p0, hp0⟩ : ∃ p0, L.locks[i - 1]? = some p0 := ⟨_, List.getElem?_eq_getElem (by omega)⟩
  obtain ⟨x0, hx0⟩ : ∃ x0, xs[i - 1]? = some x0 := ⟨_, List.getElem?_eq_getElem (by omega)⟩
  have hqv0 := (hxs.2 (i - 1) x0 p0 hx0 hp0).below hb04
  have hok0 := ok4 p0 (List.mem_of_getElem? hp0)
  rw [ra61_5 (hr23.cell (i := 5) rfl) a4, t_sub, wrap_id (by omega), gta59 (F := fQW) rfl (hq.below hb04) (by omega) (a := x0) (by rw [show ((i : Int) - 1).toNat = i - 1 by omega]; exact hx0), xld87 (vs := fQW.e x) rfl hr3.cells]
  refine c70 hqv0 (hqv.below hb04) hok0.1 fun w5 hb5 => ?_
  rw [keepS_eq]
  refine ⟨hb5, ?_⟩
  rw [t_geq]
  simp only [pickT_true, pickT_false]
  by_cases h7 : cmpQ p0 p < 0
  · rw [decide_eq_false (by omega), condW_false, w_add, wrap_id (by omega), loopK_self]
    exact next _ hb5 fun p' _ hp' => by rw [hp0] at hp'; cases hp'; exact h7
  · rw [decide_eq_true (by omega), condW_true]
    exact hk false _ (hb04.trans (hb5.mono hb04.size)) (iffF fun h => h7 ((h.2.2.2.2.1 i p hp).2.2 p0 h0 hp0)))
end
end Go.Proofs.YtfkfkldhcignbaaGreatDoor
/- Labels: the reference's Valid; ValidMoment. -/
set_option linter.unusedSimpArgs false
set_option linter.unusedVariables false
set_option maxRecDepth 4000
namespace Go.Proofs.YtfkfkldhcignbaaGreatDoor
open Go Go.V Go.RowKit
structure Mom where
  now : Int
  drift : Int
  ev : List Int
  conf : List CW
  keys : List Int
def MomV (w : World) (v : Value) (m : Mom) : Prop := ∃ e c q, v = .agg #[I m.now, I m.drift, e, c, q] ∧ IsSl fI w e m.ev ∧ IsSl fC w c m.conf ∧ IsSl fI w q m.keys
def okMom (m : Mom) : Prop := m.ev.length ≤ maxLen ∧ m.conf.length ≤ maxLen ∧ m.keys.length ≤ maxLen
def ValidMom (m : Mom) : Prop := (0 ≤ m.now ∧ m.now ≤ 50000000) ∧ (0 ≤ m.drift ∧ m.drift ≤ 1440) ∧ RisingP m.ev 19 ∧ CountsP m.conf 0 ∧ RisingP m.keys 19
theorem MomV.below {w w' : World} {v : Value} {m : Mom} (h : MomV w v m) (hb : Below w.heap.size w w') : MomV w' v m := by
  obtain ⟨e, c, q, rfl, h1, h2, h3⟩ := h
  exact ⟨e, c, q, rfl, h1.below hb, h2.below hb, h3.below hb⟩
section
variable {k : Value → World → Prop} {w : World}
theorem c50 {v : Value} {L : Lab} (h : LabV w v L) (hok : okLab L) (hk : ∀ b w', Below w.heap.size w w' → (b = true ↔ ValidLab L) → k (.bool b) w') : callW Tryz.prog (.func (.func 50) #[] #[]) #[v] k w := C50 _ _ _ (by
  unfold S50
  obtain ⟨e, c, q, rfl, he, hc, ⟨xs, hq, hxs⟩⟩ := h
  obtain ⟨ok1, ok2, ok3, ok4⟩ := hok
  have hml : maxLen ≤ 9223372036854775807 := by decide
  have hxl := hxs.1
  refine w_boxN (v := .agg #[I L.til, e, c, I L.terr, I L.cls, q]) fun w1 hb1 hsz1 hr1 => ?_
  replace hr1 : RowAt w1 w.heap.size 61 [I L.til, e, c, I L.terr, I L.cls, q] := hr1
  rw [rw61_0 (hr1.cell (i := 0) rfl)]
  refine c90 ?_
  rw [w_not]
  by_cases h1 : 0 ≤ L.til ∧ L.til ≤ 50000000
  case' neg =>
    rw [decide_eq_false h1]
    simp only [Bool.not_false, guardW_tf, guardW_u, pickW_true, condW_true]
    exact hk false _ hb1 (iffF fun h => h1 h.1)
  rw [decide_eq_true h1]
  simp only [Bool.not_true, guardW_ff]
  rw [rw61_1 (hr1.cell (i := 1) rfl)]
  refine c91 (he.below hb1) ok1.1 fun b2 w2 hb2 h2 => ?_
  have hb02 := below_trans hb1 hb2
  have hr2 := hr1.below hb2
  rw [w_not]
  cases b2 with
  | false =>
    simp only [Bool.not_false, guardW_tf, guardW_u, pickW_true, pickW_false, condW_true]
    exact hk false _ hb02 (iffF fun h => by have := h2.2 h.2.2.2.2.2.1; cases this)
  | true =>
  simp only [Bool.not_true, guardW_ff, pickW_false]
  rw [rw61_2 (hr2.cell (i := 2) rfl)]
  refine c92 (hc.below hb02) ok2 fun b3 w3 hb3 h3 => ?_
  have hb03 := below_trans hb02 hb3
  have hr3 := hr2.below hb3
  rw [w_not]
  cases b3 with
  | false =>
    simp only [Bool.not_false, guardW_tf, guardW_u, pickW_true, pickW_false, condW_true]
    exact hk false _ hb03 (iffF fun h => by have := h3.2 h.2.2.2.2.2.2; cases this)
  | true =>
  simp only [Bool.not_true, guardW_ff, pickW_false]
  rw [rw61_3 (hr3.cell (i := 3) rfl)]
  refine c90 ?_
  rw [w_not]
  by_cases h4 : 0 ≤ L.terr ∧ L.terr ≤ 255
  case' neg =>
    rw [decide_eq_false h4]
    simp only [Bool.not_false, guardW_tf, guardW_u, pickW_true, pickW_false, condW_true]
    exact hk false _ hb03 (iffF fun h => h4 h.2.1)
  rw [decide_eq_true h4]
  simp only [Bool.not_true, guardW_ff, pickW_false]
  rw [rw61_4 (hr3.cell (i := 4) rfl)]
  refine c90 ?_
  rw [w_not]
  by_cases h5 : 0 ≤ L.cls ∧ L.cls ≤ 255
  case' neg =>
    rw [decide_eq_false h5]
    simp only [Bool.not_false, guardW_tf, guardW_u, pickW_true, pickW_false, condW_true]
    exact hk false _ hb03 (iffF fun h => h5 h.2.2.1)
  rw [decide_eq_true h5]
  simp only [Bool.not_true, guardW_ff, pickW_false]
  rw [rw61_5 (hr3.cell (i := 5) rfl)]
  refine (len59 (hq.below hb03)).mpr ?_
  rw [w_gtr]
  by_cases h6 : L.locks.length ≤ 4
  case' neg =>
    rw [decide_eq_true (by omega)]
    simp only [pickW_false, condW_true]
    exact hk false _ hb03 (iffF fun h => h6 h.2.2.2.1)
  rw [decide_eq_false (by omega)]
  simp only [pickW_false, condW_false]
  refine Loop1.intro (fun n a w' => ∃ i : Nat, a = I i ∧ i ≤ L.locks.length ∧ n = L.locks.length - i ∧ Below w.heap.size w w' ∧ RowAt w' w.heap.size 61 [I L.til, e, c, I L.terr, I L.cls, q] ∧ ∀ (j : Nat) (x : Lock), j < i → L.locks[j]? = some x → RisingP x.2 19 ∧ (1 ≤ x.1 ∧ x.1 ≤ x.2.length) ∧ ∀ p, 0 < j → L.locks[j - 1]? = some p → cmpQ p x < 0) _ ⟨0, rfl, by omega, rfl, hb03, hr3, by omega⟩ ?_
  rintro n _ w4 ⟨i, rfl, hi, rfl, hb4, hr4, hP⟩
  rw [rw61_5 (hr4.cell (i := 5) rfl)]
  refine (len59 (hq.below hb4)).mpr ?_
  rw [hxl, w_lss]
  by_cases hlt : i < L.locks.length
  case' neg =>
    rw [decide_eq_false (by omega), condW_false]
    exact hk true _ hb4 (iffT ⟨h1, h4, h5, h6, fun i x hx => hP i x (by have := (List.getElem?_eq_some_iff.1 hx).1; omega) hx, h2.1 rfl, h3.1 rfl⟩)
  rw [decide_eq_true (by omega), condW_true]
  obtain ⟨p, hp⟩ : ∃ p, L.locks[i]? = some p := ⟨_, List.getElem?_eq_getElem hlt⟩
  obtain ⟨x, hx⟩ : ∃ x, xs[i]? = some x := ⟨_, List.getElem?_eq_getElem (by omega)⟩
  have hqv := hxs.2 i x p hx hp
  rw [rw61_5 (hr4.cell (i := 5) rfl), ga59 (F := fQW) rfl (hq.below hb4) (by omega) (a := x) (by simpa using hx)]
  refine w_var (vs := fQW.e x) hz87 (by rw [zc87]; rfl) (eQ.one x) size87 known87 fun w5 hb5 hsz5 hr5 => ?_
  have hb05 := hb4.trans (hb5.mono hb4.size)
  have hr45 := hr4.below hb5
  rw [drewW_eq]
  have hb06 := hb05.trans (Below.refl _ w5).drew
  replace hr5 := hr5.drew
  replace hr45 := hr45.drew
  generalize w5.drew = w6 at *
  have a6 := after_refl w6
  obtain ⟨kv, hkv, hks⟩ := hqv.below hb06
  obtain ⟨e1, e2⟩ : I x.need = I p.1 ∧ (.slice x.ka x.kn x.kc : Value) = kv := by simpa [fQW] using hkv
  have hok4 := ok4 p (List.mem_of_getElem? hp)
  refine ⟨after w6, a6, ?_⟩
  rw [ra87_1 (hr5.cell (i := 1) rfl) a6, e2]
  refine c91 hks hok4.1 fun b7 w7 hb7 h7 => ?_
  rw [keepS_eq]
  refine ⟨hb7, ?_⟩
  rw [t_not]
  cases b7 with
  | false =>
    simp only [Bool.not_false, guardT_tf, guardT_u, guardW_tf, guardW_u, keepS_eq, pickT_true, guardT_tt, guardW_ft, condW_true, guardT_ft]
    exact ⟨hb7, hb7, hk false _ (hb06.trans (hb7.mono hb06.size)) (iffF fun h => by have := h7.2 (h.2.2.2.2.1 i p hp).1; cases this)⟩
  | true =>
  simp only [Bool.not_true, guardT_ff, guardW_ff]
  rw [ra87_0 (hr5.cell (i := 0) rfl) hb7, ra87_1 (hr5.cell (i := 1) rfl) hb7, e1, e2, tlen25 (hks.below hb7)]
  refine c90 ?_
  rw [keepS_eq]
  refine ⟨hb7, ?_⟩
  rw [t_not]
  by_cases h8 : 1 ≤ p.1 ∧ p.1 ≤ (p.2.length : Int)
  case' neg =>
    rw [decide_eq_false h8]
    simp only [Bool.not_false, pickT_false, pickT_true, guardT_tf, guardT_u, guardW_tf, guardW_u, keepS_eq, guardT_tt, guardW_ft, guardT_ft, condW_true]
    exact ⟨hb7, hk false _ (hb06.trans (hb7.mono hb06.size)) (iffF fun h => h8 (h.2.2.2.2.1 i p hp).2.1)⟩
  rw [decide_eq_true h8]
  simp only [Bool.not_true, pickT_false, guardT_ff]
  rw [t_gtr]
  have next : ∀ w', Below w6.heap.size w6 w' → (∀ p', 0 < i → L.locks[i - 1]? = some p' → cmpQ p' p < 0) → ∃ m, m < L.locks.length - i ∧ ∃ i' : Nat, I (i + 1 : Nat) = I i' ∧ i' ≤ L.locks.length ∧ m = L.locks.length - i' ∧ Below w.heap.size w w' ∧ RowAt w' w.heap.size 61 [I L.til, e, c, I L.terr, I L.cls, q] ∧ ∀ (j : Nat) (x : Lock), j < i' → L.locks[j]? = some x → RisingP x.2 19 ∧ (1 ≤ x.1 ∧ x.1 ≤ x.2.length) ∧ ∀ p, 0 < j → L.locks[j - 1]? = some p → cmpQ p x < 0 := fun w' hb h =>
    ⟨L.locks.length - (i + 1), by omega, i + 1, rfl, by omega, rfl, hb06.trans (hb.mono hb06.size), hr45.below hb, fun j z hj hz => by
      by_cases hji : j = i
      · subst hji; rw [hp] at hz; cases hz; exact ⟨h7.1 rfl, h8, h⟩
      · exact hP j z (by omega) hz⟩
  by_cases h0 : 0 < i
  case' neg =>
    rw [decide_eq_false (by omega)]
    simp only [guardT_ft, guardT_u, guardW_ft, guardW_u, keepS_eq, pickT_false, condW_false]
    refine ⟨hb7, ?_⟩
    rw [w_add, wrap_id (by omega), loopK_self]
    exact next _ hb7 fun y hy => absurd hy h0
  rw [decide_eq_true (by omega)]
  simp only [guardT_tt, guardW_tt]
  obtain ⟨p0, hp0⟩ : ∃ p0, L.locks[i - 1]? = some p0 := ⟨_, List.getElem?_eq_getElem (by omega)⟩
  obtain ⟨x0, hx0⟩ : ∃ x0, xs[i - 1]? = some x0 := ⟨_, List.getElem?_eq_getElem (by omega)⟩
  have hqv0 := (hxs.2 (i - 1) x0 p0 hx0 hp0).below (hb06.trans (hb7.mono hb06.size))
  have hok0 := ok4 p0 (List.mem_of_getElem? hp0)
  have hr47 := hr45.below hb7
  rw [ra61_5 (hr45.cell (i := 5) rfl) hb7, t_sub, wrap_id (by omega), gta59 (F := fQW) rfl (hq.below (hb06.trans (hb7.mono hb06.size))) (by omega) (a := x0) (by rw [show ((i : Int) - 1).toNat = i - 1 by omega]; exact hx0), xld87 (vs := fQW.e x) rfl (hr5.below hb7).cells]
  refine c62 hqv0 (hqv.below (hb06.trans (hb7.mono hb06.size))) hok0 hok4 ((hP (i - 1) p0 (by omega) hp0).1.sm (by decide)) ((h7.1 rfl).sm (by decide)) fun w8 hb8 => ?_
  have a8 := below_trans hb7 hb8
  rw [keepS_eq]
  refine ⟨a8, ?_⟩
  rw [t_not]
  simp only [pickT_true, pickT_false]
  by_cases h9 : cmpQ p0 p < 0
  · rw [decide_eq_true h9, Bool.not_true, condW_false, w_add, wrap_id (by omega), loopK_self]
    exact next _ a8 fun p' _ hp' => by rw [hp0] at hp'; cases hp'; exact h9
  · rw [decide_eq_false h9, Bool.not_false, condW_true]
    exact hk false _ (hb06.trans (a8.mono hb06.size)) (iffF fun h => h9 ((h.2.2.2.2.1 i p hp).2.2 p0 h0 hp0)))
theorem c77 {v : Value} {m : Mom} (h : MomV w v m) (hok : okMom m) (hk : ∀ b w', Below w.heap.size w w' → (b = true ↔ ValidMom m) → k (.bool b) w') : callW Tryz.prog (.func (.func 77) #[] #[]) #[v] k w := C77 _ _ _ (by
  unfold S77
  obtain ⟨e, c, q, rfl, he, hc, hq⟩ := h
  obtain ⟨ok1, ok2, ok3⟩ := hok
  refine w_boxN (v := .agg #[I m.now, I m.drift, e, c, q]) fun w1 hb1 hsz1 hr1 => ?_
  replace hr1 : RowAt w1 w.heap.size 28 [I m.now, I m.drift, e, c, q] := hr1
  rw [rw28_0 (hr1.cell (i := 0) rfl)]
  refine c86 ?_
  by_cases h1 : 0 ≤ m.now ∧ m.now ≤ 50000000
  case' neg =>
    rw [decide_eq_false h1]
    simp only [guardW_ft, guardW_u, pickW_false]
    exact hk false _ hb1 (iffF fun h => h1 h.1)
  rw [decide_eq_true h1]
  simp only [guardW_tt]
  rw [rw28_1 (hr1.cell (i := 1) rfl)]
  refine c86 ?_
  simp only [pickW_true]
  by_cases h2 : 0 ≤ m.drift ∧ m.drift ≤ 1440
  case' neg =>
    rw [decide_eq_false h2]
    simp only [guardW_ft, guardW_u, pickW_false]
    exact hk false _ hb1 (iffF fun h => h2 h.2.1)
  rw [decide_eq_true h2]
  simp only [guardW_tt]
  rw [rw28_2 (hr1.cell (i := 2) rfl)]
  refine c87 (he.below hb1) ok1 fun b3 h3 => ?_
  simp only [pickW_true]
  cases b3 with
  | false =>
    simp only [guardW_ft, guardW_u, pickW_false]
    exact hk false _ hb1 (iffF fun h => by have := h3.2 h.2.2.1; cases this)
  | true =>
  simp only [guardW_tt]
  rw [rw28_3 (hr1.cell (i := 3) rfl)]
  refine c88 (hc.below hb1) ok2 fun b4 w4 hb4 h4 => ?_
  have hb04 := below_trans hb1 hb4
  simp only [pickW_true]
  cases b4 with
  | false =>
    simp only [guardW_ft, guardW_u, pickW_false]
    exact hk false _ hb04 (iffF fun h => by have := h4.2 h.2.2.2.1; cases this)
  | true =>
  simp only [guardW_tt]
  rw [rw28_4 ((hr1.below hb4).cell (i := 4) rfl)]
  refine c87 (hq.below hb04) ok3 fun b5 h5 => ?_
  simp only [pickW_true]
  exact hk b5 _ hb04 (h5.trans ⟨fun h => ⟨h1, h2, h3.1 rfl, h4.1 rfl, h⟩, fun h => h.2.2.2.2⟩))
theorem c83 {v : Value} {m : Mom} (h : MomV w v m) (hok : okMom m) (hk : ∀ b w', Below w.heap.size w w' → (b = true ↔ ValidMom m) → k (.bool b) w') : callW Tryz.prog (.func (.func 83) #[] #[]) #[v] k w := C83 _ _ _ (by
  unfold S83
  obtain ⟨e, c, q, rfl, he, hc, hq⟩ := h
  obtain ⟨ok1, ok2, ok3⟩ := hok
  refine w_boxN (v := .agg #[I m.now, I m.drift, e, c, q]) fun w1 hb1 hsz1 hr1 => ?_
  replace hr1 : RowAt w1 w.heap.size 28 [I m.now, I m.drift, e, c, q] := hr1
  rw [rw28_0 (hr1.cell (i := 0) rfl)]
  refine c90 ?_
  by_cases h1 : 0 ≤ m.now ∧ m.now ≤ 50000000
  case' neg =>
    rw [decide_eq_false h1]
    simp only [guardW_ft, guardW_u, pickW_false]
    exact hk false _ hb1 (iffF fun h => h1 h.1)
  rw [decide_eq_true h1]
  simp only [guardW_tt]
  rw [rw28_1 (hr1.cell (i := 1) rfl)]
  refine c90 ?_
  simp only [pickW_true]
  by_cases h2 : 0 ≤ m.drift ∧ m.drift ≤ 1440
  case' neg =>
    rw [decide_eq_false h2]
    simp only [guardW_ft, guardW_u, pickW_false]
    exact hk false _ hb1 (iffF fun h => h2 h.2.1)
  rw [decide_eq_true h2]
  simp only [guardW_tt]
  rw [rw28_2 (hr1.cell (i := 2) rfl)]
  refine c91 (he.below hb1) ok1 fun b3 w3 hb3 h3 => ?_
  have hb03 := below_trans hb1 hb3
  have hr3 := hr1.below hb3
  simp only [pickW_true]
  cases b3 with
  | false =>
    simp only [guardW_ft, guardW_u, pickW_false]
    exact hk false _ hb03 (iffF fun h => by have := h3.2 h.2.2.1; cases this)
  | true =>
  simp only [guardW_tt]
  rw [rw28_3 (hr3.cell (i := 3) rfl)]
  refine c92 (hc.below hb03) ok2 fun b4 w4 hb4 h4 => ?_
  have hb04 := below_trans hb03 hb4
  simp only [pickW_true]
  cases b4 with
  | false =>
    simp only [guardW_ft, guardW_u, pickW_false]
    exact hk false _ hb04 (iffF fun h => by have := h4.2 h.2.2.2.1; cases this)
  | true =>
  simp only [guardW_tt]
  rw [rw28_4 ((hr3.below hb4).cell (i := 4) rfl)]
  refine c91 (hq.below hb04) ok3 fun b5 w5 hb5 h5 => ?_
  simp only [pickW_true]
  exact hk b5 _ (below_trans hb04 hb5) (h5.trans ⟨fun h => ⟨h1, h2, h3.1 rfl, h4.1 rfl, h⟩, fun h => h.2.2.2.2⟩))
end
end Go.Proofs.YtfkfkldhcignbaaGreatDoor
/- IndexFunc, ContainsFunc, at whatever type. -/
set_option linter.unusedSimpArgs false
set_option linter.unusedVariables false
set_option maxRecDepth 4000
namespace Go.Proofs.YtfkfkldhcignbaaGreatDoor
open Go Go.V Go.RowKit
/-- the function value answers b at x, whatever the world behind w0 -/
def Asks (f : Value) (w0 : World) (x : Value) (b : Bool) : Prop := ∀ (w1 : World) (k : Value → World → Prop), after w0 w1 → (∀ w2, Below w1.heap.size w1 w2 → k (.bool b) w2) → callW Tryz.prog f #[x] k w1
def IdxFS (t e : Nat) (s_1 f_2 : Value) (k : Value → World → Prop) (w : World) : Prop :=
   opW Tryz.prog (Builtin.len_ #[t] 3 #[s_1]) (fun t7_3 w =>
   Loop1 (fun t8_5 w K_6 =>
   opW Tryz.prog (binS BinOp.lss 3 (Operand.tmp 8) (Operand.tmp 7) t8_5 t7_3) (fun t9_7 w =>
   condW t9_7
   (opW Tryz.prog (Instr.indexAt t s_1 t8_5) (fun t14_10 w =>
   opW Tryz.prog (Instr.loadAt e t14_10) (fun t15_11 w =>
   callW Tryz.prog f_2 #[t15_11] (fun t16_12 w =>
   condW t16_12
   (k t8_5 w)
   (opW Tryz.prog (binS BinOp.add 3 (Operand.tmp 8) (Operand.const (Value.int IntKind.i64 1)) t8_5 (Value.int IntKind.i64 1)) (fun t18_13 w =>
   loopK [] [] [s_1, f_2, t7_3] [s_1, f_2, t7_3] (K_6 t18_13 w)) w)) w) w) w)
   (k (Value.int IntKind.i64 (-1)) w)) w) (Value.int IntKind.i64 0) w) w
def FirstAt {α : Type} (l : List α) (p : α → Bool) (r : Int) : Prop := (r = -1 ∧ ∀ x ∈ l, p x = false) ∨ ∃ i : Nat, r = i ∧ (∃ x, l[i]? = some x ∧ p x = true) ∧ ∀ (j : Nat) x, j < i → l[j]? = some x → p x = false
section
variable {k : Value → World → Prop} {w : World} {α : Type} {F : Fl α} {l : List α} {t e : Nat} {s f : Value}
/-- how a slice type's elements are read -/
structure Rd (t e : Nat) (F : Fl α) (el : α → Value) : Prop where
  len : ∀ {w : World} {k : Value → World → Prop} {s : Value} {l : List α}, IsSl F w s l → opW Tryz.prog (Builtin.len_ #[t] 3 #[s]) k w = k (I l.length) w
  get : ∀ {w : World} {k : Value → World → Prop} {s : Value} {l : List α} {i : Nat} {x : α}, IsSl F w s l → l[i]? = some x → opW Tryz.prog (Instr.indexAt t s (I i)) (fun p w => opW Tryz.prog (Instr.loadAt e p) k w) w = k (el x) w
theorem idxF {el : α → Value} {p : α → Bool} (hR : Rd t e F el) (hs : IsSl F w s l) (hl : l.length ≤ maxLen) (hf : ∀ x ∈ l, Asks f w (el x) (p x)) (hk : ∀ r w', Below w.heap.size w w' → FirstAt l p r → k (I r) w') : IdxFS t e s f k w := by
  unfold IdxFS
  have hml : maxLen ≤ 9223372036854775807 := by decide
  rw [hR.len hs]
  refine Loop1.intro (fun n a w' => ∃ i : Nat, a = I i ∧ i ≤ l.length ∧ n = l.length - i ∧ Below w.heap.size w w' ∧ ∀ (j : Nat) x, j < i → l[j]? = some x → p x = false) _ ⟨0, rfl, by omega, rfl, Below.refl _ _, by omega⟩ ?_
  rintro n _ w1 ⟨i, rfl, hi, rfl, hb1, hP⟩
  rw [w_lss]
  by_cases hlt : i < l.length
  case' neg =>
    rw [decide_eq_false (by omega), condW_false]
    refine hk _ _ hb1 (.inl ⟨rfl, fun x hx => ?_⟩)
    obtain ⟨j, hj, rfl⟩ := List.getElem_of_mem hx
    exact hP j _ (by omega) (List.getElem?_eq_getElem hj)
  rw [decide_eq_true (by omega), condW_true]
  obtain ⟨x, hx⟩ : ∃ x, l[i]? = some x := ⟨_, List.getElem?_eq_getElem hlt⟩
  rw [hR.get (hs.below hb1) hx]
  refine hf x (List.mem_of_getElem? hx) w1 _ hb1 fun w2 hb2 => ?_
  have hb02 := below_trans hb1 hb2
  cases hpx : p x with
  | true =>
    rw [condW_true]
    exact hk _ _ hb02 (.inr ⟨i, rfl, ⟨x, hx, hpx⟩, hP⟩)
  | false =>
    rw [condW_false, w_add, wrap_id (by omega), loopK_self]
    refine ⟨l.length - (i + 1), by omega, i + 1, by simp [I], by omega, rfl, hb02, fun j z hj hz => ?_⟩
    by_cases hji : j = i
    · subst hji; rw [hx] at hz; cases hz; exact hpx
    · exact hP j z (by omega) hz
theorem FirstAt.any {p : α → Bool} {r : Int} (h : FirstAt l p r) : decide (0 ≤ r) = l.any p := by
  rcases h with ⟨rfl, h⟩ | ⟨i, rfl, ⟨x, hx, hp⟩, _⟩
  · rw [decide_eq_false (by omega)]
    symm
    rw [List.any_eq_false]
    intro x hx; rw [h x hx]; decide
  · rw [decide_eq_true (by omega)]
    symm
    rw [List.any_eq_true]
    exact ⟨x, List.mem_of_getElem? hx, hp⟩
theorem rd25 : Rd 25 3 fI (fun n => I n) := ⟨fun hs => len25 hs, fun hs hx => gw25 (F := fI) rfl hs (by omega) (by simpa using hx) rfl⟩
theorem rd26 : Rd 26 121 fC (fun c => .agg (fC.e c).toArray) := ⟨fun hs => len26 hs, fun hs hx => ga26 (F := fC) rfl hs (by omega) (by simpa using hx)⟩
theorem rd59 : Rd 59 87 fQW (fun c => agQ c) := ⟨fun hs => len59 hs, fun hs hx => ga59 (F := fQW) rfl hs (by omega) (by simpa using hx)⟩
theorem c197 {l : List Int} {p : Int → Bool} (hs : IsSl fI w s l) (hl : l.length ≤ maxLen) (hf : ∀ x ∈ l, Asks f w (I x) (p x)) (hk : ∀ r w', Below w.heap.size w w' → FirstAt l p r → k (I r) w') : callW Tryz.prog (.func (.func 197) #[] #[]) #[s, f] k w := C197 _ _ _ _ (idxF rd25 hs hl hf hk)
theorem c200 {l : List CW} {p : CW → Bool} (hs : IsSl fC w s l) (hl : l.length ≤ maxLen) (hf : ∀ x ∈ l, Asks f w (.agg (fC.e x).toArray) (p x)) (hk : ∀ r w', Below w.heap.size w w' → FirstAt l p r → k (I r) w') : callW Tryz.prog (.func (.func 200) #[] #[]) #[s, f] k w := C200 _ _ _ _ (idxF rd26 hs hl hf hk)
theorem c201 {l : List QW} {p : QW → Bool} (hs : IsSl fQW w s l) (hl : l.length ≤ maxLen) (hf : ∀ x ∈ l, Asks f w (agQ x) (p x)) (hk : ∀ r w', Below w.heap.size w w' → FirstAt l p r → k (I r) w') : callW Tryz.prog (.func (.func 201) #[] #[]) #[s, f] k w := C201 _ _ _ _ (idxF rd59 hs hl hf hk)
theorem c187 {l : List Int} {p : Int → Bool} (hs : IsSl fI w s l) (hl : l.length ≤ maxLen) (hf : ∀ x ∈ l, Asks f w (I x) (p x)) (hk : ∀ w', Below w.heap.size w w' → k (.bool (l.any p)) w') : callW Tryz.prog (.func (.func 187) #[] #[]) #[s, f] k w := C187 _ _ _ _ (by
  unfold S187
  refine c197 hs hl hf fun r w1 hb1 hr => ?_
  rw [w_geq, hr.any]; exact hk _ hb1)
theorem c190 {l : List CW} {p : CW → Bool} (hs : IsSl fC w s l) (hl : l.length ≤ maxLen) (hf : ∀ x ∈ l, Asks f w (.agg (fC.e x).toArray) (p x)) (hk : ∀ w', Below w.heap.size w w' → k (.bool (l.any p)) w') : callW Tryz.prog (.func (.func 190) #[] #[]) #[s, f] k w := C190 _ _ _ _ (by
  unfold S190
  refine c200 hs hl hf fun r w1 hb1 hr => ?_
  rw [w_geq, hr.any]; exact hk _ hb1)
theorem c194 {l : List QW} {p : QW → Bool} (hs : IsSl fQW w s l) (hl : l.length ≤ maxLen) (hf : ∀ x ∈ l, Asks f w (agQ x) (p x)) (hk : ∀ w', Below w.heap.size w w' → k (.bool (l.any p)) w') : callW Tryz.prog (.func (.func 194) #[] #[]) #[s, f] k w := C194 _ _ _ _ (by
  unfold S194
  refine c201 hs hl hf fun r w1 hb1 hr => ?_
  rw [w_geq, hr.any]; exact hk _ hb1)
theorem c202 {l : List Int} {v : Int} (hs : IsSl fI w s l) (hl : l.length ≤ maxLen) (hk : ∀ r, FirstAt l (fun x => decide (v = x)) r → k (I r) w) : callW Tryz.prog (.func (.func 202) #[] #[]) #[s, I v] k w := C202 _ _ _ _ (by
  unfold S202
  have hml : maxLen ≤ 9223372036854775807 := by decide
  refine (len25 hs).mpr ?_
  refine Loop1.intro (fun n a w' => ∃ i : Nat, a = I i ∧ i ≤ l.length ∧ n = l.length - i ∧ w' = w ∧ ∀ (j : Nat) x, j < i → l[j]? = some x → decide (v = x) = false) _ ⟨0, rfl, by omega, rfl, rfl, by omega⟩ ?_
  rintro n _ _ ⟨i, rfl, hi, rfl, rfl, hP⟩
  rw [w_lss]
  by_cases hlt : i < l.length
  case' neg =>
    rw [decide_eq_false (by omega), condW_false]
    refine hk _ (.inl ⟨rfl, fun x hx => ?_⟩)
    obtain ⟨j, hj, rfl⟩ := List.getElem_of_mem hx
    exact hP j _ (by omega) (List.getElem?_eq_getElem hj)
  rw [decide_eq_true (by omega), condW_true]
  obtain ⟨x, hx⟩ : ∃ x, l[i]? = some x := ⟨_, List.getElem?_eq_getElem hlt⟩
  rw [gw25 (F := fI) rfl hs (by omega) (by simpa using hx) rfl, w_eql]
  by_cases hv : v = x
  · rw [decide_eq_true hv, condW_true]
    exact hk _ (.inr ⟨i, rfl, ⟨x, hx, decide_eq_true hv⟩, hP⟩)
  · rw [decide_eq_false hv, condW_false, w_add, wrap_id (by omega), loopK_self]
    refine ⟨l.length - (i + 1), by omega, i + 1, by simp [I], by omega, rfl, rfl, fun j z hj hz => ?_⟩
    by_cases hji : j = i
    · subst hji; rw [hx] at hz; cases hz; exact decide_eq_false hv
    · exact hP j z (by omega) hz)
theorem c199 {l : List Int} {v : Int} (hs : IsSl fI w s l) (hl : l.length ≤ maxLen) (hk : k (.bool (decide (v ∈ l))) w) : callW Tryz.prog (.func (.func 199) #[] #[]) #[s, I v] k w := C199 _ _ _ _ (by
  unfold S199
  refine c202 hs hl fun r hr => ?_
  rw [w_geq, hr.any]
  rw [show l.any (fun x => decide (v = x)) = decide (v ∈ l) by
    rw [Bool.eq_iff_iff, List.any_eq_true, decide_eq_true_eq]
    exact ⟨fun ⟨x, hx, h⟩ => by rw [of_decide_eq_true h]; exact hx, fun h => ⟨v, h, decide_eq_true rfl⟩⟩]
  exact hk)
/-- lacks: a function that asks whether a number is not on a list -/
theorem c188 {v : Value} {l : List Int} (hs : IsSl fI w v l) (hl : l.length ≤ maxLen) (hk : ∀ f w', Below w.heap.size w w' → (∀ x, Asks f w' (I x) (!decide (x ∈ l))) → k f w') : callW Tryz.prog (.func (.func 188) #[] #[]) #[v] k w := C188 _ _ _ (by
  unfold S188
  obtain ⟨a, c, rfl, hc⟩ := id hs
  refine w_boxN (v := .slice a l.length c) fun w1 hb1 hsz1 hr1 => ?_
  replace hr1 : RowAt w1 w.heap.size 25 [.slice a l.length c] := hr1
  rw [w_makeFunc]
  refine hk _ _ hb1 fun x w2 k2 ha2 hk2 => ?_
  refine C198 _ _ _ _ ?_
  unfold S198
  rw [ld25 ((hr1.below ha2).cell (i := 0) rfl)]
  refine c199 (hs.below (below_trans hb1 ha2)) hl ?_
  rw [w_not]
  exact hk2 _ (Below.refl _ _))
end
end Go.Proofs.YtfkfkldhcignbaaGreatDoor
/- Clearing a slice's tail; bits of small numbers. -/
set_option linter.unusedSimpArgs false
set_option linter.unusedVariables false
namespace Go.V
open Go Go.RowKit
theorem run_zeroOf {P : Program} {t e : TypeId} {size bytes : Nat} {z : Value} (h : STy P t e size bytes z) (w : World) : (zeroValue e).run P w = .ok z w := by
  obtain ⟨i, hi, hz, hs, hby⟩ := h.info
  simp [zeroValue, run_typeInfo hi, hz, Sem.run_bind, Result.andThen]
theorem flat_take {α : Type} {F : Fl α} (l : List α) (i : Nat) : flat F (l.take i) = (flat F l).take (i * F.sz) := by
  induction l generalizing i with
  | nil => simp [flat]
  | cons x r ih =>
    cases i with
    | zero => simp [flat]
    | succ i =>
      rw [List.take_succ_cons]
      simp only [flat]
      rw [ih, List.take_append (l₁ := F.e x), List.take_of_length_le (l := F.e x) (by rw [F.len, Nat.add_mul]; omega), F.len]
      congr 2
      rw [Nat.add_mul]; omega
theorem w_clearTail {P : Program} {k : Value → World → Prop} {w : World} {α : Type} {F : Fl α} {v : Value} {L : List α} {t e ty : TypeId} {B bytes : Nat} {z : Value} {q q' : IntKind} {i : Nat} (h : STy P t e 1 bytes z) (hF : F.sz = 1) (ht : P.underlying t = some (.slice (P.elem t))) (hkn : known P (P.elem t) = true) (hse : sizeT P (P.elem t) = 1) (hzc : z.cells = #[z]) (h1 : z.oneCell' = true)
    (hm : Mine F e w B v L) (hi : i ≤ L.length) (hB : B ≤ w.heap.size) (hk : ∀ u w', Mine F e w' B u (L.take i) → Below B w w' → Off (isOf v) w w' → (∀ b, isOf u b → isOf v b) → w'.heap.size = w.heap.size → k u w') :
    opW P (Instr.sliceAt t v (some (.int q i)) none none) (fun v' w => opW P (Builtin.clear_ #[t] ty #[v']) (fun _ w => opW P (Instr.sliceAt t v none (some (.int q' i)) none) k w) w) w := by
  have hm0 := hm
  have hlen := hm.1
  rcases hm.2 with ⟨rfl, hn⟩ | ⟨g, cap, cur, rfl, hgb, hgg, hnc, hcm, hcs, htk⟩
  · have hL : L = [] := List.eq_nil_of_length_eq_zero hn
    subst hL
    have hi0 : i = 0 := by simpa using hi
    subst hi0
    rw [opW_ok (run_sliceFrom ht hkn (Nat.zero_le _) w), opW_ok (show (Builtin.clear_ #[t] ty _).run P w = .ok (.tuple #[]) w by simp [Builtin.clear_, run_underlying h.u, Sem.run_bind, Result.andThen])]
    rw [opW_ok (show (Instr.sliceAt t (.slice none 0 0) none (some (.int q' ((0 : Nat) : Int))) none).run P w = .ok (sliced none 0 0 0 (sizeT P (P.elem t))) w by
      rw [run_sliceAt_slice _ _ _ _ _ _ ht, run_slice_h w t _ _ 0 ht q' ((0 : Nat) : Int) (by omega) (by omega), run_sizeOf hkn]
      simp [Result.andThen])]
    exact hk _ _ (by simpa [sliced] using hm0) (Below.refl _ _) (Off.refl _ _) (fun b hb => by simpa [sliced] using hb) rfl
  · have hrow : RowAt w g e cur.toList := by unfold RowAt; simpa using hgg
    rw [hF, Nat.mul_one] at hlen
    have hcs' : cur.size = cap := by rw [hcs, hF, Nat.mul_one]
    rw [opW_ok (run_sliceFrom ht hkn hi w), hse]
    have hfin : ∀ w', (∃ cur' : Array Value, w'.heap[g]? = some (.cells cur' e (0, 0)) ∧ cur'.size = cap ∧ cur'.toList.take i = cur.toList.take i) → Only g w w' → opW P (Instr.sliceAt t (.slice (some ⟨g, 0, none⟩) L.length cap) none (some (.int q' i)) none) k w' := by
      rintro w' ⟨cur', hg', hs', ht'⟩ ho
      rw [opW_ok (show (Instr.sliceAt t (.slice (some ⟨g, 0, none⟩) L.length cap) none (some (.int q' i)) none).run P w' = .ok (sliced (some ⟨g, 0, none⟩) 0 i cap (sizeT P (P.elem t))) w' by
        rw [run_sliceAt_slice _ _ _ _ _ _ ht, run_slice_h w' t _ _ cap ht q' i (by omega) (by omega), run_sizeOf hkn]
        simp [Result.andThen])]
      have hv : sliced (some ⟨g, 0, none⟩) 0 i cap (sizeT P (P.elem t)) = .slice (some ⟨g, 0, none⟩) i cap := by
        unfold sliced
        simp [add_none]
      rw [hv]
      have htk2 : flat F (L.take i) = cur.toList.take i := by
        rw [flat_take, hF, Nat.mul_one, ← htk, hF, Nat.mul_one, List.take_take, Nat.min_eq_left hi]
      refine hk _ _ ⟨by rw [htk2]; simp [hF]; omega, .inr ⟨g, cap, cur', by rw [List.length_take, Nat.min_eq_left hi], hgb, hg', by rw [List.length_take]; omega, hcm, by rw [hF, Nat.mul_one]; exact hs', ?_⟩⟩ (ho.rest _ hgb) (Off.only ho rfl) (fun b hb => by simpa [isOf, Value.ownBlock] using hb) ho.size
      rw [htk2, List.length_take, Nat.min_eq_left hi, hF, Nat.mul_one]; exact ht'
    by_cases hin : i = L.length
    · rw [show L.length - i = 0 by omega, opW_ok ((show ∀ a c, (Builtin.clear_ #[t] ty #[.slice a 0 c]).run P w = .ok (.tuple #[]) w from fun a c => by cases a <;> simp [Builtin.clear_, run_underlying h.u, Sem.run_bind, Result.andThen]) _ _)]
      exact hfin w ⟨cur, hgg, hcs', rfl⟩ (Only.refl _ _)
    have hci : ¬ cap = i := by omega
    rw [if_neg hci]
    simp only [Option.map_some, add_none, Nat.zero_add, Nat.mul_one]
    obtain ⟨m, hmn⟩ : ∃ m, L.length - i = m + 1 := ⟨L.length - i - 1, by omega⟩
    have hzc2 : (Builtin.zeroCells z.cells (m + 1)).toList = List.replicate (m + 1) z := by
      rw [hzc]
      simp [Builtin.zeroCells]
      apply List.ext_getElem
      · simp
      · intro i h1 h2
        simp [Nat.mod_one]
    have hcl : cur.toList.length = cap := by simpa using hcs'
    have hst := run_storeCells (P := P) (b := g) (o := i) (List.replicate (m + 1) z) 0 w (by intro u hu; rw [List.eq_of_mem_replicate hu]; exact h1) (fun j hj => by
        rw [List.length_replicate] at hj
        obtain ⟨u, hu⟩ : ∃ u, cur.toList[i + 0 + j]? = some u := ⟨_, List.getElem?_eq_getElem (by omega)⟩
        exact ⟨u, hrow.cell hu⟩) (fun j hj => hrow.free _)
    rw [hmn, opW_ok (show (Builtin.clear_ #[t] ty #[.slice (some ⟨g, i, none⟩) (m + 1) (cap - i)]).run P w = .ok (.tuple #[]) (setCells w g (i + 0) (List.replicate (m + 1) z)) by
      simp [Builtin.clear_, run_underlying h.u, run_zeroOf h, hzc2, Sem.run_bind, Result.andThen] at hst ⊢
      rw [hst])]
    rw [Nat.add_zero]
    have hsplit : cur.toList = cur.toList.take i ++ (cur.toList.drop i).take (m + 1) ++ cur.toList.drop (L.length) := by
      rw [List.append_assoc, show L.length = i + (m + 1) by omega, ← List.drop_drop, List.take_append_drop, List.take_append_drop]
    have hpl : (cur.toList.take i).length = i := by rw [List.length_take]; omega
    have hrow2 : RowAt w g e (cur.toList.take i ++ (cur.toList.drop i).take (m + 1) ++ cur.toList.drop (L.length)) := by rw [← hsplit]; exact hrow
    have hr3 := rowAt_setMid (List.replicate (m + 1) z) _ _ _ w hrow2 (by rw [List.length_replicate, List.length_take, List.length_drop]; omega)
    rw [hpl] at hr3
    refine hfin _ ⟨_, hr3, ?_, ?_⟩ (only_setCells _ _ _)
    · simp; omega
    · simp [List.take_append, Nat.min_eq_left, hpl]
theorem ofInt_small (n : Nat) : BitVec.ofInt 64 (n : Int) = BitVec.ofNat 64 n := BitVec.ofInt_natCast 64 n
section
variable {P : Program} {k : Value → World → Prop} {K : Value → Prop} {S : World → Prop} {w : World} {t : TypeId} {ox oy : Operand}
theorem w_and {n m : Nat} (hn : n < 4611686018427387904) (hm : m < 4611686018427387904) : opW P (binS .and t ox oy (.int .i64 n) (.int .i64 m)) k w = k (.int .i64 ((n &&& m : Nat) : Int)) w :=
  opW_ok (by
    rw [run_binS_int (by simp) (by simp)]
    have h3 : n &&& m ≤ n := Nat.and_le_left
    have hb : (BitVec.ofInt (IntKind.bits .i64) (n : Int) &&& BitVec.ofInt (IntKind.bits .i64) (m : Int)).toNat = n &&& m := by
      show (BitVec.ofInt 64 (n : Int) &&& BitVec.ofInt 64 (m : Int)).toNat = n &&& m
      rw [ofInt_small, ofInt_small, BitVec.toNat_and, BitVec.toNat_ofNat, BitVec.toNat_ofNat, Nat.mod_eq_of_lt (by omega), Nat.mod_eq_of_lt (by omega)]
    simp only [binOp, Op.intBits]
    rw [hb, wrap_id (by omega)]
    rfl)
theorem t_and {n m : Nat} (hn : n < 4611686018427387904) (hm : m < 4611686018427387904) : takeW P S (binS .and t ox oy (.int .i64 n) (.int .i64 m)) K w = K (.int .i64 ((n &&& m : Nat) : Int)) := takeW_pure fun w => run_of_eq fun k => w_and hn hm
theorem shr_nat (n r : Nat) : (n : Int).fdiv (2 ^ r) = ((n / 2 ^ r : Nat) : Int) := by
  rw [Int.fdiv_eq_ediv_of_nonneg _ (by exact_mod_cast Nat.zero_le (2 ^ r))]
  exact_mod_cast rfl
theorem w_shrN {n r : Nat} {m : Int} (hm : m = r) (h : r ≤ 64) : opW P (binS .shr t ox oy (.int .i64 n) (.int .i64 m)) k w = k (.int .i64 ((n / 2 ^ r : Nat) : Int)) w := by
  subst hm
  rw [w_shr (by omega), show min ((r : Int).toNat) (IntKind.bits .i64) = r by simp [IntKind.bits]; omega, shr_nat]
theorem t_shrN {n r : Nat} {m : Int} (hm : m = r) (h : r ≤ 64) : takeW P S (binS .shr t ox oy (.int .i64 n) (.int .i64 m)) K w = K (.int .i64 ((n / 2 ^ r : Nat) : Int)) := takeW_pure fun w => run_of_eq fun k => w_shrN hm h
end

section
variable {P : Program} {k : Value → World → Prop} {K : Value → Prop} {S : World → Prop} {w : World} {t : TypeId} {ox oy : Operand}
theorem t_andOne {n : Nat} (hn : n < 4611686018427387904) : takeW P S (binS .and t ox oy (.int .i64 n) (.int .i64 1)) K w = K (.int .i64 ((n % 2 : Nat) : Int)) := by
  rw [← Nat.and_one_is_mod]; exact t_and (m := 1) hn (by decide)
end
end Go.V
namespace Go.V
open Go Go.RowKit
/-- a field of an element of one's own is stored -/
theorem Mine.setFT {P : Program} {w : World} {α : Type} {F : Fl α} {e B t st ft f j : Nat} {q : IntKind} {v u : Value} {l : List α} {x y : α} {m : Int} {i : Nat} {K : Value → World → Prop} (hm : m = (i : Int)) (h : isSliceT P t = true) (he : known P (elemT P t) = true) (hz : sizeT P (elemT P t) = F.sz) (hf : fieldOff P st f = some j) (hs : sizeT P ft = 1) (hkn : known P ft = true)
    (hown : Mine F e w B v l) (hx : l[i]? = some x) (hj : j < F.sz) (hy : F.e y = (F.e x).set j u) (hu : u.oneCell' = true)
    (hk : ∀ w', Mine F e w' B v (l.set i y) → Below B w w' → Off (isOf v) w w' → K undef w') :
    takeW P anyW (Instr.indexAt t v (.int q m)) (fun p => takeW P anyW (Instr.fieldAt st p f) (fun p => opU P (Instr.storeAt ft p u) K w) w) w := by
  subst hm
  have hlt := (List.getElem?_eq_some_iff.1 hx).1
  have hne : l ≠ [] := fun hh => by rw [hh] at hx; simp at hx
  rcases hown.2 with ⟨_, hn⟩ | ⟨g, cap, cur, rfl, hb, hgg, hnc, hcm, hcs, htk⟩
  · exact absurd (List.eq_nil_of_length_eq_zero hn) hne
  rw [takeW_pure (fun w => run_index h he (by omega) (by omega) w), hz, Nat.zero_add, Int.toNat_natCast, t_field hf]
  have hrow : RowAt w g e (flat F (l.take i) ++ (F.e x ++ (flat F (l.drop (i + 1)) ++ cur.toList.drop (l.length * F.sz)))) := by
    unfold RowAt
    rw [← List.append_assoc, ← List.append_assoc, ← flat_split hx, ← htk, List.take_append_drop]; exact hgg
  have hpl : (flat F (l.take i)).length = i * F.sz := by rw [flat_length, List.length_take, Nat.min_eq_left (by omega)]
  have hin : i * F.sz + j < (flat F (l.take i) ++ (F.e x ++ (flat F (l.drop (i + 1)) ++ cur.toList.drop (l.length * F.sz)))).length := by
    simp only [List.length_append, hpl, F.len]; omega
  rw [w_store hu hs hkn (hrow.cell (List.getElem?_eq_getElem hin)) (hrow.free _)]
  have hrow' := hrow.set (i * F.sz + j) u
  rw [List.set_append_right _ _ (by omega), hpl, Nat.add_sub_cancel_left, List.set_append_left _ _ (by rw [F.len]; exact hj), ← hy] at hrow'
  refine hk _ ?_ ((Below.refl _ _).setCell hb _) (Off.set rfl)
  have hset : flat F (l.set i y) = flat F (l.take i) ++ F.e y ++ flat F (l.drop (i + 1)) := by
    have hy' : (l.set i y)[i]? = some y := by rw [List.getElem?_set_self (by omega)]
    rw [flat_split hy', List.take_set, List.drop_set, if_pos (by omega), List.set_eq_of_length_le (by rw [List.length_take]; omega)]
  unfold Mine
  refine ⟨by rw [flat_length], .inr ⟨g, cap, (flat F (l.take i) ++ (F.e y ++ (flat F (l.drop (i + 1)) ++ cur.toList.drop (l.length * F.sz)))).toArray, by rw [List.length_set], hb, hrow', by rw [List.length_set]; exact hnc, hcm, ?_, ?_⟩⟩
  · have e1 : (flat F (l.take i) ++ F.e x ++ (flat F (l.drop (i + 1)) ++ cur.toList.drop (l.length * F.sz))).length = cur.size := by
      rw [← List.append_assoc, ← flat_split hx, ← htk, List.take_append_drop]; simp
    rw [← hcs, ← e1]
    simp [F.len]
  · rw [hset, List.length_set]
    simp only [← List.append_assoc]
    rw [← hset]
    refine List.take_left' ?_
    rw [flat_length, List.length_set]
end Go.V
namespace Go.V
open Go Go.RowKit
/-- an element of one's own, of one cell, is stored -/
theorem Mine.setET {P : Program} {w : World} {α : Type} {F : Fl α} {e B t ft : Nat} {q : IntKind} {v u : Value} {l : List α} {x y : α} {m : Int} {i : Nat} {K : Value → World → Prop} (hm : m = (i : Int)) (h : isSliceT P t = true) (he : known P (elemT P t) = true) (hz : sizeT P (elemT P t) = F.sz) (hF : F.sz = 1) (hs : sizeT P ft = 1) (hkn : known P ft = true)
    (hown : Mine F e w B v l) (hx : l[i]? = some x) (hy : F.e y = [u]) (hu : u.oneCell' = true)
    (hk : ∀ w', Mine F e w' B v (l.set i y) → Below B w w' → Off (isOf v) w w' → K undef w') :
    takeW P anyW (Instr.indexAt t v (.int q m)) (fun p => opU P (Instr.storeAt ft p u) K w) w := by
  subst hm
  have hlt := (List.getElem?_eq_some_iff.1 hx).1
  have hne : l ≠ [] := fun hh => by rw [hh] at hx; simp at hx
  obtain ⟨g, c, rfl, hof, ho⟩ := hown.at hne
  rw [takeW_pure (fun w => run_index h he (by omega) (by omega) w), hz, hF, Nat.mul_one, Nat.zero_add, Int.toNat_natCast]
  obtain ⟨ho', hg', old, hold⟩ := ho.store hF hx hy
  rw [w_store hu hs hkn hold (ho.free _)]
  refine hk _ ?_ ?_ (Off.set hof)
  · unfold OwnS at ho'
    rw [List.length_set] at ho'
    unfold Mine
    rw [List.length_set]; exact ho'
  · exact (Below.refl _ _).setCell (ho.ge.1) _
theorem w_zerosM {P : Program} {k : Value → World → Prop} {w : World} {t e : Nat} {n : Nat} {m : Int} (hmn : m = (n : Int)) {z : Value} {bytes : Nat} {α : Type} {F : Fl α} {x : α} (h : STy P t e F.sz bytes z) (hF : F.sz = 1) (hu : F.e x = [z]) (hzc : z.cells = #[z]) (hn : n ≤ 16777216) (hb : bytes * n ≤ 281474976710656)
    (hk : ∀ w', Below w.heap.size w w' → Mine F e w' w.heap.size (.slice (some ⟨w.heap.size, 0, none⟩) n n) (List.replicate n x) → k (.slice (some ⟨w.heap.size, 0, none⟩) n n) w') : opW P (Instr.makeSlice t (.int .i64 m) (.int .i64 m)) k w := by
  subst hmn
  obtain ⟨i, hi, hzz, hs, hby⟩ := h.info
  obtain ⟨w', hr, ho, hg⟩ := run_makeSlice_full (P := P) (w := w) w.heap.size t e i z F.sz h.u hi hzz hs .i64 .i64 n (by rw [hF]; omega) (by rw [hby]; exact hb) (by unfold maxLen; omega) (Nat.le_refl _)
  rw [opW_ok hr]
  have hfl : flat F (List.replicate n x) = (madeCells z.cells (n * F.sz)).toList := by
    rw [hF, hzc, toList_madeCells_one, Nat.mul_one]
    clear ho hr hg hn hb hk
    induction n with
    | zero => rfl
    | succ n ih => simp [List.replicate_succ, flat, hu] at ih ⊢; exact ih
  have hm : Mine F e w' w.heap.size (.slice (some ⟨w.heap.size, 0, none⟩) n n) (List.replicate n x) := by
    unfold Mine
    rw [hfl, List.length_replicate]; exact ho
  exact hk w' ⟨hg.os, hg.tape, hg.output, hg.size, fun k hk => hg.block k hk (by simp)⟩ hm
end Go.V
/- DeleteFunc, Clone, at numbers and at pointers. -/
set_option linter.unusedSimpArgs false
set_option linter.unusedVariables false
set_option maxRecDepth 4000
namespace Go.Proofs.YtfkfkldhcignbaaGreatDoor
open Go Go.V Go.RowKit
/-- the function value answers b at x, whatever the world is, but for the blocks own -/
def AsksO (f : Value) (w0 : World) (own : Nat → Prop) (x : Value) (b : Bool) : Prop := ∀ (w1 : World) (k : Value → World → Prop), Off own w0 w1 → (∀ w2, Below w1.heap.size w1 w2 → k (.bool b) w2) → callW Tryz.prog f #[x] k w1
theorem AsksO.asks {f : Value} {w0 : World} {own : Nat → Prop} {x : Value} {b : Bool} (h : AsksO f w0 own x b) : Asks f w0 x b := fun w1 k ha hk => h w1 k (Off.below ha) hk
def DelS (t e fi : Nat) (s_1 del_2 : Value) (k : Value → World → Prop) (w : World) : Prop :=
   callW Tryz.prog (Value.func (Fn.func fi) #[] #[]) #[s_1, del_2] (fun t10_3 w =>
   opW Tryz.prog (binS BinOp.eql 3 (Operand.tmp 11) (Operand.const (Value.int IntKind.i64 (-1))) t10_3 (Value.int IntKind.i64 (-1))) (fun t12_5 w =>
   condW t12_5
   (k s_1 w)
   (opW Tryz.prog (binS BinOp.add 3 (Operand.tmp 14) (Operand.const (Value.int IntKind.i64 1)) t10_3 (Value.int IntKind.i64 1)) (fun t15_6 w =>
   Loop2 (fun i_8 j_9 w K_10 =>
   opW Tryz.prog (Builtin.len_ #[t] 3 #[s_1]) (fun t18_12 w =>
   opW Tryz.prog (binS BinOp.lss 3 (Operand.tmp 16) (Operand.tmp 18) j_9 t18_12) (fun t19_13 w =>
   condW t19_13
   (joinW (fun i_21 w =>
   opW Tryz.prog (binS BinOp.add 3 (Operand.tmp 20) (Operand.const (Value.int IntKind.i64 1)) j_9 (Value.int IntKind.i64 1)) (fun t21_22 w =>
   loopK [] [] [s_1, del_2] [s_1, del_2] (K_10 i_21 t21_22 w)) w) (fun J_14 =>
   opW Tryz.prog (Instr.indexAt t s_1 j_9) (fun t24_15 w =>
   opW Tryz.prog (Instr.loadAt e t24_15) (fun t25_16 w =>
   callW Tryz.prog del_2 #[t25_16] (fun t28_17 w =>
   opW Tryz.prog (Op.unary UnOp.not t28_17) (fun t29_18 w =>
   condW t29_18
   (opW Tryz.prog (Instr.indexAt t s_1 i_8) (fun t33_19 w =>
   opU Tryz.prog (Instr.storeAt e t33_19 t25_16) (fun _ w =>
   opW Tryz.prog (binS BinOp.add 3 (Operand.tmp 34) (Operand.const (Value.int IntKind.i64 1)) i_8 (Value.int IntKind.i64 1)) (fun t35_20 w =>
   J_14 t35_20 w) w) w) w)
   (J_14 i_8 w)) w) w) w) w))
   (opW Tryz.prog (Instr.sliceAt t s_1 (some i_8) none none) (fun t38_23 w =>
   opW Tryz.prog (Builtin.clear_ #[t] 0 #[t38_23]) (fun _ w =>
   opW Tryz.prog (Instr.sliceAt t s_1 none (some i_8) none) (fun t41_24 w =>
   k t41_24 w) w) w) w)) w) w) t10_3 t15_6 w) w)) w) w
theorem filter_eq_self' {α : Type} {l : List α} {p : α → Bool} (h : ∀ x ∈ l, p x = false) : l.filter (fun x => !p x) = l := List.filter_eq_self.2 fun x hx => by rw [h x hx]; rfl
section
variable {k : Value → World → Prop} {w : World} {α : Type} {F : Fl α} {l : List α} {t e fi : Nat} {s f v : Value}
theorem delF {el : α → Value} {p : α → Bool} {bytes B : Nat} {z : Value} (hR : Rd t e F el) (h : STy Tryz.prog t e 1 bytes z) (hF : F.sz = 1) (hel : ∀ x, F.e x = [el x]) (h1 : ∀ x, (el x).oneCell' = true) (ht : Tryz.prog.underlying t = some (.slice (Tryz.prog.elem t))) (hkn : known Tryz.prog (Tryz.prog.elem t) = true) (hse : sizeT Tryz.prog (Tryz.prog.elem t) = 1) (hee : elemT Tryz.prog t = Tryz.prog.elem t) (hke : known Tryz.prog e = true) (hsz : sizeT Tryz.prog e = 1) (hzc : z.cells = #[z]) (hz1 : z.oneCell' = true)
    (hI : ∀ {w : World} {k : Value → World → Prop}, IsSl F w v l → (∀ x ∈ l, Asks f w (el x) (p x)) → (∀ r w', Below w.heap.size w w' → FirstAt l p r → k (I r) w') → callW Tryz.prog (Value.func (Fn.func fi) #[] #[]) #[v, f] k w)
    (hm : Mine F e w B v l) (hl : l.length ≤ maxLen) (hB : B ≤ w.heap.size) (hf : ∀ x ∈ l, AsksO f w (isOf v) (el x) (p x))
    (hk : ∀ u w', Mine F e w' B u (l.filter fun x => !p x) → Below B w w' → Off (isOf v) w w' → (∀ b, isOf u b → isOf v b) → k u w') : DelS t e fi v f k w := by
  unfold DelS
  have hml : maxLen ≤ 9223372036854775807 := by decide
  refine hI hm.sl (fun x hx => (hf x hx).asks) fun r w1 hb1 hr => ?_
  rw [w_eql]
  rcases hr with ⟨rfl, hno⟩ | ⟨i0, rfl, ⟨x0, hx0, hp0⟩, hbef⟩
  · rw [decide_eq_true rfl, condW_true]
    have : l.filter (fun x => !p x) = l := filter_eq_self' hno
    exact hk v w1 (by rw [this]; exact hm.below hb1) (hb1.mono hB) (Off.below hb1) fun b hb => hb
  have hi0 := (List.getElem?_eq_some_iff.1 hx0).1
  rw [decide_eq_false (by omega), condW_false, w_add, wrap_id (by omega)]
  refine Loop2.intro (fun n a b w' => ∃ (i j : Nat) (M : List α), a = I i ∧ b = I j ∧ i ≤ j ∧ j ≤ l.length ∧ n = l.length - j ∧ M.length = l.length ∧ M.take i = (l.take j).filter (fun x => !p x) ∧ M.drop j = l.drop j ∧ Mine F e w' B v M ∧ Below B w w' ∧ Off (isOf v) w w') _ ⟨i0, i0 + 1, l, rfl, by simp [I], by omega, by omega, rfl, rfl, ?_, rfl, hm.below hb1, hb1.mono hB, Off.below hb1⟩ ?_
  · rw [show l.take (i0 + 1) = l.take i0 ++ [x0] by rw [List.take_add_one, hx0]; rfl, List.filter_append, filter_eq_self' fun x hx => by
      obtain ⟨j, hj, rfl⟩ := List.getElem_of_mem hx
      rw [List.length_take] at hj
      exact hbef j _ (by omega) (by rw [List.getElem_take]; exact List.getElem?_eq_getElem (by omega))]
    simp [hp0]
  rintro n _ _ w2 ⟨i, j, M, rfl, rfl, hij, hj, rfl, hML, htk, hdr, hm2, hb2, ho2⟩
  rw [hR.len hm2.sl, hML, w_lss]
  by_cases hlt : j < l.length
  case' neg =>
    rw [decide_eq_false (by omega), condW_false]
    refine w_clearTail h hF ht hkn hse hzc hz1 hm2 (by omega) (Nat.le_trans hB hb2.size) fun u w3 hm3 hb3 ho3 hu _ => ?_
    refine hk u w3 ?_ (hb2.trans hb3) (ho2.trans ho3) hu
    rw [htk, show j = l.length by omega, List.take_length] at hm3
    exact hm3
  rw [decide_eq_true (by omega), condW_true]
  obtain ⟨x, hx⟩ : ∃ x, l[j]? = some x := ⟨_, List.getElem?_eq_getElem hlt⟩
  have hMx : M[j]? = some x := by rw [← hx, ← Nat.add_zero j, ← List.getElem?_drop, ← List.getElem?_drop, hdr]
  refine joinW_use1 (fun a w' => ∃ (i' : Nat) (M' : List α), a = I i' ∧ i' ≤ j + 1 ∧ M'.length = l.length ∧ M'.take i' = (l.take (j + 1)).filter (fun x => !p x) ∧ M'.drop (j + 1) = l.drop (j + 1) ∧ Mine F e w' B v M' ∧ Below B w w' ∧ Off (isOf v) w w') ?_ ?_
  · rintro _ w3 ⟨i', M', rfl, q1, q2, q3, q4, q5, q6, q7⟩
    rw [w_add, wrap_id (by omega), loopK_self]
    exact ⟨l.length - (j + 1), by omega, i', j + 1, M', rfl, by simp [I], q1, by omega, rfl, q2, q3, q4, q5, q6, q7⟩
  intro J hJ
  rw [hR.get hm2.sl hMx]
  refine hf x (List.mem_of_getElem? hx) w2 _ ho2 fun w3 hb3 => ?_
  rw [w_not]
  have htk1 : (l.take (j + 1)).filter (fun x => !p x) = M.take i ++ (if p x then [] else [x]) := by
    rw [show l.take (j + 1) = l.take j ++ [x] by rw [List.take_add_one, hx]; rfl, List.filter_append, htk]
    cases hq : p x <;> simp [hq]
  have hdr1 : M.drop (j + 1) = l.drop (j + 1) := by rw [← List.drop_drop, ← List.drop_drop, hdr]
  have hb03 : Below B w w3 := hb2.trans (hb3.mono (Nat.le_trans hB hb2.size))
  cases hpx : p x with
  | true =>
    rw [Bool.not_true, condW_false]
    exact hJ _ _ ⟨i, M, rfl, by omega, hML, by rw [htk1, hpx]; simp, hdr1, hm2.below hb3, hb03, ho2.trans (Off.below hb3)⟩
  | false =>
    rw [Bool.not_false, condW_true]
    obtain ⟨y, hy⟩ : ∃ y, M[i]? = some y := ⟨_, List.getElem?_eq_getElem (by omega)⟩
    refine Mine.setE (y := x) h.isSlice (by rw [hee]; exact hkn) (by rw [hee, hF]; exact hse) hF hsz hke (hm2.below hb3) (by omega) (by simpa using hy) (hel x) (h1 x) fun w4 hm4 hb4 ho4 => ?_
    rw [w_add, wrap_id (by omega)]
    refine hJ _ _ ⟨i + 1, M.set i x, by simp [I], by omega, by simpa using hML, ?_, ?_, by simpa using hm4, hb03.trans hb4, (ho2.trans (Off.below hb3)).trans ho4⟩
    · rw [htk1, hpx, List.take_add_one, List.getElem?_set_self (by omega), List.take_set_of_le (Nat.le_refl _)]; rfl
    · rw [List.drop_set_of_lt (by omega)]; exact hdr1
theorem c196 {l : List Int} {p : Int → Bool} {B : Nat} (hm : Mine fI 3 w B v l) (hl : l.length ≤ maxLen) (hB : B ≤ w.heap.size) (hf : ∀ x ∈ l, AsksO f w (isOf v) (I x) (p x))
    (hk : ∀ u w', Mine fI 3 w' B u (l.filter fun x => !p x) → Below B w w' → Off (isOf v) w w' → (∀ b, isOf u b → isOf v b) → k u w') : callW Tryz.prog (.func (.func 196) #[] #[]) #[v, f] k w :=
  C196 _ _ _ _ (delF (el := fun n => I n) rd25 sty25 rfl (fun _ => rfl) (fun _ => rfl) (by kernel_rfl) (by kernel_rfl) (by kernel_rfl) (by kernel_rfl) known3 size3 (by kernel_rfl) rfl (fun hs hf hk => c197 hs hl hf hk) hm hl hB hf hk)
theorem c72 {l : List Int} (hs : IsSl fI w v l) (hl : l.length ≤ 1000000) (hk : ∀ u w', Mine fI 3 w' w.heap.size u l → Below w.heap.size w w' → k u w') : callW Tryz.prog (.func (.func 72) #[] #[]) #[v] k w := C72 _ _ _ (by
  unfold S72
  obtain ⟨a, c, rfl, hc⟩ := id hs
  rw [w_eqlNil (e := 3) (by kernel_rfl)]
  cases a with
  | none =>
    rw [Option.isNone_none, condW_true]
    have hl0 : l = [] := by
      cases l with
      | nil => rfl
      | cons x r => obtain ⟨b, o, h, _⟩ := hc.2 0 x rfl; cases h
    subst hl0
    exact hk _ _ (Mine.nil _ _) (Below.refl _ _)
  | some ad =>
    rw [Option.isNone_some, condW_false]
    have hml : 1000000 ≤ maxLen := by decide
    refine mkSl (F := fI) sty25 fun u w1 hb1 hm1 hu1 hsz1 => ?_
    refine Mine.append sty25 (fun x u hu => by simp [fI] at hu; subst hu; rfl) hm1 (hs.below hb1) hb1.size (by simp; omega) (by simp; omega) fun v2 w2 hm2 hb2 ho2 hu2 => ?_
    exact hk _ _ (by simpa using hm2) (hb1.trans hb2))
end
end Go.Proofs.YtfkfkldhcignbaaGreatDoor
/- Labels: the reasons why one is not open. -/
set_option linter.unusedSimpArgs false
set_option linter.unusedVariables false
set_option maxRecDepth 4000
namespace Go.Proofs.YtfkfkldhcignbaaGreatDoor
open Go Go.V Go.RowKit
abbrev Rdr := Int × Int
def bitOn (n r : Int) : Prop := (n.toNat / 2 ^ r.toNat) % 2 = 1
def keyN (q : Lock) (m : List Int) : Int := ((q.2.filter fun x => decide (x ∈ m)).length : Int)
def OpenP (L : Lab) (r : Rdr) (m : Mom) : Prop := ValidLab L ∧ ValidMom m ∧ (0 ≤ r.1 ∧ r.1 ≤ 7) ∧ (0 ≤ r.2 ∧ r.2 ≤ 7) ∧ bitOn L.terr r.1 ∧ bitOn L.cls r.2 ∧ L.til ≤ m.now - m.drift ∧ (∀ x ∈ L.ev, x ∈ m.ev) ∧ (∀ c ∈ L.ct, ∃ d ∈ m.conf, d.fact = c.fact ∧ c.count ≤ d.count) ∧ (∀ q ∈ L.locks, q.1 ≤ keyN q m.keys)
def ViewAt (w : World) (b : Nat) (L : Lab) (r : Rdr) (m : Mom) : Prop := ∃ e c q e2 c2 q2, RowAt w b 157 [I L.til, e, c, I L.terr, I L.cls, q, I r.1, I r.2, I m.now, I m.drift, e2, c2, q2] ∧ IsSl fI w e L.ev ∧ IsSl fC w c L.ct ∧ LocksV w q L.locks ∧ IsSl fI w e2 m.ev ∧ IsSl fC w c2 m.conf ∧ IsSl fI w q2 m.keys
theorem ViewAt.below {w w' : World} {b : Nat} {L : Lab} {r : Rdr} {m : Mom} (h : ViewAt w b L r m) (hb : Below w.heap.size w w') : ViewAt w' b L r m := by
  obtain ⟨e, c, q, e2, c2, q2, hr, h1, h2, h3, h4, h5, h6⟩ := h
  exact ⟨e, c, q, e2, c2, q2, hr.below hb, h1.below hb, h2.below hb, h3.below hb, h4.below hb, h5.below hb, h6.below hb⟩
theorem ViewAt.drew {w : World} {b : Nat} {L : Lab} {r : Rdr} {m : Mom} (h : ViewAt w b L r m) : ViewAt w.drew b L r m := h.below ((Below.refl _ _).drew)
def okAll (L : Lab) (r : Rdr) (m : Mom) : Prop := okLab L ∧ okMom m ∧ ValidLab L ∧ ValidMom m ∧ (0 ≤ r.1 ∧ r.1 ≤ 7) ∧ (0 ≤ r.2 ∧ r.2 ≤ 7)
theorem slUniqI {w : World} {v : Value} {a b : List Int} (ha : IsSl fI w v a) (hb : IsSl fI w v b) : a = b := by
  obtain ⟨x, c, rfl, _, h1⟩ := ha
  obtain ⟨y, d, h, _, h2⟩ := hb
  simp only [Value.slice.injEq] at h
  obtain ⟨rfl, hl, rfl⟩ := h
  apply List.ext_getElem? fun i => ?_
  by_cases hi : i < a.length
  · obtain ⟨p, hp⟩ : ∃ p, a[i]? = some p := ⟨_, List.getElem?_eq_getElem hi⟩
    obtain ⟨p', hp'⟩ : ∃ p, b[i]? = some p := ⟨_, List.getElem?_eq_getElem (by omega)⟩
    obtain ⟨b1, o1, e1, q1⟩ := h1 i p hp
    obtain ⟨b2, o2, e2, q2⟩ := h2 i p' hp'
    rw [e1] at e2
    simp only [Option.some.injEq, Addr.mk.injEq, and_true] at e2
    obtain ⟨rfl, rfl⟩ := e2
    have u1 := q1 0 (I p) rfl
    have u2 := q2 0 (I p') rfl
    rw [u1] at u2
    simp [I] at u2
    rw [hp, hp', u2]
  · rw [List.getElem?_eq_none (by omega), List.getElem?_eq_none (by omega)]
theorem QuorV.uniq {w : World} {v : Value} {p q : Lock} (hp : QuorV w v p) (hq : QuorV w v q) : p = q := by
  obtain ⟨a, rfl, h1⟩ := hp
  obtain ⟨b, h, h2⟩ := hq
  simp [I] at h
  obtain ⟨h0, rfl⟩ := h
  exact Prod.ext h0 (slUniqI h1 h2)
section
variable {k : Value → World → Prop} {w : World} {L : Lab} {r : Rdr} {m : Mom} {b : Nat}
theorem bit_of {n s : Int} (hn : 0 ≤ n) (hs : 0 ≤ s) : ∃ a c : Nat, n = a ∧ s = c := ⟨n.toNat, s.toNat, by omega, by omega⟩
theorem c183 (hv : ViewAt w b L r m) (ho : okAll L r m) (hk : ∀ x w', Below w.heap.size w w' → (x = false ↔ bitOn L.terr r.1) → k (.bool x) w') : callW Tryz.prog (.func (.func 183) #[] #[]) #[.pointer (some ⟨b, 0, none⟩)] k w := C183 _ _ _ (by
  unfold S183
  rw [drewW_eq]
  have hb1 : Below w.heap.size w w.drew := (Below.refl _ w).drew
  obtain ⟨e, c, q, e2, c2, q2, hr, h1, h2, h3, h4, h5, h6⟩ := hv.drew
  obtain ⟨_, _, hV, _, hr1, hr2⟩ := ho
  generalize w.drew = w1 at *
  obtain ⟨a, d, ha, hd⟩ := bit_of hV.2.1.1 hr1.1
  have hbd := hV.2.1
  rw [nilT_ptr, tfl157_0, rt61_3 (hr.cell (i := 3) rfl), nilT_ptr, tfl157_1, rt30_0 (hr.cell (i := 6) rfl), ha, t_shrN hd (by omega), t_andOne (by have : a / 2 ^ d ≤ a := Nat.div_le_self _ _; omega), t_eql]
  refine hk _ _ hb1 ?_
  unfold bitOn
  rw [ha, hd, Int.toNat_natCast, Int.toNat_natCast, decide_eq_false_iff_not]
  omega)
theorem c184 (hv : ViewAt w b L r m) (ho : okAll L r m) (hk : ∀ x w', Below w.heap.size w w' → (x = false ↔ bitOn L.cls r.2) → k (.bool x) w') : callW Tryz.prog (.func (.func 184) #[] #[]) #[.pointer (some ⟨b, 0, none⟩)] k w := C184 _ _ _ (by
  unfold S184
  rw [drewW_eq]
  have hb1 : Below w.heap.size w w.drew := (Below.refl _ w).drew
  obtain ⟨e, c, q, e2, c2, q2, hr, h1, h2, h3, h4, h5, h6⟩ := hv.drew
  obtain ⟨_, _, hV, _, hr1, hr2⟩ := ho
  generalize w.drew = w1 at *
  obtain ⟨a, d, ha, hd⟩ := bit_of hV.2.2.1.1 hr2.1
  have hbd := hV.2.2.1
  rw [nilT_ptr, tfl157_0, rt61_4 (hr.cell (i := 4) rfl), nilT_ptr, tfl157_1, rt30_1 (hr.cell (i := 7) rfl), ha, t_shrN hd (by omega), t_andOne (by have : a / 2 ^ d ≤ a := Nat.div_le_self _ _; omega), t_eql]
  refine hk _ _ hb1 ?_
  unfold bitOn
  rw [ha, hd, Int.toNat_natCast, Int.toNat_natCast, decide_eq_false_iff_not]
  omega)
theorem c185 (hv : ViewAt w b L r m) (ho : okAll L r m) (hk : ∀ x w', Below w.heap.size w w' → (x = false ↔ L.til ≤ m.now - m.drift) → k (.bool x) w') : callW Tryz.prog (.func (.func 185) #[] #[]) #[.pointer (some ⟨b, 0, none⟩)] k w := C185 _ _ _ (by
  unfold S185
  rw [drewW_eq]
  have hb1 : Below w.heap.size w w.drew := (Below.refl _ w).drew
  obtain ⟨e, c, q, e2, c2, q2, hr, h1, h2, h3, h4, h5, h6⟩ := hv.drew
  obtain ⟨_, _, hV, hM, hr1, hr2⟩ := ho
  have := hM.1
  have := hM.2.1
  generalize w.drew = w1 at *
  rw [nilT_ptr, tfl157_2, rt28_0 (hr.cell (i := 8) rfl), nilT_ptr, tfl157_2, rt28_1 (hr.cell (i := 9) rfl), t_sub, wrap_id (by omega), nilT_ptr, tfl157_0, rt61_0 (hr.cell (i := 0) rfl), t_lss]
  refine hk _ _ hb1 ?_
  rw [decide_eq_false_iff_not]
  omega)
theorem c186 (hv : ViewAt w b L r m) (ho : okAll L r m) (hk : ∀ x w', Below w.heap.size w w' → (x = false ↔ ∀ x ∈ L.ev, x ∈ m.ev) → k (.bool x) w') : callW Tryz.prog (.func (.func 186) #[] #[]) #[.pointer (some ⟨b, 0, none⟩)] k w := C186 _ _ _ (by
  unfold S186
  rw [drewW_eq]
  have hb1 : Below w.heap.size w w.drew := (Below.refl _ w).drew
  obtain ⟨e, c, q, e2, c2, q2, hr, h1, h2, h3, h4, h5, h6⟩ := hv.drew
  obtain ⟨hL, hMo, hV, hM, hr1, hr2⟩ := ho
  generalize w.drew = w1 at *
  have a1 := after_refl w1
  refine ⟨after w1, a1, ?_⟩
  rw [nilT_ptr, tfl157_0, ra61_1 (hr.cell (i := 1) rfl) a1, nilT_ptr, tfl157_2, ra28_2 (hr.cell (i := 10) rfl) a1]
  refine c188 h4 hMo.1 fun f w2 hb2 hf => ?_
  rw [keepS_eq]
  refine ⟨hb2, ?_⟩
  refine c187 (p := fun x => !decide (x ∈ m.ev)) (h1.below hb2) hL.1.1 (fun x hx => hf x) fun w3 hb3 => ?_
  have hb03 := below_trans hb2 hb3
  rw [keepS_eq]
  refine ⟨hb03, ?_⟩
  refine hk _ _ (hb1.trans (hb03.mono hb1.size)) ?_
  rw [List.any_eq_false]
  simp)
theorem c192 {d c : CW} {x : Nat} (hr : RowAt w x 121 (fC.e c)) (hk : ∀ w', Below w.heap.size w w' → k (.bool (decide (d.fact = c.fact ∧ c.count ≤ d.count))) w') : callW Tryz.prog (.func (.func 192) #[] #[.pointer (some ⟨x, 0, none⟩)]) #[.agg (fC.e d).toArray] k w := C192 _ _ _ _ (by
  unfold S192
  refine w_boxN (v := .agg (fC.e d).toArray) fun w1 hb1 hsz1 hr1 => ?_
  replace hr1 : RowAt w1 w.heap.size 121 (fC.e d) := hr1
  have hr2 := hr.below hb1
  rw [rw121_0 (hr1.cell (i := 0) rfl), rw121_0 (hr2.cell (i := 0) rfl), w_eql]
  by_cases h : d.fact = c.fact
  · rw [decide_eq_true h]
    simp only [guardW_tt]
    rw [rw121_1 (hr1.cell (i := 1) rfl), rw121_1 (hr2.cell (i := 1) rfl), w_geq, pickW_true]
    have := hk w1 hb1
    rwa [show decide (d.fact = c.fact ∧ c.count ≤ d.count) = decide (c.count ≤ d.count) by simp [h]] at this
  · rw [decide_eq_false h]
    simp only [guardW_ft, guardW_u, pickW_false]
    have := hk w1 hb1
    rwa [show decide (d.fact = c.fact ∧ c.count ≤ d.count) = false by simp [h]] at this)
theorem c191 {c : CW} {p : Nat} (hv : ViewAt w b L r m) (hp : RowAt w p 155 [.pointer (some ⟨b, 0, none⟩)]) (ho : okAll L r m) (hk : ∀ w', Below w.heap.size w w' → k (.bool (!m.conf.any fun d => decide (d.fact = c.fact ∧ c.count ≤ d.count))) w') : callW Tryz.prog (.func (.func 191) #[] #[.pointer (some ⟨p, 0, none⟩)]) #[.agg (fC.e c).toArray] k w := C191 _ _ _ _ (by
  unfold S191
  refine w_boxN (v := .agg (fC.e c).toArray) fun w1 hb1 hsz1 hr1 => ?_
  replace hr1 : RowAt w1 w.heap.size 121 (fC.e c) := hr1
  obtain ⟨e, c1, q, e2, c2, q2, hr, h1, h2, h3, h4, h5, h6⟩ := hv.below hb1
  rw [ld155 ((hp.below hb1).cell (i := 0) rfl), nilW_ptr, fl157_2, rw28_3 (hr.cell (i := 11) rfl), w_makeFunc]
  refine c190 h5 ho.2.1.2.1 (fun x hx w2 k2 ha2 hk2 => c192 (hr1.below ha2) hk2) fun w3 hb3 => ?_
  rw [w_not]
  exact hk _ (below_trans hb1 hb3))
theorem c188O {w0 : World} {v : Value} {l : List Int} {n : Nat} {own : Nat → Prop} (hs : IsSl fI w0 v l) (hb : Below w0.heap.size w0 w) (hn : w0.heap.size ≤ n) (hown : ∀ b, own b → n ≤ b ∧ b < w.heap.size) (hl : l.length ≤ maxLen) (hk : ∀ f w', Below w.heap.size w w' → (∀ x, AsksO f w' own (I x) (!decide (x ∈ l))) → k f w') : callW Tryz.prog (.func (.func 188) #[] #[]) #[v] k w := C188 _ _ _ (by
  unfold S188
  obtain ⟨a, c, rfl, hc⟩ := id hs
  refine w_boxN (v := .slice a l.length c) fun w1 hb1 hsz1 hr1 => ?_
  replace hr1 : RowAt w1 w.heap.size 25 [.slice a l.length c] := hr1
  rw [w_makeFunc]
  refine hk _ _ hb1 fun x w2 k2 ha2 hk2 => ?_
  refine C198 _ _ _ _ ?_
  unfold S198
  rw [ld25 ((hr1.off ha2 fun h => by have := (hown _ h).2; omega).cell (i := 0) rfl)]
  have ho2 : Off (fun b => n ≤ b) w0 w2 := ((Off.below hb).trans (Off.below hb1)).trans (ha2.mono fun b _ h => (hown b h).1)
  refine c199 (slOld hs (by decide) hn ho2) hl ?_
  rw [w_not]
  exact hk2 _ (Below.refl _ _))
theorem c189 (hv : ViewAt w b L r m) (ho : okAll L r m) (hk : ∀ x w', Below w.heap.size w w' → (x = false ↔ ∀ c ∈ L.ct, ∃ d ∈ m.conf, d.fact = c.fact ∧ c.count ≤ d.count) → k (.bool x) w') : callW Tryz.prog (.func (.func 189) #[] #[]) #[.pointer (some ⟨b, 0, none⟩)] k w := C189 _ _ _ (by
  unfold S189
  refine w_boxN (v := .pointer (some ⟨b, 0, none⟩)) fun w1 hb1 hsz1 hr1 => ?_
  replace hr1 : RowAt w1 w.heap.size 155 [.pointer (some ⟨b, 0, none⟩)] := hr1
  have hv1 := hv.below hb1
  obtain ⟨e, c1, q, e2, c2, q2, hr, h1, h2, h3, h4, h5, h6⟩ := id hv1
  rw [ld155 (hr1.cell (i := 0) rfl), nilW_ptr, fl157_0, rw61_2 (hr.cell (i := 2) rfl), w_makeFunc]
  refine c190 (p := fun c => !m.conf.any fun d => decide (d.fact = c.fact ∧ c.count ≤ d.count)) h2 ho.1.2.1 (fun x hx w2 k2 ha2 hk2 => c191 (hv1.below ha2) (hr1.below ha2) ho hk2) fun w3 hb3 => ?_
  refine hk _ _ (below_trans hb1 hb3) ?_
  rw [List.any_eq_false]
  simp)
theorem c195 {x : QW} {q : Lock} {p : Nat} (hq : QuorV w (agQ x) q) (hql : q.2.length ≤ 1000000) (hv : ViewAt w b L r m) (hp : RowAt w p 155 [.pointer (some ⟨b, 0, none⟩)]) (ho : okAll L r m) (hk : ∀ w', Below w.heap.size w w' → k (.bool (decide (keyN q m.keys < q.1))) w') : callW Tryz.prog (.func (.func 195) #[] #[.pointer (some ⟨p, 0, none⟩)]) #[agQ x] k w := C195 _ _ _ _ (by
  unfold S195
  have hml : 1000000 ≤ maxLen := by decide
  refine w_boxN (v := agQ x) fun w1 hb1 hsz1 hr1 => ?_
  replace hr1 : RowAt w1 w.heap.size 87 (fQW.e x) := hr1
  rw [drewW_eq]
  have hb2 : Below w.heap.size w w1.drew := hb1.drew
  replace hr1 := hr1.drew
  obtain ⟨e, c1, q1, e2, c2, q2, hr, h1, h2, h3, h4, h5, h6⟩ := hv.below hb2
  obtain ⟨kv, hkv, hks⟩ := hq.below hb2
  obtain ⟨e1, e3⟩ : I x.need = I q.1 ∧ (.slice x.ka x.kn x.kc : Value) = kv := by simpa [fQW] using hkv
  have hp2 := hp.below hb2
  generalize w1.drew = w2 at *
  have a2 := after_refl w2
  refine ⟨after w2, a2, ?_⟩
  rw [ra87_1 (hr1.cell (i := 1) rfl) a2, r_loadA agg155 known155 (hp2.cell (i := 0) rfl) a2, nilT_ptr, tfl157_2, ra28_4 (hr.cell (i := 12) rfl) a2, ra87_0 (hr1.cell (i := 0) rfl) a2, e1, e3]
  refine c72 hks hql fun u w3 hm3 hb3 => ?_
  rw [keepS_eq]
  refine ⟨hb3, ?_⟩
  refine c188O h6 hb3 (Nat.le_refl _) (own := isOf u) (fun b hb => hm3.ge hb) ho.2.1.2.2 fun f w4 hb4 hf => ?_
  have hb24 := below_trans hb3 hb4
  rw [keepS_eq]
  refine ⟨hb24, ?_⟩
  refine c196 (hm3.below hb4) (by omega) hb24.size (fun x _ => hf x) fun v5 w5 hm5 hb5 ho5 hu5 => ?_
  have hb25 := hb24.trans hb5
  rw [keepS_eq]
  refine ⟨hb25, ?_⟩
  rw [tlen25 hm5.sl, t_lss]
  have := hk w5 (hb2.trans (hb25.mono hb2.size))
  unfold keyN at this
  simpa using this)
/-- whether a lock is not met, asked of its value -/
noncomputable def lkB (w : World) (L : Lab) (m : Mom) (x : QW) : Bool := @decide (∃ q ∈ L.locks, QuorV w (agQ x) q ∧ keyN q m.keys < q.1) (Classical.propDecidable _)
theorem lkB_of {w : World} {L : Lab} {m : Mom} {x : QW} {q : Lock} (hq : QuorV w (agQ x) q) (hm : q ∈ L.locks) : lkB w L m x = decide (keyN q m.keys < q.1) := by
  unfold lkB
  by_cases h : keyN q m.keys < q.1
  · rw [decide_eq_true h]; exact @decide_eq_true _ (Classical.propDecidable _) ⟨q, hm, hq, h⟩
  · rw [decide_eq_false h]
    refine @decide_eq_false _ (Classical.propDecidable _) fun ⟨q', h1, h2, h3⟩ => ?_
    rw [h2.uniq hq] at h3; exact h h3
theorem RisingP.len {l : List Int} (h : RisingP l 19) : l.length ≤ 20 := by
  have key : ∀ (i : Nat) x, l[i]? = some x → (i : Int) ≤ x := by
    intro i
    induction i with
    | zero => intro x hx; exact (h 0 x hx).1.1
    | succ i ih =>
      intro x hx
      obtain ⟨y, hy⟩ : ∃ y, l[i]? = some y := ⟨_, List.getElem?_eq_getElem (by have := (List.getElem?_eq_some_iff.1 hx).1; omega)⟩
      have h1 := ih y hy
      have h2 := (h (i + 1) x hx).2 y (by omega) (by simpa using hy)
      omega
  apply Decidable.byContradiction
  intro hc
  obtain ⟨y, hy⟩ : ∃ y, l[20]? = some y := ⟨_, List.getElem?_eq_getElem (by omega)⟩
  have h1 := key 20 y hy
  have h2 := (h 20 y hy).1.2
  omega
theorem c193 (hv : ViewAt w b L r m) (ho : okAll L r m) (hk : ∀ x w', Below w.heap.size w w' → (x = false ↔ ∀ q ∈ L.locks, q.1 ≤ keyN q m.keys) → k (.bool x) w') : callW Tryz.prog (.func (.func 193) #[] #[]) #[.pointer (some ⟨b, 0, none⟩)] k w := C193 _ _ _ (by
  unfold S193
  refine w_boxN (v := .pointer (some ⟨b, 0, none⟩)) fun w1 hb1 hsz1 hr1 => ?_
  replace hr1 : RowAt w1 w.heap.size 155 [.pointer (some ⟨b, 0, none⟩)] := hr1
  have hv1 := hv.below hb1
  obtain ⟨e, c1, q, e2, c2, q2, hr, h1, h2, ⟨xs, hq, hxs⟩, h4, h5, h6⟩ := id hv1
  have hxl := hxs.1
  rw [ld155 (hr1.cell (i := 0) rfl), nilW_ptr, fl157_0, rw61_5 (hr.cell (i := 5) rfl), w_makeFunc]
  have hget : ∀ x ∈ xs, ∃ q ∈ L.locks, QuorV w1 (agQ x) q := fun x hx => by
    obtain ⟨i, hi, rfl⟩ := List.getElem_of_mem hx
    exact ⟨L.locks[i]'(by omega), List.getElem_mem _, hxs.2 i _ _ (List.getElem?_eq_getElem hi) (List.getElem?_eq_getElem (by omega))⟩
  refine c194 (p := lkB w1 L m) hq (by rw [hxl]; exact ho.1.2.2.1) (fun x hx w2 k2 ha2 hk2 => ?_) fun w3 hb3 => ?_
  · obtain ⟨q, hqm, hqv⟩ := hget x hx
    rw [lkB_of hqv hqm] at hk2
    obtain ⟨i, hi, rfl⟩ := List.getElem_of_mem hqm
    have hR : RisingP L.locks[i].2 19 := (ho.2.2.1.2.2.2.2.1 i _ (List.getElem?_eq_getElem hi)).1
    exact c195 (hqv.below ha2) (Nat.le_trans hR.len (by decide)) (hv1.below ha2) (hr1.below ha2) ho hk2
  · refine hk _ _ (below_trans hb1 hb3) ?_
    rw [List.any_eq_false]
    constructor
    · intro h q hq
      obtain ⟨i, hi, rfl⟩ := List.getElem_of_mem hq
      have hqv := hxs.2 i _ _ (List.getElem?_eq_getElem (by omega)) (List.getElem?_eq_getElem hi)
      have h1 := h _ (List.getElem_mem (by omega : i < xs.length))
      rw [lkB_of hqv hq] at h1
      simp at h1
      omega
    · intro h x hx
      obtain ⟨q, hqm, hqv⟩ := hget x hx
      rw [lkB_of hqv hqm]
      have := h q hqm
      simp; omega)
end
end Go.Proofs.YtfkfkldhcignbaaGreatDoor
/- Labels: Reason and Open; the reference's. -/
set_option linter.unusedSimpArgs false
set_option linter.unusedVariables false
set_option maxRecDepth 4000
namespace Go.Proofs.YtfkfkldhcignbaaGreatDoor
open Go Go.V Go.RowKit
def fRs : Fl (Int × Nat) := ⟨2, fun x => [I x.1, .func (.func x.2) #[] #[]], fun _ => rfl⟩
def rsT : List (Int × Nat) := [(2, 183), (3, 184), (4, 185), (5, 186), (6, 189), (7, 193)]
abbrev fv (n : Nat) : Value := .func (.func n) #[] #[]
/-- the package's tables -/
structure Gl (w : World) : Prop where
  rs : ∃ v, w.cell? ⟨1, 0, none⟩ = some v ∧ IsSl fRs w v rsT
  md : ∃ a b c, Cells w 0 0 [a, b, c, fv 163, fv 164, fv 165, fv 109, fv 161, fv 168]
theorem Cells.below {w w' : World} {b o : Nat} {vs : List Value} (h : Cells w b o vs) (hb : Below w.heap.size w w') : Cells w' b o vs := fun j u hu => by
  have h1 := h j u hu
  rw [hb.cell (World.block_lt_of_cell? w _ h1)]; exact h1
theorem Gl.below {w w' : World} (h : Gl w) (hb : Below w.heap.size w w') : Gl w' := by
  obtain ⟨⟨v, h1, h2⟩, a, b, c, h3⟩ := h
  exact ⟨⟨v, by rw [hb.cell (World.block_lt_of_cell? w _ h1)]; exact h1, h2.below hb⟩, a, b, c, Cells.below h3 hb⟩
def RdrV (v : Value) (r : Rdr) : Prop := v = .agg #[I r.1, I r.2]
section
variable {k : Value → World → Prop} {w : World} {L : Lab} {r : Rdr} {m : Mom}
theorem b157 {a b c d e f g : Int} {a1 a2 a3 a4 a5 a6 : Option Addr} {n1 n2 n3 n4 n5 n6 c1 c2 c3 c4 c5 c6 : Nat} : opW Tryz.prog (Instr.build 157 #[(0, .agg #[I a, .slice a1 n1 c1, .slice a2 n2 c2, I b, I c, .slice a3 n3 c3]), (1, .agg #[I d, I e]), (2, .agg #[I f, I g, .slice a4 n4 c4, .slice a5 n5 c5, .slice a6 n6 c6])]) k w =
    k (.agg #[I a, .slice a1 n1 c1, .slice a2 n2 c2, I b, I c, .slice a3 n3 c3, I d, I e, I f, I g, .slice a4 n4 c4, .slice a5 n5 c5, .slice a6 n6 c6]) w := opW_ok (by kernel_rfl)
def appl (i : Nat) (L : Lab) (r : Rdr) (m : Mom) : Prop := match i with
  | 0 => bitOn L.terr r.1
  | 1 => bitOn L.cls r.2
  | 2 => L.til ≤ m.now - m.drift
  | 3 => ∀ x ∈ L.ev, x ∈ m.ev
  | 4 => ∀ c ∈ L.ct, ∃ d ∈ m.conf, d.fact = c.fact ∧ c.count ≤ d.count
  | _ => ∀ q ∈ L.locks, q.1 ≤ keyN q m.keys
theorem openP_iff (hV : ValidLab L) (hM : ValidMom m) (h1 : 0 ≤ r.1 ∧ r.1 ≤ 7) (h2 : 0 ≤ r.2 ∧ r.2 ≤ 7) : OpenP L r m ↔ ∀ i, i < 6 → appl i L r m := by
  constructor
  · rintro ⟨_, _, _, _, a, b, c, d, e, f⟩ i hi
    match i, hi with
    | 0, _ => exact a
    | 1, _ => exact b
    | 2, _ => exact c
    | 3, _ => exact d
    | 4, _ => exact e
    | 5, _ => exact f
    | n + 6, h => omega
  · intro h
    exact ⟨hV, hM, h1, h2, h 0 (by omega), h 1 (by omega), h 2 (by omega), h 3 (by omega), h 4 (by omega), h 5 (by omega)⟩
theorem rsT_num : ∀ (i : Nat) x, rsT[i]? = some x → i < 6 ∧ x.1 ≠ 0 := by
  intro i x hx
  match i, hx with
  | 0, h | 1, h | 2, h | 3, h | 4, h | 5, h => simp [rsT] at h; subst h; simp
  | n + 6, h => simp [rsT] at h
theorem rsT_call {i : Nat} {x : Int × Nat} {b : Nat} (hx : rsT[i]? = some x) (hv : ViewAt w b L r m) (ho : okAll L r m) (hk : ∀ y w', Below w.heap.size w w' → (y = false ↔ appl i L r m) → k (.bool y) w') : callW Tryz.prog (fv x.2) #[.pointer (some ⟨b, 0, none⟩)] k w := by
  match i, hx with
  | 0, h => simp [rsT] at h; subst h; exact c183 hv ho hk
  | 1, h => simp [rsT] at h; subst h; exact c184 hv ho hk
  | 2, h => simp [rsT] at h; subst h; exact c185 hv ho hk
  | 3, h => simp [rsT] at h; subst h; exact c186 hv ho hk
  | 4, h => simp [rsT] at h; subst h; exact c189 hv ho hk
  | 5, h => simp [rsT] at h; subst h; exact c193 hv ho hk
  | n + 6, h => simp [rsT] at h
theorem eRs : ETy Tryz.prog 158 161 fRs := ⟨by kernel_rfl, by kernel_rfl, by kernel_rfl, by kernel_rfl, by kernel_rfl, by kernel_rfl, fun x u hu => by simp [fRs] at hu; rcases hu with rfl | rfl <;> rfl⟩
theorem c73 {u v z : Value} (hg : Gl w) (hL : LabV w u L) (hr : RdrV v r) (hm : MomV w z m) (okl : okLab L) (okm : okMom m) (hk : ∀ n w', Below w.heap.size w w' → (n = 0 ↔ OpenP L r m) → k (I n) w') : callW Tryz.prog (.func (.func 73) #[] #[]) #[u, v, z] k w := C73 _ _ _ _ _ (by
  unfold S73
  obtain ⟨e, c, q, rfl, h1, h2, h3⟩ := id hL
  obtain ⟨e2, c2, q2, rfl, h4, h5, h6⟩ := id hm
  cases hr
  refine w_boxN (v := .agg #[I L.til, e, c, I L.terr, I L.cls, q]) fun w1 hb1 hsz1 hr1 => ?_
  replace hr1 : RowAt w1 w.heap.size 61 [I L.til, e, c, I L.terr, I L.cls, q] := hr1
  refine w_boxN (v := .agg #[I r.1, I r.2]) fun w2 hb2 hsz2 hr2 => ?_
  replace hr2 : RowAt w2 w1.heap.size 30 [I r.1, I r.2] := hr2
  refine w_boxN (v := .agg #[I m.now, I m.drift, e2, c2, q2]) fun w3 hb3 hsz3 hr3 => ?_
  replace hr3 : RowAt w3 w2.heap.size 28 [I m.now, I m.drift, e2, c2, q2] := hr3
  replace hr1 := (hr1.below hb2).below hb3
  replace hr2 := hr2.below hb3
  have hb03 := below_trans (below_trans hb1 hb2) hb3
  rw [ld61 rfl hr1.cells]
  refine c48 (hL.below hb03) okl fun b1 w4 hb4 hV => ?_
  have hb04 := below_trans hb03 hb4
  rw [w_not]
  cases b1 with
  | false =>
    simp only [Bool.not_false, guardW_tf, guardW_u, pickW_true, condW_true]
    exact hk 1 _ hb04 ⟨(by omega), fun h => by have := hV.2 h.1; cases this⟩
  | true =>
  simp only [Bool.not_true, guardW_ff, pickW_false]
  rw [ld28 rfl (hr3.below hb4).cells]
  refine c77 (hm.below hb04) okm fun b2 w5 hb5 hM => ?_
  have hb05 := below_trans hb04 hb5
  have hb35 := below_trans hb4 hb5
  rw [w_not]
  cases b2 with
  | false =>
    simp only [Bool.not_false, guardW_tf, guardW_u, pickW_true, pickW_false, condW_true]
    exact hk 1 _ hb05 ⟨(by omega), fun h => by have := hM.2 h.2.1; cases this⟩
  | true =>
  simp only [Bool.not_true, guardW_ff, pickW_false]
  replace hr1 := hr1.below hb35
  replace hr2 := hr2.below hb35
  replace hr3 := hr3.below hb35
  rw [rw30_0 (hr2.cell (i := 0) rfl)]
  refine c86 ?_
  rw [w_not]
  by_cases hR1 : 0 ≤ r.1 ∧ r.1 ≤ 7
  case' neg =>
    rw [decide_eq_false hR1]
    simp only [Bool.not_false, guardW_tf, guardW_u, pickW_true, pickW_false, condW_true]
    exact hk 1 _ hb05 ⟨(by omega), fun h => absurd h.2.2.1 hR1⟩
  rw [decide_eq_true hR1]
  simp only [Bool.not_true, guardW_ff, pickW_false]
  rw [rw30_1 (hr2.cell (i := 1) rfl)]
  refine c86 ?_
  rw [w_not]
  by_cases hR2 : 0 ≤ r.2 ∧ r.2 ≤ 7
  case' neg =>
    rw [decide_eq_false hR2]
    simp only [Bool.not_false, guardW_tf, guardW_u, pickW_true, pickW_false, condW_true]
    exact hk 1 _ hb05 ⟨(by omega), fun h => absurd h.2.2.2.1 hR2⟩
  rw [decide_eq_true hR2]
  simp only [Bool.not_true, guardW_ff, pickW_false, condW_false]
  have hiff := openP_iff (hV.1 rfl) (hM.1 rfl) hR1 hR2
  have hok : okAll L r m := ⟨okl, okm, hV.1 rfl, hM.1 rfl, hR1, hR2⟩
  rw [ld61 rfl hr1.cells, ld30 rfl hr2.cells, ld28 rfl hr3.cells]
  obtain ⟨a1, k1, rfl, -⟩ := id h1
  obtain ⟨a2, k2, rfl, -⟩ := id h2
  obtain ⟨xs, hxs, hx2⟩ := id h3
  obtain ⟨a3, k3, rfl, -⟩ := id hxs
  obtain ⟨a4, k4, rfl, -⟩ := id h4
  obtain ⟨a5, k5, rfl, -⟩ := id h5
  obtain ⟨a6, k6, rfl, -⟩ := id h6
  rw [show ([I L.til, Value.slice a1 L.ev.length k1, Value.slice a2 L.ct.length k2, I L.terr, I L.cls, Value.slice a3 xs.length k3] : List Value).toArray = #[I L.til, Value.slice a1 L.ev.length k1, Value.slice a2 L.ct.length k2, I L.terr, I L.cls, Value.slice a3 xs.length k3] from rfl]
  refine (b157 (k := _)).mpr ?_
  refine w_boxN fun w6 hb6 hsz6 hr6 => ?_
  have hb06 := below_trans hb05 hb6
  have hv6 : ViewAt w6 w5.heap.size L r m := ⟨_, _, _, _, _, _, hr6, h1.below hb06, h2.below hb06, h3.below hb06, h4.below hb06, h5.below hb06, h6.below hb06⟩
  obtain ⟨rv, hrv, hrs⟩ := (hg.below hb06).rs
  rw [ld158 hrv, len158 hrs]
  refine Loop1.intro (fun n a w' => ∃ i : Nat, a = I i ∧ i ≤ 6 ∧ n = 6 - i ∧ Below w6.heap.size w6 w' ∧ ∀ j, j < i → appl j L r m) _ ⟨0, rfl, by omega, rfl, Below.refl _ _, by omega⟩ ?_
  rintro n _ w7 ⟨i, rfl, hi, rfl, hb7, hP⟩
  rw [w_lss]
  by_cases hlt : i < 6
  case' neg =>
    rw [decide_eq_false (by simp [rsT]; omega), condW_false]
    exact hk 0 _ (below_trans hb06 hb7) ⟨fun _ => hiff.2 fun j hj => hP j (by omega), fun _ => rfl⟩
  rw [decide_eq_true (by simp [rsT]; omega), condW_true]
  obtain ⟨x, hx⟩ : ∃ x, rsT[i]? = some x := ⟨_, List.getElem?_eq_getElem (by simp [rsT]; omega)⟩
  rw [ga158 (F := fRs) rfl (hrs.below hb7) (by omega) (by simpa using hx)]
  refine w_var (vs := fRs.e x) hz161 (by rw [zc161]; rfl) (eRs.one x) size161 known161 fun w8 hb8 hsz8 hr8 => ?_
  have hb68 := below_trans hb7 hb8
  rw [rw161_1 (hr8.cell (i := 1) rfl)]
  refine rsT_call hx (hv6.below hb68) hok fun y w9 hb9 hy => ?_
  have hb69 := below_trans hb68 hb9
  cases y with
  | true =>
    rw [condW_true, rw161_0 ((hr8.below hb9).cell (i := 0) rfl)]
    exact hk _ _ (below_trans hb06 hb69) ⟨fun h => absurd h (rsT_num i x hx).2, fun h => by have := hy.2 (hiff.1 h i hlt); cases this⟩
  | false =>
    rw [condW_false, w_add, wrap_id (by omega), loopK_self]
    refine ⟨6 - (i + 1), by omega, i + 1, by simp [I], by omega, rfl, hb69, fun j hj => ?_⟩
    by_cases hji : j = i
    · subst hji; exact hy.1 rfl
    · exact hP j (by omega))
theorem c34 {u v z : Value} (hg : Gl w) (hL : LabV w u L) (hr : RdrV v r) (hm : MomV w z m) (okl : okLab L) (okm : okMom m) (hk : ∀ b w', Below w.heap.size w w' → (b = true ↔ OpenP L r m) → k (.bool b) w') : callW Tryz.prog (.func (.func 34) #[] #[]) #[u, v, z] k w := C34 _ _ _ _ _ (by
  unfold S34
  obtain ⟨e, c, q, rfl, h1, h2, h3⟩ := id hL
  obtain ⟨e2, c2, q2, rfl, h4, h5, h6⟩ := id hm
  cases hr
  refine w_boxN (v := .agg #[I L.til, e, c, I L.terr, I L.cls, q]) fun w1 hb1 hsz1 hr1 => ?_
  replace hr1 : RowAt w1 w.heap.size 61 [I L.til, e, c, I L.terr, I L.cls, q] := hr1
  refine w_boxN (v := .agg #[I r.1, I r.2]) fun w2 hb2 hsz2 hr2 => ?_
  replace hr2 : RowAt w2 w1.heap.size 30 [I r.1, I r.2] := hr2
  refine w_boxN (v := .agg #[I m.now, I m.drift, e2, c2, q2]) fun w3 hb3 hsz3 hr3 => ?_
  replace hr3 : RowAt w3 w2.heap.size 28 [I m.now, I m.drift, e2, c2, q2] := hr3
  replace hr1 := (hr1.below hb2).below hb3
  replace hr2 := hr2.below hb3
  have hb03 := below_trans (below_trans hb1 hb2) hb3
  rw [ld61 rfl hr1.cells, ld30 rfl hr2.cells, ld28 rfl hr3.cells]
  refine c73 (hg.below hb03) (hL.below hb03) rfl (hm.below hb03) okl okm fun n w4 hb4 hn => ?_
  rw [w_eql]
  exact hk _ _ (below_trans hb03 hb4) (by rw [decide_eq_true_eq]; exact hn))
end
end Go.Proofs.YtfkfkldhcignbaaGreatDoor
/- Labels: the reference's Reason and Open. -/
set_option linter.unusedSimpArgs false
set_option linter.unusedVariables false
set_option maxRecDepth 4000
namespace Go.Proofs.YtfkfkldhcignbaaGreatDoor
open Go Go.V Go.RowKit
def cntF (l : List CW) (f : Int) : Int := match l.find? (fun d => decide (d.fact = f)) with | some d => d.count | none => 0
theorem cntF_iff {l : List CW} {f n : Int} (hc : CountsP l 0) (hn : 1 ≤ n) : n ≤ cntF l f ↔ ∃ d ∈ l, d.fact = f ∧ n ≤ d.count := by
  unfold cntF
  have hmono : ∀ (j i : Nat) x y, i < j → l[i]? = some x → l[j]? = some y → x.fact < y.fact := by
    intro j
    induction j with
    | zero => intro i x y h; omega
    | succ j ih =>
      intro i x y h hx hy
      obtain ⟨z, hz⟩ : ∃ z, l[j]? = some z := ⟨_, List.getElem?_eq_getElem (by have := (List.getElem?_eq_some_iff.1 hy).1; omega)⟩
      have h1 := (hc (j + 1) y hy).2.2 z (by omega) (by simpa using hz)
      by_cases hij : i = j
      · subst hij; rw [hx] at hz; cases hz; exact h1
      · have := ih i x z (by omega) hx hz; omega
  cases hf : l.find? (fun d => decide (d.fact = f)) with
  | none =>
    rw [List.find?_eq_none] at hf
    constructor
    · intro h; simp only at h; omega
    · rintro ⟨d, hd, h1, _⟩
      exact absurd (decide_eq_true h1) (by simpa using hf d hd)
  | some d =>
    have hdm := List.mem_of_find?_eq_some hf
    have hdf : d.fact = f := by have := List.find?_some hf; simpa using this
    constructor
    · intro h; exact ⟨d, hdm, hdf, h⟩
    · rintro ⟨e, he, h1, h2⟩
      obtain ⟨i, hi, rfl⟩ := List.getElem_of_mem hdm
      obtain ⟨j, hj, rfl⟩ := List.getElem_of_mem he
      have : i = j := by
        rcases Nat.lt_trichotomy i j with h | h | h
        · have := hmono j i _ _ h (List.getElem?_eq_getElem hi) (List.getElem?_eq_getElem hj); omega
        · exact h
        · have := hmono i j _ _ h (List.getElem?_eq_getElem hj) (List.getElem?_eq_getElem hi); omega
      subst this; exact h2
section
variable {k : Value → World → Prop} {w : World} {L : Lab} {r : Rdr} {m : Mom}
theorem c134 {v : Value} {l : List Int} {n : Int} (hs : IsSl fI w v l) (hl : l.length ≤ maxLen) (hk : k (.bool (decide (n ∈ l))) w) : callW Tryz.prog (.func (.func 134) #[] #[]) #[v, I n] k w := C134 _ _ _ _ (by
  unfold S134
  have hml : maxLen ≤ 9223372036854775807 := by decide
  refine Loop1.intro (fun c a w' => ∃ i : Nat, a = I i ∧ i ≤ l.length ∧ c = l.length - i ∧ w' = w ∧ ∀ x ∈ l.take i, x ≠ n) _ ⟨0, rfl, by omega, rfl, rfl, by simp⟩ ?_
  rintro c _ _ ⟨i, rfl, hi, rfl, rfl, hP⟩
  rw [len25 hs, w_lss]
  by_cases hlt : i < l.length
  case' neg =>
    rw [decide_eq_false (by omega), condW_false]
    rw [List.take_of_length_le (by omega)] at hP
    rw [decide_eq_false fun h => hP n h rfl] at hk
    exact hk
  rw [decide_eq_true (by omega), condW_true]
  obtain ⟨x, hx⟩ : ∃ x, l[i]? = some x := ⟨_, List.getElem?_eq_getElem hlt⟩
  rw [gw25 (F := fI) rfl hs (by omega) (by simpa using hx) rfl, w_eql]
  by_cases hxn : x = n
  · rw [decide_eq_true hxn, condW_true]
    rw [decide_eq_true (hxn ▸ List.mem_of_getElem? hx)] at hk
    exact hk
  · rw [decide_eq_false hxn, condW_false, w_add, wrap_id (by omega), loopK_self]
    refine ⟨l.length - (i + 1), by omega, i + 1, by simp [I], by omega, rfl, rfl, fun y hy => ?_⟩
    rw [List.take_add_one, hx] at hy
    rcases List.mem_append.1 hy with h | h
    · exact hP y h
    · simp at h; rw [h]; exact hxn)
theorem c135 {v : Value} {l : List CW} {f : Int} (hs : IsSl fC w v l) (hl : l.length ≤ maxLen) (hk : k (I (cntF l f)) w) : callW Tryz.prog (.func (.func 135) #[] #[]) #[v, I f] k w := C135 _ _ _ _ (by
  unfold S135
  have hml : maxLen ≤ 9223372036854775807 := by decide
  refine Loop1.intro (fun c a w' => ∃ i : Nat, a = I i ∧ i ≤ l.length ∧ c = l.length - i ∧ w' = w ∧ cntF l f = cntF (l.drop i) f) _ ⟨0, rfl, by omega, rfl, rfl, by simp⟩ ?_
  rintro c _ _ ⟨i, rfl, hi, rfl, rfl, hP⟩
  rw [len26 hs, w_lss]
  by_cases hlt : i < l.length
  case' neg =>
    rw [decide_eq_false (by omega), condW_false]
    rw [List.drop_eq_nil_of_le (by omega)] at hP
    rw [hP] at hk
    exact hk
  rw [decide_eq_true (by omega), condW_true]
  obtain ⟨x, hx⟩ : ∃ x, l[i]? = some x := ⟨_, List.getElem?_eq_getElem hlt⟩
  have hd : l.drop i = x :: l.drop (i + 1) := by
    rw [List.drop_eq_getElem_cons hlt]; congr 1
    rw [List.getElem?_eq_getElem hlt] at hx; exact Option.some.inj hx
  rw [gw26_0 (F := fC) rfl hs (by omega) (by simpa using hx) rfl, w_eql]
  by_cases hxn : x.fact = f
  · rw [decide_eq_true hxn, condW_true, gw26_1 (F := fC) rfl hs (by omega) (by simpa using hx) rfl]
    rw [hP, hd] at hk
    simpa [cntF, hxn] using hk
  · rw [decide_eq_false hxn, condW_false, w_add, wrap_id (by omega), loopK_self]
    refine ⟨l.length - (i + 1), by omega, i + 1, by simp [I], by omega, rfl, rfl, ?_⟩
    rw [hP, hd]
    simp [cntF, hxn])
theorem remTwo {n : Nat} : ((n : Int).tmod 2) = ((n % 2 : Nat) : Int) := by rw [Int.tmod_eq_emod_of_nonneg (by omega)]; omega
set_option maxHeartbeats 1000000 in
theorem c124 {u v z : Value} (hL : LabV w u L) (hr : RdrV v r) (hm : MomV w z m) (okl : okLab L) (okm : okMom m) (hk : ∀ n w', Below w.heap.size w w' → (n = 0 ↔ OpenP L r m) → k (I n) w') : callW Tryz.prog (.func (.func 124) #[] #[]) #[u, v, z] k w := C124 _ _ _ _ _ (by
  unfold S124
  obtain ⟨e, c, q, rfl, h1, h2, h3⟩ := id hL
  obtain ⟨e2, c2, q2, rfl, h4, h5, h6⟩ := id hm
  cases hr
  have hml : maxLen ≤ 9223372036854775807 := by decide
  refine w_boxN (v := .agg #[I L.til, e, c, I L.terr, I L.cls, q]) fun w1 hb1 hsz1 hr1 => ?_
  replace hr1 : RowAt w1 w.heap.size 61 [I L.til, e, c, I L.terr, I L.cls, q] := hr1
  refine w_boxN (v := .agg #[I r.1, I r.2]) fun w2 hb2 hsz2 hr2 => ?_
  replace hr2 : RowAt w2 w1.heap.size 30 [I r.1, I r.2] := hr2
  refine w_boxN (v := .agg #[I m.now, I m.drift, e2, c2, q2]) fun w3 hb3 hsz3 hr3 => ?_
  replace hr3 : RowAt w3 w2.heap.size 28 [I m.now, I m.drift, e2, c2, q2] := hr3
  replace hr1 := (hr1.below hb2).below hb3
  replace hr2 := hr2.below hb3
  have hb03 := below_trans (below_trans hb1 hb2) hb3
  rw [ld61 rfl hr1.cells]
  refine c50 (hL.below hb03) okl fun b1 w4 hb4 hV => ?_
  have hb04 := below_trans hb03 hb4
  rw [w_not]
  cases b1 with
  | false =>
    simp only [Bool.not_false, guardW_tf, guardW_u, pickW_true, condW_true]
    exact hk 1 _ hb04 ⟨(by omega), fun h => by have := hV.2 h.1; cases this⟩
  | true =>
  simp only [Bool.not_true, guardW_ff, pickW_false]
  replace hr1 := hr1.below hb4
  replace hr2 := hr2.below hb4
  replace hr3 := hr3.below hb4
  rw [rw30_0 (hr2.cell (i := 0) rfl)]
  refine c90 ?_
  rw [w_not]
  by_cases hR1 : 0 ≤ r.1 ∧ r.1 ≤ 7
  case' neg =>
    rw [decide_eq_false hR1]
    simp only [Bool.not_false, guardW_tf, guardW_u, pickW_true, pickW_false, condW_true]
    exact hk 1 _ hb04 ⟨(by omega), fun h => absurd h.2.2.1 hR1⟩
  rw [decide_eq_true hR1]
  simp only [Bool.not_true, guardW_ff, pickW_false]
  rw [rw30_1 (hr2.cell (i := 1) rfl)]
  refine c90 ?_
  rw [w_not]
  by_cases hR2 : 0 ≤ r.2 ∧ r.2 ≤ 7
  case' neg =>
    rw [decide_eq_false hR2]
    simp only [Bool.not_false, guardW_tf, guardW_u, pickW_true, pickW_false, condW_true]
    exact hk 1 _ hb04 ⟨(by omega), fun h => absurd h.2.2.2.1 hR2⟩
  rw [decide_eq_true hR2]
  simp only [Bool.not_true, guardW_ff, pickW_false]
  rw [ld28 rfl hr3.cells]
  refine c83 (hm.below hb04) okm fun b2 w5 hb5 hM => ?_
  have hb05 := below_trans hb04 hb5
  rw [w_not]
  cases b2 with
  | false =>
    simp only [Bool.not_false, guardW_tf, guardW_u, pickW_true, pickW_false, condW_true]
    exact hk 1 _ hb05 ⟨(by omega), fun h => by have := hM.2 h.2.1; cases this⟩
  | true =>
  simp only [Bool.not_true, guardW_ff, pickW_false, condW_false]
  replace hr1 := hr1.below hb5
  replace hr2 := hr2.below hb5
  replace hr3 := hr3.below hb5
  have HV := hV.1 rfl
  have HM := hM.1 rfl
  obtain ⟨ta, ra, hta, hra⟩ := bit_of HV.2.1.1 hR1.1
  obtain ⟨ca, sa, hca, hsa⟩ := bit_of HV.2.2.1.1 hR2.1
  have hM1 := HM.1
  have hM2 := HM.2.1
  have hV1 := HV.1
  rw [rw61_3 (hr1.cell (i := 3) rfl), rw30_0 (hr2.cell (i := 0) rfl), hta, w_shrN hra (by omega), w_rem (by decide), remTwo, w_eql]
  by_cases a1 : bitOn L.terr r.1
  case' neg =>
    rw [decide_eq_true (by unfold bitOn at a1; rw [hta, hra, Int.toNat_natCast, Int.toNat_natCast] at a1; omega), condW_true]
    exact hk 2 _ hb05 ⟨(by omega), fun h => absurd h.2.2.2.2.1 a1⟩
  rw [decide_eq_false (by have a1 := a1; unfold bitOn at a1; rw [hta, hra, Int.toNat_natCast, Int.toNat_natCast] at a1; omega), condW_false]
  rw [rw61_4 (hr1.cell (i := 4) rfl), rw30_1 (hr2.cell (i := 1) rfl), hca, w_shrN hsa (by omega), w_rem (by decide), remTwo, w_eql]
  by_cases a2 : bitOn L.cls r.2
  case' neg =>
    rw [decide_eq_true (by unfold bitOn at a2; rw [hca, hsa, Int.toNat_natCast, Int.toNat_natCast] at a2; omega), condW_true]
    exact hk 3 _ hb05 ⟨(by omega), fun h => absurd h.2.2.2.2.2.1 a2⟩
  rw [decide_eq_false (by have a2 := a2; unfold bitOn at a2; rw [hca, hsa, Int.toNat_natCast, Int.toNat_natCast] at a2; omega), condW_false]
  rw [rw28_0 (hr3.cell (i := 0) rfl), rw28_1 (hr3.cell (i := 1) rfl), w_sub, wrap_id (by omega), rw61_0 (hr1.cell (i := 0) rfl), w_lss]
  by_cases a3 : L.til ≤ m.now - m.drift
  case' neg =>
    rw [decide_eq_true (by omega), condW_true]
    exact hk 4 _ hb05 ⟨(by omega), fun h => absurd h.2.2.2.2.2.2.1 a3⟩
  rw [decide_eq_false (by omega), condW_false]
  rw [hta] at hr1
  rw [hca] at hr1
  refine Loop1.intro (fun n a w' => ∃ i : Nat, a = I i ∧ i ≤ L.ev.length ∧ n = L.ev.length - i ∧ Below w5.heap.size w5 w' ∧ ∀ x ∈ L.ev.take i, x ∈ m.ev) _ ⟨0, rfl, by omega, rfl, Below.refl _ _, by simp⟩ ?_
  rintro n _ w6 ⟨i, rfl, hi, rfl, hb6, hP⟩
  have hb06 := below_trans hb05 hb6
  have hl1 := okl.1.1
  rw [rw61_1 ((hr1.below hb6).cell (i := 1) rfl), len25 (h1.below hb06), w_lss]
  by_cases hlt : i < L.ev.length
  case' pos =>
    rw [decide_eq_true (by omega), condW_true, drewW_eq]
    have hb7 : Below w5.heap.size w5 w6.drew := hb6.drew
    have hb07 := below_trans hb05 hb7
    generalize w6.drew = w7 at *
    have ha7 := after_refl w7
    obtain ⟨x, hx⟩ : ∃ x, L.ev[i]? = some x := ⟨_, List.getElem?_eq_getElem hlt⟩
    refine ⟨after w7, ha7, ?_⟩
    rw [rt28_2 ((hr3.below hb7).cell (i := 2) rfl), ra61_1 ((hr1.below hb7).cell (i := 1) rfl) ha7, gt25 (F := fI) rfl (h1.below hb07) (by omega) (by simpa using hx) rfl]
    refine c134 (h4.below hb07) okm.1 ?_
    rw [keepS_eq]
    refine ⟨ha7, ?_⟩
    rw [t_not]
    by_cases hxm : x ∈ m.ev
    · rw [decide_eq_true hxm, Bool.not_true, condW_false, w_add, wrap_id (by omega), loopK_self]
      refine ⟨L.ev.length - (i + 1), by omega, i + 1, by simp [I], by omega, rfl, hb7, fun y hy => ?_⟩
      rw [List.take_add_one, hx] at hy
      rcases List.mem_append.1 hy with h | h
      · exact hP y h
      · simp at h; rw [h]; exact hxm
    · rw [decide_eq_false hxm, Bool.not_false, condW_true]
      exact hk 5 _ hb07 ⟨(by omega), fun h => absurd (h.2.2.2.2.2.2.2.1 x (List.mem_of_getElem? hx)) hxm⟩
  rw [decide_eq_false (by omega), condW_false]
  have a4 : ∀ x ∈ L.ev, x ∈ m.ev := by rw [List.take_of_length_le (by omega)] at hP; exact hP
  clear hP hi hlt
  replace hr1 := hr1.below hb6
  replace hr3 := hr3.below hb6
  have hl2 := okl.2.1
  refine Loop1.intro (fun n a w' => ∃ i : Nat, a = I i ∧ i ≤ L.ct.length ∧ n = L.ct.length - i ∧ Below w6.heap.size w6 w' ∧ ∀ x ∈ L.ct.take i, x.count ≤ cntF m.conf x.fact) _ ⟨0, rfl, by omega, rfl, Below.refl _ _, by simp⟩ ?_
  rintro n _ w7 ⟨i, rfl, hi, rfl, hb7, hP⟩
  have hb07 := below_trans hb06 hb7
  rw [rw61_2 ((hr1.below hb7).cell (i := 2) rfl), len26 (h2.below hb07), w_lss]
  have hct1 : ∀ x ∈ L.ct, 1 ≤ x.count := fun x hx => by
    obtain ⟨i, hi, rfl⟩ := List.getElem_of_mem hx
    exact (HV.2.2.2.2.2.2 i _ (List.getElem?_eq_getElem hi)).2.1.1
  by_cases hlt : i < L.ct.length
  case' pos =>
    rw [decide_eq_true (by omega), condW_true, drewW_eq]
    have hb8 : Below w6.heap.size w6 w7.drew := hb7.drew
    have hb08 := below_trans hb06 hb8
    generalize w7.drew = w8 at *
    have ha8 := after_refl w8
    obtain ⟨x, hx⟩ : ∃ x, L.ct[i]? = some x := ⟨_, List.getElem?_eq_getElem hlt⟩
    refine ⟨after w8, ha8, ?_⟩
    rw [rt28_3 ((hr3.below hb8).cell (i := 3) rfl), ra61_2 ((hr1.below hb8).cell (i := 2) rfl) ha8, gt26_0 (F := fC) rfl (h2.below hb08) (by omega) (by simpa using hx) rfl, ra61_2 ((hr1.below hb8).cell (i := 2) rfl) ha8, t_getFA (x := 1) (by kernel_rfl) (by kernel_rfl) (by kernel_rfl) (by kernel_rfl) (by kernel_rfl) (by kernel_rfl) (h2.below hb08) hx rfl ha8]
    refine c135 (h5.below hb08) okm.2.1 ?_
    rw [keepS_eq]
    refine ⟨ha8, ?_⟩
    rw [t_lss]
    by_cases hxm : cntF m.conf x.fact < x.count
    · rw [decide_eq_true hxm, condW_true]
      refine hk 6 _ hb08 ⟨(by omega), fun h => ?_⟩
      have := (cntF_iff HM.2.2.2.1 (hct1 x (List.mem_of_getElem? hx))).2 (h.2.2.2.2.2.2.2.2.1 x (List.mem_of_getElem? hx))
      omega
    · rw [decide_eq_false hxm, condW_false, w_add, wrap_id (by omega), loopK_self]
      refine ⟨L.ct.length - (i + 1), by omega, i + 1, by simp [I], by omega, rfl, hb8, fun y hy => ?_⟩
      rw [List.take_add_one, hx] at hy
      rcases List.mem_append.1 hy with h | h
      · exact hP y h
      · simp at h; rw [h]; omega
  rw [decide_eq_false (by omega), condW_false]
  have a5 : ∀ c ∈ L.ct, ∃ d ∈ m.conf, d.fact = c.fact ∧ c.count ≤ d.count := fun c hc => by
    rw [List.take_of_length_le (by omega)] at hP
    exact (cntF_iff HM.2.2.2.1 (hct1 c hc)).1 (hP c hc)
  clear hP hi hlt
  replace hr1 := hr1.below hb7
  replace hr3 := hr3.below hb7
  obtain ⟨xs, hxs, hx2⟩ := id h3
  have hxl := hx2.1
  have hl3 := okl.2.2.1
  refine Loop1.intro (fun n a w' => ∃ i : Nat, a = I i ∧ i ≤ L.locks.length ∧ n = L.locks.length - i ∧ Below w7.heap.size w7 w' ∧ ∀ q ∈ L.locks.take i, q.1 ≤ keyN q m.keys) _ ⟨0, rfl, by omega, rfl, Below.refl _ _, by simp⟩ ?_
  rintro n _ w8 ⟨i, rfl, hi, rfl, hb8, hP⟩
  have hb08 := below_trans hb07 hb8
  rw [rw61_5 ((hr1.below hb8).cell (i := 5) rfl), len59 (hxs.below hb08), hxl, w_lss]
  by_cases hlt : i < L.locks.length
  case' neg =>
    rw [decide_eq_false (by omega), condW_false]
    refine hk 0 _ hb08 ⟨fun _ => ⟨HV, HM, hR1, hR2, a1, a2, a3, a4, a5, ?_⟩, fun _ => rfl⟩
    rw [List.take_of_length_le (by omega)] at hP
    exact hP
  rw [decide_eq_true (by omega), condW_true]
  obtain ⟨p, hp⟩ : ∃ p, L.locks[i]? = some p := ⟨_, List.getElem?_eq_getElem hlt⟩
  obtain ⟨x, hx⟩ : ∃ x, xs[i]? = some x := ⟨_, List.getElem?_eq_getElem (by omega)⟩
  obtain ⟨kv, hkv, hks⟩ := hx2.2 i x p hx hp
  obtain ⟨e1, e3⟩ : I x.need = I p.1 ∧ (.slice x.ka x.kn x.kc : Value) = kv := by simpa [fQW] using hkv
  have hR : p.2.length ≤ 20 := (HV.2.2.2.2.1 i p hp).1.len
  refine Loop2.intro (fun n a b w' => ∃ j : Nat, a = I (((p.2.take j).filter fun x => decide (x ∈ m.keys)).length : Nat) ∧ b = I j ∧ j ≤ p.2.length ∧ n = p.2.length - j ∧ Below w8.heap.size w8 w') _ ⟨0, by simp [I], rfl, by omega, rfl, Below.refl _ _⟩ ?_
  rintro n _ _ w9 ⟨j, rfl, rfl, hj, rfl, hb9⟩
  have hb89 := below_trans hb8 hb9
  have hb09 := below_trans hb08 hb9
  have hfl : ((p.2.take j).filter fun x => decide (x ∈ m.keys)).length ≤ j := Nat.le_trans (List.length_filter_le _ _) (by rw [List.length_take]; omega)
  rw [rw61_5 ((hr1.below hb89).cell (i := 5) rfl), gw59_1 (F := fQW) rfl (hxs.below hb09) (by omega) (by simpa using hx) (u := kv) (by rw [← e3]; rfl), len25 (hks.below hb09), w_lss]
  by_cases hjt : j < p.2.length
  case' neg =>
    rw [decide_eq_false (by omega), condW_false]
    rw [rw61_5 ((hr1.below hb89).cell (i := 5) rfl), gw59_0 (F := fQW) rfl (hxs.below hb09) (by omega) (by simpa using hx) (u := I p.1) (by rw [← e1]; rfl), w_lss]
    have hkn : ((((p.2.take j).filter fun x => decide (x ∈ m.keys)).length : Nat) : Int) = keyN p m.keys := by
      rw [List.take_of_length_le (by omega)]; rfl
    rw [hkn]
    by_cases hlo : keyN p m.keys < p.1
    · rw [decide_eq_true hlo, condW_true]
      exact hk 7 _ hb09 ⟨(by omega), fun h => by have := h.2.2.2.2.2.2.2.2.2 p (List.mem_of_getElem? hp); omega⟩
    · rw [decide_eq_false hlo, condW_false, w_add, wrap_id (by omega), loopK_self]
      refine ⟨L.locks.length - (i + 1), by omega, i + 1, by simp [I], by omega, rfl, hb89, fun y hy => ?_⟩
      rw [List.take_add_one, hp] at hy
      rcases List.mem_append.1 hy with h | h
      · exact hP y h
      · simp at h; rw [h]; omega
  rw [decide_eq_true (by omega), condW_true]
  obtain ⟨z, hz⟩ : ∃ z, p.2[j]? = some z := ⟨_, List.getElem?_eq_getElem hjt⟩
  have hstep : ((p.2.take (j + 1)).filter fun x => decide (x ∈ m.keys)).length = ((p.2.take j).filter fun x => decide (x ∈ m.keys)).length + (if z ∈ m.keys then 1 else 0) := by
    rw [List.take_add_one, hz, List.filter_append, List.length_append]
    by_cases h : z ∈ m.keys <;> simp [h]
  refine joinW_use1 (fun a w' => a = I (((p.2.take (j + 1)).filter fun x => decide (x ∈ m.keys)).length : Nat) ∧ Below w8.heap.size w8 w') ?_ ?_
  · rintro _ w' ⟨rfl, hb'⟩
    rw [w_add, wrap_id (by omega), loopK_self]
    exact ⟨p.2.length - (j + 1), by omega, j + 1, rfl, by simp [I], by omega, rfl, hb'⟩
  intro J hJ
  rw [drewW_eq]
  have hb10 : Below w8.heap.size w8 w9.drew := hb9.drew
  have hb810 := below_trans hb8 hb10
  have hb010 := below_trans hb08 hb10
  generalize w9.drew = w10 at *
  have ha10 := after_refl w10
  refine ⟨after w10, ha10, ?_⟩
  rw [rt28_4 ((hr3.below hb810).cell (i := 4) rfl), ra61_5 ((hr1.below hb810).cell (i := 5) rfl) ha10, t_getFA (x := 1) (u := kv) (by kernel_rfl) (by kernel_rfl) (by kernel_rfl) (by kernel_rfl) (by kernel_rfl) (by kernel_rfl) (hxs.below hb010) hx (by rw [← e3]; rfl) ha10, gt25 (F := fI) rfl (hks.below hb010) (by omega) (by simpa using hz) rfl]
  refine c134 (h6.below hb010) okm.2.2 ?_
  rw [keepS_eq]
  refine ⟨ha10, ?_⟩
  by_cases hzm : z ∈ m.keys
  · rw [decide_eq_true hzm, condW_true, w_add, wrap_id (by omega)]
    exact hJ _ _ ⟨by rw [hstep, if_pos hzm]; simp [I], hb10⟩
  · rw [decide_eq_false hzm, condW_false]
    exact hJ _ _ ⟨by rw [hstep, if_neg hzm]; simp [I], hb10⟩)
theorem c97 {u v z : Value} (hL : LabV w u L) (hr : RdrV v r) (hm : MomV w z m) (okl : okLab L) (okm : okMom m) (hk : ∀ b w', Below w.heap.size w w' → (b = true ↔ OpenP L r m) → k (.bool b) w') : callW Tryz.prog (.func (.func 97) #[] #[]) #[u, v, z] k w := C97 _ _ _ _ _ (by
  unfold S97
  obtain ⟨e, c, q, rfl, h1, h2, h3⟩ := id hL
  obtain ⟨e2, c2, q2, rfl, h4, h5, h6⟩ := id hm
  cases hr
  refine w_boxN (v := .agg #[I L.til, e, c, I L.terr, I L.cls, q]) fun w1 hb1 hsz1 hr1 => ?_
  replace hr1 : RowAt w1 w.heap.size 61 [I L.til, e, c, I L.terr, I L.cls, q] := hr1
  refine w_boxN (v := .agg #[I r.1, I r.2]) fun w2 hb2 hsz2 hr2 => ?_
  replace hr2 : RowAt w2 w1.heap.size 30 [I r.1, I r.2] := hr2
  refine w_boxN (v := .agg #[I m.now, I m.drift, e2, c2, q2]) fun w3 hb3 hsz3 hr3 => ?_
  replace hr3 : RowAt w3 w2.heap.size 28 [I m.now, I m.drift, e2, c2, q2] := hr3
  replace hr1 := (hr1.below hb2).below hb3
  replace hr2 := hr2.below hb3
  have hb03 := below_trans (below_trans hb1 hb2) hb3
  rw [ld61 rfl hr1.cells, ld30 rfl hr2.cells, ld28 rfl hr3.cells]
  refine c124 (hL.below hb03) rfl (hm.below hb03) okl okm fun n w4 hb4 hn => ?_
  rw [w_eql]
  exact hk _ _ (below_trans hb03 hb4) (by rw [decide_eq_true_eq]; exact hn))
end
end Go.Proofs.YtfkfkldhcignbaaGreatDoor
/- Inputs that integers determine: pick, chosen, Moment, None. -/
set_option linter.unusedSimpArgs false
set_option linter.unusedVariables false
set_option maxRecDepth 4000
namespace Go.Proofs.YtfkfkldhcignbaaGreatDoor
open Go Go.V Go.RowKit
theorem wrap_in64 (n : Int) : in64 (IntKind.i64.wrap n) := by
  unfold in64 IntKind.wrap
  simp [IntKind.signed, IntKind.bits]
  omega
theorem RisingP.mono {l : List Int} {m m' : Int} (h : RisingP l m) (hm : m ≤ m') : RisingP l m' := fun i x hx => ⟨⟨(h i x hx).1.1, by have := (h i x hx).1.2; omega⟩, (h i x hx).2⟩
theorem RisingP.nil (m : Int) : RisingP [] m := fun i x hx => by simp at hx
theorem RisingP.snoc {l : List Int} {m x : Int} (h : RisingP l m) (hx : m < x) (h0 : 0 ≤ x) : RisingP (l ++ [x]) x := fun i y hy => by
  rw [List.getElem?_append] at hy
  split at hy
  · rename_i hi
    have h1 := h i y hy
    refine ⟨⟨h1.1.1, by omega⟩, fun z h2 h3 => ?_⟩
    rw [List.getElem?_append_left (by omega)] at h3
    exact h1.2 z h2 h3
  · rename_i hi
    have hi0 : i = l.length := by
      have := (List.getElem?_eq_some_iff.1 hy).1
      simp at this; omega
    subst hi0
    simp at hy
    subst hy
    refine ⟨⟨h0, Int.le_refl _⟩, fun z h2 h3 => ?_⟩
    rw [List.getElem?_append_left (by omega)] at h3
    have := (h _ z h3).1.2
    omega
theorem RisingP.in64 {l : List Int} {m : Int} (h : RisingP l m) (hm : m ≤ 1000000) : ∀ x ∈ l, in64 x := fun x hx => by
  have := h.sm hm x hx
  unfold Go.Proofs.YtfkfkldhcignbaaGreatDoor.in64; omega
theorem CountsP.nil (m : Int) : CountsP [] m := fun i x hx => by simp at hx
theorem CountsP.snoc {l : List CW} {m : Int} {x : CW} (h : CountsP l m) (hx : ∀ y ∈ l, y.fact < x.fact) (h0 : 0 ≤ x.fact ∧ x.fact ≤ 15) (h1 : m ≤ x.count ∧ x.count ≤ 12) : CountsP (l ++ [x]) m := fun i y hy => by
  rw [List.getElem?_append] at hy
  split at hy
  · rename_i hi
    have h1 := h i y hy
    refine ⟨h1.1, h1.2.1, fun z h2 h3 => ?_⟩
    rw [List.getElem?_append_left (by omega)] at h3
    exact h1.2.2 z h2 h3
  · rename_i hi
    have hi0 : i = l.length := by
      have := (List.getElem?_eq_some_iff.1 hy).1
      simp at this; omega
    subst hi0
    simp at hy
    subst hy
    refine ⟨h0, h1, fun z h2 h3 => ?_⟩
    rw [List.getElem?_append_left (by omega)] at h3
    exact hx z (List.mem_of_getElem? h3)
section
variable {k : Value → World → Prop} {w : World}
theorem pickS {c n : Int} (hc : in64 c) (hn : 0 < n) (hk : ∀ r, 0 ≤ r ∧ r < n → k (I r) w) :
    joinW (fun c_7 w => opW Tryz.prog (binS BinOp.rem 3 (Operand.tmp 10) (Operand.tmp 11) c_7 (I n)) (fun t12_8 w => k t12_8 w) w) (fun J_3 =>
   opW Tryz.prog (binS BinOp.lss 3 (Operand.tmp 5) (Operand.const (I 0)) (I c) (I 0)) (fun t6_4 w =>
   condW t6_4
   (opW Tryz.prog (binS BinOp.add 3 (Operand.tmp 7) (Operand.const (I 1)) (I c) (I 1)) (fun t8_5 w =>
   opW Tryz.prog (Op.unary UnOp.neg t8_5) (fun t9_6 w =>
   J_3 t9_6 w) w) w)
   (J_3 (I c) w)) w) := by
  unfold in64 at hc
  refine joinW_use1 (fun v w' => w' = w ∧ ∃ x : Int, v = I x ∧ 0 ≤ x) ?_ ?_
  · rintro _ _ ⟨rfl, x, rfl, hx⟩
    rw [w_rem (by omega)]
    refine hk _ ?_
    rw [Int.tmod_eq_emod_of_nonneg hx]
    exact ⟨Int.emod_nonneg _ (by omega), Int.emod_lt_of_pos _ hn⟩
  intro J hJ
  rw [w_lss]
  by_cases h : c < 0
  · rw [decide_eq_true h, condW_true, w_add, wrap_id (by omega), w_neg, wrap_id (by omega)]
    exact hJ _ _ ⟨rfl, _, rfl, by omega⟩
  · rw [decide_eq_false h, condW_false]
    exact hJ _ _ ⟨rfl, _, rfl, by omega⟩
theorem c60 {c n : Int} (hc : in64 c) (hn : 0 < n) (hk : ∀ r, 0 ≤ r ∧ r < n → k (I r) w) : callW Tryz.prog (.func (.func 60) #[] #[]) #[I c, I n] k w := C60 _ _ _ _ (pickS hc hn hk)
theorem c38 {c n : Int} (hc : in64 c) (hn : 0 < n) (hk : ∀ r, 0 ≤ r ∧ r < n → k (I r) w) : callW Tryz.prog (.func (.func 38) #[] #[]) #[I c, I n] k w := C38 _ _ _ _ (pickS hc hn hk)
theorem c13 {c n : Int} (hc : in64 c) (hn : 0 < n) (hk : ∀ r, 0 ≤ r ∧ r < n → k (I r) w) : callW Tryz.prog (.func (.func 13) #[] #[]) #[I c, I n] k w := C13 _ _ _ _ (pickS hc hn hk)
theorem c61 {c n : Int} (hc : in64 c) (hn : 0 ≤ n ∧ n ≤ 30) (hk : ∀ v l w', Below w.heap.size w w' → Mine fI 3 w' w.heap.size v l → RisingP l (n - 1) → k v w') : callW Tryz.prog (.func (.func 61) #[] #[]) #[I c, I n] k w := C61 _ _ _ _ (by
  unfold S61
  refine Loop2.intro (fun m a b w' => ∃ (i : Nat) (l : List Int), b = I i ∧ (i : Int) ≤ n ∧ m = n.toNat - i ∧ Below w.heap.size w w' ∧ Mine fI 3 w' w.heap.size a l ∧ RisingP l ((i : Int) - 1) ∧ l.length ≤ i) _ ⟨0, [], rfl, by omega, rfl, Below.refl _ _, Mine.nil _ _, RisingP.nil _, by simp⟩ ?_
  rintro m v _ w1 ⟨i, l, rfl, hi, rfl, hb1, hm1, hr, hlen⟩
  rw [w_lss]
  by_cases hlt : (i : Int) < n
  case' neg =>
    rw [decide_eq_false hlt, condW_false]
    exact hk _ _ _ hb1 hm1 (by rw [show n - 1 = (i : Int) - 1 by omega]; exact hr)
  rw [decide_eq_true hlt, condW_true]
  refine joinW_use1 (fun a w' => ∃ l' : List Int, Below w.heap.size w w' ∧ Mine fI 3 w' w.heap.size a l' ∧ RisingP l' i ∧ l'.length ≤ i + 1) ?_ ?_
  · rintro a w' ⟨l', h1, h2, h3, h4⟩
    rw [w_add, wrap_id (by omega), loopK_self]
    exact ⟨n.toNat - (i + 1), by omega, i + 1, l', by simp [I], by omega, rfl, h1, h2, by rw [show ((i + 1 : Nat) : Int) - 1 = i by omega]; exact h3, h4⟩
  intro J hJ
  refine c60 hc (by omega) fun r hrr => ?_
  rw [w_shr (by omega), w_rem (by decide), w_eql]
  cases hd : decide ((r.fdiv (2 ^ (min ((i : Int).toNat) (IntKind.bits .i64)))).tmod 2 = 1) with
  | false =>
    rw [condW_false]
    exact hJ _ _ ⟨l, hb1, hm1, hr.mono (by omega), by omega⟩
  | true =>
    rw [condW_true]
    have hml : 1000000 ≤ maxLen := by decide
    refine Mine.push (x := (i : Int)) sty25 (fun u hu => by simp [fI] at hu; subst hu; rfl) rfl (by decide) hm1 hb1.size (by omega) (by omega) fun v2 w2 hm2 hb2 ho2 hu2 => ?_
    exact hJ _ _ ⟨l ++ [(i : Int)], hb1.trans hb2, hm2, hr.snoc (by omega) (by omega), by simp; omega⟩)
def noneL : Lab := ⟨0, [], [], 255, 255, []⟩
abbrev noneV : Value := .agg #[I 0, .slice none 0 0, .slice none 0 0, I 255, I 255, .slice none 0 0]
theorem slNil {α : Type} (F : Fl α) (w : World) : IsSl F w (.slice none 0 0) [] := ⟨none, 0, rfl, Nat.le_refl _, fun i x hx => by simp at hx⟩
theorem noneL_valid : ValidLab noneL := ⟨by decide, by decide, by decide, by decide, fun i q hq => by simp [noneL] at hq, RisingP.nil _, CountsP.nil _⟩
theorem noneL_ok : okLab noneL := ⟨⟨by decide, by simp [noneL]⟩, by decide, by decide, by simp [noneL]⟩
theorem b61_34 : opW Tryz.prog (Instr.build 61 #[(3, I 255), (4, I 255)]) k w = k noneV w := opW_ok (by kernel_rfl)
theorem c31 (hk : ∀ w', Below w.heap.size w w' → k noneV w') : callW Tryz.prog (.func (.func 31) #[] #[]) #[] k w := C31 _ _ (by
  unfold S31
  refine al61 fun w1 hb1 hs1 hr1 => ?_
  rw [b61_34]
  refine sr61 (vs := [I 0, .slice none 0 0, .slice none 0 0, I 255, I 255, .slice none 0 0]) rfl hr1 rfl (by simp [Value.oneCell']) fun w2 ho2 hr2 => ?_
  rw [rc61 rfl hr2.cells]
  exact hk _ (hb1.trans (ho2.rest _ (Nat.le_refl _))))
theorem c40 (hk : ∀ w', Below w.heap.size w w' → k noneV w') : callW Tryz.prog (.func (.func 40) #[] #[]) #[] k w := C40 _ _ (by
  unfold S40
  refine al61 fun w1 hb1 hs1 hr1 => ?_
  rw [b61_34]
  refine sr61 (vs := [I 0, .slice none 0 0, .slice none 0 0, I 255, I 255, .slice none 0 0]) rfl hr1 rfl (by simp [Value.oneCell']) fun w2 ho2 hr2 => ?_
  rw [rc61 rfl hr2.cells]
  exact hk _ (hb1.trans (ho2.rest _ (Nat.le_refl _))))
end
end Go.Proofs.YtfkfkldhcignbaaGreatDoor
/- Inputs that integers determine: Moment. -/
set_option linter.unusedSimpArgs false
set_option linter.unusedVariables false
set_option maxRecDepth 4000
namespace Go.Proofs.YtfkfkldhcignbaaGreatDoor
open Go Go.V Go.RowKit
section
variable {k : Value → World → Prop} {K : Value → Prop} {w w0 : World} {b j n : Nat} {i : Int} {u : Value} {vs : List Value} {q : IntKind}
theorem ra82 (hr : RowAt w0 b 82 vs) (hu : vs[j]? = some u) (hij : i = j) (hj : j < 5) (ha : after w0 w) : takeW Tryz.prog anyW (Instr.indexAt 82 (.pointer (some ⟨b, 0, none⟩)) (.int q i)) (fun p => takeW Tryz.prog (after w0) (Instr.loadAt 3 p) K w) w = K u :=
  r_arrA (e := 3) hij (by kernel_rfl) (by kernel_rfl) (by kernel_rfl) (by kernel_rfl) (by kernel_rfl) hj (hr.cell hu) ha
theorem ro82 {p : Nat → Prop} (hr : RowAt w0 b 82 vs) (hu : vs[j]? = some u) (hij : i = j) (hj : j < 5) (hp : ¬ p b) (ha : Off p w0 w) : takeW Tryz.prog anyW (Instr.indexAt 82 (.pointer (some ⟨b, 0, none⟩)) (.int q i)) (fun p' => takeW Tryz.prog (Off p w0) (Instr.loadAt 3 p') K w) w = K u := by
  subst hij
  rw [takeW_pure (run_indexArr (e := 3) (n := 5) (by kernel_rfl) (by kernel_rfl) (by omega) (by omega)), show sizeT Tryz.prog 3 = 1 by kernel_rfl, Nat.mul_one, Nat.zero_add, Int.toNat_natCast]
  exact r_loadO (by kernel_rfl) (by kernel_rfl) (hr.cell hu) hp ha
theorem rw82 (hr : RowAt w b 82 vs) (hu : vs[j]? = some u) (hij : i = j) (hj : j < 5) : opW Tryz.prog (Instr.indexAt 82 (.pointer (some ⟨b, 0, none⟩)) (.int q i)) (fun p w => opW Tryz.prog (Instr.loadAt 3 p) k w) w = k u w :=
  r_arr (e := 3) hij (by kernel_rfl) (by kernel_rfl) (by kernel_rfl) (by kernel_rfl) (by kernel_rfl) hj (hr.cell hu)
theorem b28_m {a c : Int} {a1 a2 : Option Addr} {n1 n2 c1 c2 : Nat} : opW Tryz.prog (Instr.build 28 #[(0, I a), (1, I c), (2, .slice a1 n1 c1), (4, .slice a2 n2 c2)]) k w = k (.agg ([I a, I c, .slice a1 n1 c1, .slice none 0 0, .slice a2 n2 c2] : List Value).toArray) w := opW_ok (by kernel_rfl)
theorem b121 {a c : Int} : opW Tryz.prog (Instr.build 121 #[(0, I a), (1, I c)]) k w = k (.agg #[I a, I c]) w := opW_ok (by kernel_rfl)
theorem mine_ne_row {α : Type} {F : Fl α} {e t B b x : Nat} {w : World} {v : Value} {l : List α} {vs : List Value} (hm : Mine F e w B v l) (hr : RowAt w b t vs) (het : e ≠ t) (hx : isOf v x) : x ≠ b := by
  rcases hm.2 with ⟨rfl, _⟩ | ⟨g, cap, cur, rfl, _, hgg, _⟩
  · simp [isOf, Value.ownBlock] at hx
  · simp [isOf, Value.ownBlock] at hx
    subst hx
    rintro rfl
    unfold RowAt at hr
    rw [hgg] at hr
    simp at hr
    exact het hr.2
theorem mine_ne {α β : Type} {F : Fl α} {G : Fl β} {e e' B B' x y : Nat} {w : World} {v v' : Value} {l : List α} {l' : List β} (hm : Mine F e w B v l) (hn : Mine G e' w B' v' l') (het : e ≠ e') (hx : isOf v x) (hy : isOf v' y) : x ≠ y := by
  rcases hm.2 with ⟨rfl, _⟩ | ⟨g, cap, cur, rfl, _, hgg, _⟩
  · simp [isOf, Value.ownBlock] at hx
  rcases hn.2 with ⟨rfl, _⟩ | ⟨g', cap', cur', rfl, _, hgg', _⟩
  · simp [isOf, Value.ownBlock] at hy
  simp [isOf, Value.ownBlock] at hx hy
  subst hx hy
  rintro rfl
  rw [hgg] at hgg'
  simp at hgg'
  exact het hgg'.2
/-- the row of a moment -/
def MomR (B : Nat) (w : World) (b : Nat) (m : Mom) : Prop := ∃ e c q, RowAt w b 28 [I m.now, I m.drift, e, c, q] ∧ Mine fI 3 w B e m.ev ∧ Mine fC 121 w B c m.conf ∧ Mine fI 3 w B q m.keys
end
section
variable {k : Value → World → Prop} {w : World}
theorem one5 {a c : Int} {a1 a2 a3 : Option Addr} {n1 n2 n3 c1 c2 c3 : Nat} : ∀ v ∈ ([I a, I c, .slice a1 n1 c1, .slice a2 n2 c2, .slice a3 n3 c3] : List Value), v.oneCell' = true := by simp [Value.oneCell']
theorem oneM {a c : Int} {e cv q : Value} {l1 l3 : List Int} {l2 : List CW} {w : World} (he : IsSl fI w e l1) (hc : IsSl fC w cv l2) (hq : IsSl fI w q l3) : ∀ u ∈ ([I a, I c, e, cv, q] : List Value), u.oneCell' = true := by
  obtain ⟨a1, c1, rfl, -⟩ := id he
  obtain ⟨a2, c2, rfl, -⟩ := id hc
  obtain ⟨a3, c3, rfl, -⟩ := id hq
  exact one5
theorem c37 {xs : List Int} (hx : xs.length = 5) (hi : ∀ x ∈ xs, in64 x) (hk : ∀ m e c q w', Below w.heap.size w w' → Mine fI 3 w' w.heap.size e m.ev → Mine fC 121 w' w.heap.size c m.conf → Mine fI 3 w' w.heap.size q m.keys → ValidMom m → m.ev.length ≤ 20 → m.keys.length ≤ 20 → m.conf.length ≤ 4 → k (.agg ([I m.now, I m.drift, e, c, q] : List Value).toArray) w') : callW Tryz.prog (.func (.func 37) #[] #[]) #[.agg (xs.map I).toArray] k w := C37 _ _ _ (by
  unfold S37
  have hml : 1000000 ≤ maxLen := by decide
  obtain ⟨x0, x1, x2, x3, x4, rfl⟩ : ∃ a b c d e, xs = [a, b, c, d, e] := by
    match xs, hx with
    | [a, b, c, d, e], _ => exact ⟨a, b, c, d, e, rfl⟩
  have i0 := hi x0 (by simp)
  have i1 := hi x1 (by simp)
  have i2 := hi x2 (by simp)
  have i3 := hi x3 (by simp)
  have i4 := hi x4 (by simp)
  refine w_boxN (v := .agg #[I x0, I x1, I x2, I x3, I x4]) fun w1 hb1 hsz1 hr1 => ?_
  replace hr1 : RowAt w1 w.heap.size 82 [I x0, I x1, I x2, I x3, I x4] := hr1
  refine al28 fun w2 hb2 hsz2 hr2 => ?_
  replace hr1 := hr1.below hb2
  have hb02 := below_trans hb1 hb2
  refine joinW_use1 (fun v w' => ∃ b m, v = .pointer (some ⟨b, 0, none⟩) ∧ Below w2.heap.size w2 w' ∧ w2.heap.size ≤ b ∧ MomR w2.heap.size w' b m ∧ (0 ≤ m.now ∧ m.now ≤ 390) ∧ (0 ≤ m.drift ∧ m.drift ≤ 14) ∧ RisingP m.ev 4 ∧ m.conf = [] ∧ RisingP m.keys 5) ?_ ?_
  · rintro _ w3 ⟨b, m, rfl, hb3, hbl, ⟨e, c, q, hr3, he, hc, hq⟩, hnow, hdr, hev, hcf, hkeys⟩
    have hb03 := below_trans hb02 hb3
    have hr1' := hr1.below hb3
    have hr2' := hr2.below hb3
    have hbs : b < w3.heap.size := hr3.lt
    refine Loop1.intro (fun n a w' => ∃ (i : Nat) (l : List CW) (cv : Value), a = I i ∧ i ≤ 4 ∧ n = 4 - i ∧ Below w2.heap.size w2 w' ∧ RowAt w' b 28 [I m.now, I m.drift, e, cv, q] ∧ Mine fI 3 w' w2.heap.size e m.ev ∧ Mine fI 3 w' w2.heap.size q m.keys ∧ Mine fC 121 w' w2.heap.size cv l ∧ CountsP l 0 ∧ (∀ y ∈ l, y.fact < i) ∧ l.length ≤ i ∧ w3.heap.size ≤ w'.heap.size) _ ⟨0, [], c, rfl, by omega, rfl, hb3, hr3, he, hq, by rw [← hcf]; exact hc, CountsP.nil _, by simp, by simp, Nat.le_refl _⟩ ?_
    rintro n _ w4 ⟨i, l, cv, rfl, hi4, rfl, hb4, hr4, he4, hq4, hm4, hcl, hfl, hll, hsz4⟩
    rw [w_lss]
    have hb04 := below_trans hb02 hb4
    by_cases hlt : i < 4
    case' neg =>
      rw [decide_eq_false (by omega), condW_false, ld28 rfl hr4.cells]
      refine sr28 rfl (hr2.below hb4) rfl (oneM he4.sl hm4.sl hq4.sl) fun w5 ho5 hr5 => ?_
      rw [rc28 rfl hr5.cells]
      have hb25 : Below w.heap.size w w5 := hb04.trans (ho5.rest _ (by omega))
      have old : ∀ {α : Type} {F : Fl α} {e : Nat} {v : Value} {l : List α}, Mine F e w4 w2.heap.size v l → Mine F e w5 w.heap.size v l := fun hm => (hm.off (Off.only (p := fun x => x = w1.heap.size) ho5 rfl) fun x hx hh => by
        have := (hm.ge hx).1; omega).base hb02.size
      refine hk ⟨m.now, m.drift, m.ev, l, m.keys⟩ e cv q w5 hb25 (old he4) (old hm4) (old hq4) ?_ ?_ ?_ ?_
      · exact ⟨⟨hnow.1, by simp only; omega⟩, ⟨hdr.1, by simp only; omega⟩, hev.mono (by decide), hcl, hkeys.mono (by decide)⟩
      · exact (hev.mono (by decide)).len
      · exact (hkeys.mono (by decide)).len
      · simp only; omega
    rw [decide_eq_true (by omega), condW_true]
    refine joinW_use0 (fun w' => ∃ (l' : List CW) (cv' : Value), Below w2.heap.size w2 w' ∧ RowAt w' b 28 [I m.now, I m.drift, e, cv', q] ∧ Mine fI 3 w' w2.heap.size e m.ev ∧ Mine fI 3 w' w2.heap.size q m.keys ∧ Mine fC 121 w' w2.heap.size cv' l' ∧ CountsP l' 0 ∧ (∀ y ∈ l', y.fact < i + 1) ∧ l'.length ≤ i + 1 ∧ w3.heap.size ≤ w'.heap.size) ?_ ?_
    · rintro w' ⟨l', cv', q1, q2, q3, q4, q5, q6, q7, q8, q9⟩
      rw [w_add, wrap_id (by omega), loopK_self]
      exact ⟨4 - (i + 1), by omega, i + 1, l', cv', by simp [I], by omega, rfl, q1, q2, q3, q4, q5, q6, fun y hy => by have := q7 y hy; omega, q8, q9⟩
    intro J hJ
    rw [rw82 (i := 3) (j := 3) (hr1.below hb4) rfl rfl (by omega)]
    refine c60 i3 (by decide) fun r hrr => ?_
    rw [w_shr (by omega), w_rem (by decide), w_eql]
    cases hd : decide ((r.fdiv (2 ^ (min ((i : Int).toNat) (IntKind.bits .i64)))).tmod 2 = 1) with
    | false =>
      rw [condW_false]
      exact hJ _ ⟨l, cv, hb4, hr4, he4, hq4, hm4, hcl, fun y hy => by have := hfl y hy; omega, by omega, hsz4⟩
    | true =>
      rw [condW_true, drewW_eq]
      replace hr4 := hr4.drew
      have hbd := below_drew w4
      replace he4 := he4.below hbd
      replace hq4 := hq4.below hbd
      replace hm4 := hm4.below hbd
      replace hb4 : Below w2.heap.size w2 w4.drew := below_trans hb4 hbd
      replace hsz4 : w3.heap.size ≤ w4.drew.heap.size := Nat.le_trans hsz4 hbd.size
      clear hbd
      have hr1x := hr1.below hb4
      generalize w4.drew = w5 at *
      have ha5 := after_refl w5
      have hne : ∀ x, isOf cv x → x ≠ b := fun x hx => mine_ne_row hm4 hr4 (by decide) hx
      have ho5 : Off (isOf cv) w5 w5 := Off.refl _ _
      refine ⟨Off (isOf cv) w5, ho5, ?_⟩
      rw [ro28_3 (hr4.cell (i := 3) rfl) (fun h => hne b h rfl) ho5, ro82 (i := 3) (j := 3) hr1x rfl rfl (by omega) (fun h => by have := (hm4.ge h).1; have := hr1.lt; omega) ho5, t_quo (by decide)]
      refine c60 (wrap_in64 _) (by decide) fun z hz => ?_
      rw [keepS_eq]
      refine ⟨ho5, ?_⟩
      rw [b121, keepS_eq]
      refine ⟨ho5, ?_⟩
      refine Mine.pushS (x := (⟨i, z⟩ : CW)) sty26 (fun u hu => by simp [fC] at hu; rcases hu with rfl | rfl <;> rfl) rfl (by decide) hm4 hb4.size (by omega) (by omega) (fun _ h => Off.below h) fun v6 w6 hm6 hb6 ho6 hu6 => ?_
      have hr6 : RowAt w6 b 28 [I m.now, I m.drift, e, cv, q] := hr4.off ho6 fun h => hne b h rfl
      have he6 := he4.off ho6 fun x hx hh => mine_ne he4 hm4 (by decide) hx hh rfl
      have hq6 := hq4.off ho6 fun x hx hh => mine_ne hq4 hm4 (by decide) hx hh rfl
      have hb26 : Below w2.heap.size w2 w6 := hb4.trans hb6
      refine ⟨ho6, ?_⟩
      rw [tfl28_3]
      obtain ⟨a1, k1, rfl, -⟩ := id hm6.sl
      rw [st26 rfl (hr6.cell (i := 0 + 3) rfl) (hr6.free _)]
      have hr7 := hr6.set 3 (Value.slice a1 (l ++ [(⟨i, z⟩ : CW)]).length k1)
      have hof7 : ∀ u, Off (fun x => x = b) w6 (w6.setCell ⟨b, 3, none⟩ u) := fun u => Off.set rfl
      refine hJ _ ⟨_, _, hb26.setCell hbl _, hr7, he6.off (hof7 _) fun x hx hh => mine_ne_row he6 hr6 (by decide) hx hh, hq6.off (hof7 _) fun x hx hh => mine_ne_row hq6 hr6 (by decide) hx hh, hm6.off (hof7 _) fun x hx hh => mine_ne_row hm6 hr6 (by decide) hx hh, hcl.snoc (fun y hy => hfl y hy) (by simp only; omega) (by simp only; omega), ?_, by simp; omega, ?_⟩
      · intro y hy
        rcases List.mem_append.1 hy with h | h
        · have := hfl y h; omega
        · simp at h; subst h; simp only; omega
      · exact Nat.le_trans hsz4 (Nat.le_trans ho6.size (hof7 _).size)
  intro J hJ
  rw [drewW_eq]
  have hb23 : Below w2.heap.size w2 w2.drew := below_drew w2
  have hrx := hr1.drew
  generalize w2.drew = w3 at *
  have ha := after_refl w3
  refine ⟨after w3, ha, ?_⟩
  rw [ra82 (i := 0) (j := 0) hrx rfl rfl (by omega) ha, ra82 (i := 1) (j := 1) hrx rfl rfl (by omega) ha, ra82 (i := 2) (j := 2) hrx rfl rfl (by omega) ha, ra82 (i := 4) (j := 4) hrx rfl rfl (by omega) ha]
  have fin : ∀ (u : World) (b : Nat) (p d : Int) (old : List Value) (ev ky : List Int) (ea ka : Option Addr) (ec kc : Nat), after w3 u → RowAt u b 28 old → w3.heap.size ≤ b → old.length = 5 → (0 ≤ p ∧ p < 40) → (0 ≤ d ∧ d < 3) → RisingP ev (5 - 1) → RisingP ky (6 - 1) → Mine fI 3 u w3.heap.size (.slice ea ev.length ec) ev → Mine fI 3 u w3.heap.size (.slice ka ky.length kc) ky →
      opU Tryz.prog (Instr.storeAt 28 (.pointer (some ⟨b, 0, none⟩)) (.agg ([I (p * 10), I (d * 7), .slice ea ev.length ec, .slice none 0 0, .slice ka ky.length kc] : List Value).toArray)) (fun _ w => J (.pointer (some ⟨b, 0, none⟩)) w) u := by
    intro u b p d old ev ky ea ka ec kc ha hr hbl ho hp hd hev hky hme hmk
    refine sr28 rfl hr ho one5 fun u1 ho1 hr1 => ?_
    have hx : Off (fun x => x = b) u u1 := Off.only ho1 rfl
    have hs := hb23.size
    refine hJ _ _ ⟨b, ⟨p * 10, d * 7, ev, [], ky⟩, rfl, (hb23.trans (ha.mono hs)).trans (ho1.rest _ (by omega)), by omega, ⟨_, _, _, hr1, (hme.off hx fun x hx hh => mine_ne_row hme hr (by decide) hx hh).base hs, Mine.nil _ _, (hmk.off hx fun x hx hh => mine_ne_row hmk hr (by decide) hx hh).base hs⟩, by simp only; omega, by simp only; omega, hev, rfl, hky⟩
  have hb13 := hb23
  clear hJ hr1 hrx hk
  repeat' (first
    | refine And.intro ?_ ?_
    | (refine c60 (n := 40) i0 (by decide) fun p hp => ?_
       rw [keepS_eq]; refine ⟨ha, ?_⟩
       rw [t_mul, wrap_id (by omega)])
    | (refine c60 (n := 3) i1 (by decide) fun d hd => ?_
       rw [keepS_eq]; refine ⟨ha, ?_⟩
       rw [t_mul, wrap_id (by omega)])
    | (refine c61 (n := 5) i2 (by decide) fun ve ev u hb hme hev => ?_
       rw [keepS_eq]
       replace hme := hme.base ha.size
       obtain ⟨ea, ec, rfl, -⟩ := id hme.sl
       try replace hmk := hmk.below hb
       try replace hra := hra.below hb
       replace ha := below_trans ha hb
       refine ⟨ha, ?_⟩)
    | (refine c61 (n := 6) i4 (by decide) fun vk ky u hb hmk hky => ?_
       rw [keepS_eq]
       replace hmk := hmk.base ha.size
       obtain ⟨ka, kc, rfl, -⟩ := id hmk.sl
       try replace hme := hme.below hb
       try replace hra := hra.below hb
       replace ha := below_trans ha hb
       refine ⟨ha, ?_⟩)
    | (rw [b28_m, keepS_eq]; refine ⟨ha, ?_⟩)
    | (refine al28 fun u hb hsz hra => ?_
       rw [keepS_eq]
       have hbl := ha.size
       try replace hme := hme.below hb
       try replace hmk := hmk.below hb
       replace ha := below_trans ha hb
       refine ⟨ha, ?_⟩)
    | exact fin _ _ p d _ ev ky _ _ _ _ ha hra hbl rfl hp hd hev hky hme hmk))
end
end Go.Proofs.YtfkfkldhcignbaaGreatDoor
/- Inputs that integers determine: Made. -/
set_option linter.unusedSimpArgs false
set_option linter.unusedVariables false
set_option maxRecDepth 4000
namespace Go.V
open Go Go.RowKit
/-- block g is a row of type t -/
def Tag (w : World) (g t : Nat) : Prop := ∃ cur, w.heap[g]? = some (.cells cur t (0, 0))
theorem Tag.uniq {w : World} {g t t' : Nat} (h : Tag w g t) (h' : Tag w g t') : t = t' := by
  obtain ⟨a, ha⟩ := h
  obtain ⟨b, hb⟩ := h'
  rw [ha] at hb
  simp at hb
  exact hb.2
theorem RowAt.tag {w : World} {b t : Nat} {vs : List Value} (h : RowAt w b t vs) : Tag w b t := ⟨_, h⟩
theorem Mine.tag {α : Type} {F : Fl α} {e B x : Nat} {w : World} {v : Value} {l : List α} (h : Mine F e w B v l) (hx : isOf v x) : Tag w x e := by
  rcases h.2 with ⟨rfl, _⟩ | ⟨g, cap, cur, rfl, _, hgg, _⟩
  · simp [isOf, Value.ownBlock] at hx
  · simp [isOf, Value.ownBlock] at hx
    subst hx; exact ⟨_, hgg⟩
/-- the blocks that may change are rows of another type than t -/
def Apart (w : World) (p : Nat → Prop) (t : Nat) : Prop := ∀ x, p x → ∃ t', Tag w x t' ∧ t' ≠ t
theorem apMine {α : Type} {F : Fl α} {e B t : Nat} {w : World} {v : Value} {l : List α} (h : Mine F e w B v l) (ht : e ≠ t) : Apart w (isOf v) t := fun x hx => ⟨e, Mine.tag h hx, ht⟩
theorem apRow {w : World} {b t s : Nat} {vs : List Value} (h : RowAt w b t vs) (ht : t ≠ s) : Apart w (fun x => x = b) s := fun x hx => by subst hx; exact ⟨t, RowAt.tag h, ht⟩
theorem Mine.apart {α : Type} {F : Fl α} {e B : Nat} {w w' : World} {v : Value} {l : List α} {p : Nat → Prop} (h : Mine F e w B v l) (ho : Off p w w') (ha : Apart w p e) : Mine F e w' B v l := Go.V.Mine.off h ho fun x hx hp => by
  obtain ⟨t, h1, h2⟩ := ha x hp
  exact h2 (h1.uniq (Mine.tag h hx))
theorem RowAt.apart {w w' : World} {b t : Nat} {vs : List Value} {p : Nat → Prop} (h : RowAt w b t vs) (ho : Off p w w') (ha : Apart w p t) : RowAt w' b t vs := Go.V.RowAt.off h ho fun hp => by
  obtain ⟨t', h1, h2⟩ := ha b hp
  exact h2 (h1.uniq (RowAt.tag h))
end Go.V
namespace Go.Proofs.YtfkfkldhcignbaaGreatDoor
open Go Go.V Go.RowKit
def LkM (B : Nat) (w : World) (xs : List QW) (ls : List Lock) : Prop := xs.length = ls.length ∧ ∀ (i : Nat) x p, xs[i]? = some x → ls[i]? = some p → x.need = p.1 ∧ Mine fI 3 w B (.slice x.ka x.kn x.kc) p.2
theorem LkM.apart {B : Nat} {w w' : World} {xs : List QW} {ls : List Lock} {p : Nat → Prop} (h : LkM B w xs ls) (ho : Off p w w') (ha : Apart w p 3) : LkM B w' xs ls := ⟨h.1, fun i x q h1 h2 => ⟨(h.2 i x q h1 h2).1, Mine.apart (h.2 i x q h1 h2).2 ho ha⟩⟩
theorem LkM.below {B : Nat} {w w' : World} {xs : List QW} {ls : List Lock} (h : LkM B w xs ls) (hb : Below w.heap.size w w') : LkM B w' xs ls := ⟨h.1, fun i x q h1 h2 => ⟨(h.2 i x q h1 h2).1, (h.2 i x q h1 h2).2.below hb⟩⟩
theorem LkM.x {B : Nat} {w : World} {xs : List QW} {ls : List Lock} (h : LkM B w xs ls) : LocksX w xs ls := ⟨h.1, fun i x q h1 h2 => ⟨.slice x.ka x.kn x.kc, by rw [← (h.2 i x q h1 h2).1]; rfl, (h.2 i x q h1 h2).2.sl⟩⟩
/-- a label's lists, each a row of its own -/
structure LabM (B : Nat) (w : World) (L : Lab) (e c q : Value) (xs : List QW) : Prop where
  ev : Mine fI 3 w B e L.ev
  ct : Mine fC 121 w B c L.ct
  lk : Mine fQW 87 w B q xs
  ks : LkM B w xs L.locks
theorem LabM.below {B : Nat} {w w' : World} {L : Lab} {e c q : Value} {xs : List QW} (h : LabM B w L e c q xs) (hb : Below w.heap.size w w') : LabM B w' L e c q xs := ⟨h.ev.below hb, h.ct.below hb, h.lk.below hb, h.ks.below hb⟩
theorem LabM.base {B B' : Nat} {w : World} {L : Lab} {e c q : Value} {xs : List QW} (h : LabM B w L e c q xs) (hb : B' ≤ B) : LabM B' w L e c q xs := ⟨h.ev.base hb, h.ct.base hb, h.lk.base hb, h.ks.1, fun i x p h1 h2 => ⟨(h.ks.2 i x p h1 h2).1, (h.ks.2 i x p h1 h2).2.base hb⟩⟩
theorem LabM.apart {B : Nat} {w w' : World} {L : Lab} {e c q : Value} {xs : List QW} {p : Nat → Prop} (h : LabM B w L e c q xs) (ho : Off p w w') (h3 : Apart w p 3) (h4 : Apart w p 121) (h5 : Apart w p 87) : LabM B w' L e c q xs := ⟨h.ev.apart ho h3, h.ct.apart ho h4, h.lk.apart ho h5, h.ks.apart ho h3⟩
theorem LabM.til {B : Nat} {w : World} {L : Lab} {e c q : Value} {xs : List QW} (h : LabM B w L e c q xs) (t : Int) : LabM B w ⟨t, L.ev, L.ct, L.terr, L.cls, L.locks⟩ e c q xs := ⟨h.ev, h.ct, h.lk, h.ks⟩
/-- the row of a label -/
structure LabR (B : Nat) (w : World) (b : Nat) (L : Lab) (e c q : Value) (xs : List QW) : Prop where
  row : RowAt w b 61 [I L.til, e, c, I L.terr, I L.cls, q]
  ev : Mine fI 3 w B e L.ev
  ct : Mine fC 121 w B c L.ct
  lk : Mine fQW 87 w B q xs
  ks : LkM B w xs L.locks
theorem LabR.below {B : Nat} {w w' : World} {b : Nat} {L : Lab} {e c q : Value} {xs : List QW} (h : LabR B w b L e c q xs) (hb : Below w.heap.size w w') : LabR B w' b L e c q xs := ⟨h.row.below hb, h.ev.below hb, h.ct.below hb, h.lk.below hb, h.ks.below hb⟩
theorem rising_lt {l : List Int} {m : Int} (h : RisingP l m) : ∀ (j i : Nat) x y, i < j → l[i]? = some x → l[j]? = some y → x < y := by
  intro j
  induction j with
  | zero => intro i x y h; omega
  | succ j ih =>
    intro i x y hij hx hy
    obtain ⟨z, hz⟩ : ∃ z, l[j]? = some z := ⟨_, List.getElem?_eq_getElem (by have := (List.getElem?_eq_some_iff.1 hy).1; omega)⟩
    have h1 := (h (j + 1) y hy).2 z (by omega) (by simpa using hz)
    by_cases he : i = j
    · subst he; rw [hx] at hz; cases hz; exact h1
    · have := ih i x z (by omega) hx hz; omega
theorem LocksP.nil : LocksP [] := fun i q h => by simp at h
theorem LocksP.one {q : Lock} (h1 : RisingP q.2 19) (h2 : 1 ≤ q.1 ∧ q.1 ≤ q.2.length) : LocksP [q] := fun i p h => by
  cases i with
  | zero => simp at h; subst h; exact ⟨h1, h2, fun z hz => by omega⟩
  | succ i => simp at h
theorem LocksP.two {p q : Lock} (hp : LocksP [p]) (hq : LocksP [q]) (h : cmpQ p q < 0) : LocksP [p, q] := fun i z hz => by
  match i, hz with
  | 0, hz => simp at hz; subst hz; exact ⟨(hp 0 p rfl).1, (hp 0 p rfl).2.1, fun z hz => by omega⟩
  | 1, hz =>
    simp at hz; subst hz
    refine ⟨(hq 0 q rfl).1, (hq 0 q rfl).2.1, fun z _ hz => ?_⟩
    simp at hz; subst hz; exact h
  | n + 2, hz => simp at hz
section
variable {k : Value → World → Prop} {K : Value → Prop} {w w0 : World} {b j n : Nat} {i : Int} {u : Value} {vs : List Value} {q : IntKind}
theorem ra71 (hr : RowAt w0 b 71 vs) (hu : vs[j]? = some u) (hij : i = j) (hj : j < 7) (ha : after w0 w) : takeW Tryz.prog anyW (Instr.indexAt 71 (.pointer (some ⟨b, 0, none⟩)) (.int q i)) (fun p => takeW Tryz.prog (after w0) (Instr.loadAt 3 p) K w) w = K u :=
  r_arrA (e := 3) hij (by kernel_rfl) (by kernel_rfl) (by kernel_rfl) (by kernel_rfl) (by kernel_rfl) hj (hr.cell hu) ha
theorem ro71 {p : Nat → Prop} (hr : RowAt w0 b 71 vs) (hu : vs[j]? = some u) (hij : i = j) (hj : j < 7) (hp : ¬ p b) (ha : Off p w0 w) : takeW Tryz.prog anyW (Instr.indexAt 71 (.pointer (some ⟨b, 0, none⟩)) (.int q i)) (fun p' => takeW Tryz.prog (Off p w0) (Instr.loadAt 3 p') K w) w = K u := by
  subst hij
  rw [takeW_pure (run_indexArr (e := 3) (n := 7) (by kernel_rfl) (by kernel_rfl) (by omega) (by omega)), show sizeT Tryz.prog 3 = 1 by kernel_rfl, Nat.mul_one, Nat.zero_add, Int.toNat_natCast]
  exact r_loadO (by kernel_rfl) (by kernel_rfl) (hr.cell hu) hp ha
theorem rw71 (hr : RowAt w b 71 vs) (hu : vs[j]? = some u) (hij : i = j) (hj : j < 7) : opW Tryz.prog (Instr.indexAt 71 (.pointer (some ⟨b, 0, none⟩)) (.int q i)) (fun p w => opW Tryz.prog (Instr.loadAt 3 p) k w) w = k u w :=
  r_arr (e := 3) hij (by kernel_rfl) (by kernel_rfl) (by kernel_rfl) (by kernel_rfl) (by kernel_rfl) hj (hr.cell hu)
theorem b61_m {a c d : Int} {a1 : Option Addr} {n1 c1 : Nat} : opW Tryz.prog (Instr.build 61 #[(0, I a), (1, .slice a1 n1 c1), (3, I c), (4, I d)]) k w = k (.agg ([I a, .slice a1 n1 c1, .slice none 0 0, I c, I d, .slice none 0 0] : List Value).toArray) w := opW_ok (by kernel_rfl)
theorem b87 {a : Int} {a1 : Option Addr} {n1 c1 : Nat} : opW Tryz.prog (Instr.build 87 #[(0, I a), (1, .slice a1 n1 c1)]) k w = k (.agg ([I a, .slice a1 n1 c1] : List Value).toArray) w := opW_ok (by kernel_rfl)
theorem getO25 {v : Value} {l : List Int} {p : Nat → Prop} {x : Int} {i : Nat} {m : Int} (hm : m = i) (hs : IsSl fI w0 v l) (hx : l[i]? = some x) (hp : ∀ b, isOf v b → ¬ p b) (ho : Off p w0 w) : takeW Tryz.prog anyW (Instr.indexAt 25 v (.int q m)) (fun p' => takeW Tryz.prog (Off p w0) (Instr.loadAt 3 p') K w) w = K (I x) := by
  subst hm
  obtain ⟨b, o, c, rfl, hlt, hcl⟩ := hs.at (i := (i : Int)) (by omega) (by simpa using hx)
  rw [takeW_pure (fun w => run_index (by kernel_rfl) (by kernel_rfl) (by omega) hlt w)]
  refine r_loadO (by kernel_rfl) (by kernel_rfl) ?_ (hp _ rfl) ho
  have hsz : sizeT Tryz.prog (elemT Tryz.prog 25) = 1 := by kernel_rfl
  have := hcl 0 (I x) rfl
  rw [hsz]
  simpa [fI] using this
end
end Go.Proofs.YtfkfkldhcignbaaGreatDoor
/- Inputs that integers determine: Made. -/
set_option linter.unusedSimpArgs false
set_option linter.unusedVariables false
set_option maxRecDepth 4000
namespace Go.Proofs.YtfkfkldhcignbaaGreatDoor
open Go Go.V Go.RowKit
section
variable {k : Value → World → Prop} {w : World}
theorem one6 {a c d : Int} {a1 a2 a3 : Option Addr} {n1 n2 n3 c1 c2 c3 : Nat} : ∀ v ∈ ([I a, .slice a1 n1 c1, .slice a2 n2 c2, I c, I d, .slice a3 n3 c3] : List Value), v.oneCell' = true := by simp [Value.oneCell']
theorem LabR.one {B : Nat} {w : World} {b : Nat} {L : Lab} {e c q : Value} {xs : List QW} (h : LabR B w b L e c q xs) : ∀ v ∈ ([I L.til, e, c, I L.terr, I L.cls, q] : List Value), v.oneCell' = true := by
  obtain ⟨a1, c1, rfl, -⟩ := id h.ev.sl
  obtain ⟨a2, c2, rfl, -⟩ := id h.ct.sl
  obtain ⟨a3, c3, rfl, -⟩ := id h.lk.sl
  exact one6
theorem agQ_of {w : World} {B : Nat} {x : QW} {p : Lock} (h : x.need = p.1 ∧ Mine fI 3 w B (.slice x.ka x.kn x.kc) p.2) : QuorV w (agQ x) p := ⟨.slice x.ka x.kn x.kc, by rw [← h.1]; rfl, h.2.sl⟩
theorem LocksP.ok {ls : List Lock} (h : LocksP ls) {p : Lock} (hp : p ∈ ls) : okL p.2 ∧ smL p.2 := by
  obtain ⟨i, hi, rfl⟩ := List.getElem_of_mem hp
  have h1 := (h i _ (List.getElem?_eq_getElem hi)).1
  have hml : 1000000 ≤ maxLen := by decide
  exact ⟨⟨by have := h1.len; omega, h1.in64 (by decide)⟩, h1.sm (by decide)⟩
set_option maxHeartbeats 1000000 in
theorem c32 {xs : List Int} (hx : xs.length = 7) (hi : ∀ x ∈ xs, in64 x) (hk : ∀ L e c q xs w', Below w.heap.size w w' → LabM w.heap.size w' L e c q xs → ValidLab L → L.locks.length ≤ 2 → L.ct.length ≤ 4 → k (.agg ([I L.til, e, c, I L.terr, I L.cls, q] : List Value).toArray) w') : callW Tryz.prog (.func (.func 32) #[] #[]) #[.agg (xs.map I).toArray] k w := C32 _ _ _ (by
  unfold S32
  have hml : 1000000 ≤ maxLen := by decide
  obtain ⟨x0, x1, x2, x3, x4, x5, x6, rfl⟩ : ∃ a b c d e f g, xs = [a, b, c, d, e, f, g] := by
    match xs, hx with
    | [a, b, c, d, e, f, g], _ => exact ⟨a, b, c, d, e, f, g, rfl⟩
  have i0 := hi x0 (by simp)
  have i1 := hi x1 (by simp)
  have i2 := hi x2 (by simp)
  have i3 := hi x3 (by simp)
  have i4 := hi x4 (by simp)
  have i5 := hi x5 (by simp)
  have i6 := hi x6 (by simp)
  refine w_boxN (v := .agg #[I x0, I x1, I x2, I x3, I x4, I x5, I x6]) fun w1 hb1 hsz1 hr1 => ?_
  replace hr1 : RowAt w1 w.heap.size 71 [I x0, I x1, I x2, I x3, I x4, I x5, I x6] := hr1
  refine al61 fun w2 hb2 hsz2 hr2 => ?_
  replace hr1 := hr1.below hb2
  have hb02 := below_trans hb1 hb2
  refine joinW_use1 (fun v w' => ∃ b L e c q, v = .pointer (some ⟨b, 0, none⟩) ∧ Below w2.heap.size w2 w' ∧ w2.heap.size ≤ b ∧ LabR w2.heap.size w' b L e c q [] ∧ (0 ≤ L.til ∧ L.til ≤ 290) ∧ RisingP L.ev 4 ∧ L.ct = [] ∧ (252 ≤ L.terr ∧ L.terr ≤ 255) ∧ (248 ≤ L.cls ∧ L.cls ≤ 255) ∧ L.locks = []) ?_ ?_
  · rintro _ w3 ⟨b, ⟨til, ev, ct, terr, cls, ls⟩, e, c, q, rfl, hb3, hbl, hL3, htil, hev, rfl, hterr, hcls, rfl⟩
    simp only at htil hev hterr hcls
    have hb03 := below_trans hb02 hb3
    rw [rw71 (i := 2) (j := 2) (hr1.below hb3) rfl rfl (by omega)]
    refine c61 (n := 4) i2 (by decide) fun fv f w4 hb4 hmf hfr => ?_
    have hflen : f.length ≤ 20 := (hfr.mono (by decide)).len
    have hb24 := below_trans hb3 hb4
    have hs24 := hb24.size
    have hs34 := hb4.size
    have hs3 : b < w3.heap.size := hL3.row.lt
    have hf0 : ∀ x, isOf fv x → w3.heap.size ≤ x := fun x hx => (hmf.ge hx).1
    refine Loop1.intro (fun n a w' => ∃ (i : Nat) (l : List CW) (cv : Value), a = I i ∧ i ≤ f.length ∧ n = f.length - i ∧ Below w2.heap.size w2 w' ∧ w4.heap.size ≤ w'.heap.size ∧ LabR w2.heap.size w' b ⟨til, ev, l, terr, cls, []⟩ e cv q [] ∧ Mine fI 3 w' w2.heap.size fv f ∧ CountsP l 1 ∧ (∀ y ∈ l, y.fact ∈ f.take i) ∧ l.length ≤ i) _ ⟨0, [], c, rfl, by omega, rfl, hb24, Nat.le_refl _, hL3.below hb4, hmf.base (by omega), CountsP.nil _, by simp, by simp⟩ ?_
    rintro n _ w5 ⟨i, l, cv, rfl, hif, rfl, hb5, hsz5, hL5, hmf5, hcl, hfl, hll⟩
    have hfl4 : f.length ≤ 4 := by
      apply Decidable.byContradiction
      intro hc
      have key : ∀ (i : Nat) x, f[i]? = some x → (i : Int) ≤ x := by
        intro i
        induction i with
        | zero => intro x hx; exact (hfr 0 x hx).1.1
        | succ i ih =>
          intro x hx
          obtain ⟨y, hy⟩ : ∃ y, f[i]? = some y := ⟨_, List.getElem?_eq_getElem (by have := (List.getElem?_eq_some_iff.1 hx).1; omega)⟩
          have h1 := ih y hy
          have h2 := (hfr (i + 1) x hx).2 y (by omega) (by simpa using hy)
          omega
      obtain ⟨y, hy⟩ : ∃ y, f[4]? = some y := ⟨_, List.getElem?_eq_getElem (by omega)⟩
      have h1 := key 4 y hy
      have h2 := (hfr 4 y hy).1.2
      omega
    rw [len25 hmf5.sl, w_lss]
    by_cases hlt : i < f.length
    case' pos =>
      rw [decide_eq_true (by omega), condW_true, drewW_eq]
      have hbd := below_drew w5
      replace hL5 := hL5.below hbd
      replace hmf5 := hmf5.below hbd
      replace hb5 : Below w2.heap.size w2 w5.drew := below_trans hb5 hbd
      replace hsz5 : w4.heap.size ≤ w5.drew.heap.size := Nat.le_trans hsz5 hbd.size
      clear hbd
      generalize w5.drew = w6 at *
      have hr1x := hr1.below hb5
      have ho6 : Off (isOf cv) w6 w6 := Off.refl _ _
      obtain ⟨x, hx⟩ : ∃ x, f[i]? = some x := ⟨_, List.getElem?_eq_getElem hlt⟩
      have hneb : ¬ isOf cv b := fun h => absurd ((Mine.tag hL5.ct h).uniq (RowAt.tag hL5.row)) (by decide)
      have hnex : ¬ isOf cv w.heap.size := fun h => by have := (hL5.ct.ge h).1; have := hr1.lt; omega
      refine ⟨Off (isOf cv) w6, ho6, ?_⟩
      rw [ro61_2 (hL5.row.cell (i := 0 + 2) rfl) hneb ho6, getO25 (i := i) rfl hmf5.sl hx (fun x hx hh => absurd ((Mine.tag hmf5 hx).uniq (Mine.tag hL5.ct hh)) (by decide)) ho6, ro71 (i := 2) (j := 2) hr1x rfl rfl (by omega) hnex ho6, t_quo (by decide)]
      refine c60 (n := 3) (wrap_in64 _) (by decide) fun z hz => ?_
      rw [keepS_eq]
      refine ⟨ho6, ?_⟩
      rw [t_add, wrap_id (by omega), b121, keepS_eq]
      refine ⟨ho6, ?_⟩
      have hxb := (hfr i x hx).1
      refine Mine.pushS (x := (⟨x, 1 + z⟩ : CW)) sty26 (fun u hu => by simp [fC] at hu; rcases hu with rfl | rfl <;> rfl) rfl (by decide) hL5.ct hb5.size (by simp only; omega) (by simp only; omega) (fun _ h => Off.below h) fun v7 w7 hm7 hb7 ho7 hu7 => ?_
      refine ⟨ho7, ?_⟩
      have hr7 := hL5.row.apart ho7 (apMine hL5.ct (by decide))
      rw [tfl61_2]
      obtain ⟨a1, k1, rfl, -⟩ := id hm7.sl
      rw [st26 rfl (hr7.cell (i := 0 + 2) rfl) (hr7.free _)]
      have hr8 := hr7.set 2 (Value.slice a1 (l ++ [(⟨x, 1 + z⟩ : CW)]).length k1)
      have ho8 : ∀ u, Off (fun x => x = b) w7 (w7.setCell ⟨b, 2, none⟩ u) := fun u => Off.set rfl
      have hL7 : LabR w2.heap.size w7 b ⟨til, ev, l ++ [(⟨x, 1 + z⟩ : CW)], terr, cls, []⟩ e (Value.slice a1 (l ++ [(⟨x, 1 + z⟩ : CW)]).length k1) q [] → True := fun _ => trivial
      rw [w_add, wrap_id (by omega), loopK_self]
      refine ⟨f.length - (i + 1), by omega, i + 1, l ++ [(⟨x, 1 + z⟩ : CW)], _, by simp [I], by omega, rfl, (hb5.trans hb7).setCell hbl _, Nat.le_trans hsz5 (Nat.le_trans ho7.size (ho8 _).size), ⟨hr8, ?_, ?_, ?_, ?_⟩, ?_, hcl.snoc ?_ (by simp only; omega) (by simp only; omega), ?_, by simp; omega⟩
      · exact (hL5.ev.apart ho7 (apMine hL5.ct (by decide))).apart (ho8 _) (apRow hr7 (by decide))
      · exact hm7.apart (ho8 _) (apRow hr7 (by decide))
      · exact (hL5.lk.apart ho7 (apMine hL5.ct (by decide))).apart (ho8 _) (apRow hr7 (by decide))
      · exact (hL5.ks.apart ho7 (apMine hL5.ct (by decide))).apart (ho8 _) (apRow hr7 (by decide))
      · exact (hmf5.apart ho7 (apMine hL5.ct (by decide))).apart (ho8 _) (apRow hr7 (by decide))
      · intro y hy
        obtain ⟨j, hj, hjy⟩ := List.getElem_of_mem (hfl y hy)
        rw [List.length_take] at hj
        rw [List.getElem_take] at hjy
        exact rising_lt hfr i j _ _ (by omega) (List.getElem?_eq_getElem (by omega)) hx |> fun h => by rw [← hjy]; exact h
      · intro y hy
        rw [List.take_add_one, hx]
        rcases List.mem_append.1 hy with h | h
        · exact List.mem_append.2 (.inl (hfl y h))
        · simp at h; subst h; simp
    rw [decide_eq_false (by omega), condW_false]
    clear hmf5
    have hr1y := hr1
    refine Loop1.intro (fun n a w' => ∃ (i : Nat) (ls : List Lock) (q : Value) (xs : List QW), a = I i ∧ i ≤ 2 ∧ n = 2 - i ∧ Below w2.heap.size w2 w' ∧ LabR w2.heap.size w' b ⟨til, ev, l, terr, cls, ls⟩ e cv q xs ∧ LocksP ls ∧ ls.length ≤ i) _ ⟨0, [], q, [], rfl, by omega, rfl, hb5, hL5, LocksP.nil, by simp⟩ ?_
    clear hL5 hb5 hsz5
    rintro n _ w6 ⟨i, ls, q, xs, rfl, hi2, rfl, hb6, hL6, hlp, hlsl⟩
    rw [w_lss]
    by_cases hlt2 : i < 2
    case' neg =>
      rw [decide_eq_false (by omega), condW_false, ld61 rfl hL6.row.cells]
      refine sr61 rfl (hr2.below hb6) rfl hL6.one fun w7 ho7 hr7 => ?_
      rw [rc61 rfl hr7.cells]
      have hx7 : Off (fun x => x = w1.heap.size) w6 w7 := Off.only ho7 rfl
      have old : ∀ {α : Type} {F : Fl α} {e : Nat} {v : Value} {l : List α}, Mine F e w6 w2.heap.size v l → Mine F e w7 w2.heap.size v l := fun hm => hm.off hx7 fun x hx hh => by
        have := (hm.ge hx).1; omega
      have hB0 := hb02.size
      refine hk ⟨til, ev, l, terr, cls, ls⟩ e cv q xs w7 ((hb02.trans (hb6.mono hb02.size)).trans (ho7.rest _ (by have := hb1.size; omega))) (LabM.base ⟨old hL6.ev, old hL6.ct, old hL6.lk, hL6.ks.1, fun i x p h1 h2 => ⟨(hL6.ks.2 i x p h1 h2).1, old (hL6.ks.2 i x p h1 h2).2⟩⟩ hB0) ⟨⟨htil.1, by simp only; omega⟩, by simp only; omega, by simp only; omega, by simp only; omega, hlp, hev.mono (by decide), hcl⟩ (by simp only; omega) (by simp only; omega)
    rw [decide_eq_true (by omega), condW_true]
    refine joinW_use0 (fun w' => ∃ (ls : List Lock) (q : Value) (xs : List QW), Below w2.heap.size w2 w' ∧ LabR w2.heap.size w' b ⟨til, ev, l, terr, cls, ls⟩ e cv q xs ∧ LocksP ls ∧ ls.length ≤ i + 1) ?_ ?_
    · rintro w' ⟨ls, q, xs, q1, q2, q3, q4⟩
      rw [w_add, wrap_id (by omega), loopK_self]
      exact ⟨2 - (i + 1), by omega, i + 1, ls, q, xs, by simp [I], by omega, rfl, q1, q2, q3, q4⟩
    intro J hJ
    have hrx := hr1.below hb6
    obtain ⟨y, hy5, hy6⟩ : ∃ y, [I x0, I x1, I x2, I x3, I x4, I x5, I x6][5 + i]? = some (I y) ∧ in64 y := by
      rcases Nat.lt_or_ge i 1 with h | h
      · exact ⟨x5, by rw [show i = 0 by omega]; rfl, i5⟩
      · exact ⟨x6, by rw [show i = 1 by omega]; rfl, i6⟩
    rw [w_add, wrap_id (by omega), rw71 (j := 5 + i) hrx hy5 (by omega) (by omega)]
    refine c61 (n := 6) hy6 (by decide) fun kv ky w7 hb7 hmk hky => ?_
    have hkl : ky.length ≤ 20 := (hky.mono (by decide)).len
    have hb27 := below_trans hb6 hb7
    rw [len25 hmk.sl, w_eql]
    by_cases hk0 : ky.length = 0
    · rw [decide_eq_true (by omega), condW_true]
      exact hJ _ ⟨ls, q, xs, hb27, hL6.below hb7, hlp, by omega⟩
    rw [decide_eq_false (by omega), condW_false, w_add, wrap_id (by omega), rw71 (j := 5 + i) (hrx.below hb7) hy5 (by omega) (by omega), w_quo (by decide), len25 hmk.sl]
    refine c60 (n := (ky.length : Int)) (wrap_in64 _) (by omega) fun z hz => ?_
    rw [w_add, wrap_id (by omega)]
    obtain ⟨ka, kc, rfl, -⟩ := id hmk.sl
    rw [b87]
    refine al87 fun w8 hb8 hsz8 hr8 => ?_
    refine sr87 rfl hr8 rfl (by simp [Value.oneCell']) fun w9 ho9 hr9 => ?_
    have hb79 : Below w7.heap.size w7 w9 := hb8.trans (ho9.rest _ (Nat.le_refl _))
    rw [drewW_eq]
    have hb7a : Below w7.heap.size w7 w9.drew := hb79.drew
    replace hr9 := hr9.drew
    have hmk' : Mine fI 3 w9.drew w2.heap.size (.slice ka ky.length kc) ky := (hmk.below hb7a).base hb6.size
    have hL7 := (hL6.below hb7).below hb7a
    have hb2a := below_trans hb27 hb7a
    have hlqn : w7.heap.size < w9.drew.heap.size := hr9.lt
    have hlk0 : ∀ x, isOf q x → x < w7.heap.size := fun x hx => Nat.lt_of_lt_of_le (hL6.lk.ge hx).2 hb7.size
    generalize w9.drew = wa at *
    have ha := after_refl wa
    have hq : LocksP [((1 + z, ky) : Lock)] := LocksP.one (hky.mono (by decide)) (by simp only; omega)
    have hqx : QuorV wa (agQ ⟨1 + z, ka, ky.length, kc⟩) (1 + z, ky) := ⟨_, rfl, hmk'.sl⟩
    have hqok := hq.ok (List.mem_singleton.2 rfl)
    have hpush : ∀ wb, after wa wb → LocksP (ls ++ [((1 + z, ky) : Lock)]) → opW Tryz.prog (Instr.fieldAt 61 (.pointer (some ⟨b, 0, none⟩)) 5) (fun t84_110 w => opW Tryz.prog (Instr.loadAt 59 t84_110) (fun t85_111 w => opW Tryz.prog (Instr.loadAt 87 (.pointer (some ⟨w7.heap.size, 0, none⟩))) (fun t86_112 w =>
        opW Tryz.prog (Instr.buildSlice 59 1 #[(0, t86_112)]) (fun t87_113 w => opW Tryz.prog (Builtin.append_ #[59, 59] 59 #[t85_111, t87_113]) (fun t88_114 w => opW Tryz.prog (Instr.fieldAt 61 (.pointer (some ⟨b, 0, none⟩)) 5) (fun t89_115 w => opU Tryz.prog (Instr.storeAt 59 t89_115 t88_114) (fun _ w => J w) w) w) w) w) w) w) wb := by
      intro wb hab hlp'
      have hLb := hL7.below hab
      have hb2b := hb2a.trans (hab.mono hb2a.size)
      rw [rw61_5 (hLb.row.cell (i := 0 + 5) rfl), ld87 (vs := [I (1 + z), .slice ka ky.length kc]) rfl (hr9.below hab).cells]
      refine Mine.push (x := (⟨1 + z, ka, ky.length, kc⟩ : QW)) sty59 (fun u hu => by simp [fQW] at hu; rcases hu with rfl | rfl <;> rfl) rfl (by decide) hLb.lk hb2b.size (by rw [hLb.ks.1]; simp only; omega) (by rw [hLb.ks.1]; simp only; omega) fun v7 wc hmc hbc hoc huc => ?_
      rw [fl61_5]
      have hrc := hLb.row.apart hoc (apMine hLb.lk (by decide))
      obtain ⟨a1, k1, rfl, -⟩ := id hmc.sl
      rw [st59 rfl (hrc.cell (i := 0 + 5) rfl) (hrc.free _)]
      have hrd := hrc.set 5 (Value.slice a1 (xs ++ [(⟨1 + z, ka, ky.length, kc⟩ : QW)]).length k1)
      have hod : ∀ u, Off (fun x => x = b) wc (wc.setCell ⟨b, 5, none⟩ u) := fun u => Off.set rfl
      have hxl := hLb.ks.1
      simp only at hxl
      refine hJ _ ⟨ls ++ [((1 + z, ky) : Lock)], _, _, (hb2b.trans hbc).setCell hbl _, ⟨hrd, ?_, ?_, hmc.apart (hod _) (apRow hrc (by decide)), ?_⟩, hlp', by simp; omega⟩
      · exact (hLb.ev.apart hoc (apMine hLb.lk (by decide))).apart (hod _) (apRow hrc (by decide))
      · exact (hLb.ct.apart hoc (apMine hLb.lk (by decide))).apart (hod _) (apRow hrc (by decide))
      · have hk1 := (hLb.ks.apart hoc (apMine hLb.lk (by decide))).apart (hod (Value.slice a1 (xs ++ [(⟨1 + z, ka, ky.length, kc⟩ : QW)]).length k1)) (apRow hrc (by decide))
        have hk2 := ((hmk'.below hab).apart hoc (apMine hLb.lk (by decide))).apart (hod (Value.slice a1 (xs ++ [(⟨1 + z, ka, ky.length, kc⟩ : QW)]).length k1)) (apRow hrc (by decide))
        refine ⟨by simp [hxl], fun j x p h1 h2 => ?_⟩
        simp only at h2
        rw [List.getElem?_append] at h1 h2
        split at h1
        · rename_i hj
          rw [if_pos (by omega)] at h2
          exact hk1.2 j x p h1 h2
        · rename_i hj
          rw [if_neg (by omega)] at h2
          have hj0 : j - xs.length = 0 := by
            have := (List.getElem?_eq_some_iff.1 h1).1
            simp at this; omega
          rw [hj0] at h1
          rw [show j - ls.length = 0 by omega] at h2
          simp at h1 h2
          subst h1 h2
          exact ⟨rfl, hk2⟩
    refine ⟨after wa, ha, ?_⟩
    rw [ra61_5 (hL7.row.cell (i := 0 + 5) rfl) ha, tlen59 hL7.lk.sl, t_eql]
    have hxl := hL7.ks.1
    simp only at hxl
    by_cases hl0 : ls.length = 0
    · rw [decide_eq_true (by omega)]
      simp only [guardT_tf, guardT_u, guardW_tf, guardW_u, keepS_eq, pickT_true, condW_true]
      refine ⟨ha, ?_⟩
      have hls : ls = [] := List.eq_nil_of_length_eq_zero hl0
      subst hls
      exact hpush _ ha hq
    rw [decide_eq_false (by omega)]
    simp only [guardT_ff, guardW_ff]
    obtain ⟨p, rfl⟩ : ∃ p, ls = [p] := by
      match ls, hlsl, hl0 with
      | [p], _, _ => exact ⟨p, rfl⟩
      | a :: c :: r, h, _ => simp at h; omega
    obtain ⟨xp, rfl⟩ : ∃ xp, xs = [xp] := by
      match xs, hxl with
      | [xp], _ => exact ⟨xp, rfl⟩
    have hpok := hlp.ok (List.mem_singleton.2 rfl)
    have hpx := hL7.ks.2 0 xp p rfl rfl
    rw [ra61_5 (hL7.row.cell (i := 0 + 5) rfl) ha, gta59 (F := fQW) rfl hL7.lk.sl (by omega) (a := xp) rfl, xld87 (vs := [I (1 + z), .slice ka ky.length kc]) rfl hr9.cells]
    refine c62 (agQ_of hpx) hqx hpok.1 hqok.1 hpok.2 hqok.2 fun wb hbb => ?_
    rw [keepS_eq]
    refine ⟨hbb, ?_⟩
    simp only [pickT_false]
    by_cases hlt3 : cmpQ p (1 + z, ky) < 0
    · rw [decide_eq_true hlt3, condW_true]
      exact hpush _ hbb (LocksP.two hlp hq hlt3)
    rw [decide_eq_false hlt3, condW_false, drewW_eq]
    have hbc : Below wa.heap.size wa wb.drew := hbb.drew
    generalize wb.drew = wc at *
    have hac := after_refl wc
    have hLc := hL7.below hbc
    have hpxc := hLc.ks.2 0 xp p rfl rfl
    refine ⟨after wc, hac, ?_⟩
    rw [xld87 (vs := [I (1 + z), .slice ka ky.length kc]) rfl (hr9.below hbc).cells, ra61_5 (hLc.row.cell (i := 0 + 5) rfl) hac, gta59 (F := fQW) rfl hLc.lk.sl (by omega) (a := xp) rfl]
    refine c62 (hqx.below hbc) (agQ_of hpxc) hqok.1 hpok.1 hqok.2 hpok.2 fun wd hbd => ?_
    rw [keepS_eq]
    refine ⟨hbd, ?_⟩
    have had := below_trans hbc hbd
    by_cases hlt4 : cmpQ (1 + z, ky) p < 0
    case' neg =>
      rw [decide_eq_false hlt4, condW_false]
      exact hJ _ ⟨[p], q, [xp], hb2a.trans (had.mono hb2a.size), hL7.below had, hlp, by simp⟩
    rw [decide_eq_true hlt4, condW_true, drewW_eq]
    have hbe : Below wa.heap.size wa wd.drew := had.drew
    generalize wd.drew = we at *
    have hae := after_refl we
    have hLe := hL7.below hbe
    have hpxe := hLe.ks.2 0 xp p rfl rfl
    have hb2e := hb2a.trans (hbe.mono hb2a.size)
    refine ⟨after we, hae, ?_⟩
    rw [xld87 (vs := [I (1 + z), .slice ka ky.length kc]) rfl (hr9.below hbe).cells, ra61_5 (hLe.row.cell (i := 0 + 5) rfl) hae, gta59 (F := fQW) rfl hLe.lk.sl (by omega) (a := xp) rfl]
    refine w_parts (F := fQW) (l := [⟨1 + z, ka, ky.length, kc⟩, xp]) sty59 rfl (by decide) (by decide) (by kernel_rfl) rfl fun wf hbf hszf hmf => ?_
    rw [keepS_eq]
    refine ⟨hbf, ?_⟩
    rw [tfl61_5]
    have hLf := hLe.below hbf
    have hrf := hLf.row
    rw [st59 rfl (hrf.cell (i := 0 + 5) rfl) (hrf.free _)]
    have hod : ∀ u, Off (fun x => x = b) wf (wf.setCell ⟨b, 5, none⟩ u) := fun u => Off.set rfl
    have hb2f := hb2e.trans (hbf.mono hb2e.size)
    refine hJ _ ⟨[((1 + z, ky) : Lock), p], _, [⟨1 + z, ka, ky.length, kc⟩, xp], hb2f.setCell hbl _, ⟨hrf.set 5 _, hLf.ev.apart (hod _) (apRow hrf (by decide)), hLf.ct.apart (hod _) (apRow hrf (by decide)), (hmf.base hb2e.size).apart (hod _) (apRow hrf (by decide)), rfl, fun j x p' h1 h2 => ?_⟩, LocksP.two hq hlp hlt4, by simp; simp at hlsl; omega⟩
    match j, h1, h2 with
    | 0, h1, h2 =>
      simp at h1 h2
      subst h1 h2
      exact ⟨rfl, (((hmk'.below hbe).below hbf)).apart (hod _) (apRow hrf (by decide))⟩
    | 1, h1, h2 =>
      simp at h1 h2
      subst h1 h2
      exact ⟨(hLf.ks.2 0 xp p rfl rfl).1, (hLf.ks.2 0 xp p rfl rfl).2.apart (hod _) (apRow hrf (by decide))⟩
    | n + 2, h1, h2 => simp at h1
  intro J hJ
  rw [drewW_eq]
  have hb23 : Below w2.heap.size w2 w2.drew := below_drew w2
  have hrx := hr1.drew
  generalize w2.drew = w3 at *
  have ha := after_refl w3
  refine ⟨after w3, ha, ?_⟩
  rw [ra71 (i := 0) (j := 0) hrx rfl rfl (by omega) ha, ra71 (i := 1) (j := 1) hrx rfl rfl (by omega) ha, ra71 (i := 3) (j := 3) hrx rfl rfl (by omega) ha, ra71 (i := 4) (j := 4) hrx rfl rfl (by omega) ha]
  have fin : ∀ (u : World) (b : Nat) (p d z : Int) (old : List Value) (ev : List Int) (ea : Option Addr) (ec : Nat), after w3 u → RowAt u b 61 old → w3.heap.size ≤ b → old.length = 6 → (0 ≤ p ∧ p < 30) → (0 ≤ d ∧ d < 4) → (0 ≤ z ∧ z < 8) → RisingP ev (5 - 1) → Mine fI 3 u w3.heap.size (.slice ea ev.length ec) ev →
      opU Tryz.prog (Instr.storeAt 61 (.pointer (some ⟨b, 0, none⟩)) (.agg ([I (p * 10), .slice ea ev.length ec, .slice none 0 0, I (255 - d), I (255 - z), .slice none 0 0] : List Value).toArray)) (fun _ w => J (.pointer (some ⟨b, 0, none⟩)) w) u := by
    intro u b p d z old ev ea ec ha hr hbl ho hp hd hz hev hme
    refine sr61 rfl hr ho one6 fun u1 ho1 hr1 => ?_
    have hx : Off (fun x => x = b) u u1 := Off.only ho1 rfl
    have hs := hb23.size
    refine hJ _ _ ⟨b, ⟨p * 10, ev, [], 255 - d, 255 - z, []⟩, _, _, _, rfl, (hb23.trans (ha.mono hs)).trans (ho1.rest _ (by omega)), by omega, ⟨hr1, (hme.off hx fun x hx hh => mine_ne_row hme hr (by decide) hx hh).base hs, Mine.nil _ _, Mine.nil _ _, rfl, fun i x p h => by simp at h⟩, by simp only; omega, hev, rfl, by simp only; omega, by simp only; omega, rfl⟩
  clear hJ hr1 hrx hk
  repeat' (first
    | refine And.intro ?_ ?_
    | (refine c60 (n := 30) i0 (by decide) fun p hp => ?_
       rw [keepS_eq]; refine ⟨ha, ?_⟩
       rw [t_mul, wrap_id (by omega)])
    | (refine c60 (n := 4) i3 (by decide) fun d hd => ?_
       rw [keepS_eq]; refine ⟨ha, ?_⟩
       rw [t_sub, wrap_id (by omega)])
    | (refine c60 (n := 8) i4 (by decide) fun z hz => ?_
       rw [keepS_eq]; refine ⟨ha, ?_⟩
       rw [t_sub, wrap_id (by omega)])
    | (refine c61 (n := 5) i1 (by decide) fun ve ev u hb hme hev => ?_
       rw [keepS_eq]
       replace hme := hme.base ha.size
       obtain ⟨ea, ec, rfl, -⟩ := id hme.sl
       try replace hra := hra.below hb
       replace ha := below_trans ha hb
       refine ⟨ha, ?_⟩)
    | (rw [b61_m, keepS_eq]; refine ⟨ha, ?_⟩)
    | (refine al61 fun u hb hsz hra => ?_
       rw [keepS_eq]
       have hbl := ha.size
       try replace hme := hme.below hb
       replace ha := below_trans ha hb
       refine ⟨ha, ?_⟩)
    | exact fin _ _ p d z _ ev _ _ ha hra hbl rfl hp hd hz hev hme))
end
end Go.Proofs.YtfkfkldhcignbaaGreatDoor
/- Inputs that integers determine: union, Moments. -/
set_option linter.unusedSimpArgs false
set_option linter.unusedVariables false
set_option maxRecDepth 4000
namespace Go.V
open Go Go.RowKit
section
variable {P : Program} {k : Value → World → Prop} {w : World} {α : Type} {F : Fl α} {t e ty B g bytes : Nat} {z u : Value} {m : List α}
theorem mkNil (h : STy P t e F.sz bytes z) (hk : ∀ g u, Below w.heap.size w u → Mine F e u w.heap.size (.slice (some ⟨g, 0, none⟩) 0 0) [] → k (.slice (some ⟨g, 0, none⟩) 0 0) u) : opW P (Instr.buildSlice t 0 #[]) k w := by
  rw [w_build0 h]
  exact hk _ _ ((Below.refl _ _).alloc (Nat.le_refl _) _) ⟨by simp [flat], .inr ⟨w.heap.size, 0, #[], rfl, Nat.le_refl _, World.alloc_heap_new _ _, Nat.le_refl _, by unfold maxLen; omega, by simp, by simp [flat]⟩⟩
theorem appNil (h : STy P t e F.sz bytes z) (hone : ∀ x, ∀ u ∈ F.e x, u.oneCell' = true) (hown : Mine F e w B (.slice (some ⟨g, 0, none⟩) 0 0) []) (hs : IsSl F w u m) (hB : B ≤ w.heap.size) (hl : m.length ≤ 1000000) (hbytes : bytes ≤ 100)
    (hk : ∀ v' w', Below w.heap.size w w' → Mine F e w' B v' m → k v' w') : opW P (Builtin.append_ #[t, t] ty #[.slice (some ⟨g, 0, none⟩) 0 0, u]) k w := by
  have hml : 1000000 ≤ maxLen := by decide
  have hml2 : maxLen ≤ 9223372036854775807 := by decide
  cases m with
  | nil =>
    obtain ⟨a, c, rfl, _⟩ := hs
    rw [List.length_nil, opW_ok (run_append_zero h (Nat.le_refl 0))]
    exact hk _ _ (Below.refl _ _) hown
  | cons x r =>
    obtain ⟨b, o, c, rfl, hcl⟩ := hs.flatAt (by simp)
    obtain ⟨i, hi, hz, hsz, hby⟩ := h.info
    have hnews : ∀ j y, (flat F (x :: r))[j]? = some y → w.cell? ((⟨b, o, none⟩ : Addr).add j) = some y := fun j y hy => by rw [add_none]; exact hcl j y hy
    have hbb : ((x :: r).length) * bytes ≤ 100000000 := Nat.mul_le_mul hl hbytes
    obtain ⟨v', w', hr, ho, hg, hnew, _⟩ := run_append_own2 (P := P) (ty := ty) h hown ⟨b, o, none⟩ (x :: r).length c (flat F (x :: r)) (flat_length _) hnews (oneCell_flat hone _) (by simp only [List.length_nil]; omega) (by simp only [List.length_nil, Nat.zero_add]; omega) hB
    rw [opW_ok hr]
    have hgr := run_append_grow (P := P) w t ty e i z h.u hi hz ⟨g, 0, none⟩ 0 0 [] (by simp) (fun j y hy => by simp at hy) ⟨b, o, none⟩ (x :: r).length c (flat F (x :: r)) (by rw [hsz]; exact flat_length _) hnews (by simp) (by omega) (growslice_fits (by simp) (by rw [hby]; simp only [Nat.zero_add]; omega))
    rw [hr] at hgr
    simp only [Result.ok.injEq] at hgr
    refine hk _ _ ?_ ?_
    · rw [hgr.2]; exact (below_drew w).alloc (Nat.le_refl _) _
    · have h9 := ho
      rw [show flat F ([] : List α) ++ flat F (x :: r) = flat F (x :: r) from rfl] at h9
      unfold Mine; simpa using h9
end
end Go.V
namespace Go.Proofs.YtfkfkldhcignbaaGreatDoor
open Go Go.V Go.RowKit
/-- raw rows of n cells -/
def RawV (n : Nat) : Type := {vs : List Value // vs.length = n ∧ ∀ u ∈ vs, u.oneCell' = true}
def fR (n : Nat) : Fl (RawV n) := ⟨n, fun x => x.1, fun x => x.2.1⟩
abbrev agR {n : Nat} (r : RawV n) : Value := .agg r.1.toArray
def IntV (n : Nat) : Type := {xs : List Int // xs.length = n}
def fV (n : Nat) : Fl (IntV n) := ⟨n, fun x => x.1.map I, fun x => by rw [List.length_map]; exact x.2⟩
def okV {n : Nat} (l : List (IntV n)) : Prop := ∀ x ∈ l, ∀ y ∈ x.1, in64 y
def MomsX (w : World) (rs : List (RawV 5)) (ms : List Mom) : Prop := rs.length = ms.length ∧ ∀ (i : Nat) r m, rs[i]? = some r → ms[i]? = some m → MomV w (agR r) m
def MomsV (w : World) (v : Value) (ms : List Mom) : Prop := ∃ rs, IsSl (fR 5) w v rs ∧ MomsX w rs ms
theorem MomsX.below {w w' : World} {rs : List (RawV 5)} {ms : List Mom} (h : MomsX w rs ms) (hb : Below w.heap.size w w') : MomsX w' rs ms := ⟨h.1, fun i r m h1 h2 => (h.2 i r m h1 h2).below hb⟩
theorem MomsV.below {w w' : World} {v : Value} {ms : List Mom} (h : MomsV w v ms) (hb : Below w.heap.size w w') : MomsV w' v ms := by
  obtain ⟨rs, h1, h2⟩ := h
  exact ⟨rs, h1.below hb, h2.below hb⟩
def MomM (B : Nat) (w : World) (r : RawV 5) (m : Mom) : Prop := ∃ e c q, r.1 = [I m.now, I m.drift, e, c, q] ∧ Mine fI 3 w B e m.ev ∧ Mine fC 121 w B c m.conf ∧ Mine fI 3 w B q m.keys
theorem MomM.below {B : Nat} {w w' : World} {r : RawV 5} {m : Mom} (h : MomM B w r m) (hb : Below w.heap.size w w') : MomM B w' r m := by
  obtain ⟨e, c, q, h0, h1, h2, h3⟩ := h
  exact ⟨e, c, q, h0, h1.below hb, h2.below hb, h3.below hb⟩
theorem MomM.apart {B : Nat} {w w' : World} {r : RawV 5} {m : Mom} {p : Nat → Prop} (h : MomM B w r m) (ho : Off p w w') (h3 : Apart w p 3) (h4 : Apart w p 121) : MomM B w' r m := by
  obtain ⟨e, c, q, h0, h1, h2, h5⟩ := h
  exact ⟨e, c, q, h0, h1.apart ho h3, h2.apart ho h4, h5.apart ho h3⟩
theorem MomM.v {B : Nat} {w : World} {r : RawV 5} {m : Mom} (h : MomM B w r m) : MomV w (agR r) m := by
  obtain ⟨e, c, q, h0, h1, h2, h3⟩ := h
  exact ⟨e, c, q, by unfold agR; rw [h0], h1.sl, h2.sl, h3.sl⟩
section
variable {k : Value → World → Prop} {w : World}
theorem c39 {u v : Value} {a b : List Int} (hu : IsSl fI w u a) (hv : IsSl fI w v b) (ha : a.length ≤ 1000000) (hb : b.length ≤ 1000000) (hk : ∀ v l w', Below w.heap.size w w' → Mine fI 3 w' w.heap.size v l → RisingP l 19 → k v w') : callW Tryz.prog (.func (.func 39) #[] #[]) #[u, v] k w := C39 _ _ _ _ (by
  unfold S39
  have hml : 1000000 ≤ maxLen := by decide
  refine Loop2.intro (fun m o b w' => ∃ (i : Nat) (l : List Int), b = I i ∧ i ≤ 20 ∧ m = 20 - i ∧ Below w.heap.size w w' ∧ Mine fI 3 w' w.heap.size o l ∧ RisingP l ((i : Int) - 1) ∧ l.length ≤ i) _ ⟨0, [], rfl, by omega, rfl, Below.refl _ _, Mine.nil _ _, RisingP.nil _, by simp⟩ ?_
  rintro m ov _ w1 ⟨i, l, rfl, hi, rfl, hb1, hm1, hr, hlen⟩
  rw [w_lss]
  by_cases hlt : i < 20
  case' neg =>
    rw [decide_eq_false (by omega), condW_false]
    exact hk _ _ _ hb1 hm1 (hr.mono (by omega))
  rw [decide_eq_true (by omega), condW_true]
  refine joinW_use1 (fun a w' => ∃ l' : List Int, Below w.heap.size w w' ∧ Mine fI 3 w' w.heap.size a l' ∧ RisingP l' i ∧ l'.length ≤ i + 1) ?_ ?_
  · rintro a w' ⟨l', h1, h2, h3, h4⟩
    rw [w_add, wrap_id (by omega), loopK_self]
    exact ⟨20 - (i + 1), by omega, i + 1, l', by simp [I], by omega, rfl, h1, h2, by rw [show ((i + 1 : Nat) : Int) - 1 = i by omega]; exact h3, h4⟩
  intro J hJ
  refine Loop2.intro (fun m x y w' => ∃ (j : Nat) (bb : Bool), x = .bool bb ∧ y = I j ∧ j ≤ a.length ∧ m = a.length - j ∧ w1 = w') _ ⟨0, false, rfl, rfl, by omega, rfl, rfl⟩ ?_
  rintro m _ _ _ ⟨j, bb, rfl, rfl, hj, rfl, rfl⟩
  have hu1 := hu.below hb1
  have hv1 := hv.below hb1
  rw [len25 hu1, w_lss]
  by_cases hjl : j < a.length
  case' pos =>
    rw [decide_eq_true (by omega), condW_true]
    obtain ⟨x, hx⟩ : ∃ x, a[j]? = some x := ⟨_, List.getElem?_eq_getElem hjl⟩
    cases bb with
    | true =>
      simp only [guardW_tf, guardW_u, pickW_true]
      rw [w_add, wrap_id (by omega), loopK_self]
      exact ⟨a.length - (j + 1), by omega, j + 1, true, rfl, by simp [I], by omega, rfl, rfl⟩
    | false =>
      simp only [guardW_ff]
      rw [gw25 (F := fI) rfl hu1 (by omega) (by simpa using hx) rfl, w_eql]
      simp only [pickW_false]
      rw [w_add, wrap_id (by omega), loopK_self]
      exact ⟨a.length - (j + 1), by omega, j + 1, _, rfl, by simp [I], by omega, rfl, rfl⟩
  rw [decide_eq_false (by omega), condW_false]
  refine Loop2.intro (fun m x y w' => ∃ (j : Nat) (bb : Bool), x = .bool bb ∧ y = I j ∧ j ≤ b.length ∧ m = b.length - j ∧ w1 = w') _ ⟨0, bb, rfl, rfl, by omega, rfl, rfl⟩ ?_
  clear hjl hj
  rintro m _ _ _ ⟨j, bb, rfl, rfl, hj, rfl, rfl⟩
  rw [len25 hv1, w_lss]
  by_cases hjl : j < b.length
  case' pos =>
    rw [decide_eq_true (by omega), condW_true]
    obtain ⟨x, hx⟩ : ∃ x, b[j]? = some x := ⟨_, List.getElem?_eq_getElem hjl⟩
    cases bb with
    | true =>
      simp only [guardW_tf, guardW_u, pickW_true]
      rw [w_add, wrap_id (by omega), loopK_self]
      exact ⟨b.length - (j + 1), by omega, j + 1, true, rfl, by simp [I], by omega, rfl, rfl⟩
    | false =>
      simp only [guardW_ff]
      rw [gw25 (F := fI) rfl hv1 (by omega) (by simpa using hx) rfl, w_eql]
      simp only [pickW_false]
      rw [w_add, wrap_id (by omega), loopK_self]
      exact ⟨b.length - (j + 1), by omega, j + 1, _, rfl, by simp [I], by omega, rfl, rfl⟩
  rw [decide_eq_false (by omega), condW_false]
  cases bb with
  | false =>
    rw [condW_false]
    exact hJ _ _ ⟨l, hb1, hm1, hr.mono (by omega), by omega⟩
  | true =>
    rw [condW_true]
    refine Mine.push (x := (i : Int)) sty25 (fun u hu => by simp [fI] at hu; subst hu; rfl) rfl (by decide) hm1 hb1.size (by omega) (by omega) fun v2 w2 hm2 hb2 ho2 hu2 => ?_
    exact hJ _ _ ⟨l ++ [(i : Int)], hb1.trans hb2, hm2, hr.snoc (by omega) (by omega), by simp; omega⟩)
theorem b28_0 : opW Tryz.prog (Instr.build 28 #[]) k w = k (.agg ([I 0, I 0, .slice none 0 0, .slice none 0 0, .slice none 0 0] : List Value).toArray) w := opW_ok (by kernel_rfl)
theorem b28_5 {a c : Int} {a1 a2 a3 : Option Addr} {n1 n2 n3 c1 c2 c3 : Nat} : opW Tryz.prog (Instr.build 28 #[(0, I a), (1, I c), (2, .slice a1 n1 c1), (3, .slice a2 n2 c2), (4, .slice a3 n3 c3)]) k w = k (.agg ([I a, I c, .slice a1 n1 c1, .slice a2 n2 c2, .slice a3 n3 c3] : List Value).toArray) w := opW_ok (by kernel_rfl)
end
end Go.Proofs.YtfkfkldhcignbaaGreatDoor
