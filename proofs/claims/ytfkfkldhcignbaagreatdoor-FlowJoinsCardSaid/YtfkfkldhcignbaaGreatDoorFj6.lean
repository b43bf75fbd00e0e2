/- FlowJoins answers true for every input, and the input reads as it did; its card ties the four listed variables to the program's text: no condition of its own. -/
import Derived.Test.YtfkfkldhcignbaaGreatDoorFj5
/- Labels and items compared, by the reference. -/
set_option linter.unusedSimpArgs false
set_option linter.unusedVariables false
set_option maxRecDepth 4000
namespace Go.Proofs.YtfkfkldhcignbaaGreatDoor
open Go Go.V Go.RowKit
section
variable {k : Value → World → Prop} {w w0 : World}
theorem c45 {u v : Value} {a b : Lab} (hu : LabV w u a) (hv : LabV w v b) (oka : okLab a) (okb : okLab b) (hk : ∀ x w', Below w.heap.size w w' → (x = true ↔ a = b) → k (.bool x) w') : callW Tryz.prog (.func (.func 45) #[] #[]) #[u, v] k w := C45 _ _ _ _ (by
  unfold S45
  have hml : maxLen ≤ 9223372036854775807 := by decide
  obtain ⟨e, c, q, rfl, he, hc, ⟨xs, hq, hqx⟩⟩ := hu
  obtain ⟨e2, c2, q2, rfl, he2, hc2, ⟨ys, hq2, hqy⟩⟩ := hv
  obtain ⟨ok1, ok2, ok3, ok4⟩ := oka
  obtain ⟨pk1, pk2, pk3, pk4⟩ := okb
  refine w_boxN (v := .agg #[I a.til, e, c, I a.terr, I a.cls, q]) fun w1 hb1 hsz1 hr1 => ?_
  replace hr1 : RowAt w1 w.heap.size 61 [I a.til, e, c, I a.terr, I a.cls, q] := hr1
  refine w_boxN (v := .agg #[I b.til, e2, c2, I b.terr, I b.cls, q2]) fun w2 hb2 hsz2 hr2 => ?_
  replace hr2 : RowAt w2 w1.heap.size 61 [I b.til, e2, c2, I b.terr, I b.cls, q2] := hr2
  have hb02 := below_trans hb1 hb2
  replace hr1 := hr1.below hb2
  rw [rw61_0 (hr1.cell (i := 0) rfl), rw61_0 (hr2.cell (i := 0) rfl), w_neq]
  by_cases h1 : a.til = b.til
  case' neg =>
    rw [decide_eq_false h1]
    simp only [Bool.not_false, guardW_tf, guardW_u, pickW_true, condW_true]
    exact hk _ _ hb02 (iffF fun h => h1 (by rw [h]))
  rw [decide_eq_true h1]
  simp only [Bool.not_true, guardW_ff, pickW_false]
  rw [rw61_3 (hr1.cell (i := 0 + 3) rfl), rw61_3 (hr2.cell (i := 0 + 3) rfl), w_neq]
  by_cases h2 : a.terr = b.terr
  case' neg =>
    rw [decide_eq_false h2]
    simp only [Bool.not_false, guardW_tf, guardW_u, pickW_true, pickW_false, condW_true]
    exact hk _ _ hb02 (iffF fun h => h2 (by rw [h]))
  rw [decide_eq_true h2]
  simp only [Bool.not_true, guardW_ff, pickW_false]
  rw [rw61_4 (hr1.cell (i := 0 + 4) rfl), rw61_4 (hr2.cell (i := 0 + 4) rfl), w_neq]
  by_cases h3 : a.cls = b.cls
  case' neg =>
    rw [decide_eq_false h3]
    simp only [Bool.not_false, guardW_tf, guardW_u, pickW_true, pickW_false, condW_true]
    exact hk _ _ hb02 (iffF fun h => h3 (by rw [h]))
  rw [decide_eq_true h3]
  simp only [Bool.not_true, guardW_ff, pickW_false]
  rw [rw61_1 (hr1.cell (i := 0 + 1) rfl), rw61_1 (hr2.cell (i := 0 + 1) rfl)]
  refine c84 (he.below hb02) (he2.below hb02) ⟨ok1.1, pk1.1⟩ ok1.2 pk1.2 fun rc w4 hb4 hrc _ => ?_
  have hb04 := below_trans hb02 hb4
  replace hr1 := hr1.below hb4
  replace hr2 := hr2.below hb4
  rw [w_neq]
  by_cases h4 : a.ev = b.ev
  case' neg =>
    rw [decide_eq_false (fun h => h4 (hrc.1 h))]
    simp only [Bool.not_false, guardW_tf, guardW_u, pickW_true, pickW_false, condW_true]
    exact hk _ _ hb04 (iffF fun h => h4 (by rw [h]))
  rw [decide_eq_true (hrc.2 h4)]
  simp only [Bool.not_true, guardW_ff, pickW_false]
  rw [rw61_2 (hr1.cell (i := 0 + 2) rfl), len26 (hc.below hb04), rw61_2 (hr2.cell (i := 0 + 2) rfl), len26 (hc2.below hb04), w_neq]
  by_cases h5 : a.ct.length = b.ct.length
  case' neg =>
    rw [decide_eq_false (by omega)]
    simp only [Bool.not_false, guardW_tf, guardW_u, pickW_true, pickW_false, condW_true]
    exact hk _ _ hb04 (iffF fun h => h5 (by rw [h]))
  rw [decide_eq_true (by omega)]
  simp only [Bool.not_true, guardW_ff, pickW_false]
  have hxl := hqx.1
  have hyl := hqy.1
  rw [rw61_5 (hr1.cell (i := 0 + 5) rfl), len59 (hq.below hb04), rw61_5 (hr2.cell (i := 0 + 5) rfl), len59 (hq2.below hb04), w_neq]
  by_cases h6 : a.locks.length = b.locks.length
  case' neg =>
    rw [decide_eq_false (by omega)]
    simp only [Bool.not_false, guardW_tf, guardW_u, pickW_true, pickW_false, condW_true]
    exact hk _ _ hb04 (iffF fun h => h6 (by rw [h]))
  rw [decide_eq_true (by omega)]
  simp only [Bool.not_true, guardW_ff, pickW_false, condW_false]
  refine Loop1.intro (fun n x w' => ∃ i : Nat, x = I i ∧ i ≤ a.ct.length ∧ n = a.ct.length - i ∧ Below w.heap.size w w' ∧ RowAt w' w.heap.size 61 [I a.til, e, c, I a.terr, I a.cls, q] ∧ RowAt w' w1.heap.size 61 [I b.til, e2, c2, I b.terr, I b.cls, q2] ∧ ∀ j, j < i → a.ct[j]? = b.ct[j]?) _ ⟨0, rfl, by omega, rfl, hb04, hr1, hr2, by omega⟩ ?_
  clear hr1 hr2 hb04 hb4 hb02 hb2 hb1
  rintro n _ w5 ⟨i, rfl, hi, rfl, hb5, hr1, hr2, hP⟩
  rw [rw61_2 (hr1.cell (i := 0 + 2) rfl), len26 (hc.below hb5), w_lss]
  by_cases hlt : i < a.ct.length
  case' pos =>
    rw [decide_eq_true (by omega), condW_true, drewW_eq]
    obtain ⟨x, hx⟩ : ∃ x, a.ct[i]? = some x := ⟨_, List.getElem?_eq_getElem hlt⟩
    obtain ⟨y, hy⟩ : ∃ y, b.ct[i]? = some y := ⟨_, List.getElem?_eq_getElem (by omega)⟩
    have hbd := below_drew w5
    have hb6 := below_trans hb5 hbd
    rw [rt61_2 (hr1.drew.cell (i := 0 + 2) rfl), nta26 (F := fC) rfl (hc.below hb6) hx, rt61_2 (hr2.drew.cell (i := 0 + 2) rfl), nta26 (F := fC) rfl (hc2.below hb6) hy, takeW_pure fun w => run_neqC x y w]
    by_cases hxy : x = y
    · rw [decide_eq_true hxy, Bool.not_true, condW_false, w_add, wrap_id (by omega), loopK_self]
      refine ⟨a.ct.length - (i + 1), by omega, i + 1, by simp [I], by omega, rfl, hb6, hr1.drew, hr2.drew, fun j hj => ?_⟩
      by_cases hji : j = i
      · subst hji; rw [hx, hy, hxy]
      · exact hP j (by omega)
    · rw [decide_eq_false hxy, Bool.not_false, condW_true]
      exact hk _ _ hb6 (iffF fun h => hxy (by rw [h, hy] at hx; exact (Option.some.inj hx).symm))
  rw [decide_eq_false (by omega), condW_false]
  have h7 : a.ct = b.ct := List.ext_getElem? fun j => by
    by_cases hj : j < i
    · exact hP j hj
    · rw [List.getElem?_eq_none (by omega), List.getElem?_eq_none (by omega)]
  refine Loop1.intro (fun n x w' => ∃ i : Nat, x = I i ∧ i ≤ a.locks.length ∧ n = a.locks.length - i ∧ Below w.heap.size w w' ∧ RowAt w' w.heap.size 61 [I a.til, e, c, I a.terr, I a.cls, q] ∧ RowAt w' w1.heap.size 61 [I b.til, e2, c2, I b.terr, I b.cls, q2] ∧ ∀ j, j < i → a.locks[j]? = b.locks[j]?) _ ⟨0, rfl, by omega, rfl, hb5, hr1, hr2, by omega⟩ ?_
  clear hr1 hr2 hb5 hP hlt hi
  rintro n _ w5 ⟨i, rfl, hi, rfl, hb5, hr1, hr2, hP⟩
  rw [rw61_5 (hr1.cell (i := 0 + 5) rfl), len59 (hq.below hb5), w_lss]
  by_cases hlt : i < a.locks.length
  case' neg =>
    rw [decide_eq_false (by omega), condW_false]
    refine hk _ _ hb5 (iffT ?_)
    have h8 : a.locks = b.locks := List.ext_getElem? fun j => by
      by_cases hj : j < i
      · exact hP j hj
      · rw [List.getElem?_eq_none (by omega), List.getElem?_eq_none (by omega)]
    cases a; cases b
    simp only at h1 h2 h3 h4 h7 h8
    rw [h1, h2, h3, h4, h7, h8]
  rw [decide_eq_true (by omega), condW_true, drewW_eq]
  obtain ⟨x, hx⟩ : ∃ x, xs[i]? = some x := ⟨_, List.getElem?_eq_getElem (by omega)⟩
  obtain ⟨y, hy⟩ : ∃ y, ys[i]? = some y := ⟨_, List.getElem?_eq_getElem (by omega)⟩
  obtain ⟨x', hx'⟩ : ∃ x, a.locks[i]? = some x := ⟨_, List.getElem?_eq_getElem hlt⟩
  obtain ⟨y', hy'⟩ : ∃ y, b.locks[i]? = some y := ⟨_, List.getElem?_eq_getElem (by omega)⟩
  have hbd := below_drew w5
  have hb6 := below_trans hb5 hbd
  replace hr1 := hr1.drew
  replace hr2 := hr2.drew
  clear hb5
  generalize w5.drew = w6 at *
  have a6 := after_refl w6
  refine ⟨after w6, a6, ?_⟩
  rw [ra61_5 (hr1.cell (i := 0 + 5) rfl) a6, nta59 (F := fQW) rfl (hq.below hb6) hx, ra61_5 (hr2.cell (i := 0 + 5) rfl) a6, nta59 (F := fQW) rfl (hq2.below hb6) hy]
  refine c85 ((hqx.2 i x x' hx hx').below hb6) ((hqy.2 i y y' hy hy').below hb6) (ok4 x' (List.mem_of_getElem? hx')) (pk4 y' (List.mem_of_getElem? hy')) fun w7 hb7 => ?_
  rw [keepS_eq]
  refine ⟨hb7, ?_⟩
  have hb07 := below_trans hb6 hb7
  rw [t_not]
  by_cases hxy : x' = y'
  · rw [decide_eq_true hxy, Bool.not_true, condW_false, w_add, wrap_id (by omega), loopK_self]
    refine ⟨a.locks.length - (i + 1), by omega, i + 1, by simp [I], by omega, rfl, hb07, hr1.below hb7, hr2.below hb7, fun j hj => ?_⟩
    by_cases hji : j = i
    · subst hji; rw [hx', hy', hxy]
    · exact hP j (by omega)
  · rw [decide_eq_false hxy, Bool.not_false, condW_true]
    exact hk _ _ hb07 (iffF fun h => hxy (by rw [h, hy'] at hx'; exact (Option.some.inj hx').symm)))
theorem t_lab {v : Value} {l : List (RawV 9)} {i : Nat} {K : Value → Prop} {r : RawV 9} {x : ItW} {e c q : Value} (hs : IsSl (fR 9) w v l) (hx : l[i]? = some r) (hr : r.1 = itemL x e c q) :
    takeW Tryz.prog anyW (Instr.indexAt 24 v (I i)) (fun p => takeW Tryz.prog anyW (Instr.fieldAt 63 p 1) (fun p => takeW Tryz.prog (sameW w) (Instr.loadAt 61 p) K w) w) w = K (.agg ([I x.lab.til, e, c, I x.lab.terr, I x.lab.cls, q] : List Value).toArray) := by
  obtain ⟨b, o, c', rfl, hlt, hcl⟩ := hs.at (i := (i : Int)) (by omega) (by simpa using hx)
  rw [takeW_pure (fun w => run_index (by kernel_rfl) (by kernel_rfl) (by omega) hlt w), tfl63_1]
  refine xld61 rfl fun j u hu => ?_
  have hlt2 := (List.getElem?_eq_some_iff.1 hu).1
  simp at hlt2
  have hsz : sizeT Tryz.prog (elemT Tryz.prog 24) = 9 := by kernel_rfl
  rw [hsz]
  have := hcl (1 + j) u (by
    show r.1[1 + j]? = some u
    rw [hr]
    unfold itemL
    match j, hlt2, hu with
    | 0, _, hu | 1, _, hu | 2, _, hu | 3, _, hu | 4, _, hu | 5, _, hu => simpa using hu)
  have hfz : (fR 9).sz = 9 := rfl
  rw [hfz] at this
  rw [← this]
  congr 2
  omega
theorem c18 {u v : Value} {xs ys : List ItW} (hu : ItemsV w u xs) (hv : ItemsV w v ys) (hok : okIts xs) (hoy : okIts ys) (hk : ∀ b w', Below w.heap.size w w' → (b = true ↔ xs = ys) → k (.bool b) w') : callW Tryz.prog (.func (.func 18) #[] #[]) #[u, v] k w := C18 _ _ _ _ (by
  unfold S18
  have hml : maxLen ≤ 9223372036854775807 := by decide
  have hol := hok.1
  obtain ⟨rs, hr, hrx⟩ := hu
  obtain ⟨ss, hs, hsx⟩ := hv
  have hrl := hrx.1
  have hsl := hsx.1
  rw [len24 hr, len24 hs, w_neq]
  by_cases hlm : xs.length = ys.length
  case' neg =>
    rw [decide_eq_false (by omega), Bool.not_false, condW_true]
    exact hk _ _ (Below.refl _ _) (iffF fun h => hlm (by rw [h]))
  rw [decide_eq_true (by omega), Bool.not_true, condW_false]
  refine Loop1.intro (fun n a w' => ∃ i : Nat, a = I i ∧ i ≤ xs.length ∧ n = xs.length - i ∧ Below w.heap.size w w' ∧ ∀ j, j < i → xs[j]? = ys[j]?) _ ⟨0, rfl, by omega, rfl, Below.refl _ _, by omega⟩ ?_
  rintro n _ w1 ⟨i, rfl, hi, rfl, hb1, hP⟩
  rw [len24 (hr.below hb1), w_lss]
  by_cases hlt : i < xs.length
  case' neg =>
    rw [decide_eq_false (by omega), condW_false]
    refine hk true _ hb1 (iffT (List.ext_getElem? fun j => ?_))
    by_cases hj : j < i
    · exact hP j hj
    · rw [List.getElem?_eq_none (by omega), List.getElem?_eq_none (by omega)]
  rw [decide_eq_true (by omega), condW_true, drewW_eq]
  obtain ⟨x, hx⟩ : ∃ x, xs[i]? = some x := ⟨_, List.getElem?_eq_getElem hlt⟩
  obtain ⟨y, hy⟩ : ∃ y, ys[i]? = some y := ⟨_, List.getElem?_eq_getElem (by omega)⟩
  obtain ⟨r, hri⟩ : ∃ x, rs[i]? = some x := ⟨_, List.getElem?_eq_getElem (by omega)⟩
  obtain ⟨s, hsi⟩ : ∃ y, ss[i]? = some y := ⟨_, List.getElem?_eq_getElem (by omega)⟩
  have hbd := below_trans hb1 (below_drew w1)
  clear hb1
  generalize w1.drew = w2 at *
  obtain ⟨e, c, q, hr0, he, hc, hq⟩ := (hrx.2 i r x hri hx).one
  obtain ⟨e2, c2, q2, hs0, he2, hc2, hq2⟩ := (hsx.2 i s y hsi hy).one
  have hr2 := hr.below hbd
  have hs2 := hs.below hbd
  have a2 := after_refl w2
  refine ⟨after w2, a2, ?_⟩
  have get : ∀ {v : Value} {l : List (RawV 9)} {r : RawV 9} {u : Value} {f o ft : Nat} {K : Value → Prop}, fieldOff Tryz.prog 63 f = some o → isAggT Tryz.prog ft = false → known Tryz.prog ft = true → IsSl (fR 9) w2 v l → l[i]? = some r → r.1[o]? = some u → takeW Tryz.prog anyW (Instr.indexAt 24 v (I i)) (fun p => takeW Tryz.prog anyW (Instr.fieldAt 63 p f) (fun p => takeW Tryz.prog (after w2) (Instr.loadAt ft p) K w2) w2) w2 = K u :=
    fun hf hg hk hs hx hu => t_getFAi (F := fR 9) rfl (by kernel_rfl) (by kernel_rfl) (by kernel_rfl) hf hg hk hs hx hu a2
  have no : x ≠ y → k (.bool false) w2 := fun hn => hk false w2 hbd (iffF fun h => hn (by rw [h, hy] at hx; exact (Option.some.inj hx).symm))
  rw [get (o := 0) (by kernel_rfl) (by kernel_rfl) (by kernel_rfl) hr2 hri (by rw [hr0]; rfl), get (o := 0) (by kernel_rfl) (by kernel_rfl) (by kernel_rfl) hs2 hsi (by rw [hs0]; rfl), t_neq]
  by_cases h1 : x.at' = y.at'
  case' neg =>
    rw [decide_eq_false h1]
    simp only [Bool.not_false, guardT_tf, guardT_u, guardW_tf, guardW_u, pickT_true, keepS_eq, condW_true]
    exact ⟨a2, no fun h => h1 (by rw [h])⟩
  rw [decide_eq_true h1]
  simp only [Bool.not_true, guardT_ff, pickT_false]
  rw [get (o := 7) (by kernel_rfl) (by kernel_rfl) (by kernel_rfl) hr2 hri (by rw [hr0]; rfl), get (o := 7) (by kernel_rfl) (by kernel_rfl) (by kernel_rfl) hs2 hsi (by rw [hs0]; rfl), t_neq]
  by_cases h2 : x.cls = y.cls
  case' neg =>
    rw [decide_eq_false h2]
    simp only [Bool.not_false, guardT_tf, guardT_u, guardW_tf, guardW_u, pickT_true, pickT_false, keepS_eq, condW_true]
    exact ⟨a2, no fun h => h2 (by rw [h])⟩
  rw [decide_eq_true h2]
  simp only [Bool.not_true, guardT_ff, pickT_false]
  rw [get (o := 8) (by kernel_rfl) (by kernel_rfl) (by kernel_rfl) hr2 hri (by rw [hr0]; rfl), get (o := 8) (by kernel_rfl) (by kernel_rfl) (by kernel_rfl) hs2 hsi (by rw [hs0]; rfl), takeW_pure (fun w => run_neqStr (by kernel_rfl) w)]
  by_cases h3 : x.text = y.text
  case' neg =>
    rw [decide_eq_false h3]
    simp only [Bool.not_false, guardT_tf, guardT_u, guardW_tf, guardW_u, pickT_true, pickT_false, keepS_eq, condW_true]
    exact ⟨a2, no fun h => h3 (by rw [h])⟩
  rw [decide_eq_true h3]
  simp only [Bool.not_true, guardT_ff, guardW_ff, pickT_false]
  rw [t_lab hr2 hri hr0, t_lab hs2 hsi hs0]
  refine c45 (itLab (he.below hbd) (hc.below hbd) (hq.below hbd)) (itLab (he2.below hbd) (hc2.below hbd) (hq2.below hbd)) (hok.2 x (List.mem_of_getElem? hx)) (hoy.2 y (List.mem_of_getElem? hy)) fun b w3 hb3 hb => ?_
  rw [keepS_eq]
  refine ⟨hb3, ?_⟩
  rw [t_not]
  have hb03 := below_trans hbd hb3
  cases b with
  | false =>
    rw [Bool.not_false, condW_true]
    exact hk false _ hb03 (iffF fun h => by
      have hxy : x = y := by rw [h, hy] at hx; exact (Option.some.inj hx).symm
      have := hb.2 (by rw [hxy]); cases this)
  | true =>
    rw [Bool.not_true, condW_false, w_add, wrap_id (by omega), loopK_self]
    refine ⟨xs.length - (i + 1), by omega, i + 1, by simp [I], by omega, rfl, hb03, fun j hj => ?_⟩
    by_cases hji : j = i
    · subst hji; rw [hx, hy, ItW.ext' h1 h2 h3 (hb.1 rfl)]
    · exact hP j (by omega))
end
end Go.Proofs.YtfkfkldhcignbaaGreatDoor
/- Feeds: the reference's Open, Released and Seen. -/
set_option linter.unusedSimpArgs false
set_option linter.unusedVariables false
set_option maxRecDepth 4000
namespace Go.Proofs.YtfkfkldhcignbaaGreatDoor
open Go Go.V Go.RowKit
def opAt (x : ItW) (r : Rdr) (ms : List Mom) (j : Nat) : Prop := ∃ m, ms[j]? = some m ∧ OpensP x r m
theorem relN_cases (x : ItW) (r : Rdr) (ms : List Mom) : ∀ n, (relN x r ms n = -1 ∧ ∀ j, j < n → ¬ opAt x r ms j) ∨ ∃ j : Nat, j < n ∧ relN x r ms n = j ∧ opAt x r ms j ∧ ∀ i, i < j → ¬ opAt x r ms i
  | 0 => .inl ⟨rfl, by omega⟩
  | n + 1 => by
    unfold relN
    rcases relN_cases x r ms n with ⟨h1, h2⟩ | ⟨j, h1, h2, h3, h4⟩
    · rw [if_neg (by omega)]
      cases hm : ms[n]? with
      | none =>
        refine .inl ⟨rfl, fun j hj => ?_⟩
        rcases Nat.lt_or_ge j n with h | h
        · exact h2 j h
        · obtain rfl : j = n := by omega
          rintro ⟨m, hm', _⟩; rw [hm] at hm'; cases hm'
      | some m =>
        simp only
        split
        · rename_i ho
          exact .inr ⟨n, by omega, rfl, ⟨m, hm, bOf_iff.1 ho⟩, fun i hi => h2 i hi⟩
        · rename_i ho
          refine .inl ⟨rfl, fun j hj => ?_⟩
          rcases Nat.lt_or_ge j n with h | h
          · exact h2 j h
          · obtain rfl : j = n := by omega
            rintro ⟨m', hm', ho'⟩
            rw [hm] at hm'; cases hm'
            exact ho (bOf_iff.2 ho')
    · rw [if_pos (by omega)]
      exact .inr ⟨j, by omega, h2, h3, h4⟩
/-- looking at fewer slots -/
theorem relN_le {x : ItW} {r : Rdr} {ms : List Mom} {n m : Nat} (h : n ≤ m) : relN x r ms n = if 0 ≤ relN x r ms m ∧ relN x r ms m < n then relN x r ms m else -1 := by
  rcases relN_cases x r ms m with ⟨h1, h2⟩ | ⟨j, h1, h2, h3, h4⟩
  · rw [if_neg (by omega)]
    rcases relN_cases x r ms n with ⟨g1, g2⟩ | ⟨i, g1, g2, g3, g4⟩
    · exact g1
    · exact absurd g3 (h2 i (by omega))
  · rcases relN_cases x r ms n with ⟨g1, g2⟩ | ⟨i, g1, g2, g3, g4⟩
    · rw [if_neg fun hh => g2 j (by omega) h3]; exact g1
    · have : i = j := by
        rcases Nat.lt_trichotomy i j with h | h | h
        · exact absurd g3 (h4 i h)
        · exact h
        · exact absurd h3 (g4 j h)
      subst this
      rw [if_pos (by omega), g2, h2]
theorem relN_ge (x : ItW) (r : Rdr) (ms : List Mom) (n : Nat) : -1 ≤ relN x r ms n ∧ relN x r ms n < n ∨ relN x r ms n = -1 := by
  rcases relN_cases x r ms n with ⟨h1, h2⟩ | ⟨j, h1, h2, h3, h4⟩ <;> omega
section
variable {k : Value → World → Prop} {w w0 : World}
end
end Go.Proofs.YtfkfkldhcignbaaGreatDoor
/- Feeds: the reference's Feed. -/
set_option linter.unusedSimpArgs false
set_option linter.unusedVariables false
set_option maxRecDepth 4000
namespace Go.Proofs.YtfkfkldhcignbaaGreatDoor
open Go Go.V Go.RowKit
section
variable {k : Value → World → Prop} {w w0 : World}
theorem zerosS {n : Nat} (h0 : 0 < n) (hn : n ≤ 1000) (hk : ∀ w', Below w.heap.size w w' → k (.string (zeroB n)) w') : opW Tryz.prog (Instr.makeSlice 85 (I n) (I n)) (fun t w => opW Tryz.prog (convert 85 9 t) k w) w := by
  refine w_zerosM (n := n) (F := fB) (x := 0) rfl sty85 rfl rfl rfl (by omega) (by omega) fun w3 hb3 hm3 => ?_
  have hs := hm3.sl
  rw [w_toStr (e := 5) (by kernel_rfl) (by kernel_rfl) (by kernel_rfl) hs (fun hh => by have := congrArg List.length hh; simp at this; omega)]
  exact hk _ hb3
theorem c35 {n : Nat} (h0 : 0 < n) (hn : n ≤ 1000) (hk : ∀ w', Below w.heap.size w w' → k (.string (zeroB n)) w') : callW Tryz.prog (.func (.func 35) #[] #[]) #[I n] k w := C35 _ _ _ (by
  unfold S35
  exact zerosS h0 hn hk)
end
theorem candF_true {xs : List ItW} {r : Rdr} {ms : List Mom} {n : Nat} {snt : Nat → Bool} : candF true xs r ms n snt = leftF true xs r ms n snt := by
  unfold candF
  exact List.filter_eq_self.2 fun x _ => rfl
def lftN (sl : Bool) (xs : List ItW) (r : Rdr) (ms : List Mom) (n : Nat) (snt : Nat → Bool) (i : Nat) : Prop := i < xs.length ∧ snt i = false ∧ cntB sl xs r ms n i = true
theorem mem_left {sl : Bool} {xs : List ItW} {r : Rdr} {ms : List Mom} {n : Nat} {snt : Nat → Bool} {i : Nat} : i ∈ leftF sl xs r ms n snt ↔ lftN sl xs r ms n snt i := by
  unfold leftF lftN
  rw [List.mem_filter, List.mem_range, Bool.and_eq_true, Bool.not_eq_true']
end Go.Proofs.YtfkfkldhcignbaaGreatDoor
/- Feeds: the reference's Feed, the slots. -/
set_option linter.unusedSimpArgs false
set_option linter.unusedVariables false
set_option maxRecDepth 4000
namespace Go.Proofs.YtfkfkldhcignbaaGreatDoor
open Go Go.V Go.RowKit
theorem packF_some {sl : Bool} {xs : List ItW} {r : Rdr} {ms : List Mom} {n : Nat} {snt : Nat → Bool} {i : Nat} (h : pickF sl xs r ms n snt = some i) : packF sl xs r ms n snt = if sl = true then codedB (txtI xs i) ++ zeroB (63 - (txtI xs i).size) else zeroB (aheadF sl xs r ms n snt i) ++ codedB (txtI xs i) := by
  unfold packF; rw [h]
theorem packF_none {sl : Bool} {xs : List ItW} {r : Rdr} {ms : List Mom} {n : Nat} {snt : Nat → Bool} (h : pickF sl xs r ms n snt = none) : packF sl xs r ms n snt = if sl = true then zeroB 64 else zeroB (leftF sl xs r ms n snt).length := by
  unfold packF; rw [h]
section
variable {k : Value → World → Prop} {w w0 : World}
end
end Go.Proofs.YtfkfkldhcignbaaGreatDoor
/- Feeds: Feed, Tells, Alike, and the reference's; texts compared. -/
set_option linter.unusedSimpArgs false
set_option linter.unusedVariables false
set_option maxRecDepth 4000
namespace Go.Proofs.YtfkfkldhcignbaaGreatDoor
open Go Go.V Go.RowKit
def okF (md : Int) (xs : List ItW) (r : Rdr) (ms : List Mom) : Prop := GivenP xs r ms ∧ (md = 1 ∨ md = 2)
noncomputable def fdF (md : Int) (xs : List ItW) (r : Rdr) (ms : List Mom) : List ByteArray := feedF (decide (md = 1)) xs r ms ms.length
theorem fdF_len {md : Int} {xs : List ItW} {r : Rdr} {ms : List Mom} : (fdF md xs r ms).length = ms.length := feedF_len
/-- the first place at which two lists of texts differ -/
def dif (a b : List ByteArray) : Int := match (List.range a.length).find? fun i => !decide (a[i]? = b[i]?) with | some i => (i : Int) | none => -1
theorem dif_at {a b : List ByteArray} {i : Nat} (hi : i < a.length) (h : a[i]? ≠ b[i]?) (hb : ∀ j, j < i → a[j]? = b[j]?) : dif a b = i := by
  unfold dif
  have : (List.range a.length).find? (fun i => !decide (a[i]? = b[i]?)) = some i := by
    rw [List.find?_range_eq_some]
    refine ⟨by simpa using h, List.mem_range.2 hi, fun j hj => by simpa using hb j hj⟩
  rw [this]
theorem dif_none {a b : List ByteArray} (hb : ∀ j, j < a.length → a[j]? = b[j]?) : dif a b = -1 := by
  unfold dif
  have : (List.range a.length).find? (fun i => !decide (a[i]? = b[i]?)) = none := by
    rw [List.find?_eq_none]
    intro j hj
    rw [List.mem_range] at hj
    simpa using hb j hj
  rw [this]
theorem seenL_ok {xs : List ItW} {r : Rdr} {ms : List Mom} (h : okIts xs) : okIts (seenL xs r ms) := ⟨Nat.le_trans (List.length_filter_le _ _) h.1, fun x hx => h.2 x (List.mem_filter.1 hx).1⟩
section
variable {k : Value → World → Prop} {w w0 : World}
theorem ex0 {a b : Value} : opW Tryz.prog (Instr.extract (.tuple #[a, b]) 0) k w = k a w := w_extract rfl
theorem ex1 {a b : Value} : opW Tryz.prog (Instr.extract (.tuple #[a, b]) 1) k w = k b w := w_extract rfl
theorem c23 {md : Int} {u v z : Value} {xs : List ItW} {r : Rdr} {ms : List Mom} (hg : Gl w) (h : ItemsV w u xs) (hr : RdrV v r) (hm : MomsV w z ms) (hok : okIts xs) (hom : okMs ms)
    (hk : ∀ o e w', Below w.heap.size w w' → (¬ okF md xs r ms → o = nS ∧ e = 260) → (okF md xs r ms → e = 0 ∧ IsSl fT w' o (fdF md xs r ms)) → k (.tuple #[o, I e]) w') : callW Tryz.prog (.func (.func 23) #[] #[]) #[I md, u, v, z] k w := by
  by_cases hf : okF md xs r ms
  · obtain ⟨HG, hmd⟩ := id hf
    rcases hmd with rfl | rfl
    · exact feed_ok (sl := true) hg h hr hm hok hom HG fun o w' hb hm' => hk o 0 w' hb (fun hn => absurd hf hn) fun _ => ⟨rfl, hm'.sl⟩
    · exact feed_ok (sl := false) hg h hr hm hok hom HG fun o w' hb hm' => hk o 0 w' hb (fun hn => absurd hf hn) fun _ => ⟨rfl, hm'.sl⟩
  · have bad : ∀ w', Below w.heap.size w w' → k (.tuple #[nS, I 260]) w' := fun w' hb => hk nS 260 w' hb (fun _ => ⟨rfl, rfl⟩) fun h => absurd h hf
    refine C23 _ _ _ _ _ _ ?_
    unfold S23
    cases hr
    refine w_boxN (v := .agg #[I r.1, I r.2]) fun w1 hb1 hsz1 hr1 => ?_
    replace hr1 : RowAt w1 w.heap.size 30 [I r.1, I r.2] := hr1
    rw [ld30 rfl hr1.cells]
    refine c41 (h.below hb1) rfl (hm.below hb1) hok hom fun b w2 hb2 hG => ?_
    have hb02 := below_trans hb1 hb2
    rw [w_not]
    cases b with
    | false =>
      simp only [Bool.not_false, guardW_tf, guardW_u, pickW_true, condW_true]
      exact bad _ hb02
    | true =>
      have hmd : ¬ (md = 1 ∨ md = 2) := fun hh => hf ⟨hG.1 rfl, hh⟩
      simp only [Bool.not_true, guardW_ff, pickW_false]
      rw [w_lss]
      by_cases h1 : md < 1
      · rw [decide_eq_true h1]
        simp only [guardW_tf, guardW_u, pickW_true, condW_true]
        exact bad _ hb02
      · rw [decide_eq_false h1]
        simp only [guardW_ff, pickW_false]
        rw [w_gtr, decide_eq_true (by omega)]
        simp only [condW_true]
        exact bad _ hb02
noncomputable def telN (md : Int) (xs ys : List ItW) (r : Rdr) (ms : List Mom) : Int := if bOf (okF md xs r ms ∧ okF md ys r ms) = true then dif (fdF md xs r ms) (fdF md ys r ms) else 0
noncomputable def telE (md : Int) (xs ys : List ItW) (r : Rdr) (ms : List Mom) : Int := if bOf (okF md xs r ms ∧ okF md ys r ms) = true then 0 else 260
theorem c25 {md : Int} {u u2 v z : Value} {xs ys : List ItW} {r : Rdr} {ms : List Mom} (hg : Gl w) (h : ItemsV w u xs) (h2 : ItemsV w u2 ys) (hr : RdrV v r) (hm : MomsV w z ms) (hok : okIts xs) (hoy : okIts ys) (hom : okMs ms)
    (hk : ∀ w', Below w.heap.size w w' → k (.tuple #[I (telN md xs ys r ms), I (telE md xs ys r ms)]) w') : callW Tryz.prog (.func (.func 25) #[] #[]) #[I md, u, u2, v, z] k w := C25 _ _ _ _ _ _ _ (by
  unfold S25
  have hml : maxLen ≤ 9223372036854775807 := by decide
  have hml2 := hom.1
  cases hr
  refine w_boxN (v := .agg #[I r.1, I r.2]) fun w1 hb1 hsz1 hr1 => ?_
  replace hr1 : RowAt w1 w.heap.size 30 [I r.1, I r.2] := hr1
  rw [ld30 rfl hr1.cells]
  refine c23 (hg.below hb1) (h.below hb1) rfl (hm.below hb1) hok hom fun o1 e1 w2 hb2 n1 y1 => ?_
  have hb02 := below_trans hb1 hb2
  rw [ex0, ex1, ld30 rfl (hr1.below hb2).cells]
  refine c23 (hg.below hb02) (h2.below hb02) rfl (hm.below hb02) hoy hom fun o2 e2 w3 hb3 n2 y2 => ?_
  have hb03 := below_trans hb02 hb3
  rw [ex0, ex1, w_neq]
  have fin := hk w3 hb03
  by_cases f1 : okF md xs r ms
  case' neg =>
    obtain ⟨rfl, rfl⟩ := n1 f1
    rw [decide_eq_false (by decide), Bool.not_false]
    simp only [guardW_tf, guardW_u, pickW_true, condW_true]
    have hb : bOf (okF md xs r ms ∧ okF md ys r ms) = false := (bOf_eq (iffF fun h => f1 h.1)).symm
    unfold telN telE at fin
    rw [hb] at fin
    exact fin
  obtain ⟨rfl, s1⟩ := y1 f1
  rw [decide_eq_true rfl, Bool.not_true]
  simp only [guardW_ff, pickW_false]
  rw [w_neq]
  by_cases f2 : okF md ys r ms
  case' neg =>
    obtain ⟨rfl, rfl⟩ := n2 f2
    rw [decide_eq_false (by decide), Bool.not_false]
    simp only [pickW_true, pickW_false, condW_true]
    have hb : bOf (okF md xs r ms ∧ okF md ys r ms) = false := (bOf_eq (iffF fun h => f2 h.2)).symm
    unfold telN telE at fin
    rw [hb] at fin
    exact fin
  obtain ⟨rfl, s2⟩ := y2 f2
  rw [decide_eq_true rfl, Bool.not_true]
  simp only [pickW_true, pickW_false, condW_false]
  have hb : bOf (okF md xs r ms ∧ okF md ys r ms) = true := bOf_iff.2 ⟨f1, f2⟩
  unfold telN telE at hk
  rw [hb] at hk
  simp only [if_true] at hk
  rw [len31 (s1.below hb3), fdF_len]
  refine Loop1.intro (fun n a w' => ∃ i : Nat, a = I i ∧ i ≤ ms.length ∧ n = ms.length - i ∧ Below w.heap.size w w' ∧ Below w3.heap.size w3 w' ∧ ∀ j, j < i → (fdF md xs r ms)[j]? = (fdF md ys r ms)[j]?) _ ⟨0, rfl, by omega, rfl, hb03, Below.refl _ _, by omega⟩ ?_
  rintro n _ w4 ⟨i, rfl, hi, rfl, hb4, hb34, hP⟩
  rw [w_lss]
  by_cases hlt : i < ms.length
  case' neg =>
    rw [decide_eq_false (by omega), condW_false]
    have := hk _ hb4
    rwa [dif_none fun j hj => hP j (by rw [fdF_len] at hj; omega)] at this
  rw [decide_eq_true (by omega), condW_true, drewW_eq]
  obtain ⟨x, hx⟩ : ∃ x, (fdF md xs r ms)[i]? = some x := ⟨_, List.getElem?_eq_getElem (by rw [fdF_len]; omega)⟩
  obtain ⟨y, hy⟩ : ∃ y, (fdF md ys r ms)[i]? = some y := ⟨_, List.getElem?_eq_getElem (by rw [fdF_len]; omega)⟩
  have hbd := below_drew w4
  have hb5 := below_trans hb4 hbd
  have hb35 := below_trans hb34 hbd
  rw [nt31 (F := fT) rfl ((s1.below hb3).below hb35) hx rfl, nt31 (F := fT) rfl (s2.below hb35) hy rfl, takeW_pure fun w => run_neqStr (by kernel_rfl) w]
  by_cases hxy : x = y
  · rw [decide_eq_true hxy, Bool.not_true, condW_false, w_add, wrap_id (by omega), loopK_self]
    refine ⟨ms.length - (i + 1), by omega, i + 1, by simp [I], by omega, rfl, hb5, hb35, fun j hj => ?_⟩
    by_cases hji : j = i
    · subst hji; rw [hx, hy, hxy]
    · exact hP j (by omega)
  · rw [decide_eq_false hxy, Bool.not_false, condW_true]
    have := hk _ hb5
    rwa [dif_at (i := i) (by rw [fdF_len]; omega) (by rw [hx, hy]; simpa using hxy) hP] at this)
def AlikeP (xs ys : List ItW) (r : Rdr) (ms : List Mom) : Prop := GivenP xs r ms ∧ GivenP ys r ms ∧ seenL xs r ms = seenL ys r ms
theorem c21 {u u2 v z : Value} {xs ys : List ItW} {r : Rdr} {ms : List Mom} (hg : Gl w) (h : ItemsV w u xs) (h2 : ItemsV w u2 ys) (hr : RdrV v r) (hm : MomsV w z ms) (hok : okIts xs) (hoy : okIts ys) (hom : okMs ms)
    (hk : ∀ b w', Below w.heap.size w w' → (b = true ↔ AlikeP xs ys r ms) → k (.bool b) w') : callW Tryz.prog (.func (.func 21) #[] #[]) #[u, u2, v, z] k w := C21 _ _ _ _ _ _ (by
  unfold S21
  cases hr
  refine w_boxN (v := .agg #[I r.1, I r.2]) fun w1 hb1 hsz1 hr1 => ?_
  replace hr1 : RowAt w1 w.heap.size 30 [I r.1, I r.2] := hr1
  rw [ld30 rfl hr1.cells]
  refine c16 (hg.below hb1) (h.below hb1) rfl (hm.below hb1) hok hom fun o1 e1 w2 hb2 n1 y1 => ?_
  have hb02 := below_trans hb1 hb2
  rw [ex0, ex1, ld30 rfl (hr1.below hb2).cells]
  refine c16 (hg.below hb02) (h2.below hb02) rfl (hm.below hb02) hoy hom fun o2 e2 w3 hb3 n2 y2 => ?_
  have hb03 := below_trans hb02 hb3
  rw [ex0, ex1, w_eql]
  by_cases f1 : GivenP xs r ms
  case' neg =>
    obtain ⟨rfl, rfl⟩ := n1 f1
    rw [decide_eq_false (by decide)]
    simp only [guardW_ft, guardW_u, pickW_false]
    exact hk false _ hb03 (iffF fun h => f1 h.1)
  obtain ⟨rfl, s1⟩ := y1 f1
  rw [decide_eq_true rfl]
  simp only [guardW_tt, pickW_true]
  rw [w_eql]
  by_cases f2 : GivenP ys r ms
  case' neg =>
    obtain ⟨rfl, rfl⟩ := n2 f2
    rw [decide_eq_false (by decide)]
    simp only [guardW_ft, guardW_u, pickW_false, pickW_true]
    exact hk false _ hb03 (iffF fun h => f2 h.2.1)
  obtain ⟨rfl, s2⟩ := y2 f2
  rw [decide_eq_true rfl]
  simp only [guardW_tt, pickW_true]
  refine eqItems (s1.below hb3) s2 (seenL_ok hok) fun b w4 hb4 hb => ?_
  exact hk b _ (below_trans hb03 hb4) (hb.trans ⟨fun h => ⟨f1, f2, h⟩, fun h => h.2.2⟩))
theorem c27 {u v : Value} {a b : List ByteArray} (hu : IsSl fT w u a) (hv : IsSl fT w v b) (hl : a.length ≤ maxLen) (hk : ∀ w', Below w.heap.size w w' → k (.bool (decide (a = b))) w') : callW Tryz.prog (.func (.func 27) #[] #[]) #[u, v] k w := C27 _ _ _ _ (by
  unfold S27
  have hml : maxLen ≤ 9223372036854775807 := by decide
  rw [len31 hu, len31 hv, w_neq]
  by_cases hlm : a.length = b.length
  case' neg =>
    rw [decide_eq_false (by omega), Bool.not_false, condW_true]
    have := hk _ (Below.refl _ _)
    rwa [decide_eq_false (fun h => hlm (by rw [h]))] at this
  rw [decide_eq_true (by omega), Bool.not_true, condW_false]
  refine Loop1.intro (fun n x w' => ∃ i : Nat, x = I i ∧ i ≤ a.length ∧ n = a.length - i ∧ Below w.heap.size w w' ∧ ∀ j, j < i → a[j]? = b[j]?) _ ⟨0, rfl, by omega, rfl, Below.refl _ _, by omega⟩ ?_
  rintro n _ w1 ⟨i, rfl, hi, rfl, hb1, hP⟩
  rw [len31 (hu.below hb1), w_lss]
  by_cases hlt : i < a.length
  case' neg =>
    rw [decide_eq_false (by omega), condW_false]
    have := hk _ hb1
    rwa [decide_eq_true (List.ext_getElem? fun j => by
      by_cases hj : j < i
      · exact hP j hj
      · rw [List.getElem?_eq_none (by omega), List.getElem?_eq_none (by omega)])] at this
  rw [decide_eq_true (by omega), condW_true, drewW_eq]
  obtain ⟨x, hx⟩ : ∃ x, a[i]? = some x := ⟨_, List.getElem?_eq_getElem hlt⟩
  obtain ⟨y, hy⟩ : ∃ y, b[i]? = some y := ⟨_, List.getElem?_eq_getElem (by omega)⟩
  have hbd := below_trans hb1 (below_drew w1)
  rw [nt31 (F := fT) rfl (hu.below hbd) hx rfl, nt31 (F := fT) rfl (hv.below hbd) hy rfl, takeW_pure fun w => run_neqStr (by kernel_rfl) w]
  by_cases hxy : x = y
  · rw [decide_eq_true hxy, Bool.not_true, condW_false, w_add, wrap_id (by omega), loopK_self]
    refine ⟨a.length - (i + 1), by omega, i + 1, by simp [I], by omega, rfl, hbd, fun j hj => ?_⟩
    by_cases hji : j = i
    · subst hji; rw [hx, hy, hxy]
    · exact hP j (by omega)
  · rw [decide_eq_false hxy, Bool.not_false, condW_true]
    have := hk _ hbd
    rwa [decide_eq_false (fun h => hxy (by rw [h, hy] at hx; exact (Option.some.inj hx).symm))] at this)
end
end Go.Proofs.YtfkfkldhcignbaaGreatDoor
/- Feeds: Read, and the reference's. -/
set_option linter.unusedSimpArgs false
set_option linter.unusedVariables false
set_option maxRecDepth 4000
namespace Go.Proofs.YtfkfkldhcignbaaGreatDoor
open Go Go.V Go.RowKit
def bAt (s : ByteArray) (i : Nat) : UInt8 := s.data.toList.getD i 0
def byt (s : ByteArray) (i : Nat) : Nat := (bAt s i).toNat
theorem get_bAt {s : ByteArray} {i : Nat} (h : i < s.size) : s[i]? = some (bAt s i) := by
  rw [getElem?_pos s i h]
  unfold bAt
  rw [List.getD_eq_getElem?_getD, List.getElem?_eq_getElem (by simpa using h)]
  simp
  rfl
def okP (p : ByteArray) : Prop := p.size = 64 ∧ byt p 0 ≤ 60 ∧ ∀ k, byt p 0 < k → k < 64 → byt p k = 0
def txtP (p : ByteArray) : List ByteArray := if 0 < byt p 0 then [p.extract 1 (byt p 0 + 1)] else []
def readP (l : List ByteArray) : Prop := ∀ p ∈ l, okP p
def readL (l : List ByteArray) : List ByteArray := l.flatMap txtP
theorem dropWhile_nil {l : List UInt8} : l.dropWhile (· == 0) = [] ↔ ∀ b ∈ l, b = 0 := by
  induction l with
  | nil => simp
  | cons x r ih =>
    by_cases hx : x = 0
    · subst hx
      rw [List.dropWhile_cons_of_pos (by simp), ih]; simp
    · rw [List.dropWhile_cons_of_neg (by simpa using hx)]
      simp [hx]
theorem trim_nil {l : List UInt8} : Lib.trimB l 0 = [] ↔ ∀ b ∈ l, b = 0 := by
  unfold Lib.trimB Lib.trimLeftB Lib.trimRightB
  rw [dropWhile_nil]
  constructor
  · intro h
    have h2 : l.reverse.dropWhile (· == 0) = [] := by
      cases hd : l.reverse.dropWhile (· == 0) with
      | nil => rfl
      | cons x r =>
        exfalso
        have hx : x = 0 := h x (by rw [hd]; simp)
        have := List.head?_dropWhile_not (· == (0 : UInt8)) l.reverse
        rw [hd] at this
        simp at this
        exact this hx
    rw [dropWhile_nil] at h2
    intro b hb
    exact h2 b (List.mem_reverse.2 hb)
  · intro h b hb
    rw [List.mem_reverse] at hb
    exact h b (List.mem_reverse.1 ((List.dropWhile_sublist _).subset hb))
theorem tail_zero {p : ByteArray} {n : Nat} (hs : p.size = 64) : (∀ b ∈ (p.extract n p.size).data.toList, b = 0) ↔ ∀ k, n ≤ k → k < 64 → byt p k = 0 := by
  have hd : (p.extract n p.size).data.toList = p.data.toList.drop n := by
    have : p.data.toList.length = 64 := by simpa using hs
    rw [ByteArray.data_extract, hs]
    simp only [Array.toList_extract, List.extract_eq_take_drop]
    exact List.take_of_length_le (by rw [List.length_drop]; omega)
  have hlen : p.data.toList.length = 64 := by simpa using hs
  rw [hd]
  constructor
  · intro h k hk hk2
    unfold byt bAt
    rw [List.getD_eq_getElem?_getD, List.getElem?_eq_getElem (by omega)]
    have := h (p.data.toList[k]'(by omega)) (by
      rw [List.mem_iff_getElem?]
      refine ⟨k - n, ?_⟩
      rw [List.getElem?_drop, show n + (k - n) = k by omega]
      exact List.getElem?_eq_getElem (by omega))
    rw [Option.getD_some, this]; rfl
  · intro h b hb
    obtain ⟨i, hi⟩ := List.mem_iff_getElem?.1 hb
    rw [List.getElem?_drop] at hi
    have hlt := (List.getElem?_eq_some_iff.1 hi).1
    have := h (n + i) (by omega) (by omega)
    unfold byt bAt at this
    rw [List.getD_eq_getElem?_getD, hi, Option.getD_some] at this
    exact UInt8.toNat_inj.1 this
theorem readL_take {l : List ByteArray} {i : Nat} {p : ByteArray} (h : l[i]? = some p) : readL (l.take (i + 1)) = readL (l.take i) ++ txtP p := by
  unfold readL
  rw [List.take_add_one, h]
  simp
section
variable {k : Value → World → Prop} {w w0 : World}
theorem w_fromStr {t : TypeId} {s : ByteArray} {q : IntKind} {i : Int} (h : Tryz.prog.underlying t = some .string) (h0 : 0 ≤ i) (h1 : i ≤ s.size) : opW Tryz.prog (Instr.sliceAt t (.string s) (some (.int q i)) none none) k w = k (.string (s.extract i.toNat s.size)) w := opW_ok (by
  rw [run_sliceAt_string _ _ _ _ _ _ h, run_slice_string_from_if w t s q i h, if_pos ⟨h0, h1⟩])
theorem c28 {v : Value} {l : List ByteArray} (hs : IsSl fT w v l) (hl : l.length ≤ 100000) (hk : ∀ o e w', Below w.heap.size w w' → (¬ readP l → o = nS ∧ e = 260) → (readP l → e = 0 ∧ IsSl fT w' o (readL l)) → k (.tuple #[o, I e]) w') : callW Tryz.prog (.func (.func 28) #[] #[]) #[v] k w := C28 _ _ _ (by
  unfold S28
  have hml : 1000000 ≤ maxLen := by decide
  have hml2 : maxLen ≤ 9223372036854775807 := by decide
  rw [len31 hs]
  refine Loop2.intro (fun n a b w' => ∃ i : Nat, b = I i ∧ i ≤ l.length ∧ n = l.length - i ∧ Below w.heap.size w w' ∧ Mine fT 9 w' w.heap.size a (readL (l.take i)) ∧ (readL (l.take i)).length ≤ i ∧ ∀ p ∈ l.take i, okP p) _ ⟨0, rfl, by omega, rfl, Below.refl _ _, Mine.nil _ _, by simp [readL], by simp⟩ ?_
  rintro n ov _ w1 ⟨i, rfl, hi, rfl, hb1, hO, hlen, hP⟩
  rw [w_lss]
  by_cases hlt : i < l.length
  case' neg =>
    rw [decide_eq_false (by omega), condW_false]
    rw [List.take_of_length_le (by omega)] at hO hP
    exact hk _ _ _ hb1 (fun hn => absurd hP hn) fun _ => ⟨rfl, hO.sl⟩
  rw [decide_eq_true (by omega), condW_true]
  obtain ⟨p, hp⟩ : ∃ p, l[i]? = some p := ⟨_, List.getElem?_eq_getElem hlt⟩
  have hpm := List.mem_of_getElem? hp
  have htk : l.take (i + 1) = l.take i ++ [p] := by rw [List.take_add_one, hp]; rfl
  refine joinW_use1 (fun a w' => Below w.heap.size w w' ∧ Mine fT 9 w' w.heap.size a (readL (l.take (i + 1))) ∧ (readL (l.take (i + 1))).length ≤ i + 1 ∧ okP p) ?_ ?_
  · rintro a w' ⟨q1, q2, q3, q4⟩
    rw [w_add, wrap_id (by omega), loopK_self]
    refine ⟨l.length - (i + 1), by omega, i + 1, by simp [I], by omega, rfl, q1, q2, q3, fun z hz => ?_⟩
    rw [htk] at hz
    rcases List.mem_append.1 hz with h | h
    · exact hP z h
    · simp at h; rw [h]; exact q4
  intro J hJ
  have bad : ∀ w', Below w.heap.size w w' → ¬ okP p → k (.tuple #[nS, I 260]) w' := fun w' hb hn => hk _ _ _ hb (fun _ => ⟨rfl, rfl⟩) fun h => absurd (h p hpm) hn
  rw [gw31 (F := fT) rfl (hs.below hb1) (by omega) (by simpa using hp) rfl, w_lenStr (by kernel_rfl), w_neq]
  by_cases h64 : p.size = 64
  case' neg =>
    rw [decide_eq_false (by omega), Bool.not_false]
    simp only [guardW_tf, guardW_u, pickW_true, condW_true]
    exact bad _ hb1 fun h => h64 h.1
  rw [decide_eq_true (by omega), Bool.not_true]
  simp only [guardW_ff, pickW_false]
  have hb0 := get_bAt (s := p) (i := 0) (by omega)
  have hlt256 := (bAt p 0).toNat_lt
  rw [w_indexStr (by kernel_rfl) (by omega) (by simpa using hb0), w_gtr]
  by_cases h60 : byt p 0 ≤ 60
  case' neg =>
    rw [decide_eq_true (by unfold byt at h60; omega), condW_true]
    exact bad _ hb1 fun h => h60 h.2.1
  have h60' := h60
  unfold byt at h60'
  rw [decide_eq_false (by omega), condW_false, w_indexStr (by kernel_rfl) (by omega) (by simpa using hb0), w_conv (q := .i64) (by kernel_rfl) (by kernel_rfl), wrap_id (by omega), w_add, wrap_id (by omega), w_fromStr (by kernel_rfl) (by omega) (by omega)]
  have hsz : (p.extract ((bAt p 0).toNat + 1) p.size).size ≤ 64 := by rw [ByteArray.size_extract]; omega
  rw [show (((bAt p 0).toNat : Int) + 1).toNat = (bAt p 0).toNat + 1 by omega]
  refine c59 (c := 0) (by decide) (by omega) fun w2 hb2 => ?_
  have hb02 := below_trans hb1 hb2
  have hO2 := hO.below hb2
  rw [w_neqStr (by kernel_rfl)]
  have hz := tail_zero (n := (bAt p 0).toNat + 1) h64
  by_cases htr : Lib.trimB (p.extract ((bAt p 0).toNat + 1) p.size).data.toList 0 = []
  case' neg =>
    rw [decide_eq_false (fun hh => htr (by
      have := congrArg (fun s => s.data.toList) hh
      simpa using this)), Bool.not_false, condW_true]
    refine bad _ hb02 fun h => htr (trim_nil.2 (hz.2 fun j hj hj2 => h.2.2 j (by unfold byt; omega) hj2))
  have hokp : okP p := ⟨h64, h60, fun j hj hj2 => hz.1 (trim_nil.1 htr) j (by unfold byt at hj; omega) hj2⟩
  rw [htr, decide_eq_true rfl, Bool.not_true, condW_false, w_gtr]
  by_cases hpos : 0 < (bAt p 0).toNat
  · rw [decide_eq_true (by omega), condW_true, w_sliceStr (by kernel_rfl) (by omega) (by omega) (by omega)]
    rw [show (1 : Int).toNat = 1 from rfl, show (((bAt p 0).toNat : Int) + 1).toNat = (bAt p 0).toNat + 1 by omega]
    have htx : txtP p = [p.extract 1 ((bAt p 0).toNat + 1)] := by unfold txtP byt; rw [if_pos hpos]
    refine Mine.push (F := fT) (x := p.extract 1 ((bAt p 0).toNat + 1)) sty31 (oneT _) rfl (by decide) hO2 hb02.size (by omega) (by omega) fun vo w3 hm3 hb3 ho3 hu3 => ?_
    refine hJ _ _ ⟨hb02.trans hb3, ?_, ?_, hokp⟩
    · rw [readL_take hp, htx]; exact hm3
    · rw [readL_take hp, htx]; simp; omega
  · rw [decide_eq_false (by omega), condW_false]
    have htx : txtP p = [] := by unfold txtP byt; rw [if_neg hpos]
    refine hJ _ _ ⟨hb02, ?_, ?_, hokp⟩
    · rw [readL_take hp, htx, List.append_nil]; exact hO2
    · rw [readL_take hp, htx, List.append_nil]; omega)
end
end Go.Proofs.YtfkfkldhcignbaaGreatDoor
/- Feeds, plain: what packets of slots say. -/
set_option linter.unusedSimpArgs false
set_option linter.unusedVariables false
set_option maxRecDepth 4000
namespace Go.Proofs.YtfkfkldhcignbaaGreatDoor
open Go Go.V Go.RowKit
theorem list_ext {s t : ByteArray} (h : s.data.toList = t.data.toList) : s = t := by
  apply ByteArray.ext
  exact Array.ext' h
theorem codedB_list (s : ByteArray) : (codedB s).data.toList = UInt8.ofNat s.size :: s.data.toList := by
  unfold codedB oneB
  rw [ByteArray.data_append]
  simp
theorem zeroB_list (n : Nat) : (zeroB n).data.toList = List.replicate n 0 := by simp [zeroB]
/-- the packet of a slot in which s is sent -/
def slotB (s : ByteArray) : ByteArray := codedB s ++ zeroB (63 - s.size)
theorem slotB_list (s : ByteArray) : (slotB s).data.toList = UInt8.ofNat s.size :: (s.data.toList ++ List.replicate (63 - s.size) 0) := by
  unfold slotB
  rw [ByteArray.data_append]
  simp only [Array.toList_append, codedB_list, zeroB_list]
  rfl
theorem toList_len (s : ByteArray) : s.data.toList.length = s.size := by simp
theorem slotB_ok {s : ByteArray} (h : 1 ≤ s.size ∧ s.size ≤ 60) : okP (slotB s) ∧ txtP (slotB s) = [s] := by
  have hl := slotB_list s
  have hsz : (slotB s).size = 64 := by rw [← toList_len, hl]; simp; omega
  have h0 : byt (slotB s) 0 = s.size := by
    unfold byt bAt
    rw [hl]
    simp
    omega
  refine ⟨⟨hsz, by omega, fun k hk hk2 => ?_⟩, ?_⟩
  · rw [h0] at hk
    unfold byt bAt
    rw [hl, List.getD_eq_getElem?_getD]
    obtain ⟨j, rfl⟩ : ∃ j, k = j + 1 := ⟨k - 1, by omega⟩
    rw [List.getElem?_cons_succ, List.getElem?_append_right (by rw [toList_len]; omega), toList_len, List.getElem?_replicate, if_pos (by omega)]
    rfl
  · unfold txtP
    rw [h0, if_pos (by omega)]
    congr 1
    apply list_ext
    rw [ByteArray.data_extract]
    simp only [Array.toList_extract, List.extract_eq_take_drop, hl, List.drop_succ_cons, List.drop_zero]
    rw [Nat.add_sub_cancel, List.take_append_of_le_length (by rw [toList_len]; omega), List.take_of_length_le (by rw [toList_len]; omega)]
theorem zeroB_ok : okP (zeroB 64) ∧ txtP (zeroB 64) = [] := by
  have hb : ∀ k, byt (zeroB 64) k = 0 := fun k => by
    unfold byt bAt
    rw [zeroB_list, List.getD_eq_getElem?_getD, List.getElem?_replicate]
    split <;> rfl
  refine ⟨⟨zeroB_size 64, by rw [hb]; omega, fun k _ _ => hb k⟩, ?_⟩
  unfold txtP
  rw [if_neg (by rw [hb]; omega)]
theorem slotB_ne {s : ByteArray} (h : 1 ≤ s.size ∧ s.size ≤ 60) : slotB s ≠ zeroB 64 := fun hh => by
  have h1 := (slotB_ok h).2
  rw [hh, zeroB_ok.2] at h1
  cases h1
/-- a packet of a slot: the text of what is picked, or none -/
theorem pack_slot {xs : List ItW} {r : Rdr} {ms : List Mom} {n : Nat} {snt : Nat → Bool} : packF true xs r ms n snt = match pickF true xs r ms n snt with | some i => slotB (txtI xs i) | none => zeroB 64 := by
  unfold packF
  cases pickF true xs r ms n snt <;> rfl
theorem pick_left {sl : Bool} {xs : List ItW} {r : Rdr} {ms : List Mom} {n : Nat} {snt : Nat → Bool} {i : Nat} (h : pickF sl xs r ms n snt = some i) : lftN sl xs r ms n snt i := by
  have := ((minK_eq keyF_idx).1 h).1
  unfold candF at this
  exact mem_left.1 (List.mem_filter.1 this).1
theorem pack_read {xs : List ItW} {r : Rdr} {ms : List Mom} (HG : GivenP xs r ms) {n : Nat} {snt : Nat → Bool} : okP (packF true xs r ms n snt) ∧ txtP (packF true xs r ms n snt) = match pickF true xs r ms n snt with | some i => [txtI xs i] | none => [] := by
  rw [pack_slot]
  cases hp : pickF true xs r ms n snt with
  | none => exact zeroB_ok
  | some i =>
    have hi := (pick_left hp).1
    have hx : xs[i]? = some xs[i] := List.getElem?_eq_getElem hi
    have := (HG.1.2 _ (List.getElem_mem hi)).2.2.2
    refine slotB_ok ?_
    rw [txtI_eq hi]; exact this
theorem feed_read {xs : List ItW} {r : Rdr} {ms : List Mom} (HG : GivenP xs r ms) : readP (feedF true xs r ms ms.length) := by
  intro p hp
  unfold feedF at hp
  obtain ⟨j, _, rfl⟩ := List.mem_map.1 hp
  exact (pack_read HG).1
end Go.Proofs.YtfkfkldhcignbaaGreatDoor
/- The example of the feeds' laws. -/
set_option linter.unusedSimpArgs false
set_option linter.unusedVariables false
set_option maxRecDepth 4000
namespace Go.Proofs.YtfkfkldhcignbaaGreatDoor
open Go Go.V Go.RowKit
def heldL : Lab := ⟨100, [], [], 255, 255, []⟩
def warX : ItW := ⟨10, heldL, 1, ⟨#[119, 97, 114]⟩⟩
def rainX : ItW := ⟨10, noneL, 3, ⟨#[114, 97, 105, 110]⟩⟩
def mmX (t : Int) : Mom := ⟨t, 0, [], [], []⟩
def exA : List ItW := [warX, rainX]
def exB : List ItW := [rainX]
def exM : List Mom := [mmX 10, mmX 11, mmX 12]
def warL : List Value := [I 10, I 100, nS, nS, I 255, I 255, nS, I 1, .string ⟨#[119, 97, 114]⟩]
def rainL : List Value := [I 10, I 0, nS, nS, I 255, I 255, nS, I 3, .string ⟨#[114, 97, 105, 110]⟩]
def warR : RawV 9 := ⟨warL, rfl, by simp [warL, Value.oneCell']⟩
def rainR : RawV 9 := ⟨rainL, rfl, by simp [rainL, Value.oneCell']⟩
def mmR (t : Int) : RawV 5 := ⟨[I t, I 0, nS, nS, nS], rfl, by simp [Value.oneCell']⟩
theorem locksNil (w : World) : LocksV w nS [] := ⟨[], slNil _ _, rfl, fun i x q hx => by simp at hx⟩
theorem warV (w : World) : ItemV w (agR warR) warX := ⟨nS, nS, nS, rfl, slNil _ _, slNil _ _, locksNil w⟩
theorem rainV (w : World) : ItemV w (agR rainR) rainX := ⟨nS, nS, nS, rfl, slNil _ _, slNil _ _, locksNil w⟩
theorem mmV (w : World) (t : Int) : MomV w (agR (mmR t)) (mmX t) := ⟨nS, nS, nS, rfl, slNil _ _, slNil _ _, slNil _ _⟩
theorem exA_x (w : World) : ItemsX w [warR, rainR] exA := ⟨rfl, fun i r x h1 h2 => by
  match i, h1, h2 with
  | 0, h1, h2 => simp [exA] at h1 h2; subst h1 h2; exact warV w
  | 1, h1, h2 => simp [exA] at h1 h2; subst h1 h2; exact rainV w
  | n + 2, h1, h2 => simp at h1⟩
theorem exB_x (w : World) : ItemsX w [rainR] exB := ⟨rfl, fun i r x h1 h2 => by
  match i, h1, h2 with
  | 0, h1, h2 => simp [exB] at h1 h2; subst h1 h2; exact rainV w
  | n + 1, h1, h2 => simp at h1⟩
theorem exM_x (w : World) : MomsX w [mmR 10, mmR 11, mmR 12] exM := ⟨rfl, fun i r x h1 h2 => by
  match i, h1, h2 with
  | 0, h1, h2 => simp [exM] at h1 h2; subst h1 h2; exact mmV w _
  | 1, h1, h2 => simp [exM] at h1 h2; subst h1 h2; exact mmV w _
  | 2, h1, h2 => simp [exM] at h1 h2; subst h1 h2; exact mmV w _
  | n + 3, h1, h2 => simp at h1⟩
section
variable {k : Value → World → Prop} {w : World}
theorem b63w {s : ByteArray} {p c t : Int} : opW Tryz.prog (Instr.build 63 #[(0, I p), (1, .agg ([I t, nS, nS, I 255, I 255, nS] : List Value).toArray), (2, I c), (3, .string s)]) k w = k (.agg ([I p, I t, nS, nS, I 255, I 255, nS, I c, .string s] : List Value).toArray) w := opW_ok (by kernel_rfl)
theorem b28w {t : Int} : opW Tryz.prog (Instr.build 28 #[(0, I t)]) k w = k (.agg ([I t, I 0, nS, nS, nS] : List Value).toArray) w := opW_ok (by kernel_rfl)
/-- what each operation of the region keeps -/
def PhE (B : Nat) : Nat → Value → World → Prop
  | 0, v, _ => v = .agg warL.toArray
  | 1, v, _ => v = .agg rainL.toArray
  | 2, v, w => IsSl (fR 9) w v [warR, rainR]
  | 3, v, _ => v = .agg rainL.toArray
  | 4, v, w => IsSl (fR 9) w v [rainR]
  | 5, v, _ => v = .agg (mmR 10).1.toArray
  | 6, v, _ => v = .agg (mmR 11).1.toArray
  | 7, v, _ => v = .agg (mmR 12).1.toArray
  | 8, v, w => IsSl (fR 5) w v [mmR 10, mmR 11, mmR 12]
  | 9, v, w => IsSl (fR 9) w v [warR, rainR]
  | 10, v, w => IsSl (fR 9) w v [rainR]
  | 11, v, w => IsSl (fR 5) w v [mmR 10, mmR 11, mmR 12]
  | _, _, _ => False
theorem PhE.below {B j : Nat} {v : Value} {w w' : World} (hb : Below w.heap.size w w') (h : PhE B j v w) : PhE B j v w' := by
  match j, h with
  | 0, h | 1, h | 3, h | 5, h | 6, h | 7, h => exact h
  | 2, h => exact IsSl.below h hb
  | 4, h => exact IsSl.below h hb
  | 8, h => exact IsSl.below h hb
  | 9, h => exact IsSl.below h hb
  | 10, h => exact IsSl.below h hb
  | 11, h => exact IsSl.below h hb
  | n + 12, h => exact h
theorem bagE {w0 w w' : World} {B j : Nat} {v : Value} (ha : after w0 w) (hb : Below w.heap.size w w') (h : PhE B j v w') : bagK (PhE B) (after w0) j w v w' := ⟨⟨below_trans ha hb, h, fun _ _ => PhE.below hb⟩⟩
theorem c36 (hk : ∀ a b c w', Below w.heap.size w w' → ItemsV w' a exA → ItemsV w' b exB → MomsV w' c exM → k (.tuple #[a, b, c]) w') : callW Tryz.prog (.func (.func 36) #[] #[]) #[] k w := C36 _ _ (by
  unfold S36
  refine c31 fun w1 hb1 => ?_
  refine al61 fun w2 hb2 hs2 hr2 => ?_
  refine sr61 (vs := [I 0, nS, nS, I 255, I 255, nS]) rfl hr2 rfl (by simp [Value.oneCell']) fun w3 ho3 hr3 => ?_
  rw [fl61_0, st3 rfl (hr3.cell (i := 0) rfl) (hr3.free _)]
  have hr4 : RowAt (w3.setCell ⟨w1.heap.size, 0, none⟩ (I 100)) w1.heap.size 61 [I 100, nS, nS, I 255, I 255, nS] := hr3.set 0 (I 100)
  have hb04 : Below w.heap.size w (w3.setCell ⟨w1.heap.size, 0, none⟩ (I 100)) := (below_trans hb1 (hb2.trans (ho3.rest _ (Nat.le_refl _)))).setCell (show w.heap.size ≤ w1.heap.size from hb1.size) _
  clear hr3 hr2 hb2 ho3
  generalize w3.setCell ⟨w1.heap.size, 0, none⟩ (I 100) = w4 at *
  rw [ld61 rfl hr4.cells, b63w]
  refine w_var (vs := warL) hz63 (by rw [zc63]; rfl) warR.2.2 (by rw [size63]; rfl) known63 fun w5 hb5 hs5 hr5 => ?_
  have hb05 := below_trans hb04 hb5
  refine c31 fun w6 hb6 => ?_
  have hb06 := below_trans hb05 hb6
  rw [show noneV = .agg ([I 0, nS, nS, I 255, I 255, nS] : List Value).toArray from rfl, b63w]
  refine w_var (vs := rainL) hz63 (by rw [zc63]; rfl) rainR.2.2 (by rw [size63]; rfl) known63 fun w7 hb7 hs7 hr7 => ?_
  have hb07 := below_trans hb06 hb7
  replace hr5 := (hr5.below hb6).below hb7
  rw [drewW_eq]
  have hb08 := hb07.drew
  replace hr5 := hr5.drew
  replace hr7 := hr7.drew
  generalize w7.drew = w8 at *
  refine ⟨after w8, PhE 0, after_refl _, ?_, ?_, ?_, ?_, ?_, ?_, ?_, ?_, ?_, ?_, ?_, ?_, ?_, trivial⟩
  · intro u ha t0 _ t1 _ t2 _ t3 _ t4 _ t5 _ t6 _ t7 _ t8 _ t9 h9 t10 h10 t11 h11
    exact hk _ _ _ _ (below_trans hb08 ha) ⟨_, h9, exA_x u⟩ ⟨_, h10, exB_x u⟩ ⟨_, h11, exM_x u⟩
  · intro u ha
    rw [ld63 rfl (hr5.below ha).cells]
    exact bagE ha (Below.refl _ _) rfl
  · intro u ha
    rw [ld63 rfl (hr7.below ha).cells]
    exact bagE ha (Below.refl _ _) rfl
  · rintro u ha _ rfl _ rfl
    refine w_parts (F := fR 9) (l := [warR, rainR]) sty24 rfl (by decide) (by decide) (by kernel_rfl) rfl fun u' hb _ hm => ?_
    exact bagE ha hb hm.sl
  · intro u ha
    rw [ld63 rfl (hr7.below ha).cells]
    exact bagE ha (Below.refl _ _) rfl
  · rintro u ha _ rfl
    refine w_parts (F := fR 9) (l := [rainR]) sty24 rfl (by decide) (by decide) (by kernel_rfl) rfl fun u' hb _ hm => ?_
    exact bagE ha hb hm.sl
  · intro u ha
    rw [b28w]
    exact bagE ha (Below.refl _ _) rfl
  · intro u ha
    rw [b28w]
    exact bagE ha (Below.refl _ _) rfl
  · intro u ha
    rw [b28w]
    exact bagE ha (Below.refl _ _) rfl
  · rintro u ha _ rfl _ rfl _ rfl
    refine w_parts (F := fR 5) (l := [mmR 10, mmR 11, mmR 12]) sty33 rfl (by decide) (by decide) (by kernel_rfl) rfl fun u' hb _ hm => ?_
    exact bagE ha hb hm.sl
  · rintro u ha t h
    exact bagE ha (Below.refl _ _) h
  · rintro u ha t h
    exact bagE ha (Below.refl _ _) h
  · rintro u ha t h
    exact bagE ha (Below.refl _ _) h)
end
end Go.Proofs.YtfkfkldhcignbaaGreatDoor
/- The example of the feeds' laws, plain; sane. -/
set_option linter.unusedSimpArgs false
set_option linter.unusedVariables false
set_option maxRecDepth 4000
namespace Go.Proofs.YtfkfkldhcignbaaGreatDoor
open Go Go.V Go.RowKit
def exR : Rdr := (0, 0)
theorem heldL_valid : ValidLab heldL := ⟨by decide, by decide, by decide, by decide, fun i q hq => by simp [heldL] at hq, RisingP.nil _, CountsP.nil _⟩
theorem heldL_ok : okLab heldL := ⟨⟨by decide, by simp [heldL]⟩, by decide, by decide, by simp [heldL]⟩
theorem warX_valid : ValidIt warX := ⟨by decide, heldL_valid, by decide, by decide⟩
theorem rainX_valid : ValidIt rainX := ⟨by decide, noneL_valid, by decide, by decide⟩
theorem exA_all {p : ItW → Prop} (h1 : p warX) (h2 : p rainX) : ∀ x ∈ exA, p x := fun x hx => by
  simp [exA] at hx
  rcases hx with rfl | rfl <;> assumption
theorem exB_all {p : ItW → Prop} (h2 : p rainX) : ∀ x ∈ exB, p x := fun x hx => by
  simp [exB] at hx
  subst hx; assumption
theorem mm_valid {t : Int} (h : 0 ≤ t ∧ t ≤ 50000000) : ValidMom (mmX t) := ⟨h, by simp [mmX], RisingP.nil _, CountsP.nil _, RisingP.nil _⟩
theorem mm_ok {t : Int} : okMom (mmX t) := by exact ⟨Nat.zero_le _, Nat.zero_le _, Nat.zero_le _⟩
theorem exM_all {p : Mom → Prop} (h : ∀ t, 10 ≤ t ∧ t ≤ 12 → p (mmX t)) : ∀ m ∈ exM, p m := fun x hx => by
  simp [exM] at hx
  rcases hx with rfl | rfl | rfl <;> exact h _ (by decide)
theorem exA_given : GivenP exA exR exM := ⟨⟨by decide, exA_all warX_valid rainX_valid⟩, by decide, by decide, by decide, exM_all fun t h => mm_valid (by omega)⟩
theorem exB_given : GivenP exB exR exM := ⟨⟨by decide, exB_all rainX_valid⟩, by decide, by decide, by decide, exM_all fun t h => mm_valid (by omega)⟩
theorem exA_ok : okIts exA := ⟨by decide, exA_all heldL_ok noneL_ok⟩
theorem exB_ok : okIts exB := ⟨by decide, exB_all noneL_ok⟩
theorem exM_ok : okMs exM := ⟨by decide, exM_all fun t _ => mm_ok⟩
theorem ex_mom {n : Nat} (h : n < 3) : ∃ t, exM[n]? = some (mmX t) ∧ 10 ≤ t ∧ t ≤ 12 := by
  match n, h with
  | 0, _ => exact ⟨10, rfl, by decide⟩
  | 1, _ => exact ⟨11, rfl, by decide⟩
  | 2, _ => exact ⟨12, rfl, by decide⟩
theorem rain_open {t : Int} (h : 10 ≤ t ∧ t ≤ 12) : OpensP rainX exR (mmX t) := by
  refine ⟨h.1, noneL_valid, mm_valid (by omega), by decide, by decide, ?_, ?_, ?_, ?_, ?_, ?_⟩
  · unfold bitOn; decide
  · unfold bitOn; decide
  · simp [rainX, noneL, mmX]; omega
  · intro x hx; simp [rainX, noneL] at hx
  · intro x hx; simp [rainX, noneL] at hx
  · intro x hx; simp [rainX, noneL] at hx
theorem war_shut {t : Int} (h : t ≤ 12) : ¬ OpensP warX exR (mmX t) := fun hh => by
  have := hh.2.2.2.2.2.2.2.1
  simp [warX, heldL, mmX] at this
  omega
theorem bOf_true {P : Prop} (h : P) : bOf P = true := bOf_iff.2 h
theorem bOf_false {P : Prop} (h : ¬ P) : bOf P = false := (bOf_eq (iffF h)).symm
theorem ex_opA0 {n : Nat} (h : n < 3) : opB exA exR exM n 0 = false := by
  obtain ⟨t, ht, h1, h2⟩ := ex_mom h
  unfold opB
  rw [ht]
  exact bOf_false (war_shut h2)
theorem ex_opA1 {n : Nat} (h : n < 3) : opB exA exR exM n 1 = true := by
  obtain ⟨t, ht, h1, h2⟩ := ex_mom h
  unfold opB
  rw [ht]
  exact bOf_true (rain_open ⟨h1, h2⟩)
theorem ex_opB0 {n : Nat} (h : n < 3) : opB exB exR exM n 0 = true := by
  obtain ⟨t, ht, h1, h2⟩ := ex_mom h
  unfold opB
  rw [ht]
  exact bOf_true (rain_open ⟨h1, h2⟩)
theorem ex_relW (n : Nat) : relN warX exR exM n = -1 := by
  rcases relN_cases warX exR exM n with ⟨h, _⟩ | ⟨j, h1, h2, ⟨m, hm, ho⟩, _⟩
  · exact h
  · exfalso
    have hj : j < 3 := (List.getElem?_eq_some_iff.1 hm).1
    obtain ⟨t, ht, h3, h4⟩ := ex_mom hj
    rw [ht] at hm; cases hm
    exact war_shut h4 ho
theorem ex_relR (n : Nat) : relN rainX exR exM (n + 1) = 0 := by
  have h0 : opAt rainX exR exM 0 := ⟨mmX 10, rfl, rain_open (by decide)⟩
  rcases relN_cases rainX exR exM (n + 1) with ⟨_, h⟩ | ⟨j, h1, h2, _, h4⟩
  · exact absurd h0 (h 0 (by omega))
  · rcases Nat.eq_zero_or_pos j with rfl | hp
    · exact h2
    · exact absurd h0 (h4 0 hp)
theorem ex_cA0 (n : Nat) : cntB true exA exR exM n 0 = false := by
  show decide (0 ≤ relN warX exR exM (n + 1)) = false
  rw [ex_relW]; rfl
theorem ex_cA1 (n : Nat) : cntB true exA exR exM n 1 = true := by
  show decide (0 ≤ relN rainX exR exM (n + 1)) = true
  rw [ex_relR]; rfl
theorem ex_cB0 (n : Nat) : cntB true exB exR exM n 0 = true := by
  show decide (0 ≤ relN rainX exR exM (n + 1)) = true
  rw [ex_relR]; rfl
theorem ex_rd {n i : Nat} (h : n < 3) (hi : i < 2) : cntB false exA exR exM n i = true := by
  obtain ⟨t, ht, h1, h2⟩ := ex_mom h
  unfold cntB rdB
  rw [ht]
  match i, hi with
  | 0, _ => exact decide_eq_true h1
  | 1, _ => exact decide_eq_true h1
theorem ex_rdB {n : Nat} (h : n < 3) : cntB false exB exR exM n 0 = true := by
  obtain ⟨t, ht, h1, h2⟩ := ex_mom h
  unfold cntB rdB
  rw [ht]
  exact decide_eq_true h1
theorem range2 : List.range exA.length = [0, 1] := rfl
theorem range1 : List.range exB.length = [0] := rfl
theorem pick_of {sl : Bool} {xs : List ItW} {r : Rdr} {ms : List Mom} {n i : Nat} {snt : Nat → Bool} (h : candF sl xs r ms n snt = [i]) : pickF sl xs r ms n snt = some i := by unfold pickF; rw [h]; rfl
theorem pick_no {sl : Bool} {xs : List ItW} {r : Rdr} {ms : List Mom} {n : Nat} {snt : Nat → Bool} (h : candF sl xs r ms n snt = []) : pickF sl xs r ms n snt = none := by unfold pickF; rw [h]; rfl
/-! slots -/
theorem exA_s0 : pickF true exA exR exM 0 (sntF true exA exR exM 0) = some 1 := pick_of (by
  rw [candF_true]; unfold leftF; rw [range2]; simp [sntF, ex_cA0, ex_cA1])
theorem exA_s1 : sntF true exA exR exM 1 = fun i => decide (1 = i) := by
  funext i
  show (false || decide (pickF true exA exR exM 0 (sntF true exA exR exM 0) = some i)) = _
  rw [exA_s0]; simp
theorem exA_p1 : pickF true exA exR exM 1 (sntF true exA exR exM 1) = none := pick_no (by
  rw [candF_true]; unfold leftF; rw [range2, exA_s1]; simp [ex_cA0, ex_cA1])
theorem exA_s2 : sntF true exA exR exM 2 = fun i => decide (1 = i) := by
  funext i
  show (sntF true exA exR exM 1 i || decide (pickF true exA exR exM 1 (sntF true exA exR exM 1) = some i)) = _
  rw [exA_p1, exA_s1]; simp
theorem exA_p2 : pickF true exA exR exM 2 (sntF true exA exR exM 2) = none := pick_no (by
  rw [candF_true]; unfold leftF; rw [range2, exA_s2]; simp [ex_cA0, ex_cA1])
theorem exA_slots : fdF 1 exA exR exM = [slotB rainX.text, zeroB 64, zeroB 64] := by
  show [packF true exA exR exM 0 (sntF true exA exR exM 0), packF true exA exR exM 1 (sntF true exA exR exM 1), packF true exA exR exM 2 (sntF true exA exR exM 2)] = _
  rw [pack_slot, pack_slot, pack_slot, exA_s0, exA_p1, exA_p2]; rfl
theorem exB_s0 : pickF true exB exR exM 0 (sntF true exB exR exM 0) = some 0 := pick_of (by
  rw [candF_true]; unfold leftF; rw [range1]; simp [sntF, ex_cB0])
theorem exB_s1 : sntF true exB exR exM 1 = fun i => decide (0 = i) := by
  funext i
  show (false || decide (pickF true exB exR exM 0 (sntF true exB exR exM 0) = some i)) = _
  rw [exB_s0]; simp
theorem exB_p1 : pickF true exB exR exM 1 (sntF true exB exR exM 1) = none := pick_no (by
  rw [candF_true]; unfold leftF; rw [range1, exB_s1]; simp [ex_cB0])
theorem exB_s2 : sntF true exB exR exM 2 = fun i => decide (0 = i) := by
  funext i
  show (sntF true exB exR exM 1 i || decide (pickF true exB exR exM 1 (sntF true exB exR exM 1) = some i)) = _
  rw [exB_p1, exB_s1]; simp
theorem exB_p2 : pickF true exB exR exM 2 (sntF true exB exR exM 2) = none := pick_no (by
  rw [candF_true]; unfold leftF; rw [range1, exB_s2]; simp [ex_cB0])
theorem exB_slots : fdF 1 exB exR exM = [slotB rainX.text, zeroB 64, zeroB 64] := by
  show [packF true exB exR exM 0 (sntF true exB exR exM 0), packF true exB exR exM 1 (sntF true exB exR exM 1), packF true exB exR exM 2 (sntF true exB exR exM 2)] = _
  rw [pack_slot, pack_slot, pack_slot, exB_s0, exB_p1, exB_p2]; rfl
/-! tight -/
theorem exA_l0 : leftF false exA exR exM 0 (sntF false exA exR exM 0) = [0, 1] := by unfold leftF; rw [range2]; simp [sntF, ex_rd]
theorem exA_t0 : pickF false exA exR exM 0 (sntF false exA exR exM 0) = some 1 := pick_of (by
  unfold candF; rw [exA_l0]; simp [ex_opA0, ex_opA1])
theorem exA_u1 : sntF false exA exR exM 1 = fun i => decide (1 = i) := by
  funext i
  show (false || decide (pickF false exA exR exM 0 (sntF false exA exR exM 0) = some i)) = _
  rw [exA_t0]; simp
theorem exA_l1 : leftF false exA exR exM 1 (sntF false exA exR exM 1) = [0] := by unfold leftF; rw [range2, exA_u1]; simp [ex_rd]
theorem exA_t1 : pickF false exA exR exM 1 (sntF false exA exR exM 1) = none := pick_no (by
  unfold candF; rw [exA_l1]; simp [ex_opA0, ex_opA1])
theorem exA_u2 : sntF false exA exR exM 2 = fun i => decide (1 = i) := by
  funext i
  show (sntF false exA exR exM 1 i || decide (pickF false exA exR exM 1 (sntF false exA exR exM 1) = some i)) = _
  rw [exA_t1, exA_u1]; simp
theorem exA_l2 : leftF false exA exR exM 2 (sntF false exA exR exM 2) = [0] := by unfold leftF; rw [range2, exA_u2]; simp [ex_rd]
theorem exA_t2 : pickF false exA exR exM 2 (sntF false exA exR exM 2) = none := pick_no (by
  unfold candF; rw [exA_l2]; simp [ex_opA0, ex_opA1])
theorem exA_tight : fdF 2 exA exR exM = [zeroB 1 ++ codedB rainX.text, zeroB 1, zeroB 1] := by
  show [packF false exA exR exM 0 (sntF false exA exR exM 0), packF false exA exR exM 1 (sntF false exA exR exM 1), packF false exA exR exM 2 (sntF false exA exR exM 2)] = _
  rw [packF_some exA_t0, packF_none exA_t1, packF_none exA_t2, exA_l1, exA_l2]
  unfold aheadF
  rw [exA_l0]; rfl
theorem exB_l0 : leftF false exB exR exM 0 (sntF false exB exR exM 0) = [0] := by unfold leftF; rw [range1]; simp [sntF, ex_rdB]
theorem exB_t0 : pickF false exB exR exM 0 (sntF false exB exR exM 0) = some 0 := pick_of (by
  unfold candF; rw [exB_l0]; simp [ex_opB0])
theorem exB_u1 : sntF false exB exR exM 1 = fun i => decide (0 = i) := by
  funext i
  show (false || decide (pickF false exB exR exM 0 (sntF false exB exR exM 0) = some i)) = _
  rw [exB_t0]; simp
theorem exB_l1 : leftF false exB exR exM 1 (sntF false exB exR exM 1) = [] := by unfold leftF; rw [range1, exB_u1]; simp
theorem exB_t1 : pickF false exB exR exM 1 (sntF false exB exR exM 1) = none := pick_no (by
  unfold candF; rw [exB_l1]; rfl)
theorem exB_u2 : sntF false exB exR exM 2 = fun i => decide (0 = i) := by
  funext i
  show (sntF false exB exR exM 1 i || decide (pickF false exB exR exM 1 (sntF false exB exR exM 1) = some i)) = _
  rw [exB_t1, exB_u1]; simp
theorem exB_l2 : leftF false exB exR exM 2 (sntF false exB exR exM 2) = [] := by unfold leftF; rw [range1, exB_u2]; simp
theorem exB_t2 : pickF false exB exR exM 2 (sntF false exB exR exM 2) = none := pick_no (by
  unfold candF; rw [exB_l2]; rfl)
theorem exB_tight : fdF 2 exB exR exM = [zeroB 0 ++ codedB rainX.text, zeroB 0, zeroB 0] := by
  show [packF false exB exR exM 0 (sntF false exB exR exM 0), packF false exB exR exM 1 (sntF false exB exR exM 1), packF false exB exR exM 2 (sntF false exB exR exM 2)] = _
  rw [packF_some exB_t0, packF_none exB_t1, packF_none exB_t2, exB_l1, exB_l2]
  unfold aheadF
  rw [exB_l0]; rfl
theorem exA_seen : seenL exA exR exM = exB := by
  unfold seenL exA
  have h1 : relN warX exR exM exM.length = -1 := ex_relW _
  have h2 : relN rainX exR exM exM.length = 0 := ex_relR 2
  simp [h1, h2, exB]
theorem exB_seen : seenL exB exR exM = exB := by
  unfold seenL exB
  have h2 : relN rainX exR exM exM.length = 0 := ex_relR 2
  simp [h2]
def rain4 : ByteArray := ⟨#[4, 114, 97, 105, 110]⟩
theorem coded_rain : codedB rainX.text = rain4 := list_ext (by rw [codedB_list]; rfl)
theorem slot_rain : slotB rainX.text = rain4 ++ zeroB 59 := by
  unfold slotB
  rw [coded_rain]; rfl
theorem tight_rain : zeroB 1 ++ codedB rainX.text = ⟨#[0, 4, 114, 97, 105, 110]⟩ := list_ext (by
  rw [ByteArray.data_append, Array.toList_append, codedB_list, zeroB_list]; rfl)
theorem tight_rain0 : zeroB 0 ++ codedB rainX.text = rain4 := by rw [← coded_rain]; exact nil_appB _
theorem ex_tel1 : telN 1 exA exB exR exM = -1 ∧ telE 1 exA exB exR exM = 0 := by
  have hb : bOf (okF 1 exA exR exM ∧ okF 1 exB exR exM) = true := bOf_true ⟨⟨exA_given, .inl rfl⟩, exB_given, .inl rfl⟩
  unfold telN telE
  rw [hb]
  refine ⟨?_, rfl⟩
  rw [if_pos rfl, exA_slots, exB_slots]
  exact dif_none fun _ _ => rfl
theorem ex_tel2 : telN 2 exA exB exR exM = 0 ∧ telE 2 exA exB exR exM = 0 := by
  have hb : bOf (okF 2 exA exR exM ∧ okF 2 exB exR exM) = true := bOf_true ⟨⟨exA_given, .inr rfl⟩, exB_given, .inr rfl⟩
  unfold telN telE
  rw [hb]
  refine ⟨?_, rfl⟩
  rw [if_pos rfl, exA_tight, exB_tight]
  refine dif_at (i := 0) (by decide) ?_ (by omega)
  rw [tight_rain, tight_rain0]
  simp [rain4]
theorem ex_read : readP (fdF 1 exA exR exM) ∧ readL (fdF 1 exA exR exM) = [rainX.text] := by
  refine ⟨feed_read exA_given, ?_⟩
  rw [exA_slots]
  unfold readL
  simp only [List.flatMap_cons, List.flatMap_nil, (slotB_ok (s := rainX.text) (by decide)).2, zeroB_ok.2]
  rfl
theorem nilS_bad : ¬ readP [(⟨#[]⟩ : ByteArray)] := fun h => by
  have := (h _ (List.mem_singleton.2 rfl)).1
  cases this
end Go.Proofs.YtfkfkldhcignbaaGreatDoor
/- sane. -/
set_option linter.unusedSimpArgs false
set_option linter.unusedVariables false
set_option maxRecDepth 4000
namespace Go.Proofs.YtfkfkldhcignbaaGreatDoor
open Go Go.V Go.RowKit
def zeroX : ItW := ⟨0, ⟨0, [], [], 0, 0, []⟩, 0, ⟨#[]⟩⟩
def zeroR : RawV 9 := ⟨[I 0, I 0, nS, nS, I 0, I 0, nS, I 0, .string ⟨#[]⟩], rfl, by simp [Value.oneCell']⟩
theorem zeroV (w : World) : ItemV w (agR zeroR) zeroX := ⟨nS, nS, nS, rfl, slNil _ _, slNil _ _, locksNil w⟩
theorem zero_x (w : World) : ItemsX w [zeroR] [zeroX] := ⟨rfl, fun i r x h1 h2 => by
  match i, h1, h2 with
  | 0, h1, h2 => simp at h1 h2; subst h1 h2; exact zeroV w
  | n + 1, h1, h2 => simp at h1⟩
theorem zero_ok : okIts [zeroX] := ⟨by decide, fun x hx => by simp at hx; subst hx; exact ⟨⟨by decide, by simp [zeroX]⟩, by decide, by decide, by simp [zeroX]⟩⟩
theorem zero_bad : ¬ ValidIts [zeroX] := fun h => by
  have := (h.2 zeroX (by simp)).2.2.1
  simp [zeroX] at this
theorem nil_items (w : World) : ItemsV w nS [] := ⟨[], slNil _ _, rfl, fun i r x h => by simp at h⟩
section
variable {k : Value → World → Prop} {w : World}
theorem b30z : opW Tryz.prog (Instr.build 30 #[]) k w = k (.agg #[I 0, I 0]) w := opW_ok (by kernel_rfl)
theorem b63z : opW Tryz.prog (Instr.build 63 #[]) k w = k (.agg zeroR.1.toArray) w := opW_ok (by kernel_rfl)
theorem sl1 {s : ByteArray} (h : ∀ v w', Below w.heap.size w w' → IsSl fT w' v [s] → k v w') : opW Tryz.prog (Instr.buildSlice 31 1 #[(0, .string s)]) k w :=
  w_parts (F := fT) (l := [s]) sty31 rfl (by decide) (by decide) (by kernel_rfl) rfl fun w' hb _ hm => h _ _ hb hm.sl
theorem sl3 {s t u : ByteArray} (h : ∀ v w', Below w.heap.size w w' → IsSl fT w' v [s, t, u] → k v w') : opW Tryz.prog (Instr.buildSlice 31 3 #[(0, .string s), (1, .string t), (2, .string u)]) k w :=
  w_parts (F := fT) (l := [s, t, u]) sty31 rfl (by decide) (by decide) (by kernel_rfl) rfl fun w' hb _ hm => h _ _ hb hm.sl
set_option maxHeartbeats 1000000 in
theorem c10 (hg : Gl w) (hk : ∀ w', Below w.heap.size w w' → k (.bool true) w') : callW Tryz.prog (.func (.func 10) #[] #[]) #[] k w := C10 _ _ (by
  unfold S10
  have hml : 1000000 ≤ maxLen := by decide
  refine c36 fun a b c w1 hb1 hA hB hM => ?_
  rw [w_extract (v := a) rfl, w_extract (v := b) rfl, w_extract (v := c) rfl, b30z]
  refine w_var (vs := [I 0, I 0]) hz30 (by rw [zc30]) (by simp [Value.oneCell']) (by rw [size30]; rfl) known30 fun w2 hb2 hs2 hr2 => ?_
  have hb02 := below_trans hb1 hb2
  replace hA := hA.below hb2
  replace hB := hB.below hb2
  replace hM := hM.below hb2
  replace hg := hg.below hb02
  have hR : RdrV (.agg ([I 0, I 0] : List Value).toArray) exR := rfl
  clear hb2
  rw [ld30 rfl hr2.cells]
  refine c16 hg hA hR hM exA_ok exM_ok fun s e w3 hb3 _ h1 => ?_
  obtain ⟨rfl, hs⟩ := h1 exA_given
  rw [exA_seen] at hs
  rw [ex0, ex1, ld30 rfl (hr2.below hb3).cells]
  refine c23 (hg.below hb3) (hA.below hb3) hR (hM.below hb3) exA_ok exM_ok fun x e w4 hb4 _ h1 => ?_
  obtain ⟨rfl, hx⟩ := h1 ⟨exA_given, .inl rfl⟩
  have hb4' := below_trans hb3 hb4
  replace hs := hs.below hb4
  rw [ex0, ex1, ld30 rfl (hr2.below hb4').cells]
  refine c23 (hg.below hb4') (hA.below hb4') hR (hM.below hb4') exA_ok exM_ok fun y e w5 hb5 _ h1 => ?_
  obtain ⟨rfl, hy⟩ := h1 ⟨exA_given, .inr rfl⟩
  have hb5' := below_trans hb4' hb5
  replace hs := hs.below hb5
  replace hx := hx.below hb5
  rw [ex0, ex1, ld30 rfl (hr2.below hb5').cells]
  refine c23 (hg.below hb5') (hB.below hb5') hR (hM.below hb5') exB_ok exM_ok fun z e w6 hb6 _ h1 => ?_
  obtain ⟨rfl, hz⟩ := h1 ⟨exB_given, .inr rfl⟩
  have hb6' := below_trans hb5' hb6
  replace hs := hs.below hb6
  replace hx := hx.below hb6
  replace hy := hy.below hb6
  rw [ex0, ex1, ld30 rfl (hr2.below hb6').cells]
  refine c25 (hg.below hb6') (hA.below hb6') (hB.below hb6') hR (hM.below hb6') exA_ok exB_ok exM_ok fun w7 hb7 => ?_
  have hb7' := below_trans hb6' hb7
  replace hs := hs.below hb7
  replace hx := hx.below hb7
  replace hy := hy.below hb7
  replace hz := hz.below hb7
  rw [ex_tel1.1, ex_tel1.2, ex0, ex1, ld30 rfl (hr2.below hb7').cells]
  refine c25 (hg.below hb7') (hA.below hb7') (hB.below hb7') hR (hM.below hb7') exA_ok exB_ok exM_ok fun w8 hb8 => ?_
  have hb8' := below_trans hb7' hb8
  replace hs := hs.below hb8
  replace hx := hx.below hb8
  replace hy := hy.below hb8
  replace hz := hz.below hb8
  rw [ex_tel2.1, ex_tel2.2, ex0, ex1]
  refine c28 hx (by rw [fdF_len]; decide) fun t e w9 hb9 _ h1 => ?_
  obtain ⟨rfl, ht⟩ := h1 ex_read.1
  rw [ex_read.2] at ht
  have hb9' := below_trans hb8' hb9
  replace hs := hs.below hb9
  replace hx := hx.below hb9
  replace hy := hy.below hb9
  replace hz := hz.below hb9
  rw [ex0, ex1]
  refine sl1 fun v1 wa hba hv1 => ?_
  have hba' := below_trans hb9' hba
  replace hs := hs.below hba
  replace hx := hx.below hba
  replace hy := hy.below hba
  replace hz := hz.below hba
  replace ht := ht.below hba
  refine c28 hv1 (by decide) fun o e wb hbb h1 _ => ?_
  obtain ⟨rfl, rfl⟩ := h1 nilS_bad
  have hbb' := below_trans hba' hbb
  replace hs := hs.below hbb
  replace hx := hx.below hbb
  replace hy := hy.below hbb
  replace hz := hz.below hbb
  replace ht := ht.below hbb
  rw [ex0, ex1, ld30 rfl (hr2.below hbb').cells]
  refine c23 (hg.below hbb') (hA.below hbb') hR (hM.below hbb') exA_ok exM_ok fun o e wc hbc h1 _ => ?_
  obtain ⟨rfl, rfl⟩ := h1 (fun h => by have := h.2; omega)
  have hbc' := below_trans hbb' hbc
  replace hs := hs.below hbc
  replace hx := hx.below hbc
  replace hy := hy.below hbc
  replace hz := hz.below hbc
  replace ht := ht.below hbc
  rw [ex0, ex1]
  simp only [w_neq, decide_true, Bool.not_true, guardW_ff, pickW_false, pickW_true, condW_false, decide_false]
  have hBc := hB.below hbc'
  refine c18 hs hBc exB_ok exB_ok fun b1 wd hbd hq => ?_
  obtain rfl : b1 = true := hq.2 rfl
  have hbd' := below_trans hbc' hbd
  simp only [guardW_tt, pickW_true]
  refine c35 (n := 59) (by omega) (by omega) fun we hbe => ?_
  rw [w_addStr (by rw [zeroB_size]; decide)]
  refine c35 (n := 64) (by omega) (by omega) fun wf hbf => ?_
  refine c35 (n := 64) (by omega) (by omega) fun wg hbg => ?_
  have hdg := below_trans (below_trans (below_trans hbd hbe) hbf) hbg
  refine sl3 fun v2 wh hbh hv2 => ?_
  have hch := below_trans hdg hbh
  refine c27 (hx.below hch) hv2 (by rw [fdF_len]; decide) fun wi hbi => ?_
  rw [show decide (fdF 1 exA exR exM = _) = true from decide_eq_true (by rw [exA_slots, slot_rain]; rfl)]
  simp only [guardW_tt, pickW_true]
  have hci := below_trans hch hbi
  refine sl3 fun v3 wj hbj hv3 => ?_
  have hcj := below_trans hci hbj
  refine c27 (hy.below hcj) hv3 (by rw [fdF_len]; decide) fun wk hbk => ?_
  rw [show decide (fdF 2 exA exR exM = _) = true from decide_eq_true (by rw [exA_tight, tight_rain]; rfl)]
  simp only [guardW_tt, pickW_true]
  have hck := below_trans hcj hbk
  refine sl3 fun v4 wl hbl hv4 => ?_
  have hcl := below_trans hck hbl
  refine c27 (hz.below hcl) hv4 (by rw [fdF_len]; decide) fun wm hbm => ?_
  rw [show decide (fdF 2 exB exR exM = _) = true from decide_eq_true (by rw [exB_tight, tight_rain0]; rfl)]
  simp only [guardW_tt, pickW_true]
  have hcm := below_trans hcl hbm
  simp only [w_eql, decide_true, guardW_tt, pickW_true]
  refine sl1 fun v5 wn hbn hv5 => ?_
  have hcn := below_trans hcm hbn
  refine c27 (ht.below hcn) hv5 (by decide) fun wo hbo => ?_
  rw [show decide ([rainX.text] = [⟨#[114, 97, 105, 110]⟩]) = true from decide_eq_true rfl]
  simp only [guardW_tt, pickW_true]
  have hco := below_trans hbc' (below_trans hcn hbo)
  rw [ld30 rfl (hr2.below hco).cells]
  refine c21 (hg.below hco) (hA.below hco) (hB.below hco) hR (hM.below hco) exA_ok exB_ok exM_ok fun b2 wp hbp hq => ?_
  obtain rfl : b2 = true := hq.2 ⟨exA_given, exB_given, by rw [exA_seen, exB_seen]⟩
  simp only [guardW_tt, pickW_true]
  have hcp := below_trans hco hbp
  rw [ld30 rfl (hr2.below hcp).cells]
  refine c21 (ys := []) (hg.below hcp) (hA.below hcp) (nil_items _) hR (hM.below hcp) exA_ok ⟨by decide, by simp⟩ exM_ok fun b3 wq hbq hq => ?_
  obtain rfl : b3 = false := by
    cases b3 with
    | false => rfl
    | true =>
      have := (hq.1 rfl).2.2
      rw [exA_seen] at this
      cases this
  rw [w_not]
  simp only [Bool.not_false, guardW_tt, pickW_true]
  have hcq := below_trans hcp hbq
  refine c19 (hA.below hcq) exA_ok fun b4 wr hbr hq => ?_
  obtain rfl : b4 = true := hq.2 exA_given.1
  simp only [guardW_tt, pickW_true]
  rw [b63z]
  refine w_parts (F := fR 9) (l := [zeroR]) sty24 rfl (by decide) (by decide) (by kernel_rfl) rfl fun ws hbs _ hms => ?_
  refine c19 ⟨_, hms.sl, zero_x ws⟩ zero_ok fun b5 wt hbt hq => ?_
  obtain rfl : b5 = false := by
    cases b5 with
    | false => rfl
    | true => exact absurd (hq.1 rfl) zero_bad
  rw [w_not]
  simp only [Bool.not_false, guardW_tt, pickW_true]
  exact hk _ (below_trans hb02 (below_trans hcq (below_trans hbr (below_trans hbs hbt)))))
end
end Go.Proofs.YtfkfkldhcignbaaGreatDoor
/- FlowFirst, walked. -/
set_option linter.unusedSimpArgs false
set_option linter.unusedVariables false
set_option maxRecDepth 4000
namespace Go.Proofs.YtfkfkldhcignbaaGreatDoor
open Go Go.V Go.RowKit
/-- the laws' reader, put into bounds: the order of the text is drawn -/
def PickRS (r_6 : Value) (J_10 : Value → World → Prop) (w : World) : Prop :=
   drewW w (fun w =>
   ∃ S : World → Prop, S w ∧
   takeW Tryz.prog anyW (Instr.fieldAt 30 r_6 0) (fun t28_11 =>
   takeW Tryz.prog S (Instr.loadAt 3 t28_11) (fun t29_12 =>
   takeW Tryz.prog anyW (Instr.fieldAt 30 r_6 1) (fun t31_13 =>
   takeW Tryz.prog S (Instr.loadAt 3 t31_13) (fun t32_14 =>
   (callW Tryz.prog (Value.func (Fn.func 13) #[] #[]) #[t29_12, (Value.int IntKind.i64 8)] (fun t30_15 w => keepS S (fun w =>
   (callW Tryz.prog (Value.func (Fn.func 13) #[] #[]) #[t32_14, (Value.int IntKind.i64 8)] (fun t33_16 w => keepS S (fun w =>
   (opW Tryz.prog (Instr.build 30 #[(0, t30_15), (1, t33_16)]) (fun t34_17 w => keepS S (fun w =>
   opW Tryz.prog (Instr.alloc 30 true (Value.tuple #[])) (fun p_18 w => keepS S (fun w =>
   opU Tryz.prog (Instr.storeAt 30 p_18 t34_17) (fun _ w =>
   J_10 p_18 w) w) w) w) w) w) ∧ (opW Tryz.prog (Instr.alloc 30 true (Value.tuple #[])) (fun p_19 w => keepS S (fun w =>
   opW Tryz.prog (Instr.build 30 #[(0, t30_15), (1, t33_16)]) (fun t34_20 w => keepS S (fun w =>
   opU Tryz.prog (Instr.storeAt 30 p_19 t34_20) (fun _ w =>
   J_10 p_19 w) w) w) w) w) w)) w) w) ∧ (opW Tryz.prog (Instr.alloc 30 true (Value.tuple #[])) (fun p_21 w => keepS S (fun w =>
   callW Tryz.prog (Value.func (Fn.func 13) #[] #[]) #[t32_14, (Value.int IntKind.i64 8)] (fun t33_22 w => keepS S (fun w =>
   opW Tryz.prog (Instr.build 30 #[(0, t30_15), (1, t33_22)]) (fun t34_23 w => keepS S (fun w =>
   opU Tryz.prog (Instr.storeAt 30 p_21 t34_23) (fun _ w =>
   J_10 p_21 w) w) w) w) w) w) w) w)) w) w) ∧ (opW Tryz.prog (Instr.alloc 30 true (Value.tuple #[])) (fun p_24 w => keepS S (fun w =>
   callW Tryz.prog (Value.func (Fn.func 13) #[] #[]) #[t29_12, (Value.int IntKind.i64 8)] (fun t30_25 w => keepS S (fun w =>
   callW Tryz.prog (Value.func (Fn.func 13) #[] #[]) #[t32_14, (Value.int IntKind.i64 8)] (fun t33_26 w => keepS S (fun w =>
   opW Tryz.prog (Instr.build 30 #[(0, t30_25), (1, t33_26)]) (fun t34_27 w => keepS S (fun w =>
   opU Tryz.prog (Instr.storeAt 30 p_24 t34_27) (fun _ w =>
   J_10 p_24 w) w) w) w) w) w) w) w) w) w)) w) w) w) w)
section
variable {k : Value → World → Prop} {w : World}
theorem b30ab {a b : Int} : opW Tryz.prog (Instr.build 30 #[(0, I a), (1, I b)]) k w = k (.agg ([I a, I b] : List Value).toArray) w := opW_ok (by kernel_rfl)
def RPre (w : World) (a : Value) (w' : World) : Prop := ∃ (pb : Nat) (r : Rdr), a = .pointer (some ⟨pb, 0, none⟩) ∧ RowAt w' pb 30 [I r.1, I r.2] ∧ (0 ≤ r.1 ∧ r.1 ≤ 7) ∧ (0 ≤ r.2 ∧ r.2 ≤ 7) ∧ Below w.heap.size w w' ∧ w.heap.size ≤ pb
theorem one2i {a b : Int} : ∀ v ∈ ([I a, I b] : List Value), v.oneCell' = true := by simp [Value.oneCell']
theorem pickR_ok {w0 : World} {rb : Nat} {a b : Int} {J : Value → World → Prop} (h0 : Below w0.heap.size w0 w) (hr : RowAt w rb 30 [I a, I b]) (ha : in64 a) (hb : in64 b) (hJ : ∀ v w', RPre w0 v w' → J v w') : PickRS (.pointer (some ⟨rb, 0, none⟩)) J w := by
  unfold PickRS
  rw [drewW_eq]
  replace h0 := h0.drew
  replace hr := hr.drew
  generalize w.drew = w1 at *
  have a1 := after_refl w1
  refine ⟨after w1, a1, ?_⟩
  rw [ra30_0 (hr.cell (i := 0) rfl) a1, ra30_1 (hr.cell (i := 0 + 1) rfl) a1]
  have fin : ∀ {x y : Int} {w' w'' : World} {old : List Value}, (0 ≤ x ∧ x < 8) → (0 ≤ y ∧ y < 8) → Below w1.heap.size w1 w' → RowAt w' w1.heap.size 30 old → old.length = 2 → opU Tryz.prog (Instr.storeAt 30 (.pointer (some ⟨w1.heap.size, 0, none⟩)) (.agg ([I x, I y] : List Value).toArray)) (fun _ w => J (.pointer (some ⟨w1.heap.size, 0, none⟩)) w) w' := by
    intro x y w' _ old hx hy hb' hr' hl
    refine sr30 (vs := [I x, I y]) rfl hr' hl one2i fun w2 ho2 hr2 => ?_
    exact hJ _ _ ⟨_, (x, y), rfl, hr2, ⟨hx.1, by simp only; omega⟩, ⟨hy.1, by simp only; omega⟩, (below_trans h0 (hb'.trans (ho2.rest _ (Nat.le_refl _)))), h0.size⟩
  refine ⟨c13 ha (by decide) fun x hx => ?_, ?_⟩
  · rw [keepS_eq]
    refine ⟨a1, c13 hb (by decide) fun y hy => ?_, ?_⟩
    · rw [keepS_eq]
      refine ⟨a1, ?_, ?_⟩
      · rw [b30ab, keepS_eq]
        refine ⟨a1, al30 fun w2 hb2 hs2 hr2 => ?_⟩
        rw [keepS_eq]
        exact ⟨hb2, fin (w'' := w2) hx hy hb2 hr2 rfl⟩
      · refine al30 fun w2 hb2 hs2 hr2 => ?_
        rw [keepS_eq]
        refine ⟨hb2, ?_⟩
        rw [b30ab, keepS_eq]
        exact ⟨hb2, fin (w'' := w2) hx hy hb2 hr2 rfl⟩
    · refine al30 fun w2 hb2 hs2 hr2 => ?_
      rw [keepS_eq]
      refine ⟨hb2, c13 hb (by decide) fun y hy => ?_⟩
      rw [keepS_eq]
      refine ⟨hb2, ?_⟩
      rw [b30ab, keepS_eq]
      exact ⟨hb2, fin (w'' := w2) hx hy hb2 hr2 rfl⟩
  · refine al30 fun w2 hb2 hs2 hr2 => ?_
    rw [keepS_eq]
    refine ⟨hb2, c13 ha (by decide) fun x hx => ?_⟩
    rw [keepS_eq]
    refine ⟨hb2, c13 hb (by decide) fun y hy => ?_⟩
    rw [keepS_eq]
    refine ⟨hb2, ?_⟩
    rw [b30ab, keepS_eq]
    exact ⟨hb2, fin (w'' := w2) hx hy hb2 hr2 rfl⟩
theorem given_of {xs : List ItW} {r : Rdr} {ms : List Mom} (hx : ∀ x ∈ xs, ValidIt x ∧ okLab x.lab) (hl : xs.length ≤ 12) (h1 : 0 ≤ r.1 ∧ r.1 ≤ 7) (h2 : 0 ≤ r.2 ∧ r.2 ≤ 7) (hm : ∀ m ∈ ms, ValidMom m ∧ okMom m) (hml : ms.length ≤ 14) : GivenP xs r ms ∧ okIts xs ∧ okMs ms :=
  ⟨⟨⟨hl, fun x h => (hx x h).1⟩, h1, h2, by omega, fun m h => (hm m h).1⟩, ⟨Nat.le_trans hl (by decide), fun x h => (hx x h).2⟩, ⟨Nat.le_trans hml (by decide), fun m h => (hm m h).2⟩⟩
end
end Go.Proofs.YtfkfkldhcignbaaGreatDoor
/- FlowSecret, walked. -/
set_option linter.unusedSimpArgs false
set_option linter.unusedVariables false
set_option maxRecDepth 4000
namespace Go.Proofs.YtfkfkldhcignbaaGreatDoor
open Go Go.V Go.RowKit
section
variable {k : Value → World → Prop} {w : World}
end
theorem w_partS {P : Program} {k : Value → World → Prop} {w : World} {α : Type} {F : Fl α} {x : α} {t e : Nat} {bytes : Nat} {z v : Value} (h : STy P t e F.sz bytes z) (hxc : v.cells.toList = F.e x) (hsm : F.sz ≤ 16777216)
    (hk : ∀ w', Below w.heap.size w w' → w'.heap.size = w.heap.size + 1 → Mine F e w' w.heap.size (.slice (some ⟨w.heap.size, 0, none⟩) 1 1) [x] → k (.slice (some ⟨w.heap.size, 0, none⟩) 1 1) w') : opW P (Instr.buildSlice t 1 #[(0, v)]) k w := by
  have hcs : v.cells.size = F.sz := by rw [← F.len x, ← hxc]; simp
  rw [w_one h hcs hsm]
  have hm := slAlloc (F := F) (e := e) (w := w) (l := [x]) (by rw [hxc]; simp [flat]) (by show 1 ≤ maxLen; decide)
  exact hk _ ((Below.refl _ _).alloc (Nat.le_refl _) _) (by simp) hm
section
variable {k : Value → World → Prop} {w w0 : World}
end
end Go.Proofs.YtfkfkldhcignbaaGreatDoor
/- Join: two lists in order, put together. Plain. -/
set_option linter.unusedSimpArgs false
set_option linter.unusedVariables false
set_option maxRecDepth 4000
namespace Go.Proofs.YtfkfkldhcignbaaGreatDoor
open Go Go.V Go.RowKit
section
variable {α : Type} {cmp : α → α → Int} {f : α → α → α} {R : α → α → Prop}
def mergeU (cmp : α → α → Int) (f : α → α → α) : List α → List α → List α
  | [], b => b
  | a, [] => a
  | x :: a, y :: b => if cmp x y < 0 then x :: mergeU cmp f a (y :: b) else if 0 < cmp x y then y :: mergeU cmp f (x :: a) b else f x y :: mergeU cmp f a b
termination_by a b => a.length + b.length
theorem mergeU_nil (b : List α) : mergeU cmp f [] b = b := by rw [mergeU]
theorem mergeU_nilr (a : List α) : mergeU cmp f a [] = a := by
  cases a with
  | nil => rw [mergeU]
  | cons x a => rw [mergeU]; simp
theorem mergeU_cons (x y : α) (a b : List α) : mergeU cmp f (x :: a) (y :: b) = if cmp x y < 0 then x :: mergeU cmp f a (y :: b) else if 0 < cmp x y then y :: mergeU cmp f (x :: a) b else f x y :: mergeU cmp f a b := by rw [mergeU]
theorem mergeU_lt {x y : α} {a b : List α} (h : cmp x y < 0) : mergeU cmp f (x :: a) (y :: b) = x :: mergeU cmp f a (y :: b) := by rw [mergeU_cons, if_pos h]
theorem mergeU_gt {x y : α} {a b : List α} (h : 0 < cmp x y) : mergeU cmp f (x :: a) (y :: b) = y :: mergeU cmp f (x :: a) b := by rw [mergeU_cons, if_neg (by omega), if_pos h]
theorem mergeU_eq {x y : α} {a b : List α} (h : cmp x y = 0) : mergeU cmp f (x :: a) (y :: b) = f x y :: mergeU cmp f a b := by rw [mergeU_cons, if_neg (by omega), if_neg (by omega)]
/-- by the steps of the walk -/
theorem mergeU_ind {C : List α → List α → Prop} (h1 : ∀ b, C [] b) (h2 : ∀ a, C a []) (h3 : ∀ x y a b, cmp x y < 0 → C a (y :: b) → C (x :: a) (y :: b)) (h4 : ∀ x y a b, 0 < cmp x y → C (x :: a) b → C (x :: a) (y :: b)) (h5 : ∀ x y a b, cmp x y = 0 → C a b → C (x :: a) (y :: b)) : ∀ (n : Nat) a b, a.length + b.length ≤ n → C a b
  | n, [], b, _ => h1 b
  | n, x :: a, [], _ => h2 _
  | 0, x :: a, y :: b, h => by simp at h
  | n + 1, x :: a, y :: b, h => by
    have ih := mergeU_ind h1 h2 h3 h4 h5 n
    simp only [List.length_cons] at h
    rcases Int.lt_trichotomy (cmp x y) 0 with c | c | c
    · exact h3 x y a b c (ih _ _ (by simp only [List.length_cons]; omega))
    · exact h5 x y a b c (ih _ _ (by omega))
    · exact h4 x y a b c (ih _ _ (by simp only [List.length_cons]; omega))
theorem mergeU_len (a b : List α) : (mergeU cmp f a b).length ≤ a.length + b.length := by
  refine mergeU_ind (cmp := cmp) (C := fun a b => (mergeU cmp f a b).length ≤ a.length + b.length) (fun b => ?_) (fun a => ?_) (fun x y a b h ih => ?_) (fun x y a b h ih => ?_) (fun x y a b h ih => ?_) _ a b (Nat.le_refl _)
  · rw [mergeU_nil]; simp
  · rw [mergeU_nilr]; simp
  · rw [mergeU_lt h]; simp at *; omega
  · rw [mergeU_gt h]; simp at *; omega
  · rw [mergeU_eq h]; simp at *; omega
theorem mergeU_mem (a b : List α) : ∀ z ∈ mergeU cmp f a b, z ∈ a ∨ z ∈ b ∨ ∃ x ∈ a, ∃ y ∈ b, cmp x y = 0 ∧ z = f x y := by
  refine mergeU_ind (cmp := cmp) (C := fun a b => ∀ z ∈ mergeU cmp f a b, z ∈ a ∨ z ∈ b ∨ ∃ x ∈ a, ∃ y ∈ b, cmp x y = 0 ∧ z = f x y) (fun b z hz => ?_) (fun a z hz => ?_) (fun x y a b h ih z hz => ?_) (fun x y a b h ih z hz => ?_) (fun x y a b h ih z hz => ?_) _ a b (Nat.le_refl _)
  · rw [mergeU_nil] at hz; exact .inr (.inl hz)
  · rw [mergeU_nilr] at hz; exact .inl hz
  · rw [mergeU_lt h] at hz
    rcases List.mem_cons.1 hz with rfl | hz
    · exact .inl (by simp)
    · rcases ih z hz with h1 | h1 | ⟨u, h1, v, h2, h3⟩
      · exact .inl (by simp [h1])
      · exact .inr (.inl h1)
      · exact .inr (.inr ⟨u, by simp [h1], v, h2, h3⟩)
  · rw [mergeU_gt h] at hz
    rcases List.mem_cons.1 hz with rfl | hz
    · exact .inr (.inl (by simp))
    · rcases ih z hz with h1 | h1 | ⟨u, h1, v, h2, h3⟩
      · exact .inl h1
      · exact .inr (.inl (by simp [h1]))
      · exact .inr (.inr ⟨u, h1, v, by simp [h2], h3⟩)
  · rw [mergeU_eq h] at hz
    rcases List.mem_cons.1 hz with rfl | hz
    · exact .inr (.inr ⟨x, by simp, y, by simp, h, rfl⟩)
    · rcases ih z hz with h1 | h1 | ⟨u, h1, v, h2, h3⟩
      · exact .inl (by simp [h1])
      · exact .inr (.inl (by simp [h1]))
      · exact .inr (.inr ⟨u, by simp [h1], v, by simp [h2], h3⟩)
theorem mergeU_left (a b : List α) : ∀ x ∈ a, x ∈ mergeU cmp f a b ∨ ∃ y ∈ b, cmp x y = 0 ∧ f x y ∈ mergeU cmp f a b := by
  refine mergeU_ind (cmp := cmp) (C := fun a b => ∀ x ∈ a, x ∈ mergeU cmp f a b ∨ ∃ y ∈ b, cmp x y = 0 ∧ f x y ∈ mergeU cmp f a b) (fun b z hz => ?_) (fun a z hz => ?_) (fun x y a b h ih z hz => ?_) (fun x y a b h ih z hz => ?_) (fun x y a b h ih z hz => ?_) _ a b (Nat.le_refl _)
  · simp at hz
  · rw [mergeU_nilr]; exact .inl hz
  · rw [mergeU_lt h]
    rcases List.mem_cons.1 hz with rfl | hz
    · exact .inl (by simp)
    · rcases ih z hz with h1 | ⟨v, h2, h3, h4⟩
      · exact .inl (by simp [h1])
      · exact .inr ⟨v, h2, h3, by simp [h4]⟩
  · rw [mergeU_gt h]
    rcases ih z hz with h1 | ⟨v, h2, h3, h4⟩
    · exact .inl (by simp [h1])
    · exact .inr ⟨v, by simp [h2], h3, by simp [h4]⟩
  · rw [mergeU_eq h]
    rcases List.mem_cons.1 hz with rfl | hz
    · exact .inr ⟨y, by simp, h, by simp⟩
    · rcases ih z hz with h1 | ⟨v, h2, h3, h4⟩
      · exact .inl (by simp [h1])
      · exact .inr ⟨v, by simp [h2], h3, by simp [h4]⟩
theorem mergeU_right (a b : List α) : ∀ y ∈ b, y ∈ mergeU cmp f a b ∨ ∃ x ∈ a, cmp x y = 0 ∧ f x y ∈ mergeU cmp f a b := by
  refine mergeU_ind (cmp := cmp) (C := fun a b => ∀ y ∈ b, y ∈ mergeU cmp f a b ∨ ∃ x ∈ a, cmp x y = 0 ∧ f x y ∈ mergeU cmp f a b) (fun b z hz => ?_) (fun a z hz => ?_) (fun x y a b h ih z hz => ?_) (fun x y a b h ih z hz => ?_) (fun x y a b h ih z hz => ?_) _ a b (Nat.le_refl _)
  · rw [mergeU_nil]; exact .inl hz
  · simp at hz
  · rw [mergeU_lt h]
    rcases ih z hz with h1 | ⟨v, h2, h3, h4⟩
    · exact .inl (by simp [h1])
    · exact .inr ⟨v, by simp [h2], h3, by simp [h4]⟩
  · rw [mergeU_gt h]
    rcases List.mem_cons.1 hz with rfl | hz
    · exact .inl (by simp)
    · rcases ih z hz with h1 | ⟨v, h2, h3, h4⟩
      · exact .inl (by simp [h1])
      · exact .inr ⟨v, h2, h3, by simp [h4]⟩
  · rw [mergeU_eq h]
    rcases List.mem_cons.1 hz with rfl | hz
    · exact .inr ⟨x, by simp, h, by simp⟩
    · rcases ih z hz with h1 | ⟨v, h2, h3, h4⟩
      · exact .inl (by simp [h1])
      · exact .inr ⟨v, by simp [h2], h3, by simp [h4]⟩
theorem mergeU_pair (tr : ∀ x y z, R x y → R y z → R x z) (hlt : ∀ x y, cmp x y < 0 → R x y) (hgt : ∀ x y, 0 < cmp x y → R y x) (hf : ∀ x y, cmp x y = 0 → ∀ z, (R z x → R z (f x y)) ∧ (R x z → R (f x y) z) ∧ (R y z → R (f x y) z)) (a b : List α) : a.Pairwise R → b.Pairwise R → (mergeU cmp f a b).Pairwise R := by
  refine mergeU_ind (cmp := cmp) (C := fun a b => a.Pairwise R → b.Pairwise R → (mergeU cmp f a b).Pairwise R) (fun b h1 h2 => ?_) (fun a h1 h2 => ?_) (fun x y a b h ih h1 h2 => ?_) (fun x y a b h ih h1 h2 => ?_) (fun x y a b h ih h1 h2 => ?_) _ a b (Nat.le_refl _)
  · rw [mergeU_nil]; exact h2
  · rw [mergeU_nilr]; exact h1
  · rw [mergeU_lt h, List.pairwise_cons]
    obtain ⟨p1, p2⟩ := List.pairwise_cons.1 h1
    obtain ⟨q1, q2⟩ := List.pairwise_cons.1 h2
    refine ⟨fun z hz => ?_, ih p2 h2⟩
    rcases mergeU_mem a (y :: b) z hz with m | m | ⟨u, m1, v, m2, m3, rfl⟩
    · exact p1 z m
    · rcases List.mem_cons.1 m with rfl | m
      · exact hlt _ _ h
      · exact tr _ _ _ (hlt _ _ h) (q1 z m)
    · exact (hf u v m3 x).1 (p1 u m1)
  · rw [mergeU_gt h, List.pairwise_cons]
    obtain ⟨p1, p2⟩ := List.pairwise_cons.1 h1
    obtain ⟨q1, q2⟩ := List.pairwise_cons.1 h2
    refine ⟨fun z hz => ?_, ih h1 q2⟩
    have hx : ∀ u ∈ x :: a, R y u := fun u hu => by
      rcases List.mem_cons.1 hu with rfl | m
      · exact hgt _ _ h
      · exact tr _ _ _ (hgt _ _ h) (p1 u m)
    rcases mergeU_mem (x :: a) b z hz with m | m | ⟨u, m1, v, m2, m3, rfl⟩
    · exact hx z m
    · exact q1 z m
    · exact (hf u v m3 y).1 (hx u m1)
  · rw [mergeU_eq h, List.pairwise_cons]
    obtain ⟨p1, p2⟩ := List.pairwise_cons.1 h1
    obtain ⟨q1, q2⟩ := List.pairwise_cons.1 h2
    refine ⟨fun z hz => ?_, ih p2 q2⟩
    rcases mergeU_mem a b z hz with m | m | ⟨u, m1, v, m2, m3, rfl⟩
    · exact (hf x y h z).2.1 (p1 z m)
    · exact (hf x y h z).2.2 (q1 z m)
    · exact (hf u v m3 _).1 ((hf x y h u).2.1 (p1 u m1))
/-- neighbours in order, all in order -/
theorem adj_pair (tr : ∀ x y z, R x y → R y z → R x z) : ∀ {l : List α}, (∀ (i : Nat) x y, l[i]? = some x → l[i + 1]? = some y → R x y) → l.Pairwise R
  | [], _ => List.Pairwise.nil
  | [x], _ => by simp
  | x :: y :: l, h => by
    have ih : (y :: l).Pairwise R := adj_pair tr fun i u v h1 h2 => h (i + 1) u v (by simpa using h1) (by simpa using h2)
    rw [List.pairwise_cons]
    refine ⟨fun z hz => ?_, ih⟩
    have hxy : R x y := h 0 x y rfl rfl
    rcases List.mem_cons.1 hz with rfl | hz
    · exact hxy
    · exact tr _ _ _ hxy ((List.pairwise_cons.1 ih).1 z hz)
theorem pair_adj {l : List α} (h : l.Pairwise R) {i : Nat} {x y : α} (h0 : 0 < i) (hx : l[i]? = some x) (hy : l[i - 1]? = some y) : R y x := by
  obtain ⟨h1, rfl⟩ := List.getElem?_eq_some_iff.1 hx
  obtain ⟨h2, rfl⟩ := List.getElem?_eq_some_iff.1 hy
  exact List.pairwise_iff_getElem.1 h _ _ h2 h1 (by omega)
end
theorem RisingP.pair {l : List Int} {m : Int} (h : RisingP l m) : l.Pairwise (· < ·) := adj_pair (fun x y z h1 h2 => by omega) fun i x y h1 h2 => (h (i + 1) y h2).2 x (by omega) (by simpa using h1)
theorem RisingP.of {l : List Int} {m : Int} (h : l.Pairwise (· < ·)) (hm : ∀ x ∈ l, 0 ≤ x ∧ x ≤ m) : RisingP l m := fun i x hx => ⟨hm x (List.mem_of_getElem? hx), fun y h0 hy => pair_adj h h0 hx hy⟩
theorem RisingP.mem {l : List Int} {m : Int} (h : RisingP l m) {x : Int} (hx : x ∈ l) : 0 ≤ x ∧ x ≤ m := by
  obtain ⟨i, hi, rfl⟩ := List.getElem_of_mem hx
  exact (h i _ (List.getElem?_eq_getElem hi)).1
theorem CountsP.pair {l : List CW} {m : Int} (h : CountsP l m) : l.Pairwise (fun a b => a.fact < b.fact) := adj_pair (fun x y z h1 h2 => by omega) fun i x y h1 h2 => (h (i + 1) y h2).2.2 x (by omega) (by simpa using h1)
theorem CountsP.of {l : List CW} {m : Int} (h : l.Pairwise (fun a b => a.fact < b.fact)) (hm : ∀ x ∈ l, (0 ≤ x.fact ∧ x.fact ≤ 15) ∧ (m ≤ x.count ∧ x.count ≤ 12)) : CountsP l m := fun i x hx => ⟨(hm x (List.mem_of_getElem? hx)).1, (hm x (List.mem_of_getElem? hx)).2, fun y h0 hy => pair_adj h h0 hx hy⟩
theorem CountsP.mem {l : List CW} {m : Int} (h : CountsP l m) {x : CW} (hx : x ∈ l) : (0 ≤ x.fact ∧ x.fact ≤ 15) ∧ (m ≤ x.count ∧ x.count ≤ 12) := by
  obtain ⟨i, hi, rfl⟩ := List.getElem_of_mem hx
  exact ⟨(h i _ (List.getElem?_eq_getElem hi)).1, (h i _ (List.getElem?_eq_getElem hi)).2.1⟩
theorem cmpL_tr : ∀ {a b c : List Int}, cmpL a b < 0 → cmpL b c < 0 → cmpL a c < 0
  | [], [], _, h, _ => by simp [cmpL] at h
  | [], _ :: _, [], _, h => by simp [cmpL] at h
  | [], _ :: _, _ :: _, _, _ => by simp [cmpL]
  | _ :: _, [], _, h, _ => by simp [cmpL] at h
  | _ :: _, _ :: _, [], _, h => by simp [cmpL] at h
  | x :: a, y :: b, z :: c, h1, h2 => by
    rw [cmpL_cons] at h1 h2 ⊢
    by_cases c1 : x < y
    · by_cases c2 : y < z
      · rw [if_pos (by omega)]; omega
      · rw [if_neg c2] at h2
        by_cases c3 : z < y
        · rw [if_pos c3] at h2; omega
        · rw [if_pos (by omega)]; omega
    · rw [if_neg c1] at h1
      by_cases c3 : y < x
      · rw [if_pos c3] at h1; omega
      · rw [if_neg c3] at h1
        obtain rfl : x = y := by omega
        by_cases c2 : x < z
        · rw [if_pos c2]; omega
        · rw [if_neg c2] at h2 ⊢
          by_cases c4 : z < x
          · rw [if_pos c4] at h2; omega
          · rw [if_neg c4] at h2 ⊢
            exact cmpL_tr h1 h2
theorem cmpQ_tr {a b c : Lock} (h1 : cmpQ a b < 0) (h2 : cmpQ b c < 0) : cmpQ a c < 0 := by
  unfold cmpQ at *
  by_cases c1 : a.1 < b.1
  · by_cases c2 : b.1 < c.1
    · rw [if_pos (by omega)]; omega
    · rw [if_neg c2] at h2
      by_cases c3 : c.1 < b.1
      · rw [if_pos c3] at h2; omega
      · rw [if_pos (by omega)]; omega
  · rw [if_neg c1] at h1
    by_cases c3 : b.1 < a.1
    · rw [if_pos c3] at h1; omega
    · rw [if_neg c3] at h1
      by_cases c2 : b.1 < c.1
      · rw [if_pos (by omega)]; omega
      · rw [if_neg c2] at h2
        by_cases c4 : c.1 < b.1
        · rw [if_pos c4] at h2; omega
        · rw [if_neg c4] at h2
          rw [if_neg (by omega), if_neg (by omega)]
          exact cmpL_tr h1 h2
theorem cmpL_anti : ∀ {a b : List Int}, 0 < cmpL a b → cmpL b a < 0
  | [], [], h => by simp [cmpL] at h
  | [], _ :: _, h => by simp [cmpL] at h
  | _ :: _, [], h => by simp [cmpL]
  | x :: a, y :: b, h => by
    rw [cmpL_cons] at h ⊢
    by_cases c1 : x < y
    · rw [if_pos c1] at h; omega
    · rw [if_neg c1] at h
      by_cases c2 : y < x
      · rw [if_pos c2]; omega
      · rw [if_neg c2] at h
        rw [if_neg c2, if_neg c1]
        exact cmpL_anti h
theorem cmpQ_anti {a b : Lock} (h : 0 < cmpQ a b) : cmpQ b a < 0 := by
  unfold cmpQ at *
  by_cases c1 : a.1 < b.1
  · rw [if_pos c1] at h; omega
  · rw [if_neg c1] at h
    by_cases c2 : b.1 < a.1
    · rw [if_pos c2]; omega
    · rw [if_neg c2] at h
      rw [if_neg c2, if_neg c1]
      exact cmpL_anti h
theorem LocksP.pair {l : List Lock} (h : LocksP l) : l.Pairwise (fun a b => cmpQ a b < 0) := by
  refine adj_pair (R := fun a b => cmpQ a b < 0) (fun _ _ _ h1 h2 => cmpQ_tr h1 h2) fun i x y h1 h2 => ?_
  have := (h (i + 1) y h2).2.2 x (Nat.succ_pos i)
  rw [Nat.add_sub_cancel] at this
  exact this h1
theorem LocksP.of {l : List Lock} (h : l.Pairwise (fun a b => cmpQ a b < 0)) (hm : ∀ q ∈ l, RisingP q.2 19 ∧ (1 ≤ q.1 ∧ q.1 ≤ q.2.length)) : LocksP l := fun i x hx => ⟨(hm x (List.mem_of_getElem? hx)).1, (hm x (List.mem_of_getElem? hx)).2, fun y h0 hy => pair_adj h h0 hx hy⟩
theorem LocksP.mem {l : List Lock} (h : LocksP l) {q : Lock} (hq : q ∈ l) : RisingP q.2 19 ∧ (1 ≤ q.1 ∧ q.1 ≤ q.2.length) := by
  obtain ⟨i, hi, rfl⟩ := List.getElem_of_mem hq
  exact ⟨(h i _ (List.getElem?_eq_getElem hi)).1, (h i _ (List.getElem?_eq_getElem hi)).2.1⟩
end Go.Proofs.YtfkfkldhcignbaaGreatDoor
/- Join: the unions, walked. -/
set_option linter.unusedSimpArgs false
set_option linter.unusedVariables false
set_option maxRecDepth 4000
namespace Go.Proofs.YtfkfkldhcignbaaGreatDoor
open Go Go.V Go.RowKit
def cmpC (x y : CW) : Int := cmpI x.fact y.fact
def addC (x y : CW) : CW := ⟨x.fact, if y.count > x.count then y.count else x.count⟩
abbrev QL := QW × Lock
def fQL : Fl QL := ⟨2, fun p => fQW.e p.1, fun p => fQW.len p.1⟩
def cmpQL (x y : QL) : Int := cmpQ x.2 y.2
theorem oneI (x : Int) : ∀ u ∈ fI.e x, u.oneCell' = true := by simp [fI, Value.oneCell']
theorem oneCt (x : CW) : ∀ u ∈ fC.e x, u.oneCell' = true := by simp [fC, Value.oneCell']
theorem oneQL (x : QL) : ∀ u ∈ fQL.e x, u.oneCell' = true := by simp [fQL, fQW, Value.oneCell']
theorem eC : ETy Tryz.prog 26 121 fC := ⟨by kernel_rfl, by kernel_rfl, by kernel_rfl, by kernel_rfl, by kernel_rfl, by kernel_rfl, oneCt⟩
theorem eQL : ETy Tryz.prog 59 87 fQL := ⟨by kernel_rfl, by kernel_rfl, by kernel_rfl, by kernel_rfl, by kernel_rfl, by kernel_rfl, oneQL⟩
section
variable {k : Value → World → Prop} {w w0 : World}
theorem getB25 {K : Value → Prop} {v : Value} {l : List Int} {x : Int} {q : IntKind} (hs : IsSl fI w0 v (x :: l)) (hb : Below w0.heap.size w0 w) : takeW Tryz.prog anyW (Instr.indexAt 25 v (.int q 0)) (fun p' => takeW Tryz.prog (Off (fun b => w0.heap.size ≤ b) w0) (Instr.loadAt 3 p') K w) w = K (I x) :=
  getO25 (i := 0) (m := 0) rfl hs rfl (fun b h => by have := IsSl.ofLt hs (by decide) (by simp) h; omega) (Off.below hb)
theorem getBA {α : Type} {F : Fl α} {P : Program} {t e : Nat} {K : Value → Prop} {v : Value} {l : List α} {x : α} {q : IntKind} (h : ETy P t e F) (hs : IsSl F w0 v (x :: l)) (hb : Below w0.heap.size w0 w) (hp : 0 < F.sz := by decide) : takeW P anyW (Instr.indexAt t v (.int q 0)) (fun p' => takeW P (Off (fun b => w0.heap.size ≤ b) w0) (Instr.loadAt e p') K w) w = K (.agg (F.e x).toArray) := by
  have hlt0 : ∀ b, isOf v b → b < w0.heap.size := fun b h => IsSl.ofLt hs hp (by simp) h
  obtain ⟨b, o, c, rfl, hlt, hcl⟩ := hs.at (i := 0) (by omega) (show (x :: l)[(0 : Int).toNat]? = some x from rfl)
  rw [takeW_pure (fun w => run_index h.isl h.kn (by omega) hlt w), h.sz]
  exact r_aggO h.agg h.kne (by rw [h.se, F.len]) hcl (by have := hlt0 b rfl; omega) (Off.below hb)
theorem c64b {x y : Int} (hk : ∀ w', Below w.heap.size w w' → k (I (cmpI x y)) w') : callW Tryz.prog (.func (.func 64) #[] #[]) #[I x, I y] k w := c64 (hk _ (Below.refl _ _))
theorem c65 {x y : Int} (hk : ∀ w', Below w.heap.size w w' → k (I x) w') : callW Tryz.prog (.func (.func 65) #[] #[]) #[I x, I y] k w := C65 _ _ _ _ (by unfold S65; exact hk _ (Below.refl _ _))
theorem c67 {x y : CW} (hk : ∀ w', Below w.heap.size w w' → k (I (cmpC x y)) w') : callW Tryz.prog (.func (.func 67) #[] #[]) #[.agg (fC.e x).toArray, .agg (fC.e y).toArray] k w := C67 _ _ _ _ (by
  unfold S67
  refine w_boxN fun w1 hb1 hsz1 hr1 => ?_
  replace hr1 : RowAt w1 w.heap.size 121 [I x.fact, I x.count] := hr1
  refine w_boxN fun w2 hb2 hsz2 hr2 => ?_
  replace hr2 : RowAt w2 w1.heap.size 121 [I y.fact, I y.count] := hr2
  rw [fl121_0, ld3 ((hr1.below hb2).cell (i := 0) rfl), fl121_0, ld3 (hr2.cell (i := 0) rfl)]
  exact c64 (hk _ (below_trans hb1 hb2)))
theorem c68 {x y : CW} (hk : ∀ w', Below w.heap.size w w' → k (.agg (fC.e (addC x y)).toArray) w') : callW Tryz.prog (.func (.func 68) #[] #[]) #[.agg (fC.e x).toArray, .agg (fC.e y).toArray] k w := C68 _ _ _ _ (by
  unfold S68
  refine w_boxN fun w1 hb1 hsz1 hr1 => ?_
  replace hr1 : RowAt w1 w.heap.size 121 [I x.fact, I x.count] := hr1
  refine w_boxN fun w2 hb2 hsz2 hr2 => ?_
  replace hr2 : RowAt w2 w1.heap.size 121 [I y.fact, I y.count] := hr2
  have hb02 := below_trans hb1 hb2
  refine al121 fun w3 hb3 hsz3 hr3 => ?_
  have hb03 := below_trans hb02 hb3
  have hr1' := (hr1.below hb2).below hb3
  have hr2' := hr2.below hb3
  rw [fl121_0, ld3 (hr1'.cell (i := 0) rfl), fl121_1, ld3 (hr1'.cell (i := 0 + 1) rfl), fl121_1, ld3 (hr2'.cell (i := 0 + 1) rfl), w_max, b121]
  refine sr121 (vs := [I x.fact, I (if y.count > x.count then y.count else x.count)]) rfl hr3 rfl (by simp [Value.oneCell']) fun w4 ho4 hr4 => ?_
  rw [rc121 rfl hr4.cells]
  exact hk _ (hb03.trans (ho4.rest _ hb02.size)))
theorem c70b {x y : QL} (hu : QuorV w (agQ x.1) x.2) (hv : QuorV w (agQ y.1) y.2) (hl : x.2.2.length ≤ maxLen) (hk : ∀ w', Below w.heap.size w w' → k (I (cmpQL x y)) w') : callW Tryz.prog (.func (.func 70) #[] #[]) #[.agg (fQL.e x).toArray, .agg (fQL.e y).toArray] k w := c70 hu hv hl hk
theorem c71 {x y : QL} (hk : ∀ w', Below w.heap.size w w' → k (.agg (fQL.e x).toArray) w') : callW Tryz.prog (.func (.func 71) #[] #[]) #[.agg (fQL.e x).toArray, .agg (fQL.e y).toArray] k w := C71 _ _ _ _ (by
  unfold S71
  refine w_boxN fun w1 hb1 hsz1 hr1 => ?_
  replace hr1 : RowAt w1 w.heap.size 87 (fQL.e x) := hr1
  refine w_boxN fun w2 hb2 hsz2 hr2 => ?_
  have hb02 := below_trans hb1 hb2
  refine al87 fun w3 hb3 hsz3 hr3 => ?_
  have hb03 := below_trans hb02 hb3
  rw [ld87 (fQL.len x) ((hr1.below hb2).below hb3).cells]
  refine sr87 (vs := fQL.e x) (fQL.len x) hr3 rfl (oneQL x) fun w4 ho4 hr4 => ?_
  rw [rc87 (fQL.len x) hr4.cells]
  exact hk _ (hb03.trans (ho4.rest _ hb02.size)))

theorem c63 {u v : Value} {l m : List Int} (hu : IsSl fI w u l) (hv : IsSl fI w v m) (hl : l.length ≤ 1000) (hm : m.length ≤ 1000) (oku : ∀ x ∈ l, True) (okv : ∀ x ∈ m, True) (hk : ∀ o w', Below w.heap.size w w' → Mine fI 3 w' w.heap.size o (mergeU cmpI (fun x _ => x) l m) → k o w') : callW Tryz.prog (.func (.func 63) #[] #[]) #[u, v, .func (.func 64) #[] #[], .func (.func 65) #[] #[]] k w := C63 _ _ _ _ _ _ (by
  unfold S63
  have hml : 1000000 ≤ maxLen := by decide
  have hml2 : maxLen ≤ 9223372036854775807 := by decide
  refine Loop3.intro (fun n a b o w' => ∃ la lb lo, n = la.length + lb.length ∧ Below w.heap.size w w' ∧ IsSl fI w a la ∧ IsSl fI w b lb ∧ Mine fI 3 w' w.heap.size o lo ∧ lo ++ mergeU cmpI (fun x _ => x) la lb = mergeU cmpI (fun x _ => x) l m ∧ lo.length + la.length + lb.length ≤ 2000 ∧ (∀ x ∈ la, True) ∧ (∀ x ∈ lb, True)) _ ⟨l, m, [], rfl, Below.refl _ _, hu, hv, Mine.nil _ _, rfl, by simp; omega, oku, okv⟩ ?_
  rintro n a b o w1 ⟨la, lb, lo, rfl, hb1, ha, hb, ho, he, hlen, oka, okb⟩
  have fin : (la = [] ∨ lb = []) → opW Tryz.prog (Builtin.append_ #[25, 25] 25 #[o, a]) (fun t66 w => opW Tryz.prog (Builtin.append_ #[25, 25] 25 #[t66, b]) (fun t68 w => k t68 w) w) w1 := fun h => by
    refine Mine.append (F := fI) sty25 (fun x => oneI x) ho (ha.below hb1) hb1.size (by omega) (by omega) fun o2 w2 hm2 hb2 _ _ => ?_
    have hb12 := hb1.trans hb2
    refine Mine.append (F := fI) sty25 (fun x => oneI x) hm2 (hb.below hb12) hb12.size (by simp; omega) (by simp; omega) fun o3 w3 hm3 hb3 _ _ => ?_
    refine hk _ _ (hb12.trans hb3) ?_
    have hee : lo ++ la ++ lb = mergeU cmpI (fun x _ => x) l m := by
      rw [← he]
      rcases h with rfl | rfl
      · rw [mergeU_nil]; simp
      · rw [mergeU_nilr]; simp
    rw [← hee]; exact hm3
  rw [len25 (ha.below hb1), w_gtr]
  cases la with
  | nil =>
    rw [decide_eq_false (by simp)]
    simp only [guardW_ft, guardW_u, pickW_false, condW_false]
    exact fin (.inl rfl)
  | cons x la =>
    rw [decide_eq_true (by simp)]
    simp only [guardW_tt]
    rw [len25 (hb.below hb1), w_gtr]
    cases lb with
    | nil =>
      rw [decide_eq_false (by simp)]
      simp only [pickW_true, condW_false]
      exact fin (.inr rfl)
    | cons y lb =>
      clear fin
      rw [decide_eq_true (by simp)]
      simp only [pickW_true, condW_true]
      rw [drewW_eq]
      replace ho := ho.below (below_drew w1)
      replace hb1 := below_trans hb1 (below_drew w1)
      generalize w1.drew = w1 at *
      have okx := oka x (by simp)
      have oky := okb y (by simp)
      rw [gt25 (F := fI) (i := 0) rfl (ha.below hb1) (by decide) rfl rfl, gt25 (F := fI) (i := 0) rfl (hb.below hb1) (by decide) rfl rfl]
      refine c64b fun w2 hb2 => ?_
      have ho2 := ho.below hb2
      have hb02 := below_trans hb1 hb2
      simp only [List.length_cons] at hlen
      refine joinW_use3 (fun a' b' o' w' => ∃ n', n' < (x :: la).length + (y :: lb).length ∧ ∃ la lb lo, n' = la.length + lb.length ∧ Below w.heap.size w w' ∧ IsSl fI w a' la ∧ IsSl fI w b' lb ∧ Mine fI 3 w' w.heap.size o' lo ∧ lo ++ mergeU cmpI (fun x _ => x) la lb = mergeU cmpI (fun x _ => x) l m ∧ lo.length + la.length + lb.length ≤ 2000 ∧ (∀ x ∈ la, True) ∧ (∀ x ∈ lb, True)) ?_ ?_
      · rintro a' b' o' w' h
        rw [loopK_self]; exact h
      intro J hJ
      rw [w_lss]
      by_cases h1 : cmpI x y < 0
      · rw [decide_eq_true h1, condW_true, drewW_eq]
        have hbd := below_trans hb02 (below_drew w2)
        replace ho2 := ho2.below (below_drew w2)
        generalize w2.drew = w2 at *
        refine ⟨Off (fun b => w.heap.size ≤ b) w, Off.below hbd, ?_⟩
        rw [getB25 ha hbd]
        refine t_from1S (F := fI) (by kernel_rfl) (by kernel_rfl) (by kernel_rfl) ha fun a' ha' => ?_
        refine Mine.push (F := fI) (x := x) sty25 (oneI x) (rfl) (by decide) ho2 hbd.size (by omega) (by omega) fun o3 w3 hm3 hb3 _ _ => ?_
        rw [keepS_eq]
        refine ⟨Off.below (hbd.trans hb3), hJ _ _ _ _ ⟨la.length + (y :: lb).length, by simp, la, y :: lb, lo ++ [x], rfl, hbd.trans hb3, ha', hb, hm3, ?_, by simp; omega, fun z hz => oka z (by simp [hz]), okb⟩⟩
        rw [← he, mergeU_lt h1]; simp
      · rw [decide_eq_false h1, condW_false, w_gtr]
        by_cases h2 : 0 < cmpI x y
        · rw [decide_eq_true h2, condW_true, drewW_eq]
          have hbd := below_trans hb02 (below_drew w2)
          replace ho2 := ho2.below (below_drew w2)
          generalize w2.drew = w2 at *
          refine ⟨Off (fun b => w.heap.size ≤ b) w, Off.below hbd, ?_⟩
          rw [getB25 hb hbd]
          refine t_from1S (F := fI) (by kernel_rfl) (by kernel_rfl) (by kernel_rfl) hb fun b' hb' => ?_
          refine Mine.push (F := fI) (x := y) sty25 (oneI y) (rfl) (by decide) ho2 hbd.size (by omega) (by omega) fun o3 w3 hm3 hb3 _ _ => ?_
          rw [keepS_eq]
          refine ⟨Off.below (hbd.trans hb3), hJ _ _ _ _ ⟨(x :: la).length + lb.length, by simp, x :: la, lb, lo ++ [y], rfl, hbd.trans hb3, ha, hb', hm3, ?_, by simp; omega, oka, fun z hz => okb z (by simp [hz])⟩⟩
          rw [← he, mergeU_gt h2]; simp
        · have h3 : cmpI x y = 0 := by omega
          rw [decide_eq_false h2, condW_false, drewW_eq]
          have hbd := below_trans hb02 (below_drew w2)
          replace ho2 := ho2.below (below_drew w2)
          generalize w2.drew = w2 at *
          refine ⟨Off (fun b => w.heap.size ≤ b) w, Off.below hbd, ?_⟩
          rw [getB25 ha hbd, getB25 hb hbd]
          refine t_from1S (F := fI) (by kernel_rfl) (by kernel_rfl) (by kernel_rfl) ha fun a' ha' => ?_
          refine t_from1S (F := fI) (by kernel_rfl) (by kernel_rfl) (by kernel_rfl) hb fun b' hb' => ?_
          refine c65 fun w3 hb3 => ?_
          have hb03 := below_trans hbd hb3
          have ho3 := ho2.below hb3
          refine Mine.pushS (F := fI) (x := (fun x _ => x) x y) sty25 (oneI ((fun x _ => x) x y)) (rfl) (by decide) ho3 hb03.size (by omega) (by omega) (fun w' h => Off.below (below_trans hb03 h)) fun o4 w4 hm4 hb4 _ _ => ⟨Off.below (hb03.trans hb4), ?_⟩
          refine hJ _ _ _ _ ⟨la.length + lb.length, by simp; omega, la, lb, lo ++ [(fun x _ => x) x y], rfl, hb03.trans hb4, ha', hb', hm4, ?_, by simp; omega, fun z hz => oka z (by simp [hz]), fun z hz => okb z (by simp [hz])⟩
          rw [← he, mergeU_eq h3]; simp)

theorem c66 {u v : Value} {l m : List CW} (hu : IsSl fC w u l) (hv : IsSl fC w v m) (hl : l.length ≤ 1000) (hm : m.length ≤ 1000) (oku : ∀ x ∈ l, True) (okv : ∀ x ∈ m, True) (hk : ∀ o w', Below w.heap.size w w' → Mine fC 121 w' w.heap.size o (mergeU cmpC addC l m) → k o w') : callW Tryz.prog (.func (.func 66) #[] #[]) #[u, v, .func (.func 67) #[] #[], .func (.func 68) #[] #[]] k w := C66 _ _ _ _ _ _ (by
  unfold S66
  have hml : 1000000 ≤ maxLen := by decide
  have hml2 : maxLen ≤ 9223372036854775807 := by decide
  refine Loop3.intro (fun n a b o w' => ∃ la lb lo, n = la.length + lb.length ∧ Below w.heap.size w w' ∧ IsSl fC w a la ∧ IsSl fC w b lb ∧ Mine fC 121 w' w.heap.size o lo ∧ lo ++ mergeU cmpC addC la lb = mergeU cmpC addC l m ∧ lo.length + la.length + lb.length ≤ 2000 ∧ (∀ x ∈ la, True) ∧ (∀ x ∈ lb, True)) _ ⟨l, m, [], rfl, Below.refl _ _, hu, hv, Mine.nil _ _, rfl, by simp; omega, oku, okv⟩ ?_
  rintro n a b o w1 ⟨la, lb, lo, rfl, hb1, ha, hb, ho, he, hlen, oka, okb⟩
  have fin : (la = [] ∨ lb = []) → opW Tryz.prog (Builtin.append_ #[26, 26] 26 #[o, a]) (fun t66 w => opW Tryz.prog (Builtin.append_ #[26, 26] 26 #[t66, b]) (fun t68 w => k t68 w) w) w1 := fun h => by
    refine Mine.append (F := fC) sty26 (fun x => oneCt x) ho (ha.below hb1) hb1.size (by omega) (by omega) fun o2 w2 hm2 hb2 _ _ => ?_
    have hb12 := hb1.trans hb2
    refine Mine.append (F := fC) sty26 (fun x => oneCt x) hm2 (hb.below hb12) hb12.size (by simp; omega) (by simp; omega) fun o3 w3 hm3 hb3 _ _ => ?_
    refine hk _ _ (hb12.trans hb3) ?_
    have hee : lo ++ la ++ lb = mergeU cmpC addC l m := by
      rw [← he]
      rcases h with rfl | rfl
      · rw [mergeU_nil]; simp
      · rw [mergeU_nilr]; simp
    rw [← hee]; exact hm3
  rw [len26 (ha.below hb1), w_gtr]
  cases la with
  | nil =>
    rw [decide_eq_false (by simp)]
    simp only [guardW_ft, guardW_u, pickW_false, condW_false]
    exact fin (.inl rfl)
  | cons x la =>
    rw [decide_eq_true (by simp)]
    simp only [guardW_tt]
    rw [len26 (hb.below hb1), w_gtr]
    cases lb with
    | nil =>
      rw [decide_eq_false (by simp)]
      simp only [pickW_true, condW_false]
      exact fin (.inr rfl)
    | cons y lb =>
      clear fin
      rw [decide_eq_true (by simp)]
      simp only [pickW_true, condW_true]
      rw [drewW_eq]
      replace ho := ho.below (below_drew w1)
      replace hb1 := below_trans hb1 (below_drew w1)
      generalize w1.drew = w1 at *
      have okx := oka x (by simp)
      have oky := okb y (by simp)
      rw [getT0 eC (ha.below hb1), getT0 eC (hb.below hb1)]
      refine c67 fun w2 hb2 => ?_
      have ho2 := ho.below hb2
      have hb02 := below_trans hb1 hb2
      simp only [List.length_cons] at hlen
      refine joinW_use3 (fun a' b' o' w' => ∃ n', n' < (x :: la).length + (y :: lb).length ∧ ∃ la lb lo, n' = la.length + lb.length ∧ Below w.heap.size w w' ∧ IsSl fC w a' la ∧ IsSl fC w b' lb ∧ Mine fC 121 w' w.heap.size o' lo ∧ lo ++ mergeU cmpC addC la lb = mergeU cmpC addC l m ∧ lo.length + la.length + lb.length ≤ 2000 ∧ (∀ x ∈ la, True) ∧ (∀ x ∈ lb, True)) ?_ ?_
      · rintro a' b' o' w' h
        rw [loopK_self]; exact h
      intro J hJ
      rw [w_lss]
      by_cases h1 : cmpC x y < 0
      · rw [decide_eq_true h1, condW_true, drewW_eq]
        have hbd := below_trans hb02 (below_drew w2)
        replace ho2 := ho2.below (below_drew w2)
        generalize w2.drew = w2 at *
        refine ⟨Off (fun b => w.heap.size ≤ b) w, Off.below hbd, ?_⟩
        rw [getBA eC ha hbd]
        refine t_from1S (F := fC) (by kernel_rfl) (by kernel_rfl) (by kernel_rfl) ha fun a' ha' => ?_
        refine Mine.push (F := fC) (x := x) sty26 (oneCt x) (rfl) (by decide) ho2 hbd.size (by omega) (by omega) fun o3 w3 hm3 hb3 _ _ => ?_
        rw [keepS_eq]
        refine ⟨Off.below (hbd.trans hb3), hJ _ _ _ _ ⟨la.length + (y :: lb).length, by simp, la, y :: lb, lo ++ [x], rfl, hbd.trans hb3, ha', hb, hm3, ?_, by simp; omega, fun z hz => oka z (by simp [hz]), okb⟩⟩
        rw [← he, mergeU_lt h1]; simp
      · rw [decide_eq_false h1, condW_false, w_gtr]
        by_cases h2 : 0 < cmpC x y
        · rw [decide_eq_true h2, condW_true, drewW_eq]
          have hbd := below_trans hb02 (below_drew w2)
          replace ho2 := ho2.below (below_drew w2)
          generalize w2.drew = w2 at *
          refine ⟨Off (fun b => w.heap.size ≤ b) w, Off.below hbd, ?_⟩
          rw [getBA eC hb hbd]
          refine t_from1S (F := fC) (by kernel_rfl) (by kernel_rfl) (by kernel_rfl) hb fun b' hb' => ?_
          refine Mine.push (F := fC) (x := y) sty26 (oneCt y) (rfl) (by decide) ho2 hbd.size (by omega) (by omega) fun o3 w3 hm3 hb3 _ _ => ?_
          rw [keepS_eq]
          refine ⟨Off.below (hbd.trans hb3), hJ _ _ _ _ ⟨(x :: la).length + lb.length, by simp, x :: la, lb, lo ++ [y], rfl, hbd.trans hb3, ha, hb', hm3, ?_, by simp; omega, oka, fun z hz => okb z (by simp [hz])⟩⟩
          rw [← he, mergeU_gt h2]; simp
        · have h3 : cmpC x y = 0 := by omega
          rw [decide_eq_false h2, condW_false, drewW_eq]
          have hbd := below_trans hb02 (below_drew w2)
          replace ho2 := ho2.below (below_drew w2)
          generalize w2.drew = w2 at *
          refine ⟨Off (fun b => w.heap.size ≤ b) w, Off.below hbd, ?_⟩
          rw [getBA eC ha hbd, getBA eC hb hbd]
          refine t_from1S (F := fC) (by kernel_rfl) (by kernel_rfl) (by kernel_rfl) ha fun a' ha' => ?_
          refine t_from1S (F := fC) (by kernel_rfl) (by kernel_rfl) (by kernel_rfl) hb fun b' hb' => ?_
          refine c68 fun w3 hb3 => ?_
          have hb03 := below_trans hbd hb3
          have ho3 := ho2.below hb3
          refine Mine.pushS (F := fC) (x := addC x y) sty26 (oneCt (addC x y)) (rfl) (by decide) ho3 hb03.size (by omega) (by omega) (fun w' h => Off.below (below_trans hb03 h)) fun o4 w4 hm4 hb4 _ _ => ⟨Off.below (hb03.trans hb4), ?_⟩
          refine hJ _ _ _ _ ⟨la.length + lb.length, by simp; omega, la, lb, lo ++ [addC x y], rfl, hb03.trans hb4, ha', hb', hm4, ?_, by simp; omega, fun z hz => oka z (by simp [hz]), fun z hz => okb z (by simp [hz])⟩
          rw [← he, mergeU_eq h3]; simp)

theorem c69 {u v : Value} {l m : List QL} (hu : IsSl fQL w u l) (hv : IsSl fQL w v m) (hl : l.length ≤ 1000) (hm : m.length ≤ 1000) (oku : ∀ x ∈ l, QuorV w (agQ x.1) x.2 ∧ x.2.2.length ≤ maxLen) (okv : ∀ x ∈ m, QuorV w (agQ x.1) x.2 ∧ x.2.2.length ≤ maxLen) (hk : ∀ o w', Below w.heap.size w w' → Mine fQL 87 w' w.heap.size o (mergeU cmpQL (fun x _ => x) l m) → k o w') : callW Tryz.prog (.func (.func 69) #[] #[]) #[u, v, .func (.func 70) #[] #[], .func (.func 71) #[] #[]] k w := C69 _ _ _ _ _ _ (by
  unfold S69
  have hml : 1000000 ≤ maxLen := by decide
  have hml2 : maxLen ≤ 9223372036854775807 := by decide
  refine Loop3.intro (fun n a b o w' => ∃ la lb lo, n = la.length + lb.length ∧ Below w.heap.size w w' ∧ IsSl fQL w a la ∧ IsSl fQL w b lb ∧ Mine fQL 87 w' w.heap.size o lo ∧ lo ++ mergeU cmpQL (fun x _ => x) la lb = mergeU cmpQL (fun x _ => x) l m ∧ lo.length + la.length + lb.length ≤ 2000 ∧ (∀ x ∈ la, QuorV w (agQ x.1) x.2 ∧ x.2.2.length ≤ maxLen) ∧ (∀ x ∈ lb, QuorV w (agQ x.1) x.2 ∧ x.2.2.length ≤ maxLen)) _ ⟨l, m, [], rfl, Below.refl _ _, hu, hv, Mine.nil _ _, rfl, by simp; omega, oku, okv⟩ ?_
  rintro n a b o w1 ⟨la, lb, lo, rfl, hb1, ha, hb, ho, he, hlen, oka, okb⟩
  have fin : (la = [] ∨ lb = []) → opW Tryz.prog (Builtin.append_ #[59, 59] 59 #[o, a]) (fun t66 w => opW Tryz.prog (Builtin.append_ #[59, 59] 59 #[t66, b]) (fun t68 w => k t68 w) w) w1 := fun h => by
    refine Mine.append (F := fQL) sty59 (fun x => oneQL x) ho (ha.below hb1) hb1.size (by omega) (by omega) fun o2 w2 hm2 hb2 _ _ => ?_
    have hb12 := hb1.trans hb2
    refine Mine.append (F := fQL) sty59 (fun x => oneQL x) hm2 (hb.below hb12) hb12.size (by simp; omega) (by simp; omega) fun o3 w3 hm3 hb3 _ _ => ?_
    refine hk _ _ (hb12.trans hb3) ?_
    have hee : lo ++ la ++ lb = mergeU cmpQL (fun x _ => x) l m := by
      rw [← he]
      rcases h with rfl | rfl
      · rw [mergeU_nil]; simp
      · rw [mergeU_nilr]; simp
    rw [← hee]; exact hm3
  rw [len59 (ha.below hb1), w_gtr]
  cases la with
  | nil =>
    rw [decide_eq_false (by simp)]
    simp only [guardW_ft, guardW_u, pickW_false, condW_false]
    exact fin (.inl rfl)
  | cons x la =>
    rw [decide_eq_true (by simp)]
    simp only [guardW_tt]
    rw [len59 (hb.below hb1), w_gtr]
    cases lb with
    | nil =>
      rw [decide_eq_false (by simp)]
      simp only [pickW_true, condW_false]
      exact fin (.inr rfl)
    | cons y lb =>
      clear fin
      rw [decide_eq_true (by simp)]
      simp only [pickW_true, condW_true]
      rw [drewW_eq]
      replace ho := ho.below (below_drew w1)
      replace hb1 := below_trans hb1 (below_drew w1)
      generalize w1.drew = w1 at *
      have okx := oka x (by simp)
      have oky := okb y (by simp)
      rw [getT0 eQL (ha.below hb1), getT0 eQL (hb.below hb1)]
      refine c70b (okx.1.below hb1) (oky.1.below hb1) okx.2 fun w2 hb2 => ?_
      have ho2 := ho.below hb2
      have hb02 := below_trans hb1 hb2
      simp only [List.length_cons] at hlen
      refine joinW_use3 (fun a' b' o' w' => ∃ n', n' < (x :: la).length + (y :: lb).length ∧ ∃ la lb lo, n' = la.length + lb.length ∧ Below w.heap.size w w' ∧ IsSl fQL w a' la ∧ IsSl fQL w b' lb ∧ Mine fQL 87 w' w.heap.size o' lo ∧ lo ++ mergeU cmpQL (fun x _ => x) la lb = mergeU cmpQL (fun x _ => x) l m ∧ lo.length + la.length + lb.length ≤ 2000 ∧ (∀ x ∈ la, QuorV w (agQ x.1) x.2 ∧ x.2.2.length ≤ maxLen) ∧ (∀ x ∈ lb, QuorV w (agQ x.1) x.2 ∧ x.2.2.length ≤ maxLen)) ?_ ?_
      · rintro a' b' o' w' h
        rw [loopK_self]; exact h
      intro J hJ
      rw [w_lss]
      by_cases h1 : cmpQL x y < 0
      · rw [decide_eq_true h1, condW_true, drewW_eq]
        have hbd := below_trans hb02 (below_drew w2)
        replace ho2 := ho2.below (below_drew w2)
        generalize w2.drew = w2 at *
        refine ⟨Off (fun b => w.heap.size ≤ b) w, Off.below hbd, ?_⟩
        rw [getBA eQL ha hbd]
        refine t_from1S (F := fQL) (by kernel_rfl) (by kernel_rfl) (by kernel_rfl) ha fun a' ha' => ?_
        refine Mine.push (F := fQL) (x := x) sty59 (oneQL x) (rfl) (by decide) ho2 hbd.size (by omega) (by omega) fun o3 w3 hm3 hb3 _ _ => ?_
        rw [keepS_eq]
        refine ⟨Off.below (hbd.trans hb3), hJ _ _ _ _ ⟨la.length + (y :: lb).length, by simp, la, y :: lb, lo ++ [x], rfl, hbd.trans hb3, ha', hb, hm3, ?_, by simp; omega, fun z hz => oka z (by simp [hz]), okb⟩⟩
        rw [← he, mergeU_lt h1]; simp
      · rw [decide_eq_false h1, condW_false, w_gtr]
        by_cases h2 : 0 < cmpQL x y
        · rw [decide_eq_true h2, condW_true, drewW_eq]
          have hbd := below_trans hb02 (below_drew w2)
          replace ho2 := ho2.below (below_drew w2)
          generalize w2.drew = w2 at *
          refine ⟨Off (fun b => w.heap.size ≤ b) w, Off.below hbd, ?_⟩
          rw [getBA eQL hb hbd]
          refine t_from1S (F := fQL) (by kernel_rfl) (by kernel_rfl) (by kernel_rfl) hb fun b' hb' => ?_
          refine Mine.push (F := fQL) (x := y) sty59 (oneQL y) (rfl) (by decide) ho2 hbd.size (by omega) (by omega) fun o3 w3 hm3 hb3 _ _ => ?_
          rw [keepS_eq]
          refine ⟨Off.below (hbd.trans hb3), hJ _ _ _ _ ⟨(x :: la).length + lb.length, by simp, x :: la, lb, lo ++ [y], rfl, hbd.trans hb3, ha, hb', hm3, ?_, by simp; omega, oka, fun z hz => okb z (by simp [hz])⟩⟩
          rw [← he, mergeU_gt h2]; simp
        · have h3 : cmpQL x y = 0 := by omega
          rw [decide_eq_false h2, condW_false, drewW_eq]
          have hbd := below_trans hb02 (below_drew w2)
          replace ho2 := ho2.below (below_drew w2)
          generalize w2.drew = w2 at *
          refine ⟨Off (fun b => w.heap.size ≤ b) w, Off.below hbd, ?_⟩
          rw [getBA eQL ha hbd, getBA eQL hb hbd]
          refine t_from1S (F := fQL) (by kernel_rfl) (by kernel_rfl) (by kernel_rfl) ha fun a' ha' => ?_
          refine t_from1S (F := fQL) (by kernel_rfl) (by kernel_rfl) (by kernel_rfl) hb fun b' hb' => ?_
          refine c71 fun w3 hb3 => ?_
          have hb03 := below_trans hbd hb3
          have ho3 := ho2.below hb3
          refine Mine.pushS (F := fQL) (x := (fun x _ => x) x y) sty59 (oneQL ((fun x _ => x) x y)) (rfl) (by decide) ho3 hb03.size (by omega) (by omega) (fun w' h => Off.below (below_trans hb03 h)) fun o4 w4 hm4 hb4 _ _ => ⟨Off.below (hb03.trans hb4), ?_⟩
          refine hJ _ _ _ _ ⟨la.length + lb.length, by simp; omega, la, lb, lo ++ [(fun x _ => x) x y], rfl, hb03.trans hb4, ha', hb', hm4, ?_, by simp; omega, fun z hz => oka z (by simp [hz]), fun z hz => okb z (by simp [hz])⟩
          rw [← he, mergeU_eq h3]; simp)

end
end Go.Proofs.YtfkfkldhcignbaaGreatDoor
/- Join, walked. -/
set_option linter.unusedSimpArgs false
set_option linter.unusedVariables false
set_option maxRecDepth 4000
namespace Go.Proofs.YtfkfkldhcignbaaGreatDoor
open Go Go.V Go.RowKit
def joinL (a b : Lab) : Lab := ⟨if b.til > a.til then b.til else a.til, mergeU cmpI (fun x _ => x) a.ev b.ev, mergeU cmpC addC a.ct b.ct, ((a.terr.toNat &&& b.terr.toNat : Nat) : Int), ((a.cls.toNat &&& b.cls.toNat : Nat) : Int), mergeU cmpQ (fun x _ => x) a.locks b.locks⟩
theorem mergeU_map {l m : List QL} : (mergeU cmpQL (fun x _ => x) l m).map Prod.snd = mergeU cmpQ (fun x _ => x) (l.map Prod.snd) (m.map Prod.snd) := by
  refine mergeU_ind (cmp := cmpQL) (C := fun l m => (mergeU cmpQL (fun x _ => x) l m).map Prod.snd = mergeU cmpQ (fun x _ => x) (l.map Prod.snd) (m.map Prod.snd)) (fun b => ?_) (fun a => ?_) (fun x y a b h ih => ?_) (fun x y a b h ih => ?_) (fun x y a b h ih => ?_) _ l m (Nat.le_refl _)
  · rw [mergeU_nil]; simp [mergeU_nil]
  · rw [mergeU_nilr]; simp [mergeU_nilr]
  · rw [mergeU_lt h]; simp only [List.map_cons] at *; rw [mergeU_lt (show cmpQ x.2 y.2 < 0 from h), ih]
  · rw [mergeU_gt h]; simp only [List.map_cons] at *; rw [mergeU_gt (show 0 < cmpQ x.2 y.2 from h), ih]
  · rw [mergeU_eq h]; simp only [List.map_cons] at *; rw [mergeU_eq (show cmpQ x.2 y.2 = 0 from h), ih]
theorem flatQL : ∀ l : List QL, flat fQL l = flat fQW (l.map Prod.fst)
  | [] => rfl
  | x :: l => by show fQW.e x.1 ++ flat fQL l = fQW.e x.1 ++ flat fQW (l.map Prod.fst); rw [flatQL l]
theorem Mine.ofQL {w : World} {B : Nat} {v : Value} {l : List QL} (h : Mine fQL 87 w B v l) : Mine fQW 87 w B v (l.map Prod.fst) := by
  unfold Mine at *
  rw [List.length_map, ← flatQL]; exact h
theorem sl_zip {w : World} {v : Value} {xs : List QW} {ls : List Lock} (h : IsSl fQW w v xs) (hl : xs.length = ls.length) : IsSl fQL w v (xs.zip ls) := by
  obtain ⟨a, c, rfl, hc, hx⟩ := h
  have hz : (xs.zip ls).length = xs.length := by rw [List.length_zip]; omega
  refine ⟨a, c, by rw [hz], by rw [hz]; exact hc, fun i x hi => ?_⟩
  obtain ⟨x, p⟩ := x
  rw [List.getElem?_zip_eq_some] at hi
  exact hx i x hi.1
theorem zip_fst {xs : List QW} {ls : List Lock} (hl : xs.length = ls.length) : (xs.zip ls).map Prod.snd = ls := List.map_snd_zip (by omega)
theorem zip_ok {w : World} {xs : List QW} {ls : List Lock} (h : LocksX w xs ls) (hl : ∀ q ∈ ls, q.2.length ≤ maxLen) : ∀ x ∈ xs.zip ls, QuorV w (agQ x.1) x.2 ∧ x.2.2.length ≤ maxLen := fun x hx => by
  obtain ⟨i, hi⟩ := List.getElem?_of_mem hx
  obtain ⟨x, p⟩ := x
  rw [List.getElem?_zip_eq_some] at hi
  exact ⟨h.2 i x p hi.1 hi.2, hl p (List.mem_of_getElem? hi.2)⟩
theorem joinL_locks {a b : Lab} (ha : LocksP a.locks) (hb : LocksP b.locks) : LocksP (joinL a b).locks := by
  refine LocksP.of (mergeU_pair (R := fun a b => cmpQ a b < 0) (fun _ _ _ => cmpQ_tr) (fun _ _ h => h) (fun _ _ h => cmpQ_anti h) (fun x y h z => ?_) _ _ ha.pair hb.pair) fun q hq => ?_
  · obtain rfl := cmpQ_eq.1 h
    exact ⟨fun h => h, fun h => h, fun h => h⟩
  · rcases mergeU_mem _ _ q hq with h | h | ⟨x, h, y, _, _, rfl⟩
    · exact ha.mem h
    · exact hb.mem h
    · exact ha.mem h
theorem cmpI_eq {x y : Int} (h : cmpI x y = 0) : x = y := by
  unfold cmpI at h
  split at h
  · omega
  · split at h
    · omega
    · omega
theorem cmpI_lt {x y : Int} (h : cmpI x y < 0) : x < y := by
  unfold cmpI at h
  split at h
  · assumption
  · split at h <;> omega
theorem cmpI_gt {x y : Int} (h : 0 < cmpI x y) : y < x := by
  unfold cmpI at h
  split at h
  · omega
  · split at h
    · assumption
    · omega
theorem joinL_ev {a b : Lab} (ha : RisingP a.ev 19) (hb : RisingP b.ev 19) : RisingP (joinL a b).ev 19 := by
  refine RisingP.of (mergeU_pair (R := (· < ·)) (fun _ _ _ h1 h2 => by omega) (fun _ _ h => cmpI_lt h) (fun _ _ h => cmpI_gt h) (fun x y h z => ?_) _ _ ha.pair hb.pair) fun q hq => ?_
  · obtain rfl := cmpI_eq h
    exact ⟨fun h => h, fun h => h, fun h => h⟩
  · rcases mergeU_mem _ _ q hq with h | h | ⟨x, h, y, _, _, rfl⟩
    · exact ha.mem h
    · exact hb.mem h
    · exact ha.mem h
theorem joinL_ct {a b : Lab} (ha : CountsP a.ct 1) (hb : CountsP b.ct 1) : CountsP (joinL a b).ct 1 := by
  refine CountsP.of (mergeU_pair (R := fun a b : CW => a.fact < b.fact) (fun _ _ _ h1 h2 => by omega) (fun _ _ h => cmpI_lt h) (fun _ _ h => cmpI_gt h) (fun x y h z => ?_) _ _ ha.pair hb.pair) fun q hq => ?_
  · have := cmpI_eq h
    exact ⟨fun h => h, fun h => h, fun h => by show x.fact < z.fact; omega⟩
  · rcases mergeU_mem _ _ q hq with h | h | ⟨x, h, y, h2, _, rfl⟩
    · exact ha.mem h
    · exact hb.mem h
    · have h3 := ha.mem h
      have h4 := hb.mem h2
      refine ⟨h3.1, ?_⟩
      show 1 ≤ (if y.count > x.count then y.count else x.count) ∧ (if y.count > x.count then y.count else x.count) ≤ 12
      split <;> omega
theorem and_le {a b : Int} (ha : 0 ≤ a ∧ a ≤ 255) : 0 ≤ ((a.toNat &&& b.toNat : Nat) : Int) ∧ ((a.toNat &&& b.toNat : Nat) : Int) ≤ 255 := by
  have := Nat.and_le_left (n := a.toNat) (m := b.toNat)
  omega
theorem joinL_valid {a b : Lab} (ha : ValidLab a) (hb : ValidLab b) (hl : a.locks.length + b.locks.length ≤ 4) : ValidLab (joinL a b) := by
  refine ⟨?_, and_le ha.2.1, and_le ha.2.2.1, Nat.le_trans (mergeU_len _ _) hl, joinL_locks ha.2.2.2.2.1 hb.2.2.2.2.1, joinL_ev ha.2.2.2.2.2.1 hb.2.2.2.2.2.1, joinL_ct ha.2.2.2.2.2.2 hb.2.2.2.2.2.2⟩
  have h1 := ha.1
  have h2 := hb.1
  show 0 ≤ (if b.til > a.til then b.til else a.til) ∧ (if b.til > a.til then b.til else a.til) ≤ 50000000
  split <;> omega
section
variable {k : Value → World → Prop} {w : World}
theorem b61_034 {a c d : Int} : opW Tryz.prog (Instr.build 61 #[(0, I a), (3, I c), (4, I d)]) k w = k (.agg ([I a, nS, nS, I c, I d, nS] : List Value).toArray) w := opW_ok (by kernel_rfl)
set_option maxHeartbeats 2000000 in
theorem c33 {u v : Value} {A B : Lab} (hA : LabV w u A) (hB : LabV w v B) (vA : ValidLab A) (vB : ValidLab B) (okA : okLab A) (okB : okLab B) (hll : A.locks.length + B.locks.length ≤ 4)
    (hk : ∀ e c q xs w', Below w.heap.size w w' → LabM w.heap.size w' (joinL A B) e c q xs → k (.tuple #[.agg ([I (joinL A B).til, e, c, I (joinL A B).terr, I (joinL A B).cls, q] : List Value).toArray, I 0]) w') : callW Tryz.prog (.func (.func 33) #[] #[]) #[u, v] k w := C33 _ _ _ _ (by
  unfold S33
  have hml : 1000000 ≤ maxLen := by decide
  have hml2 : maxLen ≤ 9223372036854775807 := by decide
  have hVJ := joinL_valid vA vB hll
  obtain ⟨ea, ca, qa, rfl, hea, hca, xa, hqa, hxa⟩ := hA
  obtain ⟨eb, cb, qb, rfl, heb, hcb, xb, hqb, hxb⟩ := hB
  refine w_boxN (v := .agg #[I A.til, ea, ca, I A.terr, I A.cls, qa]) fun w1 hb1 hsz1 hra => ?_
  replace hra : RowAt w1 w.heap.size 61 [I A.til, ea, ca, I A.terr, I A.cls, qa] := hra
  refine w_boxN (v := .agg #[I B.til, eb, cb, I B.terr, I B.cls, qb]) fun w2 hb2 hsz2 hrb => ?_
  replace hrb : RowAt w2 w1.heap.size 61 [I B.til, eb, cb, I B.terr, I B.cls, qb] := hrb
  have hb02 := below_trans hb1 hb2
  refine al61 fun w3 hb3 hsz3 hr3 => ?_
  have hb03 := below_trans hb02 hb3
  have hra3 := (hra.below hb2).below hb3
  have hrb3 := hrb.below hb3
  rw [ld61 rfl hra3.cells]
  refine c48 (L := A) ⟨ea, ca, qa, rfl, hea.below hb03, hca.below hb03, xa, hqa.below hb03, hxa.below hb03⟩ okA fun b w4 hb4 h48 => ?_
  have hb04 := below_trans hb03 hb4
  rw [h48.2 vA]
  simp only [w_not, Bool.not_true, guardW_ff]
  rw [ld61 rfl (hrb3.below hb4).cells]
  refine c48 (L := B) ⟨eb, cb, qb, rfl, heb.below hb04, hcb.below hb04, xb, hqb.below hb04, hxb.below hb04⟩ okB fun b w5 hb5 h48 => ?_
  have hb05 := below_trans hb04 hb5
  have hb35 := below_trans hb4 hb5
  rw [h48.2 vB]
  simp only [w_not, Bool.not_true, pickW_false, condW_false]
  have hra5 := hra3.below hb35
  have hrb5 := hrb3.below hb35
  have hr5 := hr3.below hb35
  obtain ⟨ta, hta⟩ : ∃ n : Nat, A.terr = n := ⟨A.terr.toNat, by have := vA.2.1; omega⟩
  obtain ⟨tb, htb⟩ : ∃ n : Nat, B.terr = n := ⟨B.terr.toNat, by have := vB.2.1; omega⟩
  obtain ⟨la, hla⟩ : ∃ n : Nat, A.cls = n := ⟨A.cls.toNat, by have := vA.2.2.1; omega⟩
  obtain ⟨lb, hlb⟩ : ∃ n : Nat, B.cls = n := ⟨B.cls.toNat, by have := vB.2.2.1; omega⟩
  have r1 := vA.2.1
  have r2 := vB.2.1
  have r3 := vA.2.2.1
  have r4 := vB.2.2.1
  rw [rw61_0 (hra5.cell (i := 0) rfl), rw61_0 (hrb5.cell (i := 0) rfl), w_max, rw61_3 (hra5.cell (i := 0 + 3) rfl), rw61_3 (hrb5.cell (i := 0 + 3) rfl), hta, htb, w_and (by omega) (by omega), rw61_4 (hra5.cell (i := 0 + 4) rfl), rw61_4 (hrb5.cell (i := 0 + 4) rfl), hla, hlb, w_and (by omega) (by omega), b61_034]
  have ej1 : ((ta &&& tb : Nat) : Int) = (joinL A B).terr := by show _ = ((A.terr.toNat &&& B.terr.toNat : Nat) : Int); rw [hta, htb]; simp
  have ej2 : ((la &&& lb : Nat) : Int) = (joinL A B).cls := by show _ = ((A.cls.toNat &&& B.cls.toNat : Nat) : Int); rw [hla, hlb]; simp
  rw [ej1, ej2, show (if B.til > A.til then B.til else A.til) = (joinL A B).til from rfl]
  refine al61 fun w6 hb6 hsz6 hr6 => ?_
  refine sr61 (vs := [I (joinL A B).til, nS, nS, I (joinL A B).terr, I (joinL A B).cls, nS]) rfl hr6 rfl (by simp [Value.oneCell']) fun w7 ho7 hro => ?_
  obtain ⟨rb, hrbe⟩ : ∃ n, w2.heap.size = n := ⟨_, rfl⟩
  obtain ⟨ob, hobe⟩ : ∃ n, w5.heap.size = n := ⟨_, rfl⟩
  rw [hrbe] at hr5 ⊢
  rw [hobe] at hro ⊢
  have hb57 : Below w5.heap.size w5 w7 := hb6.trans (ho7.rest _ (Nat.le_refl _))
  have hb07 := below_trans hb05 hb57
  have hra7 := hra5.below hb57
  have hrb7 := hrb5.below hb57
  have hr7 := hr5.below hb57
  have hlt1 : rb < ob := by have := hr5.lt; omega
  have hlt0 : w.heap.size ≤ rb := by have := hb02.size; omega
  have hal : w.heap.size < ob := by omega
  have hbl : w1.heap.size < ob := by have := hrb5.lt; omega
  have hol : ob < w7.heap.size := hro.lt
  clear hr3 hra3 hrb3 hra hrb hra5 hrb5 hr5 hr6 hb6 ho7 hb57 hb35 hb5 hb4 hb3 hb2 hb1 hb02 hb03 hb04 hb05
  -- the events
  rw [rw61_1 (hra7.cell (i := 0 + 1) rfl), rw61_1 (hrb7.cell (i := 0 + 1) rfl)]
  have n1 := okA.1.1
  have n2 := okB.1.1
  have le1 := vA.2.2.2.2.2.1.len
  have le2 := vB.2.2.2.2.2.1.len
  have lc1 := vA.2.2.2.2.2.2.len
  have lc2 := vB.2.2.2.2.2.2.len
  refine c63 (hea.below hb07) (heb.below hb07) (by omega) (by omega) (fun _ _ => trivial) (fun _ _ => trivial) fun e8 w8 hb8 hme => ?_
  replace hme : Mine fI 3 w8 w7.heap.size e8 (joinL A B).ev := hme
  have hb08 := below_trans hb07 hb8
  obtain ⟨oa, oc, rfl, -⟩ := id hme.sl
  have hro8 := hro.below hb8
  rw [fl61_1, st25 rfl (hro8.cell (i := 0 + 1) rfl) (hro8.free _)]
  have hof : Off (fun y => y = ob) w8 (w8.setCell ⟨ob, 0 + 1, none⟩ (.slice oa (joinL A B).ev.length oc)) := Off.set rfl
  have hr9 : RowAt (w8.setCell ⟨ob, 0 + 1, none⟩ (.slice oa (joinL A B).ev.length oc)) ob 61 [I (joinL A B).til, .slice oa (joinL A B).ev.length oc, nS, I (joinL A B).terr, I (joinL A B).cls, nS] := hro8.set 1 _
  have hme9 := (hme.base (show ob + 1 ≤ w7.heap.size by omega)).apart hof (apRow hro8 (by decide))
  have hra9 := (hra7.below hb8).off hof (by omega)
  have hrb9 := (hrb7.below hb8).off hof (by omega)
  have hr29 := (hr7.below hb8).off hof (by omega)
  have hb09 : Below w.heap.size w (w8.setCell ⟨ob, 0 + 1, none⟩ (.slice oa (joinL A B).ev.length oc)) := hb08.setCell (by show w.heap.size ≤ ob; omega) _
  have hs9 : w7.heap.size ≤ (w8.setCell ⟨ob, 0 + 1, none⟩ (.slice oa (joinL A B).ev.length oc)).heap.size := Nat.le_trans hb8.size hof.size
  clear hra7 hrb7 hr7 hro hro8 hme hb8 hb07 hb08 hof
  generalize w8.setCell ⟨ob, 0 + 1, none⟩ (.slice oa (joinL A B).ev.length oc) = w9 at *
  -- the counts
  rw [rw61_2 (hra9.cell (i := 0 + 2) rfl), rw61_2 (hrb9.cell (i := 0 + 2) rfl)]
  refine c66 (hca.below hb09) (hcb.below hb09) (by omega) (by omega) (fun _ _ => trivial) (fun _ _ => trivial) fun c8 wa hba hmc => ?_
  replace hmc : Mine fC 121 wa w9.heap.size c8 (joinL A B).ct := hmc
  have hb0a := below_trans hb09 hba
  obtain ⟨pa, pc, rfl, -⟩ := id hmc.sl
  have hroa := hr9.below hba
  rw [fl61_2, st26 rfl (hroa.cell (i := 0 + 2) rfl) (hroa.free _)]
  have hof : Off (fun y => y = ob) wa (wa.setCell ⟨ob, 0 + 2, none⟩ (.slice pa (joinL A B).ct.length pc)) := Off.set rfl
  have hrob : RowAt (wa.setCell ⟨ob, 0 + 2, none⟩ (.slice pa (joinL A B).ct.length pc)) ob 61 [I (joinL A B).til, .slice oa (joinL A B).ev.length oc, .slice pa (joinL A B).ct.length pc, I (joinL A B).terr, I (joinL A B).cls, nS] := hroa.set 2 _
  have hmeb := (hme9.below hba).apart hof (apRow hroa (by decide))
  have hmcb := (hmc.base (show ob + 1 ≤ w9.heap.size by omega)).apart hof (apRow hroa (by decide))
  have hrab := (hra9.below hba).off hof (by omega)
  have hrbb := (hrb9.below hba).off hof (by omega)
  have hr2b := (hr29.below hba).off hof (by omega)
  have hb0b : Below w.heap.size w (wa.setCell ⟨ob, 0 + 2, none⟩ (.slice pa (joinL A B).ct.length pc)) := hb0a.setCell (by show w.heap.size ≤ ob; omega) _
  have hsb : w9.heap.size ≤ (wa.setCell ⟨ob, 0 + 2, none⟩ (.slice pa (joinL A B).ct.length pc)).heap.size := Nat.le_trans hba.size hof.size
  clear hra9 hrb9 hr29 hroa hr9 hme9 hmc hba hb09 hb0a hof
  generalize wa.setCell ⟨ob, 0 + 2, none⟩ (.slice pa (joinL A B).ct.length pc) = wb at *
  -- the locks
  rw [rw61_5 (hrab.cell (i := 0 + 5) rfl), rw61_5 (hrbb.cell (i := 0 + 5) rfl)]
  have hzl : ∀ {xs : List QW} {ls : List Lock}, xs.length = ls.length → (xs.zip ls).length = ls.length := fun h => by rw [List.length_zip]; omega
  refine c69 ((sl_zip hqa hxa.1).below hb0b) ((sl_zip hqb hxb.1).below hb0b) (by rw [hzl hxa.1]; omega) (by rw [hzl hxb.1]; omega) (fun x hx => ⟨(zip_ok hxa (fun q hq => (okA.2.2.2 q hq).1) x hx).1.below hb0b, (zip_ok hxa (fun q hq => (okA.2.2.2 q hq).1) x hx).2⟩) (fun x hx => ⟨(zip_ok hxb (fun q hq => (okB.2.2.2 q hq).1) x hx).1.below hb0b, (zip_ok hxb (fun q hq => (okB.2.2.2 q hq).1) x hx).2⟩) fun q8 wc hbc hmp => ?_
  obtain ⟨pl, hpl⟩ : ∃ pl, mergeU cmpQL (fun x _ => x) (xa.zip A.locks) (xb.zip B.locks) = pl := ⟨_, rfl⟩
  have hpok : ∀ x ∈ pl, QuorV w (agQ x.1) x.2 := fun x hx => by
    rw [← hpl] at hx
    rcases mergeU_mem _ _ x hx with h | h | ⟨x, h, _, _, _, rfl⟩
    · exact (zip_ok hxa (fun q hq => (okA.2.2.2 q hq).1) x h).1
    · exact (zip_ok hxb (fun q hq => (okB.2.2.2 q hq).1) x h).1
    · exact (zip_ok hxa (fun q hq => (okA.2.2.2 q hq).1) x h).1
  have hps : pl.map Prod.snd = (joinL A B).locks := by
    rw [← hpl, mergeU_map, zip_fst hxa.1, zip_fst hxb.1]; rfl
  rw [hpl] at hmp
  have hmq := Mine.ofQL hmp
  have hqx0 : ∀ (i : Nat) x p, (pl.map Prod.fst)[i]? = some x → (joinL A B).locks[i]? = some p → QuorV w (agQ x) p := fun i x p h1 h2 => by
    rw [← hps] at h2
    rw [List.getElem?_map, Option.map_eq_some_iff] at h1 h2
    obtain ⟨y, hy, rfl⟩ := h1
    obtain ⟨z, hz, rfl⟩ := h2
    rw [hy] at hz; cases hz
    exact hpok y (List.mem_of_getElem? hy)
  have hxl : (pl.map Prod.fst).length = (joinL A B).locks.length := by rw [← hps]; simp
  have hL3 := hVJ.2.2.2.1
  generalize pl.map Prod.fst = xs0 at *
  clear hmp hpok hps hpl
  have hb0c := below_trans hb0b hbc
  obtain ⟨sa, sc, rfl, -⟩ := id hmq.sl
  have hroc := hrob.below hbc
  rw [fl61_5, st59 rfl (hroc.cell (i := 0 + 5) rfl) (hroc.free _)]
  have hof : Off (fun y => y = ob) wc (wc.setCell ⟨ob, 0 + 5, none⟩ (.slice sa xs0.length sc)) := Off.set rfl
  have hrod : RowAt (wc.setCell ⟨ob, 0 + 5, none⟩ (.slice sa xs0.length sc)) ob 61 [I (joinL A B).til, .slice oa (joinL A B).ev.length oc, .slice pa (joinL A B).ct.length pc, I (joinL A B).terr, I (joinL A B).cls, .slice sa xs0.length sc] := hroc.set 5 _
  have hme8 := (hmeb.below hbc).apart hof (apRow hroc (by decide))
  have hmc8 := (hmcb.below hbc).apart hof (apRow hroc (by decide))
  have hmq8 := (hmq.base (show ob + 1 ≤ wb.heap.size by omega)).apart hof (apRow hroc (by decide))
  have hr28 := (hr2b.below hbc).off hof (by omega)
  have hb08 : Below w.heap.size w (wc.setCell ⟨ob, 0 + 5, none⟩ (.slice sa xs0.length sc)) := hb0c.setCell (by show w.heap.size ≤ ob; omega) _
  have hs8 : wb.heap.size ≤ (wc.setCell ⟨ob, 0 + 5, none⟩ (.slice sa xs0.length sc)).heap.size := Nat.le_trans hbc.size hof.size
  clear hrab hrbb hr2b hroc hrob hmeb hmcb hmq hbc hb0b hb0c hof
  generalize wc.setCell ⟨ob, 0 + 5, none⟩ (.slice sa xs0.length sc) = w8 at *
  rw [rw61_5 (hrod.cell (i := 0 + 5) rfl), len59 hmq8.sl, w_gtr, decide_eq_false (by omega), condW_false, rw61_5 (hrod.cell (i := 0 + 5) rfl), len59 hmq8.sl]
  have hwb : ob + 1 ≤ w8.heap.size := hrod.lt
  obtain ⟨RO, hRO⟩ : ∃ l : List Value, [I (joinL A B).til, .slice oa (joinL A B).ev.length oc, .slice pa (joinL A B).ct.length pc, I (joinL A B).terr, I (joinL A B).cls, .slice sa xs0.length sc] = l := ⟨_, rfl⟩
  rw [hRO] at hrod
  refine Loop1.intro (fun n a w' => ∃ (i : Nat) (ys : List QW), a = I i ∧ i ≤ xs0.length ∧ n = xs0.length - i ∧ Below w.heap.size w w' ∧ w8.heap.size ≤ w'.heap.size ∧ RowAt w' ob 61 RO ∧ (∃ vs, vs.length = 6 ∧ RowAt w' rb 61 vs) ∧
    Mine fI 3 w' (ob + 1) (.slice oa (joinL A B).ev.length oc) (joinL A B).ev ∧ Mine fC 121 w' (ob + 1) (.slice pa (joinL A B).ct.length pc) (joinL A B).ct ∧ Mine fQW 87 w' (ob + 1) (.slice sa xs0.length sc) ys ∧ ys.length = xs0.length ∧
    (∀ (j : Nat) y p, j < i → ys[j]? = some y → (joinL A B).locks[j]? = some p → y.need = p.1 ∧ Mine fI 3 w' (ob + 1) (.slice y.ka y.kn y.kc) p.2) ∧ ∀ j, i ≤ j → ys[j]? = xs0[j]?) _ ⟨0, xs0, rfl, by omega, rfl, hb08, Nat.le_refl _, hrod, ⟨_, rfl, hr28⟩, hme8, hmc8, hmq8, rfl, fun j y p h => by omega, fun j _ => rfl⟩ ?_
  clear hrod hr28 hme8 hmc8 hmq8 hb08
  rintro n _ w9 ⟨i, ys, rfl, hi, rfl, hb9, hs9, hr1, ⟨vs, hv9, hr2⟩, hme, hmc, hmq, hyl, hdone, hrest⟩
  rw [w_lss]
  by_cases hlt : i < xs0.length
  case' neg =>
    rw [decide_eq_false (by omega), condW_false, ld61 (by rw [← hRO]; rfl) hr1.cells]
    refine sr61 (vs := RO) (by rw [← hRO]; rfl) hr2 hv9 (by rw [← hRO]; exact one6) fun w10 ho10 hr10 => ?_
    rw [rc61 (by rw [← hRO]; rfl) hr10.cells, ← hRO]
    have hx10 : Off (fun y => y = rb) w9 w10 := Off.only ho10 rfl
    have a3 : Apart w9 (fun y => y = rb) 3 := apRow hr2 (by decide)
    refine hk _ _ _ ys w10 (hb9.trans (ho10.rest _ (by omega))) (LabM.base (B := ob + 1) ⟨hme.apart hx10 a3, hmc.apart hx10 (apRow hr2 (by decide)), hmq.apart hx10 (apRow hr2 (by decide)), by omega, fun j y p h1 h2 => ?_⟩ (by omega))
    have := hdone j y p (by have := (List.getElem?_eq_some_iff.1 h1).1; omega) h1 h2
    exact ⟨this.1, this.2.apart hx10 a3⟩
  rw [decide_eq_true (by omega), condW_true, drewW_eq]
  have hbd := below_drew w9
  replace hr1 := hr1.drew
  replace hr2 := hr2.drew
  replace hme := hme.below hbd
  replace hmc := hmc.below hbd
  replace hmq := hmq.below hbd
  replace hdone : ∀ (j : Nat) y p, j < i → ys[j]? = some y → (joinL A B).locks[j]? = some p → y.need = p.1 ∧ Mine fI 3 w9.drew (ob + 1) (.slice y.ka y.kn y.kc) p.2 := fun j y p h1 h2 h3 => ⟨(hdone j y p h1 h2 h3).1, (hdone j y p h1 h2 h3).2.below hbd⟩
  replace hb9 : Below w.heap.size w w9.drew := below_trans hb9 hbd
  replace hs9 := Nat.le_trans hs9 hbd.size
  clear hbd
  generalize w9.drew = wa at *
  have haa := after_refl wa
  obtain ⟨y, hy⟩ : ∃ y, xs0[i]? = some y := ⟨_, List.getElem?_eq_getElem hlt⟩
  obtain ⟨p, hp⟩ : ∃ p, (joinL A B).locks[i]? = some p := ⟨_, List.getElem?_eq_getElem (by omega)⟩
  have hyi : ys[i]? = some y := by rw [hrest i (Nat.le_refl _)]; exact hy
  obtain ⟨kv, hkv, hks⟩ := hqx0 i y p hy hp
  obtain ⟨e1, e2⟩ : I y.need = I p.1 ∧ (.slice y.ka y.kn y.kc : Value) = kv := by simpa [fQW] using hkv
  have hkl : p.2.length ≤ 20 := (hVJ.2.2.2.2.1 i p hp).1.len
  refine ⟨after wa, haa, ?_⟩
  have hc5 := hr1.cell (i := 0 + 5) (u := .slice sa xs0.length sc) (by rw [← hRO]; rfl)
  rw [ra61_5 hc5 haa, ra61_5 hc5 haa, gt59_1 (F := fQW) rfl hmq.sl (by omega) (by simpa using hyi) (u := kv) (by rw [← e2]; rfl)]
  refine c72 (hks.below hb9) (by omega) fun k9 wb hmk hbb => ?_
  rw [keepS_eq]
  refine ⟨hbb, ?_⟩
  obtain ⟨ka, kc, rfl, -⟩ := id hmk.sl
  have hbs := hbb.size
  have hmqb := hmq.below hbb
  refine Mine.setFT (F := fQW) (y := ⟨y.need, ka, p.2.length, kc⟩) (st := 87) (f := 1) (j := 1) rfl (by kernel_rfl) (by kernel_rfl) (by kernel_rfl) (by kernel_rfl) (by kernel_rfl) (by kernel_rfl) hmqb hyi (by decide) rfl rfl fun wc hmc2 hbc hoc => ?_
  rw [w_add, wrap_id (by omega), loopK_self]
  have a3 : Apart wb (isOf (.slice sa xs0.length sc)) 3 := apMine hmqb (by decide)
  have a61 : Apart wb (isOf (.slice sa xs0.length sc)) 61 := apMine hmqb (by decide)
  have a121 : Apart wb (isOf (.slice sa xs0.length sc)) 121 := apMine hmqb (by decide)
  have hb9c : Below w.heap.size w wc := (below_trans hb9 hbb).trans (hbc.mono (by omega))
  refine ⟨xs0.length - (i + 1), by omega, i + 1, ys.set i ⟨y.need, ka, p.2.length, kc⟩, by simp [I], by omega, rfl, hb9c, by have := hoc.size; omega, (hr1.below hbb).apart hoc a61, ⟨vs, hv9, (hr2.below hbb).apart hoc a61⟩, (hme.below hbb).apart hoc a3, (hmc.below hbb).apart hoc a121, hmc2, by simpa using hyl, fun j z p' hj h1 h2 => ?_, fun j hj => ?_⟩
  · by_cases hji : j = i
    · subst hji
      rw [List.getElem?_set_self (by omega)] at h1
      cases h1
      rw [hp] at h2; cases h2
      exact ⟨by simp [I] at e1; exact e1, (hmk.base (show ob + 1 ≤ wa.heap.size by omega)).apart hoc a3⟩
    · rw [List.getElem?_set_ne (by omega)] at h1
      have := hdone j z p' (by omega) h1 h2
      exact ⟨this.1, (this.2.below hbb).apart hoc a3⟩
  · rw [List.getElem?_set_ne (by omega)]; exact hrest j (by omega))
end
end Go.Proofs.YtfkfkldhcignbaaGreatDoor
/- Join, plain: open to a reader iff both are; the feed of one item. -/
set_option linter.unusedSimpArgs false
set_option linter.unusedVariables false
set_option maxRecDepth 4000
namespace Go.Proofs.YtfkfkldhcignbaaGreatDoor
open Go Go.V Go.RowKit
theorem bit_and {a b r : Int} : bitOn ((a.toNat &&& b.toNat : Nat) : Int) r ↔ bitOn a r ∧ bitOn b r := by
  unfold bitOn
  rw [Int.toNat_natCast]
  have h := Nat.testBit_and a.toNat b.toNat r.toNat
  rw [Nat.testBit_eq_decide_div_mod_eq, Nat.testBit_eq_decide_div_mod_eq, Nat.testBit_eq_decide_div_mod_eq, ← Bool.decide_and, decide_eq_decide] at h
  exact h
theorem counts_uniq {l : List CW} {m : Int} (h : CountsP l m) {c d : CW} (hc : c ∈ l) (hd : d ∈ l) (hf : c.fact = d.fact) : c = d := by
  obtain ⟨i, hi, rfl⟩ := List.getElem_of_mem hc
  obtain ⟨j, hj, rfl⟩ := List.getElem_of_mem hd
  have hp := List.pairwise_iff_getElem.1 h.pair
  rcases Nat.lt_trichotomy i j with c | c | c
  · have := hp i j hi hj c; omega
  · subst c; rfl
  · have := hp j i hj hi c; omega
theorem join_open {a b : Lab} {r : Rdr} {m : Mom} (ha : ValidLab a) (hb : ValidLab b) (hl : a.locks.length + b.locks.length ≤ 4) : OpenP (joinL a b) r m ↔ OpenP a r m ∧ OpenP b r m := by
  have hJ := joinL_valid ha hb hl
  have h5 : bitOn (joinL a b).terr r.1 ↔ bitOn a.terr r.1 ∧ bitOn b.terr r.1 := bit_and
  have h6 : bitOn (joinL a b).cls r.2 ↔ bitOn a.cls r.2 ∧ bitOn b.cls r.2 := bit_and
  have h7 : (joinL a b).til ≤ m.now - m.drift ↔ a.til ≤ m.now - m.drift ∧ b.til ≤ m.now - m.drift := by
    show (if b.til > a.til then b.til else a.til) ≤ m.now - m.drift ↔ _
    split <;> omega
  have h8 : (∀ x ∈ (joinL a b).ev, x ∈ m.ev) ↔ (∀ x ∈ a.ev, x ∈ m.ev) ∧ ∀ x ∈ b.ev, x ∈ m.ev := by
    constructor
    · intro h
      refine ⟨fun x hx => ?_, fun x hx => ?_⟩
      · rcases mergeU_left (cmp := cmpI) (f := fun x _ => x) a.ev b.ev x hx with g | ⟨_, _, _, g⟩ <;> exact h x g
      · rcases mergeU_right (cmp := cmpI) (f := fun x _ => x) a.ev b.ev x hx with g | ⟨y, _, e, g⟩
        · exact h x g
        · rw [← cmpI_eq e]; exact h y g
    · rintro ⟨h1, h2⟩ x hx
      rcases mergeU_mem _ _ x hx with g | g | ⟨y, g, _, _, _, rfl⟩
      · exact h1 x g
      · exact h2 x g
      · exact h1 _ g
  have h10 : (∀ q ∈ (joinL a b).locks, q.1 ≤ keyN q m.keys) ↔ (∀ q ∈ a.locks, q.1 ≤ keyN q m.keys) ∧ ∀ q ∈ b.locks, q.1 ≤ keyN q m.keys := by
    constructor
    · intro h
      refine ⟨fun x hx => ?_, fun x hx => ?_⟩
      · rcases mergeU_left (cmp := cmpQ) (f := fun x _ => x) a.locks b.locks x hx with g | ⟨_, _, _, g⟩ <;> exact h x g
      · rcases mergeU_right (cmp := cmpQ) (f := fun x _ => x) a.locks b.locks x hx with g | ⟨y, _, e, g⟩
        · exact h x g
        · rw [← cmpQ_eq.1 e]; exact h y g
    · rintro ⟨h1, h2⟩ x hx
      rcases mergeU_mem _ _ x hx with g | g | ⟨y, g, _, _, _, rfl⟩
      · exact h1 x g
      · exact h2 x g
      · exact h1 _ g
  have h9 : ValidMom m → ((∀ c ∈ (joinL a b).ct, ∃ d ∈ m.conf, d.fact = c.fact ∧ c.count ≤ d.count) ↔ (∀ c ∈ a.ct, ∃ d ∈ m.conf, d.fact = c.fact ∧ c.count ≤ d.count) ∧ ∀ c ∈ b.ct, ∃ d ∈ m.conf, d.fact = c.fact ∧ c.count ≤ d.count) := fun hm => by
    constructor
    · intro h
      refine ⟨fun x hx => ?_, fun x hx => ?_⟩
      · rcases mergeU_left (cmp := cmpC) (f := addC) a.ct b.ct x hx with g | ⟨y, _, _, g⟩
        · exact h x g
        · obtain ⟨d, d1, d2, d3⟩ := h _ g
          refine ⟨d, d1, d2, ?_⟩
          have : (addC x y).count = if y.count > x.count then y.count else x.count := rfl
          rw [this] at d3
          split at d3 <;> omega
      · rcases mergeU_right (cmp := cmpC) (f := addC) a.ct b.ct x hx with g | ⟨y, _, e, g⟩
        · exact h x g
        · obtain ⟨d, d1, d2, d3⟩ := h _ g
          have e2 : y.fact = x.fact := cmpI_eq e
          have e3 : (addC y x).fact = y.fact := rfl
          refine ⟨d, d1, by omega, ?_⟩
          have : (addC y x).count = if x.count > y.count then x.count else y.count := rfl
          rw [this] at d3
          split at d3 <;> omega
    · rintro ⟨h1, h2⟩ x hx
      rcases mergeU_mem _ _ x hx with g | g | ⟨y, g, z, g2, e, rfl⟩
      · exact h1 x g
      · exact h2 x g
      · obtain ⟨d, d1, d2, d3⟩ := h1 y g
        obtain ⟨d', d1', d2', d3'⟩ := h2 z g2
        have e2 : y.fact = z.fact := cmpI_eq e
        have hdd : d = d' := by
          have hc := hm
          unfold ValidMom at hc
          obtain ⟨_, _, hc⟩ := hc
          first
            | exact counts_uniq hc.1 d1 d1' (by omega)
            | exact counts_uniq hc.2.1 d1 d1' (by omega)
            | exact counts_uniq hc.2.2 d1 d1' (by omega)
        subst hdd
        refine ⟨d, d1, d2, ?_⟩
        show (if z.count > y.count then z.count else y.count) ≤ d.count
        split <;> omega
  unfold OpenP
  rw [h5, h6, h7, h8, h10]
  constructor
  · rintro ⟨p1, p2, p3, p4, ⟨p5, p5'⟩, ⟨p6, p6'⟩, ⟨p7, p7'⟩, ⟨p8, p8'⟩, p9, ⟨p10, p10'⟩⟩
    obtain ⟨p9, p9'⟩ := (h9 p2).1 p9
    exact ⟨⟨ha, p2, p3, p4, p5, p6, p7, p8, p9, p10⟩, hb, p2, p3, p4, p5', p6', p7', p8', p9', p10'⟩
  · rintro ⟨⟨p1, p2, p3, p4, p5, p6, p7, p8, p9, p10⟩, _, _, _, _, q5, q6, q7, q8, q9, q10⟩
    exact ⟨hJ, p2, p3, p4, ⟨p5, q5⟩, ⟨p6, q6⟩, ⟨p7, q7⟩, ⟨p8, q8⟩, (h9 p2).2 ⟨p9, q9⟩, p10, q10⟩
section
variable {x : ItW} {r : Rdr} {ms : List Mom}
theorem pick_single {n : Nat} {snt : Nat → Bool} : pickF true [x] r ms n snt = if snt 0 = false ∧ 0 ≤ relN x r ms (n + 1) then some 0 else none := by
  unfold pickF
  rw [candF_true]
  have hl : leftF true [x] r ms n snt = if snt 0 = false ∧ 0 ≤ relN x r ms (n + 1) then [0] else [] := by
    unfold leftF
    show (List.range 1).filter _ = _
    rw [show List.range 1 = [0] from rfl, List.filter_cons]
    have : cntB true [x] r ms n 0 = decide (0 ≤ relN x r ms (n + 1)) := rfl
    rw [this]
    by_cases h1 : snt 0 = false
    · by_cases h2 : 0 ≤ relN x r ms (n + 1)
      · simp [h1, h2]
      · simp [h1, h2]
    · simp [h1]
  rw [hl]
  split
  · rfl
  · rfl
theorem snt_single : ∀ n, sntF true [x] r ms n 0 = decide (0 ≤ relN x r ms n)
  | 0 => rfl
  | n + 1 => by
    show (sntF true [x] r ms n 0 || decide (pickF true [x] r ms n (sntF true [x] r ms n) = some 0)) = _
    rw [pick_single, snt_single n]
    have hle := relN_le (x := x) (r := r) (ms := ms) (show n ≤ n + 1 by omega)
    by_cases h1 : 0 ≤ relN x r ms n
    · have : 0 ≤ relN x r ms (n + 1) := by
        split at hle
        · omega
        · omega
      simp [h1, this]
    · by_cases h2 : 0 ≤ relN x r ms (n + 1)
      · simp [h1, h2]
      · simp [h1, h2]
theorem pack_single {n : Nat} : packF true [x] r ms n (sntF true [x] r ms n) = if relN x r ms n = -1 ∧ 0 ≤ relN x r ms (n + 1) then slotB x.text else zeroB 64 := by
  rw [pack_slot, pick_single, snt_single]
  have hge := relN_ge x r ms n
  have key : (decide (0 ≤ relN x r ms n) = false ∧ 0 ≤ relN x r ms (n + 1)) ↔ (relN x r ms n = -1 ∧ 0 ≤ relN x r ms (n + 1)) := by
    rw [decide_eq_false_iff_not]; omega
  by_cases h : relN x r ms n = -1 ∧ 0 ≤ relN x r ms (n + 1)
  · rw [if_pos h, if_pos (key.2 h)]; rfl
  · rw [if_neg h, if_neg (fun hh => h (key.1 hh))]
/-- the one item's slot -/
theorem pack_first {n : Nat} (hn : n < ms.length) : packF true [x] r ms n (sntF true [x] r ms n) = if relN x r ms ms.length = n then slotB x.text else zeroB 64 := by
  rw [pack_single]
  have h1 := relN_le (x := x) (r := r) (ms := ms) (show n ≤ ms.length by omega)
  have h2 := relN_le (x := x) (r := r) (ms := ms) (show n + 1 ≤ ms.length by omega)
  by_cases h : relN x r ms ms.length = n
  · rw [if_pos h]
    rw [if_neg (by omega)] at h1
    rw [if_pos (by omega)] at h2
    rw [if_pos ⟨h1, by omega⟩]
  · rw [if_neg h, if_neg]
    rintro ⟨g1, g2⟩
    rw [h2] at g2
    split at g2
    · rename_i g
      rw [if_pos (by omega)] at h1
      omega
    · omega
theorem seen_single : seenL [x] r ms = if 0 ≤ relN x r ms ms.length then [x] else [] := by
  unfold seenL
  rw [List.filter_cons]
  by_cases h : 0 ≤ relN x r ms ms.length
  · simp [h]
  · simp [h]
end
end Go.Proofs.YtfkfkldhcignbaaGreatDoor
/- FlowJoins, walked. -/
set_option linter.unusedSimpArgs false
set_option linter.unusedVariables false
set_option maxRecDepth 4000
namespace Go.Proofs.YtfkfkldhcignbaaGreatDoor
open Go Go.V Go.RowKit
def pkN (c n : Int) : Int := (if c < 0 then -(c + 1) else c).tmod n
def kBoth : ByteArray := ⟨#[98, 111, 116, 104]⟩
def kOne : ByteArray := ⟨#[111, 110, 101]⟩
def kTwo : ByteArray := ⟨#[116, 119, 111]⟩
theorem pkN_in {c n : Int} (hn : 0 < n) : 0 ≤ pkN c n ∧ pkN c n < n := by
  unfold pkN
  have h : 0 ≤ (if c < 0 then -(c + 1) else c) := by split <;> omega
  rw [Int.tmod_eq_emod_of_nonneg h]
  exact ⟨Int.emod_nonneg _ (by omega), Int.emod_lt_of_pos _ hn⟩
section
variable {k : Value → World → Prop} {w w0 : World}
theorem c13x {c n : Int} (hc : in64 c) (hn : 0 < n) (hk : k (I (pkN c n)) w) : callW Tryz.prog (.func (.func 13) #[] #[]) #[I c, I n] k w := C13 _ _ _ _ (by
  unfold S13
  unfold in64 at hc
  refine joinW_use1 (fun v w' => w' = w ∧ v = I (if c < 0 then -(c + 1) else c)) ?_ ?_
  · rintro _ _ ⟨rfl, rfl⟩
    rw [w_rem (by omega)]
    exact hk
  intro J hJ
  rw [w_lss]
  by_cases h : c < 0
  · rw [decide_eq_true h, condW_true, w_add, wrap_id (by omega), w_neg, wrap_id (by omega)]
    exact hJ _ _ ⟨rfl, by rw [if_pos h]⟩
  · rw [decide_eq_false h, condW_false]
    exact hJ _ _ ⟨rfl, by rw [if_neg h]⟩)
theorem w_eqlBB {ox oy : Operand} {a b : Bool} : opW Tryz.prog (binS .eql 4 ox oy (.bool a) (.bool b)) k w = k (.bool (decide (a = b))) w := by cases a <;> cases b <;> exact opW_ok (by kernel_rfl)
theorem okLab_of {L : Lab} (v : ValidLab L) : okLab L := by
  have h1 := v.2.2.2.2.2.1.len
  have h2 := v.2.2.2.2.2.2.len
  have h3 := v.2.2.2.1
  have hm : 1000000 ≤ maxLen := by decide
  exact ⟨⟨by omega, v.2.2.2.2.2.1.in64 (by decide)⟩, by omega, by omega, fun q hq => ⟨by have := (v.2.2.2.2.1.mem hq).1.len; omega, (v.2.2.2.2.1.mem hq).1.in64 (by decide)⟩⟩
theorem ra31 {K : Value → Prop} {v : Value} {l : List ByteArray} {s : ByteArray} {i : Nat} {q : IntKind} (hs : IsSl fT w0 v l) (hx : l[i]? = some s) (ha : after w0 w) : takeW Tryz.prog anyW (Instr.indexAt 31 v (.int q (i : Int))) (fun p => takeW Tryz.prog (after w0) (Instr.loadAt 9 p) K w) w = K (.string s) := by
  obtain ⟨b, o, c, rfl, hlt, hcl⟩ := hs.at (i := (i : Int)) (by omega) (by simpa using hx)
  rw [takeW_pure (fun w => run_index (by kernel_rfl) (by kernel_rfl) (by omega) hlt w)]
  refine r_loadA (by kernel_rfl) (by kernel_rfl) ?_ ha
  have hsz : sizeT Tryz.prog (elemT Tryz.prog 31) = 1 := by kernel_rfl
  have := hcl 0 (.string s) rfl
  rw [hsz]
  simpa [fT] using this
theorem b63s {p c t a b : Int} {a1 a2 a3 : Option Addr} {n1 n2 n3 c1 c2 c3 : Nat} {s : ByteArray} : opW Tryz.prog (Instr.build 63 #[(0, I p), (1, .agg ([I t, .slice a1 n1 c1, .slice a2 n2 c2, I a, I b, .slice a3 n3 c3] : List Value).toArray), (2, I c), (3, .string s)]) k w = k (.agg ([I p, I t, .slice a1 n1 c1, .slice a2 n2 c2, I a, I b, .slice a3 n3 c3, I c, .string s] : List Value).toArray) w := opW_ok (by kernel_rfl)
/-- a list of one item with a label at hand -/
theorem one_list {at' c : Int} {lb : Nat} {L : Lab} {e cc q : Value} {s : ByteArray} {K : Value → World → Prop} (hr : RowAt w lb 61 [I L.til, e, cc, I L.terr, I L.cls, q]) (he : IsSl fI w e L.ev) (hc : IsSl fC w cc L.ct) (hq : LocksV w q L.locks) (hat : in64 at') (hK : ∀ v w', Below w.heap.size w w' → ItemsV w' v [⟨pkN at' 30, L, c, s⟩] → K v w') :
    drewW w (fun w => ∃ S : World → Prop, S w ∧ takeW Tryz.prog S (Instr.loadAt 61 (.pointer (some ⟨lb, 0, none⟩))) (fun t1 => callW Tryz.prog (.func (.func 13) #[] #[]) #[I at', I 30] (fun t2 w => keepS S (fun w => opW Tryz.prog (Instr.build 63 #[(0, t2), (1, t1), (2, I c), (3, .string s)]) (fun t3 w => opW Tryz.prog (Instr.buildSlice 24 1 #[(0, t3)]) (fun t4 w => keepS S (fun w => K t4 w) w) w) w) w) w) w) := by
  rw [drewW_eq]
  have hbd := below_drew w
  replace hr := hr.below hbd
  replace he := he.below hbd
  replace hc := hc.below hbd
  replace hq := hq.below hbd
  replace hK : ∀ v w', Below w.drew.heap.size w.drew w' → ItemsV w' v [⟨pkN at' 30, L, c, s⟩] → K v w' := fun v w' h => hK v w' (below_trans hbd h)
  generalize w.drew = w1 at *
  have a1 := after_refl w1
  refine ⟨after w1, a1, ?_⟩
  rw [la61 rfl hr.cells a1]
  refine c13x hat (by decide) ?_
  rw [keepS_eq]
  refine ⟨a1, ?_⟩
  obtain ⟨x1, y1, rfl, -⟩ := id he
  obtain ⟨x2, y2, rfl, -⟩ := id hc
  obtain ⟨xs, hqs, hqx⟩ := id hq
  obtain ⟨x3, y3, rfl, -⟩ := id hqs
  rw [b63s]
  refine w_partS (F := fR 9) (x := ⟨[I (pkN at' 30), I L.til, .slice x1 L.ev.length y1, .slice x2 L.ct.length y2, I L.terr, I L.cls, .slice x3 xs.length y3, I c, .string s], rfl, one9⟩) sty24 rfl (by decide) fun w2 hb2 _ hm2 => ?_
  rw [keepS_eq]
  refine ⟨hb2, hK _ _ hb2 ⟨_, hm2.sl, rfl, fun i a b h1 h2 => ?_⟩⟩
  match i, h1, h2 with
  | 0, h1, h2 =>
    obtain rfl := Option.some.inj h1
    obtain rfl := Option.some.inj h2
    exact ⟨_, _, _, rfl, he.below hb2, hc.below hb2, hq.below hb2⟩
  | n + 1, h1, h2 => cases h1
theorem quo5 {n : Int} (h : 0 ≤ n ∧ n ≤ 50000000) : ∃ m, (∀ (t : TypeId) (ox oy : Operand) (k : Value → World → Prop) (w : World), opW Tryz.prog (binS .quo t ox oy (I n) (I 5)) k w = k (I m) w) ∧ 0 ≤ m ∧ m ≤ 50000000 := by
  refine ⟨_, fun t ox oy k w => w_quo (by decide), ?_⟩
  rw [Int.tdiv_eq_ediv_of_nonneg h.1, wrap_id (by omega)]
  omega
theorem seen_one {x : ItW} {r : Rdr} {ms : List Mom} : ((seenL [x] r ms).length = 1 ↔ 0 ≤ relN x r ms ms.length) ∧ ((seenL [x] r ms).length = 0 ↔ ¬ 0 ≤ relN x r ms ms.length) := by
  rw [seen_single]
  split
  · rename_i h; simp [h]
  · rename_i h; simp [h]
set_option maxHeartbeats 2000000 in
theorem s9 {z : Value} {at' a b : Int} {x y : IntV 7} {l3 : List (IntV 5)} (hg : Gl w) (h3 : IsSl (fV 5) w z l3) (wx : ∀ v ∈ x.1, in64 v) (wy : ∀ v ∈ y.1, in64 v) (o3 : l3.length ≤ maxLen ∧ okV l3) (iat : in64 at') (ia : in64 a) (ib : in64 b)
    (hk : ∀ w', Below w.heap.size w w' → k (.bool true) w') : S9 (.agg ((x.1 ++ y.1).map I).toArray) z (I at') (.agg #[I a, I b]) k w := by
  unfold S9
  have hml : maxLen ≤ 9223372036854775807 := by decide
  refine w_boxN (v := .agg ((x.1 ++ y.1).map I).toArray) fun w1 hb1 hsz1 hrx => ?_
  replace hrx : RowAt w1 w.heap.size 72 ((x.1 ++ y.1).map I) := hrx
  refine w_boxN (v := .agg #[I a, I b]) fun w2 hb2 hsz2 hr1 => ?_
  replace hr1 : RowAt w2 w1.heap.size 30 [I a, I b] := hr1
  have hb02 := below_trans hb1 hb2
  refine c10 (hg.below hb02) fun w3 hb3 => ?_
  have hb03 := below_trans hb02 hb3
  rw [w_not, Bool.not_true, condW_false]
  have hrx3 := hrx.below (below_trans hb2 hb3)
  refine joinW_use1 (RPre w3) ?_ fun J hJ => pickR_ok (Below.refl _ _) (hr1.below hb3) ia ib hJ
  rintro _ w4 ⟨pb, r, rfl, hrp, hr1', hr2', hb34, hpb⟩
  have hb04 := below_trans hb03 hb34
  have hrx4 := hrx3.below hb34
  clear hr1 hrx hrx3 hb34 hb3 hb2 hb1 hb02 hb03
  refine c11 (h3.below hb04) o3.1 o3.2 fun zv ms w5 hb5 hms hmv hml4 => ?_
  have hb05 := below_trans hb04 hb5
  have hrx5 := hrx4.below hb5
  have hrp5 := hrp.below hb5
  have hx7 := x.2
  have hy7 := y.2
  have i71 : ∀ (j : Nat) (q : Int) (b : Nat) (K : Value → World → Prop) (w : World), q = j → j < 2 → opW Tryz.prog (Instr.indexAt 72 (.pointer (some ⟨b, 0, none⟩)) (I q)) K w = K (.pointer (some ⟨b, j * 7, none⟩)) w := fun j q b K w hq hj => by
    subst hq
    rw [opW_ok (run_indexArr (t := 72) (n := 2) (e := 71) (b := b) (o := 0) (i := (j : Int)) (by kernel_rfl) (by kernel_rfl) (by omega) (by omega) w)]
    have hsz : sizeT Tryz.prog 71 = 7 := by kernel_rfl
    rw [hsz, Nat.zero_add, Int.toNat_natCast]
  -- the first label
  rw [i71 0 0 _ _ _ rfl (by decide), ld71 (vs := x.1.map I) (by simp [hx7]) (fun j u hu => hrx5.cell (by
    have hj := (List.getElem?_eq_some_iff.1 hu).1
    rw [List.map_append, List.getElem?_append_left (by simp at hj ⊢; omega)]
    simpa using hu))]
  refine c32 hx7 wx fun A eA cA qA xA w6 hb6 hLA vA nA _ => ?_
  have hb06 := below_trans hb05 hb6
  refine al61 fun w7 hb7 _ hr7 => ?_
  have oneA : ∀ v ∈ ([I A.til, eA, cA, I A.terr, I A.cls, qA] : List Value), v.oneCell' = true := by
    obtain ⟨a1, c1, rfl, -⟩ := id hLA.ev.sl
    obtain ⟨a2, c2, rfl, -⟩ := id hLA.ct.sl
    obtain ⟨a3, c3, rfl, -⟩ := id hLA.lk.sl
    exact one6
  refine sr61 (vs := [I A.til, eA, cA, I A.terr, I A.cls, qA]) rfl hr7 rfl oneA fun w8 ho8 hra8 => ?_
  have hb68 : Below w6.heap.size w6 w8 := hb7.trans (ho8.rest _ (Nat.le_refl _))
  have hb08 := below_trans hb06 hb68
  have hb58 := below_trans hb6 hb68
  have hA8 := hLA.below hb68
  obtain ⟨ab, hab⟩ : ∃ n, w6.heap.size = n := ⟨_, rfl⟩
  rw [hab] at hra8 ⊢
  have hrx8 := hrx5.below hb58
  have hrp8 := hrp5.below hb58
  clear hrx5 hrp5 hrx4 hr7 hLA hb7 ho8
  -- the second label
  rw [i71 1 1 _ _ _ rfl (by decide), ld71 (vs := y.1.map I) (by simp [hy7]) (fun j u hu => hrx8.cell (by
    have hj := (List.getElem?_eq_some_iff.1 hu).1
    rw [List.map_append, List.getElem?_append_right (by simp; omega)]
    have : 1 * 7 + j - (List.map I x.1).length = j := by simp [hx7]
    rw [this]; exact hu))]
  refine c32 hy7 wy fun B eB cB qB xB w9 hb9 hLB vB nB _ => ?_
  have hb09 := below_trans hb08 hb9
  refine al61 fun w10 hb10 _ hr10 => ?_
  have oneB : ∀ v ∈ ([I B.til, eB, cB, I B.terr, I B.cls, qB] : List Value), v.oneCell' = true := by
    obtain ⟨a1, c1, rfl, -⟩ := id hLB.ev.sl
    obtain ⟨a2, c2, rfl, -⟩ := id hLB.ct.sl
    obtain ⟨a3, c3, rfl, -⟩ := id hLB.lk.sl
    exact one6
  refine sr61 (vs := [I B.til, eB, cB, I B.terr, I B.cls, qB]) rfl hr10 rfl oneB fun w11 ho11 hrb11 => ?_
  have hb911 : Below w9.heap.size w9 w11 := hb10.trans (ho11.rest _ (Nat.le_refl _))
  have hb811 := below_trans hb9 hb911
  have hb011 := below_trans hb08 hb811
  obtain ⟨bb, hbb⟩ : ∃ n, w9.heap.size = n := ⟨_, rfl⟩
  rw [hbb] at hrb11 ⊢
  have hab8 : ab < w8.heap.size := hra8.lt
  have hbb9 : w8.heap.size ≤ bb := by rw [← hbb]; exact hb9.size
  have hA11 := hA8.below hb811
  have hB11 := hLB.below hb911
  have hra11 := hra8.below hb811
  have hrp11 := hrp8.below hb811
  have hb511 := below_trans hb58 hb811
  have hpb5 : pb < w6.heap.size := Nat.lt_of_lt_of_le hrp.lt (Nat.le_trans hb5.size hb6.size)
  clear hrx8 hrp8 hr10 hLB hb10 ho11 hra8
  -- the embargoes, nearer
  obtain ⟨ta, qA5, hta⟩ := quo5 vA.1
  obtain ⟨tb, qB5, htb⟩ := quo5 vB.1
  have hs56 : w5.heap.size ≤ ab := by rw [← hab]; exact hb6.size
  have hpab : pb < ab := by omega
  have habb : ab < bb := by omega
  rw [rw61_0 (hra11.cell (i := 0) rfl), qA5, fl61_0, st3 rfl (hra11.cell (i := 0) rfl) (hra11.free _)]
  have hof : Off (fun y => y = ab) w11 (w11.setCell ⟨ab, 0, none⟩ (I ta)) := Off.set rfl
  have hra12 : RowAt (w11.setCell ⟨ab, 0, none⟩ (I ta)) ab 61 [I ta, eA, cA, I A.terr, I A.cls, qA] := hra11.set 0 (I ta)
  have hrb12 := hrb11.off hof (by omega)
  have hrp12 := hrp11.off hof (by omega)
  have hA12 := (hA11.til ta).apart hof (apRow hra11 (by decide)) (apRow hra11 (by decide)) (apRow hra11 (by decide))
  have hB12 := hB11.apart hof (apRow hra11 (by decide)) (apRow hra11 (by decide)) (apRow hra11 (by decide))
  have hb512 : Below w5.heap.size w5 (w11.setCell ⟨ab, 0, none⟩ (I ta)) := hb511.setCell hs56 _
  clear hof hra11 hrb11 hrp11 hA11 hB11 hb511 hb811 hb011
  generalize w11.setCell ⟨ab, 0, none⟩ (I ta) = w12 at *
  rw [rw61_0 (hrb12.cell (i := 0) rfl), qB5, fl61_0, st3 rfl (hrb12.cell (i := 0) rfl) (hrb12.free _)]
  have hof : Off (fun y => y = bb) w12 (w12.setCell ⟨bb, 0, none⟩ (I tb)) := Off.set rfl
  have hrb13 : RowAt (w12.setCell ⟨bb, 0, none⟩ (I tb)) bb 61 [I tb, eB, cB, I B.terr, I B.cls, qB] := hrb12.set 0 (I tb)
  have hra13 := hra12.off hof (by omega)
  have hrp13 := hrp12.off hof (by omega)
  have hA13 := (hA12.apart hof (apRow hrb12 (by decide)) (apRow hrb12 (by decide)) (apRow hrb12 (by decide))).v
  have hB13 := ((hB12.til tb).apart hof (apRow hrb12 (by decide)) (apRow hrb12 (by decide)) (apRow hrb12 (by decide))).v
  have hb513 : Below w5.heap.size w5 (w12.setCell ⟨bb, 0, none⟩ (I tb)) := hb512.setCell (by show w5.heap.size ≤ bb; omega) _
  clear hof hra12 hrb12 hrp12 hA12 hB12 hb512
  generalize w12.setCell ⟨bb, 0, none⟩ (I tb) = w13 at *
  obtain ⟨LA, hLAe⟩ : ∃ L, (⟨ta, A.ev, A.ct, A.terr, A.cls, A.locks⟩ : Lab) = L := ⟨_, rfl⟩
  obtain ⟨LB, hLBe⟩ : ∃ L, (⟨tb, B.ev, B.ct, B.terr, B.cls, B.locks⟩ : Lab) = L := ⟨_, rfl⟩
  have hra : RowAt w13 ab 61 [I LA.til, eA, cA, I LA.terr, I LA.cls, qA] := by rw [← hLAe]; exact hra13
  have hrb : RowAt w13 bb 61 [I LB.til, eB, cB, I LB.terr, I LB.cls, qB] := by rw [← hLBe]; exact hrb13
  have vLA : ValidLab LA := by rw [← hLAe]; exact ⟨hta, vA.2⟩
  have vLB : ValidLab LB := by rw [← hLBe]; exact ⟨htb, vB.2⟩
  have nLA : LA.locks.length ≤ 2 := by rw [← hLAe]; exact nA
  have nLB : LB.locks.length ≤ 2 := by rw [← hLBe]; exact nB
  have hA : LabV w13 (.agg ([I LA.til, eA, cA, I LA.terr, I LA.cls, qA] : List Value).toArray) LA := by rw [← hLAe]; exact hA13
  have hB : LabV w13 (.agg ([I LB.til, eB, cB, I LB.terr, I LB.cls, qB] : List Value).toArray) LB := by rw [← hLBe]; exact hB13
  have okA := okLab_of vLA
  have okB := okLab_of vLB
  clear hra13 hrb13 hA13 hB13 hLAe hLBe hta htb vA vB nA nB qA5 qB5 hA8 oneA oneB
  rw [ld61 rfl hra.cells, ld61 rfl hrb.cells]
  refine c33 hA hB vLA vLB okA okB (by omega) fun eJ cJ qJ xJ w14 hb14 hLJ => ?_
  rw [ex0, ex1]
  refine al61 fun w15 hb15 _ hr15 => ?_
  have oneJ : ∀ v ∈ ([I (joinL LA LB).til, eJ, cJ, I (joinL LA LB).terr, I (joinL LA LB).cls, qJ] : List Value), v.oneCell' = true := by
    obtain ⟨a1, c1, rfl, -⟩ := id hLJ.ev.sl
    obtain ⟨a2, c2, rfl, -⟩ := id hLJ.ct.sl
    obtain ⟨a3, c3, rfl, -⟩ := id hLJ.lk.sl
    exact one6
  refine sr61 (vs := [I (joinL LA LB).til, eJ, cJ, I (joinL LA LB).terr, I (joinL LA LB).cls, qJ]) rfl hr15 rfl oneJ fun w16 ho16 hrj => ?_
  have hb1416 : Below w14.heap.size w14 w16 := hb15.trans (ho16.rest _ (Nat.le_refl _))
  have hb1316 := below_trans hb14 hb1416
  obtain ⟨jb, hjb⟩ : ∃ n, w14.heap.size = n := ⟨_, rfl⟩
  rw [hjb] at hrj ⊢
  have hJ16 := hLJ.below hb1416
  have vJ := joinL_valid vLA vLB (by omega)
  have okJ := okLab_of vJ
  have hopen : ∀ m, OpenP (joinL LA LB) r m ↔ OpenP LA r m ∧ OpenP LB r m := fun m => join_open vLA vLB (by omega)
  generalize joinL LA LB = J at *
  replace hra := hra.below hb1316
  replace hrb := hrb.below hb1316
  have hrp := hrp13.below hb1316
  replace hA := hA.below hb1316
  replace hB := hB.below hb1316
  have hb516 := below_trans hb513 hb1316
  have hM := hms.below hb516
  have hg16 := hg.below (below_trans hb05 hb516)
  have hb016 := below_trans hb05 hb516
  clear hb14 hb15 hr15 ho16 hLJ hb1416 hb1316 hrp13 hb513 hb516
  rw [w_neq]
  simp only [decide_true, Bool.not_true, condW_false]
  obtain ⟨qs, hqs, hqx⟩ := id hM
  have hql := hqx.1
  rw [len33 hqs, w_sub, wrap_id (by omega)]
  obtain ⟨p, hp⟩ : ∃ p, pkN at' 30 = p := ⟨_, rfl⟩
  have hp30 : 0 ≤ p ∧ p < 30 := by rw [← hp]; exact pkN_in (by decide)
  obtain ⟨X, hX⟩ : ∃ X : ItW, (⟨p, J, 2, kBoth⟩ : ItW) = X := ⟨_, rfl⟩
  have hXo : ∀ m, OpensP X r m ↔ p ≤ m.now ∧ OpenP LA r m ∧ OpenP LB r m := fun m => by rw [← hX]; show p ≤ m.now ∧ OpenP J r m ↔ _; rw [hopen]
  refine Loop2.intro (fun m e c w' => ∃ (j : Nat) (wt : Int), c = I ((j : Int) - 1) ∧ e = I wt ∧ j ≤ ms.length ∧ m = j ∧ Below w16.heap.size w16 w' ∧ ((wt = -1 ∧ ∀ n, j ≤ n → n < ms.length → ¬ opAt X r ms n) ∨ ∃ n : Nat, wt = n ∧ j ≤ n ∧ n < ms.length ∧ opAt X r ms n ∧ ∀ i, j ≤ i → i < n → ¬ opAt X r ms i)) _ ⟨ms.length, -1, by rw [hql], rfl, Nat.le_refl _, rfl, Below.refl _ _, .inl ⟨rfl, fun n h1 h2 => by omega⟩⟩ ?_
  rintro m0 _ _ wa ⟨j, wt, rfl, rfl, hj, hm0, hba, hwt⟩
  rw [hm0]
  rw [w_geq]
  by_cases hj0 : 0 < j
  · rw [decide_eq_true (by omega), condW_true]
    obtain ⟨i, rfl⟩ : ∃ i, j = i + 1 := ⟨j - 1, by omega⟩
    rw [show ((i + 1 : Nat) : Int) - 1 = (i : Int) by omega]
    refine joinW_use1 (fun e w' => Below w16.heap.size w16 w' ∧ ∃ wt : Int, e = I wt ∧ ((wt = -1 ∧ ∀ n, i ≤ n → n < ms.length → ¬ opAt X r ms n) ∨ ∃ n : Nat, wt = n ∧ i ≤ n ∧ n < ms.length ∧ opAt X r ms n ∧ ∀ t, i ≤ t → t < n → ¬ opAt X r ms t)) ?_ ?_
    · rintro _ w' ⟨q1, wt', rfl, q2⟩
      rw [w_sub, wrap_id (by omega), loopK_self]
      exact ⟨i, by omega, i, wt', by simp [I], rfl, by omega, rfl, q1, q2⟩
    intro J2 hJ2
    rw [drewW_eq]
    have hbd := below_trans hba (below_drew wa)
    obtain ⟨m, hmi⟩ : ∃ m, ms[i]? = some m := ⟨_, List.getElem?_eq_getElem (by omega)⟩
    obtain ⟨q0, hq0⟩ : ∃ m, qs[i]? = some m := ⟨_, List.getElem?_eq_getElem (by omega)⟩
    have hmv0 := hmv m (List.mem_of_getElem? hmi)
    have hmM := hqx.2 i q0 m hq0 hmi
    generalize wa.drew = wb at *
    rw [xld61 rfl (hra.below hbd).cells, xld30 rfl (hrp.below hbd).cells, nta33 (F := fR 5) rfl (hqs.below hbd) hq0]
    refine c34 (hg16.below hbd) (hA.below hbd) rfl (hmM.below hbd) okA hmv0.2 fun b1 wc hbc hb1 => ?_
    rw [drewW_eq]
    have hbd2 := below_trans hbd (below_trans hbc (below_drew wc))
    generalize wc.drew = wd at *
    rw [xld61 rfl (hrb.below hbd2).cells, xld30 rfl (hrp.below hbd2).cells, nta33 (F := fR 5) rfl (hqs.below hbd2) hq0]
    refine c34 (hg16.below hbd2) (hB.below hbd2) rfl (hmM.below hbd2) okB hmv0.2 fun b2 we hbe hb2 => ?_
    rw [drewW_eq]
    have hbd3 := below_trans hbd2 (below_trans hbe (below_drew we))
    generalize we.drew = wf at *
    refine ⟨sameW wf, rfl, ?_⟩
    have hat : opAt X r ms i ↔ p ≤ m.now ∧ b1 = true ∧ b2 = true := by
      rw [hb1, hb2, ← hXo]
      exact ⟨fun ⟨m', h1, h2⟩ => by rw [hmi] at h1; cases h1; exact h2, fun h => ⟨m, hmi, h⟩⟩
    have yes : opAt X r ms i → J2 (I i) wf := fun h => hJ2 _ _ ⟨hbd3, _, rfl, .inr ⟨i, rfl, Nat.le_refl _, by omega, h, fun t h1 h2 => by omega⟩⟩
    have no : ¬ opAt X r ms i → J2 (I wt) wf := fun h => by
      refine hJ2 _ _ ⟨hbd3, _, rfl, ?_⟩
      rcases hwt with ⟨rfl, hno⟩ | ⟨n, rfl, h1, h2, h3, h4⟩
      · refine .inl ⟨rfl, fun n h1 h2 => ?_⟩
        by_cases hn : n = i
        · subst hn; exact h
        · exact hno n (by omega) h2
      · refine .inr ⟨n, rfl, by omega, h2, h3, fun t ht1 ht2 => ?_⟩
        by_cases hn : t = i
        · subst hn; exact h
        · exact h4 t (by omega) ht2
    obtain ⟨e2, c2, q2, hq0e, _⟩ := id hmM
    have hq1 : q0.1 = [I m.now, I m.drift, e2, c2, q2] := by unfold agR at hq0e; simpa using hq0e
    cases b1 with
    | false =>
      simp only [guardT_ft, guardT_u, pickT_false, guardW_ft, guardW_u]
      rw [keepS_eq]
      refine ⟨rfl, ?_⟩
      rw [condW_false]
      exact no (fun h => by have := (hat.1 h).2.1; cases this)
    | true =>
      simp only [guardT_tt, pickT_true]
      cases b2 with
      | false =>
        simp only [guardT_ft, guardT_u, pickT_false, guardW_ft, guardW_u]
        rw [keepS_eq]
        refine ⟨rfl, ?_⟩
        rw [condW_false]
        exact no (fun h => by have := (hat.1 h).2.2; cases this)
      | true =>
        simp only [guardT_tt, pickT_true, guardW_tt]
        rw [nt33_0 (F := fR 5) rfl (hqs.below hbd3) hq0 (u := I m.now) (by show q0.1[0]? = _; rw [hq1]; rfl)]
        refine c13x iat (by decide) ?_
        rw [keepS_eq]
        refine ⟨rfl, ?_⟩
        rw [t_geq, hp]
        by_cases hle : p ≤ m.now
        · rw [decide_eq_true hle, condW_true]
          exact yes (hat.2 ⟨hle, rfl, rfl⟩)
        · rw [decide_eq_false hle, condW_false]
          exact no (fun h => hle (hat.1 h).1)
  · rw [decide_eq_false (by omega), condW_false]
    obtain rfl : j = 0 := by omega
    have hrel : relN X r ms ms.length = wt := by
      rcases relN_cases X r ms ms.length with ⟨h1, h2⟩ | ⟨i, h1, h2, h3, h4⟩
      · rcases hwt with ⟨rfl, _⟩ | ⟨n, _, _, g2, g3, _⟩
        · exact h1
        · exact absurd g3 (h2 n g2)
      · rcases hwt with ⟨_, g⟩ | ⟨n, rfl, _, g2, g3, g4⟩
        · exact absurd h3 (g i (by omega) h1)
        · rcases Nat.lt_trichotomy i n with c | c | c
          · exact absurd h3 (g4 i (by omega) c)
          · rw [h2, c]
          · exact absurd g3 (h4 n c)
    clear hwt hm0
    have hJa := hJ16.below hba
    refine one_list (L := J) (s := kBoth) (hrj.below hba) hJa.ev.sl hJa.ct.sl ⟨xJ, hJa.lk.sl, hJa.ks.x⟩ iat fun v1 wb hbb hv1 => ?_
    rw [hp, hX] at hv1
    have hbb0 := below_trans hba hbb
    have vX : ValidIt X ∧ okLab X.lab := by
      rw [← hX]
      exact ⟨⟨⟨hp30.1, by show p ≤ 50000000; omega⟩, vJ, ⟨by show (1 : Int) ≤ 2; omega, by show (2 : Int) ≤ 3; omega⟩, (by decide : 1 ≤ kBoth.size ∧ kBoth.size ≤ 60)⟩, okJ⟩
    obtain ⟨GX, okx, okm⟩ := given_of (r := r) (xs := [X]) (fun x hx => by simp at hx; subst hx; exact vX) (by simp) hr1' hr2' hmv hml4
    rw [ld30 rfl (hrp.below hbb0).cells]
    have hR : RdrV (.agg ([I r.1, I r.2] : List Value).toArray) r := rfl
    refine c23 (hg16.below hbb0) hv1 hR (hM.below hbb0) okx okm fun fv e wc hbc _ hf0 => ?_
    obtain ⟨rfl, hfv⟩ := hf0 ⟨GX, .inl rfl⟩
    have hbc0 := below_trans hbb0 hbc
    have hfl := fdF_len (md := 1) (xs := [X]) (r := r) (ms := ms)
    rw [ex0, ex1]
    simp only [w_neq, decide_true, Bool.not_true, guardW_ff, pickW_false]
    rw [len31 hfv, len33 (hqs.below hbc0), w_neq, decide_eq_true (by omega), Bool.not_true]
    simp only [pickW_false, condW_false]
    refine Loop1.intro (fun n c w' => ∃ i : Nat, c = I i ∧ i ≤ ms.length ∧ n = ms.length - i ∧ Below wc.heap.size wc w') _ ⟨0, rfl, by omega, rfl, Below.refl _ _⟩ ?_
    rintro n _ wd ⟨i, rfl, hi, rfl, hbd⟩
    have hbd0 := below_trans hbc0 hbd
    rw [len33 (hqs.below hbd0), w_lss]
    by_cases hlt : i < ms.length
    · rw [decide_eq_true (by omega), condW_true, drewW_eq]
      have hbe := below_trans hbd (below_drew wd)
      generalize wd.drew = we at *
      have ae := after_refl we
      refine ⟨after we, ae, ?_⟩
      have hpk : (fdF 1 [X] r ms)[i]? = some (if relN X r ms ms.length = i then slotB X.text else zeroB 64) := by
        show (feedF true [X] r ms ms.length)[i]? = _
        rw [feedF_get hlt, pack_first hlt]
      rw [ra31 (hfv.below hbe) hpk ae]
      refine c35 (n := 64) (by decide) (by decide) fun wf hbf => ?_
      rw [keepS_eq]
      refine ⟨hbf, ?_⟩
      rw [t_eqlStr (by kernel_rfl), w_eql, w_eqlBB]
      have hne : ((if relN X r ms ms.length = i then slotB X.text else zeroB 64) = zeroB 64) ↔ ¬ relN X r ms ms.length = i := by
        split
        · rename_i h; exact ⟨fun hh => absurd hh (slotB_ne (by rw [← hX]; exact (by decide : 1 ≤ kBoth.size ∧ kBoth.size ≤ 60))), fun hh => absurd h hh⟩
        · rename_i h; exact ⟨fun _ => h, fun _ => rfl⟩
      have hfin : (decide (decide ((if relN X r ms ms.length = i then slotB X.text else zeroB 64) = zeroB 64) = decide ((i : Int) = wt))) = false := by
        rw [decide_eq_false_iff_not, decide_eq_decide, hne, hrel]
        omega
      rw [hfin, condW_false, w_add, wrap_id (by omega), loopK_self]
      exact ⟨ms.length - (i + 1), by omega, i + 1, by simp [I], by omega, rfl, below_trans hbe hbf⟩
    · rw [decide_eq_false (by omega), condW_false]
      obtain ⟨x1, y1, z1, g1, g2, g3, g4⟩ := hA.below hbd0
      obtain ⟨rfl, rfl, rfl⟩ : x1 = eA ∧ y1 = cA ∧ z1 = qA := by
        have := g1
        simp at this
        exact ⟨this.1.symm, this.2.1.symm, this.2.2.symm⟩
      refine one_list (L := LA) (s := kOne) (hra.below hbd0) g2 g3 g4 iat fun v2 we hbe hv2 => ?_
      rw [hp] at hv2
      have hbe0 := below_trans hbd0 hbe
      obtain ⟨x2, y2, z2, k1, k2, k3, k4⟩ := hB.below hbe0
      obtain ⟨rfl, rfl, rfl⟩ : x2 = eB ∧ y2 = cB ∧ z2 = qB := by
        have := k1
        simp at this
        exact ⟨this.1.symm, this.2.1.symm, this.2.2.symm⟩
      refine one_list (L := LB) (s := kTwo) (hrb.below hbe0) k2 k3 k4 iat fun v3 wf hbf hv3 => ?_
      rw [hp] at hv3
      have hbf0 := below_trans hbe0 hbf
      have vXA : ValidIt ⟨p, LA, 2, kOne⟩ ∧ okLab LA := ⟨⟨⟨hp30.1, by show p ≤ 50000000; omega⟩, vLA, ⟨by show (1 : Int) ≤ 2; omega, by show (2 : Int) ≤ 3; omega⟩, (by decide : 1 ≤ kOne.size ∧ kOne.size ≤ 60)⟩, okA⟩
      have vXB : ValidIt ⟨p, LB, 2, kTwo⟩ ∧ okLab LB := ⟨⟨⟨hp30.1, by show p ≤ 50000000; omega⟩, vLB, ⟨by show (1 : Int) ≤ 2; omega, by show (2 : Int) ≤ 3; omega⟩, (by decide : 1 ≤ kTwo.size ∧ kTwo.size ≤ 60)⟩, okB⟩
      obtain ⟨GA, oka, _⟩ := given_of (r := r) (xs := [⟨p, LA, 2, kOne⟩]) (fun x hx => by simp at hx; subst hx; exact vXA) (by simp) hr1' hr2' hmv hml4
      obtain ⟨GB, okb, _⟩ := given_of (r := r) (xs := [⟨p, LB, 2, kTwo⟩]) (fun x hx => by simp at hx; subst hx; exact vXB) (by simp) hr1' hr2' hmv hml4
      rw [ld30 rfl (hrp.below hbf0).cells]
      refine c16 (hg16.below hbf0) (hv2.below hbf) hR (hM.below hbf0) oka okm fun u1 e wg hbg _ hZ => ?_
      obtain ⟨rfl, hZ1⟩ := hZ GA
      have hbg0 := below_trans hbf0 hbg
      rw [ex0, ex1, ld30 rfl (hrp.below hbg0).cells]
      refine c16 (hg16.below hbg0) (hv3.below hbg) hR (hM.below hbg0) okb okm fun u2 e wh hbh _ hZ => ?_
      obtain ⟨rfl, hZ2⟩ := hZ GB
      have hbh0 := below_trans hbg0 hbh
      rw [ex0, ex1, ld30 rfl (hrp.below hbh0).cells]
      have hv1h : ItemsV wh v1 [X] := ((((hv1.below hbc).below hbd).below hbe).below hbf).below (below_trans hbg hbh)
      refine c16 (hg16.below hbh0) hv1h hR (hM.below hbh0) okx okm fun u3 e wi hbi _ hZ => ?_
      obtain ⟨rfl, hZ3⟩ := hZ GX
      have hbi0 := below_trans hbh0 hbi
      rw [ex0, ex1]
      obtain ⟨s1, hs1, hx1⟩ := hZ1.below (below_trans hbh hbi)
      obtain ⟨s2, hs2, hx2⟩ := hZ2.below hbi
      obtain ⟨s3, hs3, hx3⟩ := hZ3
      have l1 := hx1.1
      have l2 := hx2.1
      have l3 := hx3.1
      have n3 := seen_one (x := X) (r := r) (ms := ms)
      have n1 := seen_one (x := ⟨p, LA, 2, kOne⟩) (r := r) (ms := ms)
      have n2 := seen_one (x := ⟨p, LB, 2, kTwo⟩) (r := r) (ms := ms)
      simp only [w_eql, decide_true, guardW_tt, pickW_true]
      rw [len24 hs3, w_eql, w_geq, w_eqlBB]
      have hq1 : decide (decide ((s3.length : Int) = 1) = decide (0 ≤ wt)) = true := by
        rw [decide_eq_true_eq, decide_eq_decide, ← hrel]
        omega
      rw [hq1]
      simp only [guardW_tt, pickW_true]
      rw [len24 hs3, w_eql]
      by_cases h0 : 0 ≤ relN X r ms ms.length
      · rw [decide_eq_false (by omega)]
        simp only [guardW_ff, guardW_tt]
        have key : 0 ≤ relN (⟨p, LA, 2, kOne⟩ : ItW) r ms ms.length ∧ 0 ≤ relN (⟨p, LB, 2, kTwo⟩ : ItW) r ms ms.length := by
          rcases relN_cases X r ms ms.length with ⟨c1, _⟩ | ⟨i, c1, c2, ⟨m, c3, c4⟩, _⟩
          · omega
          · obtain ⟨d1, d2, d3⟩ := (hXo m).1 c4
            constructor
            · rcases relN_cases (⟨p, LA, 2, kOne⟩ : ItW) r ms ms.length with ⟨f1, f2⟩ | ⟨i', f1, f2, _⟩
              · exact absurd ⟨m, c3, d1, d2⟩ (f2 i c1)
              · omega
            · rcases relN_cases (⟨p, LB, 2, kTwo⟩ : ItW) r ms ms.length with ⟨f1, f2⟩ | ⟨i', f1, f2, _⟩
              · exact absurd ⟨m, c3, d1, d3⟩ (f2 i c1)
              · omega
        have m1 := n1.1.2 key.1
        have m2 := n2.1.2 key.2
        rw [len24 hs1, w_eql, decide_eq_true (by omega)]
        simp only [guardW_tt]
        rw [len24 hs2, w_eql, decide_eq_true (by omega)]
        simp only [guardW_tt, guardW_ff, pickW_true, pickW_false]
        exact hk _ (below_trans hb016 hbi0)
      · rw [decide_eq_true (by omega)]
        simp only [guardW_tf, guardW_u, guardW_tt, pickW_true]
        exact hk _ (below_trans hb016 hbi0)
end
end Go.Proofs.YtfkfkldhcignbaaGreatDoor
/- FlowJoins answers true for every input, and the input reads as it did; its card ties the four listed variables to the program's text: no condition of its own. -/
namespace Go.Proofs.YtfkfkldhcignbaaGreatDoor.flowJoins
open Go Go.V Go.ChangeShapes Go.WideShapes Go.ChangeAt Go.RowKit Go.Deep
set_option linter.unusedVariables false
theorem laid_met (os : Os) (args : Array Value) : laidMetH Tryz.prog Rows.flowJoinsRow.laid ((laidWorld os).forCall (fun _ _ => 0) ⟨#[], args, []⟩).memory :=
  laidMetH_of_parts3 (fuel := 8) (laidMet_of_run' 8 (by kernel_rfl) (by kernel_rfl)) (by kernel_rfl) (by kernel_rfl)
theorem witness_row (os : Os) {H : Type} (enc : TypeId × Value → H) :
    (OpenSpec.ofChange Rows.flowJoinsSpec).preRow enc Tryz.prog Tryz.f9 Rows.flowJoinsRow.domain false Rows.flowJoinsRow.laid ((laidWorld os).forCall (fun _ _ => 0) ⟨#[], #[.agg #[.int .i64 0, .int .i64 0, .int .i64 0, .int .i64 0, .int .i64 0, .int .i64 0, .int .i64 0, .int .i64 0, .int .i64 0, .int .i64 0, .int .i64 0, .int .i64 0, .int .i64 0, .int .i64 0], .slice none 0 0, .int .i64 0, .agg #[.int .i64 0, .int .i64 0]], []⟩).memory #[.agg #[.int .i64 0, .int .i64 0, .int .i64 0, .int .i64 0, .int .i64 0, .int .i64 0, .int .i64 0, .int .i64 0, .int .i64 0, .int .i64 0, .int .i64 0, .int .i64 0, .int .i64 0, .int .i64 0], .slice none 0 0, .int .i64 0, .agg #[.int .i64 0, .int .i64 0]] := by
  have hw : (DataW.whole enc Tryz.prog ((laidWorld os).forCall (fun _ _ => 0) ⟨#[], #[.agg #[.int .i64 0, .int .i64 0, .int .i64 0, .int .i64 0, .int .i64 0, .int .i64 0, .int .i64 0, .int .i64 0, .int .i64 0, .int .i64 0, .int .i64 0, .int .i64 0, .int .i64 0, .int .i64 0], .slice none 0 0, .int .i64 0, .agg #[.int .i64 0, .int .i64 0]], []⟩).memory Tryz.f9.params.toList (OpenSpec.ofChange Rows.flowJoinsSpec).vars false (#[.agg #[.int .i64 0, .int .i64 0, .int .i64 0, .int .i64 0, .int .i64 0, .int .i64 0, .int .i64 0, .int .i64 0, .int .i64 0, .int .i64 0, .int .i64 0, .int .i64 0, .int .i64 0, .int .i64 0], .slice none 0 0, .int .i64 0, .agg #[.int .i64 0, .int .i64 0]] : Array Value).toList 8).map (fun x => (x.1, x.2.1)) =
      some ([.agg [.agg [.lit (.int .i64 0), .lit (.int .i64 0), .lit (.int .i64 0), .lit (.int .i64 0), .lit (.int .i64 0), .lit (.int .i64 0), .lit (.int .i64 0)], .agg [.lit (.int .i64 0), .lit (.int .i64 0), .lit (.int .i64 0), .lit (.int .i64 0), .lit (.int .i64 0), .lit (.int .i64 0), .lit (.int .i64 0)]], .nil, .lit (.int .i64 0), .agg [.lit (.int .i64 0), .lit (.int .i64 0)]], []) := by kernel_rfl
  obtain ⟨⟨x1, x2, x3⟩, hx, hx1⟩ := Option.map_eq_some_iff.1 hw
  simp only [Prod.mk.injEq] at hx1
  obtain ⟨rfl, rfl⟩ := hx1
  exact OpenSpec.preRow_of_cond 8 hx (by kernel_rfl) (fun k hk => by cases hk) (by kernel_rfl) (laid_met os _)
set_option maxRecDepth 100000 in
theorem lifted (os : Os) (started : os.Started) (H : Type) (enc : TypeId × Value → H) (F : Stop.Interp) :
    ReturnsInHanded {} Tryz.checked os 9 .any ((OpenSpec.ofChange Rows.flowJoinsSpec).preRow enc Tryz.prog Tryz.f9 Rows.flowJoinsRow.domain false Rows.flowJoinsRow.laid) (((OpenSpec.ofChange Rows.flowJoinsSpec).at F).post enc Tryz.prog Tryz.f9 false true false false) := by
  refine returnsInHanded_of_row (C := Tryz.checked) (s := OpenSpec.ofChange Rows.flowJoinsSpec) own started (by kernel_rfl) Tryz.func9
    (witness_row_atRef (enc := enc) (C := Tryz.checked) false (laidWorld os) #[.agg #[.int .i64 0, .int .i64 0, .int .i64 0, .int .i64 0, .int .i64 0, .int .i64 0, .int .i64 0, .int .i64 0, .int .i64 0, .int .i64 0, .int .i64 0, .int .i64 0, .int .i64 0, .int .i64 0], .slice none 0 0, .int .i64 0, .agg #[.int .i64 0, .int .i64 0]] rfl (by kernel_rfl) (by kernel_rfl) (by kernel_rfl) (witness_row os enc)) ?_
  intro W base args ds gs before hval0 hW _ _ _ hL _ _
  have hgl : Gl W := gl_of_laid rfl hL
  have hval : ∀ (j : Nat) t v, Tryz.f9.params[j]? = some t → args[j]? = some v → Value.okWide Tryz.prog W .any base t v := hval0
  have hW' := hW
  obtain ⟨p, q, hA0, hV, rfl, hfz, hnd⟩ := hW
  have hA : DataW.TrodAll enc Tryz.prog W 0 (fun _ => true) true Tryz.f9.params.toList args.toList ds p := hA0
  rw [Tryz.params9] at hA hval
  obtain ⟨v0, vs0, d0, ds0, p0, q0, hargs, rfl, rfl, h0, r0⟩ := trodAll_cons hA
  obtain ⟨v1, vs1, d1, ds1, p1, q1, rfl, rfl, rfl, h1, r1⟩ := trodAll_cons r0
  obtain ⟨v2, vs2, d2, ds2, p2, q2, rfl, rfl, rfl, h2, r2⟩ := trodAll_cons r1
  obtain ⟨v3, vs3, d3, ds3, p3, q3, rfl, rfl, rfl, h3, r3⟩ := trodAll_cons r2
  obtain ⟨rfl, rfl, rfl⟩ := trodAll_nil r3
  obtain rfl : args = #[v0, v1, v2, v3] := by cases args; simp_all
  obtain ⟨rfl, rfl⟩ := trodVars_none hV
  obtain ⟨c0, rfl⟩ := okWide_arrT Tryz.underlying72 (hval 0 72 v0 rfl rfl)
  obtain ⟨a1, len1, cap1, rfl⟩ := okWide_slice und23 (hval 1 23 v1 rfl rfl)
  obtain ⟨a2, rfl, rfl, rfl, wa2⟩ := open_int Tryz.underlying3 (hval 2 3 v2 rfl rfl) h2
  obtain ⟨c3, rfl, _⟩ := okWide_struct Tryz.underlying30 (hval 3 30 v3 rfl rfl)
  have k0 := h0
  have lt0 : ∀ x ∈ p0, x.block < W.heap.size := by obtain ⟨m, hm⟩ := k0; exact DataW.trod_lt m _ _ _ hm
  have k1 := h1
  have lt1 : ∀ x ∈ p1, x.block < W.heap.size := by obtain ⟨m, hm⟩ := k1; exact DataW.trod_lt m _ _ _ hm
  have k3 := h3
  have lt3 : ∀ x ∈ p3, x.block < W.heap.size := by obtain ⟨m, hm⟩ := k3; exact DataW.trod_lt m _ _ _ hm
  obtain ⟨x0, y0, hc0, wx0, wy0⟩ : ∃ a b : IntV 7, c0 = ((a.1 ++ b.1).map I).toArray ∧ (∀ y ∈ a.1, in64 y) ∧ (∀ y ∈ b.1, in64 y) := by
    obtain ⟨fuel, hf⟩ := h0
    exact openP hf
  subst hc0
  obtain ⟨l1, s1, o1⟩ : ∃ l : List (IntV 5), IsSl (fV 5) W (.slice a1 len1 cap1) l ∧ l.length ≤ maxLen ∧ okV l := by
    obtain ⟨fuel, hf⟩ := h1
    exact openF hf
  obtain ⟨x3, y3, hc3, wx3, wy3⟩ : ∃ a b, c3 = #[I a, I b] ∧ in64 a ∧ in64 b := by
    obtain ⟨fuel, hf⟩ := h3
    exact openR hf
  subst hc3
  clear hA0 hval0
  have walk : Calls Tryz.prog 9 #[.agg ((x0.1 ++ y0.1).map I).toArray, .slice a1 len1 cap1, I a2, .agg #[I x3, I y3]] W fun e w' => e = .returned (.bool true) ∧ Below W.heap.size W w' :=
    (S9_calls _ _ _ _ _ W (s9 (k := fun v w' => v = .bool true ∧ Below W.heap.size W w') hgl s1 wx0 wy0 o1 (in64_of_wf wa2) wx3 wy3 fun w' hb => ⟨rfl, hb⟩)).mono fun e w' h => by
      cases e <;> first | exact h.elim | exact ⟨by rw [h.1], h.2⟩
  refine walk.mono fun e W' ⟨he, bel⟩ => ?_
  subst he
  exact ⟨_, rfl, _, _, _, [], _, [], hW', trodAll_mk1 (shut_bool Tryz.underlying4 _), (trodAll_cons_mk (Below.trod laidOut (by kernel_rfl) (of_decide_eq_true (by kernel_rfl)) k0 bel lt0) (trodAll_cons_mk (Below.trod laidOut (by kernel_rfl) (of_decide_eq_true (by kernel_rfl)) k1 bel lt1) (trodAll_cons_mk (shut_int Tryz.underlying3 wa2) (trodAll_cons_mk (Below.trod laidOut (by kernel_rfl) (of_decide_eq_true (by kernel_rfl)) k3 bel lt3) trodAll_mk0)))), rfl, bel.frame _, fun h => by cases h⟩
theorem row_holds : Rows.FlowJoinsSaid :=
  OpenClaim.holds_of_cond 9 Tryz.f9 rfl rfl rfl rfl rfl rfl rfl ⟨rfl, rfl, rfl, rfl, rfl⟩ rfl rfl rfl rfl rfl (by kernel_rfl) Tryz.func9 (by kernel_rfl)
    (of_decide_eq_true (by kernel_rfl)) (by unfold Func.isWrapper; first | (rw [if_pos (by decide +kernel)]; kernel_rfl) | (rw [if_neg (by decide +kernel)]; exact ⟨rfl, rfl⟩))
    (fun os started H enc _ F0 => by rw [OpenClaim.pre_eq_preRow]; exact lifted os started H enc F0)
theorem wants (t : TypeId) (ht : t ∈ [72, 23, 3, 30]) : Tryz.prog.wantsStandIn t = false := by
  simp only [List.mem_cons, List.not_mem_nil, or_false] at ht
  rcases ht with rfl | rfl | rfl | rfl <;> kernel_rfl
theorem proved : Rows.FlowJoinsCardSaid :=
  Claim7.holds_tied_plain_at .later [] [.data, .funcs, .funcs, .pinned] true (true, "36ff14b8e280d3072425211c8c452e45a20f28404a5cb1ce5d8b4f836afc09c9") false
    row_holds (fun _ h => by cases h) (by kernel_rfl) (fun _ h => by cases h) flowJoins_row_tie rfl ⟨rfl, rfl⟩ (by kernel_rfl) rfl
    (fun f fn hf hfn => by
      obtain rfl : f = 9 := Option.some.inj ((show Tryz.prog.funcNamed "newswire/newswirelaw26.FlowJoins" = some 9 by kernel_rfl).symm.trans hf) |>.symm
      obtain rfl : fn = Tryz.f9 := (Option.some.inj (Tryz.func9.symm.trans hfn)).symm
      exact ⟨by kernel_rfl, fun j t ht => wants t (by
        rw [Tryz.params9] at ht
        exact List.mem_of_getElem? (by simpa using ht))⟩)
    (by kernel_rfl)
end Go.Proofs.YtfkfkldhcignbaaGreatDoor.flowJoins
