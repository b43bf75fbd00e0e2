/- FlowMatchesReference answers true for every input, and the input reads as it did; its card ties the four listed variables to the program's text: no condition of its own. -/
import Derived.Test.YtfkfkldhcignbaaGreatDoorFm6
/- Arguments of the feeds' laws, opened: items, a moment, texts. -/
set_option linter.unusedSimpArgs false
set_option linter.unusedVariables false
namespace Go.Proofs.YtfkfkldhcignbaaGreatDoor
open Go Go.V Go.RowKit Go.ChangeShapes Go.WideShapes Go.ChangeAt Go.Deep
def okRawM (m : Mom) : Prop := okMom m
theorem und24 : Tryz.prog.underlying 24 = some (.slice 63) := by kernel_rfl
theorem und26 : Tryz.prog.underlying 26 = some (.slice 121) := by kernel_rfl
theorem und59 : Tryz.prog.underlying 59 = some (.slice 87) := by kernel_rfl
theorem und31 : Tryz.prog.underlying 31 = some (.slice 9) := by kernel_rfl
theorem sa63 : structAt Tryz.prog 63 = some [(3, 0), (61, 1), (3, 7), (9, 8)] := by kernel_rfl
theorem sa61 : structAt Tryz.prog 61 = some [(3, 0), (25, 1), (26, 2), (3, 3), (3, 4), (59, 5)] := by kernel_rfl
theorem sa87 : structAt Tryz.prog 87 = some [(3, 0), (25, 1)] := by kernel_rfl
theorem sa121 : structAt Tryz.prog 121 = some [(3, 0), (3, 1)] := by kernel_rfl
theorem sa28 : structAt Tryz.prog 28 = some [(3, 0), (3, 1), (25, 2), (26, 3), (25, 4)] := by kernel_rfl
theorem cells63 : Tryz.prog.cellsOf 63 = 9 := by kernel_rfl
theorem cells61 : Tryz.prog.cellsOf 61 = 6 := by kernel_rfl
theorem cells87 : Tryz.prog.cellsOf 87 = 2 := by kernel_rfl
theorem cells121 : Tryz.prog.cellsOf 121 = 2 := by kernel_rfl
theorem cells28 : Tryz.prog.cellsOf 28 = 5 := by kernel_rfl
theorem cells26 : Tryz.prog.cellsOf 26 = 1 := by kernel_rfl
theorem cells59 : Tryz.prog.cellsOf 59 = 1 := by kernel_rfl
theorem cells9 : Tryz.prog.cellsOf 9 = 1 := by kernel_rfl
section
variable {H : Type} {enc : TypeId × Value → H} {w : World} {base : Nat} {spare : Nat → Bool} {held : Bool}
theorem int_of_trod {cs : List Value} {m : Nat} {y : DataW H × List MemPlace} (h : DataW.trod enc Tryz.prog w base spare held m 3 cs = some y) : ∃ n, cs = [I n] ∧ in64 n := by
  obtain ⟨n, hn, _, hw⟩ := DataW.trod_int Tryz.underlying3 h
  exact ⟨n, hn, in64_of_wf hw⟩
theorem str_of_trod {cs : List Value} {m : Nat} {y : DataW H × List MemPlace} (h : DataW.trod enc Tryz.prog w base spare held m 9 cs = some y) : ∃ s, cs = [.string s] ∧ s.size ≤ maxLen := by
  obtain ⟨s, h1, _, h2⟩ := DataW.trod_string Tryz.underlying9 h
  exact ⟨s, h1, h2⟩
theorem openT {fuel : Nat} {v : Value} {x : DataW H × List MemPlace} (h : DataW.trod enc Tryz.prog w base spare held fuel 31 [v] = some x) : ∃ l : List ByteArray, IsSl fT w v l ∧ l.length ≤ maxLen := by
  obtain ⟨l, h1, h2, _⟩ := sl_of_trod (F := fT) (Q := fun _ => True) und31 cells9 (by decide) (fun cs m y h => by
    obtain ⟨s, hs, _⟩ := str_of_trod h
    exact ⟨s, hs, trivial⟩) h
  exact ⟨l, h1, h2⟩
set_option maxRecDepth 100000 in
theorem openC {fuel : Nat} {v : Value} {x : DataW H × List MemPlace} (h : DataW.trod enc Tryz.prog w base spare held fuel 26 [v] = some x) : ∃ l : List CW, IsSl fC w v l ∧ l.length ≤ maxLen := by
  obtain ⟨l, h1, h2, _⟩ := sl_of_trod (F := fC) (Q := fun _ => True) und26 cells121 (by decide) (fun cs m y h => by
    obtain ⟨hl, m', ys, _, hf⟩ := trod_at sa121 h
    rw [cells121] at hl
    obtain ⟨y0, _, t0⟩ := hf 0 _ rfl
    obtain ⟨y1, _, t1⟩ := hf 1 _ rfl
    rw [cells3'] at t0 t1
    match cs, hl with
    | [a, b], _ =>
      obtain ⟨n0, h0, _⟩ := int_of_trod t0
      obtain ⟨n1, h1, _⟩ := int_of_trod t1
      simp at h0 h1
      subst h0 h1
      exact ⟨⟨n0, n1⟩, rfl, trivial⟩) h
  exact ⟨l, h1, h2⟩
theorem choose_list {α β : Type} {R : α → β → Prop} : ∀ {l : List α}, (∀ x ∈ l, ∃ y, R x y) → ∃ m : List β, l.length = m.length ∧ ∀ (i : Nat) x y, l[i]? = some x → m[i]? = some y → R x y
  | [], _ => ⟨[], rfl, fun i x y h => by simp at h⟩
  | a :: l, h => by
    obtain ⟨b, hb⟩ := h a (by simp)
    obtain ⟨m, hm, hR⟩ := choose_list (l := l) (R := R) fun x hx => h x (by simp [hx])
    refine ⟨b :: m, by simp [hm], fun i x y h1 h2 => ?_⟩
    cases i with
    | zero => simp at h1 h2; subst h1 h2; exact hb
    | succ i => simp at h1 h2; exact hR i x y h1 h2
set_option maxRecDepth 100000 in
theorem openQ {fuel : Nat} {v : Value} {x : DataW H × List MemPlace} (h : DataW.trod enc Tryz.prog w base spare held fuel 59 [v] = some x) : ∃ ls : List Lock, LocksV w v ls ∧ ls.length ≤ maxLen ∧ ∀ q ∈ ls, okL q.2 := by
  obtain ⟨l, h1, h2, h3⟩ := sl_of_trod (F := fQW) (Q := fun x => ∃ p : Lock, QuorV w (agQ x) p ∧ okL p.2) und59 cells87 (by decide) (fun cs m y h => by
    obtain ⟨hl, m', ys, _, hf⟩ := trod_at sa87 h
    rw [cells87] at hl
    obtain ⟨y0, _, t0⟩ := hf 0 _ rfl
    obtain ⟨y1, _, t1⟩ := hf 1 _ rfl
    rw [cells3'] at t0
    rw [cells25] at t1
    match cs, hl with
    | [a, b], _ =>
      obtain ⟨n0, h0, _⟩ := int_of_trod t0
      have t1' : DataW.trod enc Tryz.prog w base spare held m' 25 [b] = some y1 := by simpa using t1
      obtain ⟨ks, s1, s2, s3⟩ := openW t1'
      simp at h0
      subst h0
      obtain ⟨ad, c, rfl, -⟩ := id s1
      exact ⟨⟨n0, ad, ks.length, c⟩, rfl, (n0, ks), ⟨_, rfl, s1⟩, s2, s3⟩) h
  obtain ⟨ls, hl, hR⟩ := choose_list h3
  refine ⟨ls, ⟨l, h1, hl, fun i x p g1 g2 => (hR i x p g1 g2).1⟩, by omega, fun q hq => ?_⟩
  obtain ⟨i, hi, rfl⟩ := List.getElem_of_mem hq
  exact (hR i (l[i]'(by omega)) _ (List.getElem?_eq_getElem _) (List.getElem?_eq_getElem hi)).2
set_option maxRecDepth 100000 in
theorem openL {m : Nat} {cs : List Value} {y : DataW H × List MemPlace} (h : DataW.trod enc Tryz.prog w base spare held m 61 cs = some y) : ∃ (L : Lab) (e c q : Value), cs = [I L.til, e, c, I L.terr, I L.cls, q] ∧ IsSl fI w e L.ev ∧ IsSl fC w c L.ct ∧ LocksV w q L.locks ∧ okLab L := by
  obtain ⟨hl, m', ys, _, hf⟩ := trod_at sa61 h
  rw [cells61] at hl
  obtain ⟨y0, _, t0⟩ := hf 0 _ rfl
  obtain ⟨y1, _, t1⟩ := hf 1 _ rfl
  obtain ⟨y2, _, t2⟩ := hf 2 _ rfl
  obtain ⟨y3, _, t3⟩ := hf 3 _ rfl
  obtain ⟨y4, _, t4⟩ := hf 4 _ rfl
  obtain ⟨y5, _, t5⟩ := hf 5 _ rfl
  rw [cells3'] at t0 t3 t4
  rw [cells25] at t1
  rw [cells26] at t2
  rw [cells59] at t5
  match cs, hl with
  | [v0, v1, v2, v3, v4, v5], _ =>
    obtain ⟨n0, h0, _⟩ := int_of_trod t0
    obtain ⟨n3, h3, _⟩ := int_of_trod t3
    obtain ⟨n4, h4, _⟩ := int_of_trod t4
    simp at h0 h3 h4
    subst h0 h3 h4
    have t1' : DataW.trod enc Tryz.prog w base spare held m' 25 [v1] = some y1 := by simpa using t1
    have t2' : DataW.trod enc Tryz.prog w base spare held m' 26 [v2] = some y2 := by simpa using t2
    have t5' : DataW.trod enc Tryz.prog w base spare held m' 59 [v5] = some y5 := by simpa using t5
    obtain ⟨ev, e1, e2, e3⟩ := openW t1'
    obtain ⟨ct, c1, c2⟩ := openC t2'
    obtain ⟨ls, q1, q2, q3⟩ := openQ t5'
    exact ⟨⟨n0, ev, ct, n3, n4, ls⟩, v1, v2, v5, rfl, e1, c1, q1, ⟨e2, e3⟩, c2, q2, q3⟩
set_option maxRecDepth 100000 in
theorem openI {fuel : Nat} {v : Value} {x : DataW H × List MemPlace} (h : DataW.trod enc Tryz.prog w base spare held fuel 24 [v] = some x) : ∃ l : List ItW, ItemsV w v l ∧ okRaw l := by
  obtain ⟨l, h1, h2, h3⟩ := sl_of_trod (F := fR 9) (Q := fun r => ∃ x : ItW, ItemV w (agR r) x ∧ okLab x.lab) und24 cells63 (by decide) (fun cs m y h => by
    obtain ⟨hl, m', ys, _, hf⟩ := trod_at sa63 h
    rw [cells63] at hl
    obtain ⟨y0, _, t0⟩ := hf 0 _ rfl
    obtain ⟨y1, _, t1⟩ := hf 1 _ rfl
    obtain ⟨y2, _, t2⟩ := hf 2 _ rfl
    obtain ⟨y3, _, t3⟩ := hf 3 _ rfl
    rw [cells3'] at t0 t2
    rw [cells61] at t1
    rw [cells9] at t3
    match cs, hl with
    | [v0, v1, v2, v3, v4, v5, v6, v7, v8], _ =>
      obtain ⟨n0, h0, _⟩ := int_of_trod t0
      obtain ⟨n7, h7, _⟩ := int_of_trod t2
      obtain ⟨s, h8, _⟩ := str_of_trod t3
      simp at h0 h7 h8
      subst h0 h7 h8
      obtain ⟨L, e, c, q, hL, g1, g2, g3, g4⟩ := openL t1
      simp at hL
      obtain ⟨rfl, rfl, rfl, rfl, rfl, rfl⟩ := hL
      obtain ⟨xs, g3a, g3b⟩ := id g3
      exact ⟨⟨itemL ⟨n0, L, n7, s⟩ v2 v3 v6, rfl, one9' g1 g2 g3a⟩, rfl, ⟨n0, L, n7, s⟩, ⟨v2, v3, v6, rfl, g1, g2, g3⟩, g4⟩) h
  obtain ⟨xs, hl, hR⟩ := choose_list h3
  refine ⟨xs, ⟨l, h1, hl, fun i r x g1 g2 => (hR i r x g1 g2).1⟩, by omega, fun x hx => ?_⟩
  obtain ⟨i, hi, rfl⟩ := List.getElem_of_mem hx
  exact (hR i (l[i]'(by omega)) _ (List.getElem?_eq_getElem _) (List.getElem?_eq_getElem hi)).2
set_option maxRecDepth 100000 in
theorem openM {m : Nat} {cs : Array Value} {y : DataW H × List MemPlace} (h : DataW.trod enc Tryz.prog w base spare held m 28 cs.toList = some y) : ∃ o : Mom, MomV w (.agg cs) o ∧ okRawM o := by
  obtain ⟨hl, m', ys, _, hf⟩ := trod_at sa28 h
  rw [cells28] at hl
  obtain ⟨y0, _, t0⟩ := hf 0 _ rfl
  obtain ⟨y1, _, t1⟩ := hf 1 _ rfl
  obtain ⟨y2, _, t2⟩ := hf 2 _ rfl
  obtain ⟨y3, _, t3⟩ := hf 3 _ rfl
  obtain ⟨y4, _, t4⟩ := hf 4 _ rfl
  rw [cells3'] at t0 t1
  rw [cells25] at t2 t4
  rw [cells26] at t3
  obtain ⟨cs⟩ := cs
  have hl' : cs.length = 5 := hl
  match cs, hl' with
  | [v0, v1, v2, v3, v4], _ =>
    obtain ⟨n0, h0, _⟩ := int_of_trod t0
    obtain ⟨n1, h1, _⟩ := int_of_trod t1
    simp at h0 h1
    subst h0 h1
    have t2' : DataW.trod enc Tryz.prog w base spare held m' 25 [v2] = some y2 := by simpa using t2
    have t3' : DataW.trod enc Tryz.prog w base spare held m' 26 [v3] = some y3 := by simpa using t3
    have t4' : DataW.trod enc Tryz.prog w base spare held m' 25 [v4] = some y4 := by simpa using t4
    obtain ⟨ev, e1, e2, e3⟩ := openW t2'
    obtain ⟨ct, c1, c2⟩ := openC t3'
    obtain ⟨ks, k1, k2, k3⟩ := openW t4'
    exact ⟨⟨n0, n1, ev, ct, ks⟩, ⟨v2, v3, v4, rfl, e1, c1, k1⟩, e2, c2, k2⟩
end
end Go.Proofs.YtfkfkldhcignbaaGreatDoor
/- FlowMatchesReference answers true for every input, and the input reads as it did; its card ties the four listed variables to the program's text: no condition of its own. -/
namespace Go.Proofs.YtfkfkldhcignbaaGreatDoor.flowMatchesReference
open Go Go.V Go.ChangeShapes Go.WideShapes Go.ChangeAt Go.RowKit Go.Deep
set_option linter.unusedVariables false
theorem laid_met (os : Os) (args : Array Value) : laidMetH Tryz.prog Rows.flowMatchesReferenceRow.laid ((laidWorld os).forCall (fun _ _ => 0) ⟨#[], args, []⟩).memory :=
  laidMetH_of_parts3 (fuel := 8) (laidMet_of_run' 8 (by kernel_rfl) (by kernel_rfl)) (by kernel_rfl) (by kernel_rfl)
theorem witness_row (os : Os) {H : Type} (enc : TypeId × Value → H) :
    (OpenSpec.ofChange Rows.flowMatchesReferenceSpec).preRow enc Tryz.prog Tryz.f3 Rows.flowMatchesReferenceRow.domain false Rows.flowMatchesReferenceRow.laid ((laidWorld os).forCall (fun _ _ => 0) ⟨#[], #[.slice none 0 0, .slice none 0 0, .slice none 0 0, .slice none 0 0, .agg #[.int .i64 0, .int .i64 0, .slice none 0 0, .slice none 0 0, .slice none 0 0], .int .i64 0, .agg #[.int .i64 0, .int .i64 0], .int .i64 0, .slice none 0 0], []⟩).memory #[.slice none 0 0, .slice none 0 0, .slice none 0 0, .slice none 0 0, .agg #[.int .i64 0, .int .i64 0, .slice none 0 0, .slice none 0 0, .slice none 0 0], .int .i64 0, .agg #[.int .i64 0, .int .i64 0], .int .i64 0, .slice none 0 0] := by
  have hw : (DataW.whole enc Tryz.prog ((laidWorld os).forCall (fun _ _ => 0) ⟨#[], #[.slice none 0 0, .slice none 0 0, .slice none 0 0, .slice none 0 0, .agg #[.int .i64 0, .int .i64 0, .slice none 0 0, .slice none 0 0, .slice none 0 0], .int .i64 0, .agg #[.int .i64 0, .int .i64 0], .int .i64 0, .slice none 0 0], []⟩).memory Tryz.f3.params.toList (OpenSpec.ofChange Rows.flowMatchesReferenceSpec).vars false (#[.slice none 0 0, .slice none 0 0, .slice none 0 0, .slice none 0 0, .agg #[.int .i64 0, .int .i64 0, .slice none 0 0, .slice none 0 0, .slice none 0 0], .int .i64 0, .agg #[.int .i64 0, .int .i64 0], .int .i64 0, .slice none 0 0] : Array Value).toList 8).map (fun x => (x.1, x.2.1)) =
      some ([.nil, .nil, .nil, .nil, .agg [.lit (.int .i64 0), .lit (.int .i64 0), .nil, .nil, .nil], .lit (.int .i64 0), .agg [.lit (.int .i64 0), .lit (.int .i64 0)], .lit (.int .i64 0), .nil], []) := by kernel_rfl
  obtain ⟨⟨x1, x2, x3⟩, hx, hx1⟩ := Option.map_eq_some_iff.1 hw
  simp only [Prod.mk.injEq] at hx1
  obtain ⟨rfl, rfl⟩ := hx1
  exact OpenSpec.preRow_of_cond 8 hx (by kernel_rfl) (fun k hk => by cases hk) (by kernel_rfl) (laid_met os _)
set_option maxRecDepth 100000 in
theorem lifted (os : Os) (started : os.Started) (H : Type) (enc : TypeId × Value → H) (F : Stop.Interp) :
    ReturnsInHanded {} Tryz.checked os 3 .any ((OpenSpec.ofChange Rows.flowMatchesReferenceSpec).preRow enc Tryz.prog Tryz.f3 Rows.flowMatchesReferenceRow.domain false Rows.flowMatchesReferenceRow.laid) (((OpenSpec.ofChange Rows.flowMatchesReferenceSpec).at F).post enc Tryz.prog Tryz.f3 false true false false) := by
  refine returnsInHanded_of_row (C := Tryz.checked) (s := OpenSpec.ofChange Rows.flowMatchesReferenceSpec) own started (by kernel_rfl) Tryz.func3
    (witness_row_atRef (enc := enc) (C := Tryz.checked) false (laidWorld os) #[.slice none 0 0, .slice none 0 0, .slice none 0 0, .slice none 0 0, .agg #[.int .i64 0, .int .i64 0, .slice none 0 0, .slice none 0 0, .slice none 0 0], .int .i64 0, .agg #[.int .i64 0, .int .i64 0], .int .i64 0, .slice none 0 0] rfl (by kernel_rfl) (by kernel_rfl) (by kernel_rfl) (witness_row os enc)) ?_
  intro W base args ds gs before hval0 hW _ _ _ hL _ _
  have hgl : Gl W := gl_of_laid rfl hL
  have hval : ∀ (j : Nat) t v, Tryz.f3.params[j]? = some t → args[j]? = some v → Value.okWide Tryz.prog W .any base t v := hval0
  have hW' := hW
  obtain ⟨p, q, hA0, hV, rfl, hfz, hnd⟩ := hW
  have hA : DataW.TrodAll enc Tryz.prog W 0 (fun _ => true) true Tryz.f3.params.toList args.toList ds p := hA0
  rw [Tryz.params3] at hA hval
  obtain ⟨v0, vs0, d0, ds0, p0, q0, hargs, rfl, rfl, h0, r0⟩ := trodAll_cons hA
  obtain ⟨v1, vs1, d1, ds1, p1, q1, rfl, rfl, rfl, h1, r1⟩ := trodAll_cons r0
  obtain ⟨v2, vs2, d2, ds2, p2, q2, rfl, rfl, rfl, h2, r2⟩ := trodAll_cons r1
  obtain ⟨v3, vs3, d3, ds3, p3, q3, rfl, rfl, rfl, h3, r3⟩ := trodAll_cons r2
  obtain ⟨v4, vs4, d4, ds4, p4, q4, rfl, rfl, rfl, h4, r4⟩ := trodAll_cons r3
  obtain ⟨v5, vs5, d5, ds5, p5, q5, rfl, rfl, rfl, h5, r5⟩ := trodAll_cons r4
  obtain ⟨v6, vs6, d6, ds6, p6, q6, rfl, rfl, rfl, h6, r6⟩ := trodAll_cons r5
  obtain ⟨v7, vs7, d7, ds7, p7, q7, rfl, rfl, rfl, h7, r7⟩ := trodAll_cons r6
  obtain ⟨v8, vs8, d8, ds8, p8, q8, rfl, rfl, rfl, h8, r8⟩ := trodAll_cons r7
  obtain ⟨rfl, rfl, rfl⟩ := trodAll_nil r8
  obtain rfl : args = #[v0, v1, v2, v3, v4, v5, v6, v7, v8] := by cases args; simp_all
  obtain ⟨rfl, rfl⟩ := trodVars_none hV
  obtain ⟨a0, len0, cap0, rfl⟩ := okWide_slice und22 (hval 0 22 v0 rfl rfl)
  obtain ⟨a1, len1, cap1, rfl⟩ := okWide_slice und22 (hval 1 22 v1 rfl rfl)
  obtain ⟨a2, len2, cap2, rfl⟩ := okWide_slice und23 (hval 2 23 v2 rfl rfl)
  obtain ⟨a3, len3, cap3, rfl⟩ := okWide_slice und24 (hval 3 24 v3 rfl rfl)
  obtain ⟨c4, rfl, _⟩ := okWide_struct Tryz.underlying28 (hval 4 28 v4 rfl rfl)
  obtain ⟨a5, rfl, rfl, rfl, wa5⟩ := open_int Tryz.underlying3 (hval 5 3 v5 rfl rfl) h5
  obtain ⟨c6, rfl, _⟩ := okWide_struct Tryz.underlying30 (hval 6 30 v6 rfl rfl)
  obtain ⟨a7, rfl, rfl, rfl, wa7⟩ := open_int Tryz.underlying3 (hval 7 3 v7 rfl rfl) h7
  obtain ⟨a8, len8, cap8, rfl⟩ := okWide_slice und31 (hval 8 31 v8 rfl rfl)
  have k0 := h0
  have lt0 : ∀ x ∈ p0, x.block < W.heap.size := by obtain ⟨m, hm⟩ := k0; exact DataW.trod_lt m _ _ _ hm
  have k1 := h1
  have lt1 : ∀ x ∈ p1, x.block < W.heap.size := by obtain ⟨m, hm⟩ := k1; exact DataW.trod_lt m _ _ _ hm
  have k2 := h2
  have lt2 : ∀ x ∈ p2, x.block < W.heap.size := by obtain ⟨m, hm⟩ := k2; exact DataW.trod_lt m _ _ _ hm
  have k3 := h3
  have lt3 : ∀ x ∈ p3, x.block < W.heap.size := by obtain ⟨m, hm⟩ := k3; exact DataW.trod_lt m _ _ _ hm
  have k4 := h4
  have lt4 : ∀ x ∈ p4, x.block < W.heap.size := by obtain ⟨m, hm⟩ := k4; exact DataW.trod_lt m _ _ _ hm
  have k6 := h6
  have lt6 : ∀ x ∈ p6, x.block < W.heap.size := by obtain ⟨m, hm⟩ := k6; exact DataW.trod_lt m _ _ _ hm
  have k8 := h8
  have lt8 : ∀ x ∈ p8, x.block < W.heap.size := by obtain ⟨m, hm⟩ := k8; exact DataW.trod_lt m _ _ _ hm
  obtain ⟨l0, s0, o0⟩ : ∃ l : List (IntV 9), IsSl (fV 9) W (.slice a0 len0 cap0) l ∧ l.length ≤ maxLen ∧ okV l := by
    obtain ⟨fuel, hf⟩ := h0
    exact openN hf
  obtain ⟨l1, s1, o1⟩ : ∃ l : List (IntV 9), IsSl (fV 9) W (.slice a1 len1 cap1) l ∧ l.length ≤ maxLen ∧ okV l := by
    obtain ⟨fuel, hf⟩ := h1
    exact openN hf
  obtain ⟨l2, s2, o2⟩ : ∃ l : List (IntV 5), IsSl (fV 5) W (.slice a2 len2 cap2) l ∧ l.length ≤ maxLen ∧ okV l := by
    obtain ⟨fuel, hf⟩ := h2
    exact openF hf
  obtain ⟨l3, s3, o3⟩ : ∃ l : List ItW, ItemsV W (.slice a3 len3 cap3) l ∧ okRaw l := by
    obtain ⟨fuel, hf⟩ := h3
    exact openI hf
  obtain ⟨l4, s4, o4⟩ : ∃ m : Mom, MomV W (.agg c4) m ∧ okRawM m := by
    obtain ⟨fuel, hf⟩ := h4
    exact openM hf
  obtain ⟨x6, y6, hc6, wx6, wy6⟩ : ∃ a b, c6 = #[I a, I b] ∧ in64 a ∧ in64 b := by
    obtain ⟨fuel, hf⟩ := h6
    exact openR hf
  subst hc6
  obtain ⟨l8, s8, o8⟩ : ∃ l : List ByteArray, IsSl fT W (.slice a8 len8 cap8) l ∧ l.length ≤ maxLen := by
    obtain ⟨fuel, hf⟩ := h8
    exact openT hf
  clear hA0 hval0
  have walk : Calls Tryz.prog 3 #[.slice a0 len0 cap0, .slice a1 len1 cap1, .slice a2 len2 cap2, .slice a3 len3 cap3, .agg c4, I a5, .agg #[I x6, I y6], I a7, .slice a8 len8 cap8] W fun e w' => e = .returned (.bool true) ∧ Below W.heap.size W w' :=
    (S3_calls _ _ _ _ _ _ _ _ _ _ W (s3w (k := fun v w' => v = .bool true ∧ Below W.heap.size W w') hgl s0 s1 s2 s3 s4 s8 o0 o1 o2 o3 o4 (in64_of_wf wa5) wx6 wy6 (in64_of_wf wa7) o8 fun w' hb => ⟨rfl, hb⟩)).mono fun e w' h => by
      cases e <;> first | exact h.elim | exact ⟨by rw [h.1], h.2⟩
  refine walk.mono fun e W' ⟨he, bel⟩ => ?_
  subst he
  exact ⟨_, rfl, _, _, _, [], _, [], hW', trodAll_mk1 (shut_bool Tryz.underlying4 _), (trodAll_cons_mk (Below.trod laidOut (by kernel_rfl) (of_decide_eq_true (by kernel_rfl)) k0 bel lt0) (trodAll_cons_mk (Below.trod laidOut (by kernel_rfl) (of_decide_eq_true (by kernel_rfl)) k1 bel lt1) (trodAll_cons_mk (Below.trod laidOut (by kernel_rfl) (of_decide_eq_true (by kernel_rfl)) k2 bel lt2) (trodAll_cons_mk (Below.trod laidOut (by kernel_rfl) (of_decide_eq_true (by kernel_rfl)) k3 bel lt3) (trodAll_cons_mk (Below.trod laidOut (by kernel_rfl) (of_decide_eq_true (by kernel_rfl)) k4 bel lt4) (trodAll_cons_mk (shut_int Tryz.underlying3 wa5) (trodAll_cons_mk (Below.trod laidOut (by kernel_rfl) (of_decide_eq_true (by kernel_rfl)) k6 bel lt6) (trodAll_cons_mk (shut_int Tryz.underlying3 wa7) (trodAll_cons_mk (Below.trod laidOut (by kernel_rfl) (of_decide_eq_true (by kernel_rfl)) k8 bel lt8) trodAll_mk0))))))))), rfl, bel.frame _, fun h => by cases h⟩
theorem row_holds : Rows.FlowMatchesReferenceSaid :=
  OpenClaim.holds_of_cond 3 Tryz.f3 rfl rfl rfl rfl rfl rfl rfl ⟨rfl, rfl, rfl, rfl, rfl⟩ rfl rfl rfl rfl rfl (by kernel_rfl) Tryz.func3 (by kernel_rfl)
    (of_decide_eq_true (by kernel_rfl)) (by unfold Func.isWrapper; first | (rw [if_pos (by decide +kernel)]; kernel_rfl) | (rw [if_neg (by decide +kernel)]; exact ⟨rfl, rfl⟩))
    (fun os started H enc _ F0 => by rw [OpenClaim.pre_eq_preRow]; exact lifted os started H enc F0)
theorem wants (t : TypeId) (ht : t ∈ [22, 22, 23, 24, 28, 3, 30, 3, 31]) : Tryz.prog.wantsStandIn t = false := by
  simp only [List.mem_cons, List.not_mem_nil, or_false] at ht
  rcases ht with rfl | rfl | rfl | rfl | rfl | rfl | rfl | rfl | rfl <;> kernel_rfl
theorem proved : Rows.FlowMatchesReferenceCardSaid :=
  Claim7.holds_tied_plain_at .later [] [.data, .funcs, .funcs, .pinned] true (true, "36ff14b8e280d3072425211c8c452e45a20f28404a5cb1ce5d8b4f836afc09c9") false
    row_holds (fun _ h => by cases h) (by kernel_rfl) (fun _ h => by cases h) flowMatchesReference_row_tie rfl ⟨rfl, rfl⟩ (by kernel_rfl) rfl
    (fun f fn hf hfn => by
      obtain rfl : f = 3 := Option.some.inj ((show Tryz.prog.funcNamed "newswire/newswirelaw26.FlowMatchesReference" = some 3 by kernel_rfl).symm.trans hf) |>.symm
      obtain rfl : fn = Tryz.f3 := (Option.some.inj (Tryz.func3.symm.trans hfn)).symm
      exact ⟨by kernel_rfl, fun j t ht => wants t (by
        rw [Tryz.params3] at ht
        exact List.mem_of_getElem? (by simpa using ht))⟩)
    (by kernel_rfl)
end Go.Proofs.YtfkfkldhcignbaaGreatDoor.flowMatchesReference
