/- FlowSecret answers true for every input, and the input reads as it did; its card ties the four listed variables to the program's text: no condition of its own. -/
import Derived.Test.YtfkfkldhcignbaaGreatDoorFs5
/- Feeds: Feed. -/
set_option linter.unusedSimpArgs false
set_option linter.unusedVariables false
set_option maxRecDepth 4000
namespace Go.Proofs.YtfkfkldhcignbaaGreatDoor
open Go Go.V Go.RowKit
theorem tb1 (sl : Bool) : (tb sl)[1]? = some (fv (if sl = true then 164 else 161)) := by cases sl <;> rfl
theorem tb2 (sl : Bool) : (tb sl)[2]? = some (fv (if sl = true then 165 else 168)) := by cases sl <;> rfl
theorem oneT (x : ByteArray) : ∀ u ∈ fT.e x, u.oneCell' = true := fun u hu => by simp [fT] at hu; subst hu; rfl
def modeI (sl : Bool) : Int := if sl = true then 1 else 2
section
variable {k : Value → World → Prop} {w : World}
/-- the row of a mode -/
theorem modeRow {sl : Bool} {K : Value → World → Prop} (hg : Gl w) (h : K (.agg (tb sl).toArray) w) : opW Tryz.prog (Instr.indexAt 112 (.pointer (some ⟨0, 0, none⟩)) (I (modeI sl))) (fun p w => opW Tryz.prog (Instr.loadAt 111 p) K w) w := by
  obtain ⟨_, a, b, c, h3⟩ := hg
  have hsz : sizeT Tryz.prog 111 = 3 := by kernel_rfl
  cases sl with
  | true =>
    rw [show modeI true = ((1 : Nat) : Int) from rfl, opW_ok (run_indexArr (e := 111) (n := 3) (by kernel_rfl) (by kernel_rfl) (by omega) (by omega) w), hsz]
    rw [ld111 (vs := tb true) rfl fun j u hu => ?_]
    · exact h
    · match j, hu with
      | 0, hu => exact h3 3 u hu
      | 1, hu => exact h3 4 u hu
      | 2, hu => exact h3 5 u hu
      | n + 3, hu => simp [tb] at hu
  | false =>
    rw [show modeI false = ((2 : Nat) : Int) from rfl, opW_ok (run_indexArr (e := 111) (n := 3) (by kernel_rfl) (by kernel_rfl) (by omega) (by omega) w), hsz]
    rw [ld111 (vs := tb false) rfl fun j u hu => ?_]
    · exact h
    · match j, hu with
      | 0, hu => exact h3 6 u hu
      | 1, hu => exact h3 7 u hu
      | 2, hu => exact h3 8 u hu
      | n + 3, hu => simp [tb] at hu
set_option maxHeartbeats 1000000 in
theorem feed_ok {sl : Bool} {u v z : Value} {xs : List ItW} {r : Rdr} {ms : List Mom} (hg : Gl w) (h : ItemsV w u xs) (hr : RdrV v r) (hm : MomsV w z ms) (hok : okIts xs) (hom : okMs ms) (HG : GivenP xs r ms)
    (hk : ∀ o w', Below w.heap.size w w' → Mine fT 9 w' w.heap.size o (feedF sl xs r ms ms.length) → k (.tuple #[o, I 0]) w') : callW Tryz.prog (.func (.func 23) #[] #[]) #[I (modeI sl), u, v, z] k w := C23 _ _ _ _ _ _ (by
  unfold S23
  have hml : 1000000 ≤ maxLen := by decide
  have hml2 : maxLen ≤ 9223372036854775807 := by decide
  cases hr
  have hx12 := HG.1.1
  have hm40 := HG.2.2.2.1
  have ht60 : ∀ x ∈ xs, x.text.size ≤ 60 := fun x hx => (HG.1.2 x hx).2.2.2.2
  refine w_boxN (v := .agg #[I r.1, I r.2]) fun w1 hb1 hsz1 hr1 => ?_
  replace hr1 : RowAt w1 w.heap.size 30 [I r.1, I r.2] := hr1
  rw [ld30 rfl hr1.cells]
  refine c41 (h.below hb1) rfl (hm.below hb1) hok hom fun b w2 hb2 hG => ?_
  have hb02 := below_trans hb1 hb2
  replace hr1 := hr1.below hb2
  obtain rfl : b = true := hG.2 HG
  rw [w_not, Bool.not_true]
  simp only [guardW_ff, pickW_false]
  rw [w_lss, decide_eq_false (by cases sl <;> simp [modeI])]
  simp only [guardW_ff, pickW_false]
  rw [w_gtr, decide_eq_false (by cases sl <;> simp [modeI])]
  simp only [guardW_ff, pickW_false, condW_false]
  refine modeRow (hg.below hb02) ?_
  refine al111 fun w3 hb3 hsz3 hr3 => ?_
  have hb03 := below_trans hb02 hb3
  refine sr111 (tb_len sl) hr3 rfl (tb_one sl) fun w4 ho4 hr4 => ?_
  have hs02 := hb02.size
  have hb34 : Below w2.heap.size w2 w4 := hb3.trans (ho4.rest _ (Nat.le_refl _))
  have hb04 := below_trans hb02 hb34
  refine al31 fun w5 hb5 hsz5 hr5 => ?_
  have hb05 := below_trans hb04 hb5
  have hlt4 := hr4.lt
  replace hr4 := hr4.below hb5
  have hrw := (hr1.below hb34).below hb5
  obtain ⟨mb, hmb⟩ : ∃ x, w2.heap.size = x := ⟨_, rfl⟩
  obtain ⟨ob, hob⟩ : ∃ x, w4.heap.size = x := ⟨_, rfl⟩
  rw [hmb] at hr4 ⊢
  rw [hob] at hr5 ⊢
  have hml4 := hr4.lt
  have hol5 := hr5.lt
  have hmbob : mb < ob := by omega
  rw [ld30 rfl hrw.cells]
  obtain ⟨rs, hrs, hrx⟩ := id h
  obtain ⟨qs, hqs, hqx⟩ := id hm
  refine c42 rfl (hrs.below hb05) (hqs.below hb05) fun b1 b2 b3 w6 hb6 h1 h2 h3 hl1 hl2 hl3 => ?_
  have hb06 := below_trans hb05 hb6
  have hm6 := hr4.below hb6
  have hr6 := hr5.below hb6
  have hwm : w.heap.size ≤ mb := by omega
  have hs56 := hb6.size
  refine range_ofG (wI := w) (own := fun b => b = b1 ∨ b = b2 ∨ b = b3) (Inv := fun n j F w' => j = none ∧ RowAt w' mb 111 (tb sl) ∧ ∃ ov, (∀ b, F b ↔ b = mb ∨ b = ob ∨ isOf ov b) ∧ RowAt w' ob 31 [ov] ∧ Mine fT 9 w' (ob + 1) ov (feedF sl xs r ms n)) (F0 := fun b => b = mb ∨ b = ob)
    ok78 (fun w7 hb7 => iter78 (snt := sntF sl xs r ms) hg h hm hok hom (by omega) (h1.below hb7) (h2.below hb7) (h3.below hb7) (fun _ => rfl)) hb06 (fun b hb => ?_) ⟨rfl, hm6, nS, (fun b => by simp [isOf, Value.ownBlock, nS]), hr6, Mine.nil _ _⟩ ?_ ?_ ?_ ?_ ?_
  · have q1 := h1.lt
    have q2 := h2.lt
    have q3 := h3.lt
    refine ⟨fun hh => ?_, ?_⟩
    · rcases hb with rfl | rfl | rfl <;> rcases hh with hh | hh <;> omega
    · rcases hb with rfl | rfl | rfl <;> assumption
  · rintro n j F a a' p ⟨rfl, hM, ov, hF, hR, hO⟩ ho hp
    exact ⟨rfl, hM.off ho (hp mb ((hF mb).2 (.inl rfl))), ov, hF, hR.off ho (hp ob ((hF ob).2 (.inr (.inl rfl)))), hO.off ho fun b hb => hp b ((hF b).2 (.inr (.inr hb)))⟩
  · rintro n j F a b ⟨rfl, hM, ov, hF, hR, hO⟩ hb
    have := hM.lt
    have := hR.lt
    rcases (hF b).1 hb with rfl | rfl | hb
    · omega
    · omega
    · have := hO.ge hb; omega
  · intro n g a a' p hP ho hp
    exact PendAll.off hP ho fun b hb => hp b (.inl hb)
  · rintro n g a F w7 d ready o kk ⟨m, sv, hmn, rfl, hsv, hmg, hpa⟩ _ hX ⟨_, hM7, ov, hF, hR7, hO7⟩ hb7 hrdy hd hdI hdF hdX hkk
    obtain ⟨e, c, q, rfl, hse, hsc, hsq⟩ := id hsv
    show opW _ _ _ w7
    refine al94 fun w8 hb8 hsz8 hr8 => ?_
    have hone : ∀ v ∈ slotL n m e c q r, v.oneCell' = true := by
      obtain ⟨a1, c1, rfl, -⟩ := id hse
      obtain ⟨a2, c2, rfl, -⟩ := id hsc
      obtain ⟨a3, c3, rfl, -⟩ := id hsq
      exact one8
    refine sr94 (vs := slotL n m e c q r) rfl hr8 rfl hone fun w9 ho9 hr9 => ?_
    have hb79 : Below w7.heap.size w7 w9 := hb8.trans (ho9.rest _ (Nat.le_refl _))
    refine ⟨hrdy w9 hb79, ?_⟩
    have hs79 := hb79.size
    have kk2 := fun j F' w'' => hkk j F' w9 w'' hb79
    have hput : Off (fun b => b = d) w9 (w9.putObj d o) := off_putObj rfl
    have hIw := hb7.size
    have hb09 : Below w.heap.size w (w9.putObj d o) := (hb7.trans (hb79.mono hIw)).trans (below_putObj hdI)
    have hsb : w7.heap.size < w9.heap.size := hr9.lt
    obtain ⟨sb, hsbe⟩ : ∃ x, w7.heap.size = x := ⟨_, rfl⟩
    rw [hsbe] at hr9 ⊢
    have hM8 := (hM7.below hb79).off hput (fun hh => hdF (hh ▸ (hF mb).2 (.inl rfl)))
    have hR8 := (hR7.below hb79).off hput (fun hh => hdF (hh ▸ (hF ob).2 (.inr (.inl rfl))))
    have hO8 := (hO7.below hb79).off hput (fun b hb hh => hdF (hh ▸ (hF b).2 (.inr (.inr hb))))
    have hS8 := hr9.off hput (fun hh => by omega)
    have hmg8 := (hmg.below hb79).off hput (fun b hb hh => hdX (hh ▸ .inr hb))
    have hpa8 := (hpa.below hb79).off hput (fun b hb hh => hdX (hh ▸ .inl hb))
    have hX8 : ∀ b, XS g b → b < sb := fun b hb => by have := (hX b hb).2.1; omega
    have hsN : (w9.putObj d o).heap.size = w9.heap.size := by simp
    have hmlt := hM7.lt
    have holt := hR7.lt
    have hObl : ∀ b, isOf ov b → b < sb := fun b hb => by have := (hO7.ge hb).2; omega
    clear hM7 hR7 hO7 hmg hpa hput hr9 hr8 hb8 ho9 hkk
    show opW _ _ _ (w9.putObj d o)
    generalize w9.putObj d o = wa at *
    have hnd := hpa8.2.1
    have hgl := hpa8.1
    rw [w_makeFunc]
    have hIw9 := hb09.size
    have hpl : ∀ b ∈ g.1, ∃ x, xs[g.1.idxOf b]? = some x ∧ g.1.idxOf b < xs.length ∧ ∀ w', Off (isOf g.2) wa w' → PendR w w' b x (g.1.idxOf b) (relI xs r ms (n + 1) (g.1.idxOf b)) (sntF sl xs r ms n (g.1.idxOf b)) := fun b hb => by
      have hi := List.idxOf_lt_length_of_mem hb
      rw [hgl] at hi
      refine ⟨_, List.getElem?_eq_getElem hi, hi, fun w' ho => ?_⟩
      obtain ⟨q1, q2, q3⟩ := hpa8.at hi
      rw [pt_idx hb] at q3
      refine q3.off ho fun hh => ?_
      exact absurd ((PendR.tag q3).uniq (Mine.tag hmg8 hh)) (by decide)
    refine c53 (p := fun b => sntF sl xs r ms n (g.1.idxOf b) || !cntB sl xs r ms n (g.1.idxOf b)) hmg8 (by omega) (by omega) (fun b hb w' kk' ho hk' => ?_) fun lv wb hmL hbL hoL huL => ?_
    · obtain ⟨x, hx, hi, hpr⟩ := hpl b hb
      have hmb' : ¬ isOf g.2 mb := fun hh => (hX mb (.inr hh)).1 ((hF mb).2 (.inl rfl))
      have hsb' : ¬ isOf g.2 sb := fun hh => by have := hX8 sb (.inr hh); omega
      refine c54 (sl := sl) (hM8.off ho hmb') (hS8.off ho hsb') hsv (hpr w' ho) fun w'' hb'' => ?_
      have := hk' w'' hb''
      unfold cntB rdB at this
      rw [hx, hmn] at this
      exact this
    have hM9 := hM8.off hoL (fun hh => (hX mb (.inr hh)).1 ((hF mb).2 (.inl rfl)))
    rw [rw111_1 (hM9.cell (i := 0 + 1) (tb1 sl))]
    have hfl : (g.1.filter fun x => !(sntF sl xs r ms n (g.1.idxOf x) || !cntB sl xs r ms n (g.1.idxOf x))) = (leftF sl xs r ms n (sntF sl xs r ms n)).map (pt g.1) := by
      rw [filter_pt hnd (fun i => !(sntF sl xs r ms n i || !cntB sl xs r ms n i))]
      unfold leftF
      rw [hgl]
      congr 1
      apply List.filter_congr
      intro i _
      cases sntF sl xs r ms n i <;> simp
    rw [hfl] at hmL
    have hLx : ∀ i ∈ leftF sl xs r ms n (sntF sl xs r ms n), i < g.1.length := fun i hi => by
      unfold leftF at hi
      rw [hgl]
      exact List.mem_range.1 (List.mem_filter.1 hi).1
    have hLl : (leftF sl xs r ms n (sntF sl xs r ms n)).length ≤ 12 := by
      unfold leftF
      have := List.length_filter_le (fun i => !sntF sl xs r ms n i && cntB sl xs r ms n i) (List.range xs.length)
      rw [List.length_range] at this
      omega
    have hLm : ∀ b ∈ (leftF sl xs r ms n (sntF sl xs r ms n)).map (pt g.1), b ∈ g.1 := fun b hb => by
      obtain ⟨i, hi, rfl⟩ := List.mem_map.1 hb
      exact List.mem_of_getElem? (pt_get (hLx i hi))
    have hIwb : w.heap.size ≤ wb.heap.size := by have := hoL.size; omega
    refine c55 (c := fun x y => keyC (keyF sl xs r ms n (g.1.idxOf x)) (keyF sl xs r ms n (g.1.idxOf y))) (fun x y hx hy w' kk' ho hk' => ?_) (keyLaw _) hmL (by simp; omega) hIwb fun M wc hperm hsort hmM hbM hoM => ?_
    · obtain ⟨x1, hx1, hi1, hp1⟩ := hpl x (hLm x hx)
      obtain ⟨x2, hx2, hi2, hp2⟩ := hpl y (hLm y hy)
      have ho' : Off (isOf g.2) wa w' := hoL.trans (ho.mono fun b _ hb => huL b hb)
      refine cOrd (sl := sl) (hp1 w' ho') (hp2 w' ho') fun w'' hb'' => ?_
      have := hk' w'' hb''
      simp only [keyF, clsI] at this
      rw [hx1, hx2] at this
      exact this
    obtain ⟨hLp, hLM⟩ := perm_idx hnd hLx hperm
    obtain ⟨L, hLe⟩ : ∃ L, M.map g.1.idxOf = L := ⟨_, rfl⟩
    rw [hLe] at hLp hLM
    have hnL : L.Nodup := hLp.nodup_iff.2 (by unfold leftF; exact List.nodup_range.filter _)
    have hML : M.length = L.length := by rw [hLM, List.length_map]
    have hOrd : InOrd (keyF sl xs r ms n) L := by
      refine inOrd_of keyF_idx hnL fun p q i j hpq hp hq => ?_
      have hq' := (List.getElem?_eq_some_iff.1 hq).1
      have hpl' := (List.getElem?_eq_some_iff.1 hp).1
      obtain ⟨bp, hbp⟩ : ∃ b, M[p]? = some b := ⟨_, List.getElem?_eq_getElem (by omega)⟩
      obtain ⟨bq, hbq⟩ : ∃ b, M[q]? = some b := ⟨_, List.getElem?_eq_getElem (by omega)⟩
      have this : ¬ keyC (keyF sl xs r ms n (g.1.idxOf bq)) (keyF sl xs r ms n (g.1.idxOf bp)) < 0 := hsort p q bp bq hpq (by rw [← hperm.length_eq]; omega) (by rw [← hperm.length_eq]; omega) hbp hbq
      have e1 : g.1.idxOf bp = i := by
        rw [← hLe, List.getElem?_map, hbp] at hp
        simpa using hp
      have e2 : g.1.idxOf bq = j := by
        rw [← hLe, List.getElem?_map, hbq] at hq
        simpa using hq
      rw [e1, e2] at this
      exact this
    have hoAll : Off (isOf g.2) wa wc := hoL.trans (hoM.mono fun b _ hb => huL b hb)
    have hbac : Below w.heap.size wa wc := hbL.trans hbM
    have hM9' := hM8.off hoAll (fun hh => (hX mb (.inr hh)).1 ((hF mb).2 (.inl rfl)))
    have hR9' := hR8.off hoAll (fun hh => (hX ob (.inr hh)).1 ((hF ob).2 (.inr (.inl rfl))))
    have hO9' := hO8.off hoAll (fun b hb hh => (hX b (.inr hh)).1 ((hF b).2 (.inr (.inr hb))))
    have hS9' := hS8.off hoAll (fun hh => by have := hX8 sb (.inr hh); omega)
    have hpa9 := hpa8.off hoAll (fun b hb hh => absurd ((hpa8.tag b hb).uniq (Mine.tag hmg8 hh)) (by decide))
    have hb0c : Below w.heap.size w wc := hb09.trans hbac
    have hlvs : ∀ b, isOf lv b → b ∉ g.1 := fun b hb hh => absurd ((hpa8.tag b hh).uniq (Mine.tag hmg8 (huL b hb))) (by decide)
    have hsac := hoAll.size
    clear hM8 hR8 hO8 hS8 hpa8 hmg8 hsort hperm hmL hM9 hoL hbL hoM hbM
    rw [drewW_eq]
    have hbd := below_drew wc
    replace hM9' := hM9'.drew
    replace hR9' := hR9'.drew
    replace hO9' := hO9'.below hbd
    replace hS9' := hS9'.drew
    replace hpa9 := hpa9.below hbd
    replace hmM := hmM.below hbd
    replace hb0c := hb0c.drew
    replace hbac := hbac.drew
    replace hoAll := hoAll.trans (off_drew _ wc)
    replace hsac := Nat.le_trans hsac hbd.size
    clear hbd
    generalize wc.drew = wd at *
    have hnp : ∀ b, b = mb ∨ b = ob ∨ b = sb → ¬ (b ∈ g.1 ∨ isOf ov b) := fun b hb hh => by
      rcases hh with hh | hh
      · rcases hb with rfl | rfl | rfl
        · exact (hX b (.inl hh)).1 ((hF b).2 (.inl rfl))
        · exact (hX b (.inl hh)).1 ((hF b).2 (.inr (.inl rfl)))
        · have := hX8 b (.inl hh); omega
      · have h1 := hO9'.ge hh
        have h2 := hObl b hh
        rcases hb with rfl | rfl | rfl <;> omega
    have hS0 : Off (fun b => b ∈ g.1 ∨ isOf ov b) wd wd := Off.refl _ _
    refine ⟨Off (fun b => b ∈ g.1 ∨ isOf ov b) wd, hS0, ?_⟩
    rw [lo31 (hR9'.cell (i := 0) rfl) (hnp ob (.inr (.inl rfl))) hS0]
    rw [tfl111_2, lo109 (hM9'.cell (i := 0 + 2) (tb2 sl)) (hnp mb (.inl rfl)) hS0, lo94 rfl hS9'.cells (hnp sb (.inr (.inr rfl))) hS0]
    rw [hLM] at hmM
    refine cPack (hg.below hb0c) hb0c hmn hsv hpa9 hmM.sl hLp hOrd hok (hom.2 m (List.mem_of_getElem? hmn)) ht60 hx12 hlvs fun we hbe hoe hpe => ?_
    rw [keepS_eq]
    refine ⟨hoe.mono fun b _ hb => .inl hb, ?_⟩
    have hIwd := hb0c.size
    have hOe := hO9'.off hoe (fun b hb hh => (hnp ob (.inr (.inl rfl)) |> fun _ => (hX b (.inl hh)).1 ((hF b).2 (.inr (.inr hb)))))
    have hse' := hoe.size
    refine Mine.pushS (F := fT) (x := packF sl xs r ms n (sntF sl xs r ms n)) sty31 (oneT _) rfl (by decide) hOe (by omega) (by rw [feedF_len]; have := (List.getElem?_eq_some_iff.1 hmn).1; omega) (by rw [feedF_len]; have := (List.getElem?_eq_some_iff.1 hmn).1; omega) (fun w' hb' => (hoe.mono fun b _ hb => .inl hb).trans (Off.below hb')) fun vo wf hmf hbf hof huf => ?_
    refine ⟨(hoe.mono fun b _ hb => .inl hb).trans (hof.mono fun b _ hb => .inr hb), ?_⟩
    rw [← feedF_succ] at hmf
    obtain ⟨oa, oc, rfl, -⟩ := id hmf.sl
    have hRf := (hR9'.off hoe (fun hh => hnp ob (.inr (.inl rfl)) (.inl hh))).off hof (fun hh => hnp ob (.inr (.inl rfl)) (.inr hh))
    rw [st31 rfl (hRf.cell (i := 0) rfl) (hRf.free _)]
    have hRg := hRf.set 0 (.slice oa (feedF sl xs r ms (n + 1)).length oc)
    have hof2 : Off (fun y => y = ob) wf (wf.setCell ⟨ob, 0, none⟩ (.slice oa (feedF sl xs r ms (n + 1)).length oc)) := Off.set rfl
    have hgov : ∀ b ∈ g.1, ¬ isOf ov b := fun b hb hh => (hX b (.inl hb)).1 ((hF b).2 (.inr (.inr hh)))
    have hgob : ∀ b ∈ g.1, ¬ b = ob := fun b hb hh => (hX b (.inl hb)).1 ((hF b).2 (.inr (.inl hh)))
    have hMf := ((hM9'.off hoe (fun hh => hnp mb (.inl rfl) (.inl hh))).off hof (fun hh => hnp mb (.inl rfl) (.inr hh))).off hof2 (fun hh => by omega)
    have hpf := (hpe.off hof hgov).off hof2 hgob
    have hmg := hmf.off hof2 (fun b hb hh => by have := hmf.ge hb; omega)
    have hbF : Below w.heap.size w wf := (hb0c.trans hbe).trans (hbf.mono (by omega))
    refine kk2 none (fun b => b = mb ∨ b = ob ∨ isOf (.slice oa (feedF sl xs r ms (n + 1)).length oc) b) _ (hbF.setCell (show w.heap.size ≤ ob by omega) _) ?_ (fun b hb => ?_) ⟨rfl, hMf, _, fun b => Iff.rfl, hRg, hmg⟩ hpf
    · refine (((hoAll.mono fun b _ hb => .inr (.inl (.inr hb))).trans (hoe.mono fun b _ hb => .inr (.inl (.inl hb)))).trans (hof.mono fun b _ hb => .inl ((hF b).2 (.inr (.inr hb))))).trans (hof2.mono fun b _ hb => .inl ((hF b).2 (.inr (.inl hb))))
    · rcases hb with hb | hb | hb
      · exact .inl ((hF b).2 (.inl hb))
      · exact .inl ((hF b).2 (.inr (.inl hb)))
      · rcases huf b hb with hb | hb
        · exact .inl ((hF b).2 (.inr (.inr hb)))
        · exact .inr (by omega)
  · rintro n j F w7 d hn hb7 ⟨rfl, hM7, ov, hF, hR7, hO7⟩ hd hdI hdF hdd
    have hnl := hn rfl
    subst hnl
    rw [jumpW_none, ld31 (hR7.cell (i := 0) rfl)]
    refine ⟨by exact hdd, ?_⟩
    have hput : Off (fun b => b = d) w7 (w7.putObj d (.deferred none)) := off_putObj rfl
    have hdw : w.heap.size ≤ d := by have := hb06.size; omega
    exact hk _ _ (hb7.trans (below_putObj hdw)) ((hO7.off hput fun b hb hh => hdF (hh ▸ (hF b).2 (.inr (.inr hb)))).base (by omega)))
end
end Go.Proofs.YtfkfkldhcignbaaGreatDoor
/- Labels and items compared. -/
set_option linter.unusedSimpArgs false
set_option linter.unusedVariables false
set_option maxRecDepth 4000
namespace Go.Proofs.YtfkfkldhcignbaaGreatDoor
open Go Go.V Go.RowKit
def EqS (t e : Nat) (s1_1 s2_2 : Value) (k : Value → World → Prop) (w : World) : Prop :=
   opW Tryz.prog (Builtin.len_ #[t] 3 #[s1_1]) (fun t7_4 w =>
   opW Tryz.prog (Builtin.len_ #[t] 3 #[s2_2]) (fun t9_5 w =>
   opW Tryz.prog (binS BinOp.neq 3 (Operand.tmp 7) (Operand.tmp 9) t7_4 t9_5) (fun t10_6 w =>
   condW t10_6
   (k (Value.bool false) w)
   (opW Tryz.prog (Builtin.len_ #[t] 3 #[s1_1]) (fun t12_7 w =>
   Loop1 (fun t13_9 w K_10 =>
   opW Tryz.prog (binS BinOp.lss 3 (Operand.tmp 13) (Operand.tmp 12) t13_9 t12_7) (fun t14_11 w =>
   condW t14_11
   (drewW w (fun w =>
   takeW Tryz.prog anyW (Instr.indexAt t s1_1 t13_9) (fun t18_15 =>
   takeW Tryz.prog (sameW w) (Instr.loadAt e t18_15) (fun t19_16 =>
   takeW Tryz.prog anyW (Instr.indexAt t s2_2 t13_9) (fun t22_17 =>
   takeW Tryz.prog (sameW w) (Instr.loadAt e t22_17) (fun t23_18 =>
   takeW Tryz.prog anyW (binS BinOp.neq e (Operand.tmp 19) (Operand.tmp 23) t19_16 t23_18) (fun t24_19 =>
   condW t24_19
   (k (Value.bool false) w)
   (opW Tryz.prog (binS BinOp.add 3 (Operand.tmp 13) (Operand.const (Value.int IntKind.i64 1)) t13_9 (Value.int IntKind.i64 1)) (fun t25_20 w =>
   loopK [] [] [s1_1, s2_2, t12_7] [s1_1, s2_2, t12_7] (K_10 t25_20 w)) w)) w) w) w) w) w))
   (k (Value.bool true) w)) w) (Value.int IntKind.i64 0) w) w)) w) w) w
instance : DecidableEq CW := fun a b => if h : a.fact = b.fact ∧ a.count = b.count then .isTrue (by cases a; cases b; simp at h; rw [h.1, h.2]) else .isFalse (fun hh => h (by rw [hh]; exact ⟨rfl, rfl⟩))
theorem oneR {n : Nat} (r : RawV n) : ∀ u ∈ (fR n).e r, u.oneCell' = true := fun u hu => r.2.2 u hu
section
variable {k : Value → World → Prop} {w : World}
theorem eqS_ok {α : Type} [DecidableEq α] {F : Fl α} {t e : Nat} {el : α → Value} {u v : Value} {l m : List α}
    (hlen : ∀ {w : World} {k : Value → World → Prop} {s : Value} {l : List α}, IsSl F w s l → opW Tryz.prog (Builtin.len_ #[t] 3 #[s]) k w = k (I l.length) w)
    (hget : ∀ {w : World} {K : Value → Prop} {s : Value} {l : List α} {i : Nat} {x : α}, IsSl F w s l → l[i]? = some x → takeW Tryz.prog anyW (Instr.indexAt t s (I i)) (fun p => takeW Tryz.prog (sameW w) (Instr.loadAt e p) K w) w = K (el x))
    (hne : ∀ {w : World} {K : Value → Prop} {ox oy : Operand} {x y : α}, takeW Tryz.prog anyW (binS BinOp.neq e ox oy (el x) (el y)) K w = K (.bool (!decide (x = y))))
    (hu : IsSl F w u l) (hv : IsSl F w v m) (hl : l.length ≤ maxLen) (hk : ∀ w', Below w.heap.size w w' → k (.bool (decide (l = m))) w') : EqS t e u v k w := by
  unfold EqS
  have hml : maxLen ≤ 9223372036854775807 := by decide
  rw [hlen hu, hlen hv, w_neq]
  by_cases hlm : l.length = m.length
  case' neg =>
    rw [decide_eq_false (by omega), Bool.not_false, condW_true]
    have := hk _ (Below.refl _ _)
    rwa [decide_eq_false (fun h => hlm (by rw [h]))] at this
  rw [decide_eq_true (by omega), Bool.not_true, condW_false, hlen hu]
  refine Loop1.intro (fun n a w' => ∃ i : Nat, a = I i ∧ i ≤ l.length ∧ n = l.length - i ∧ Below w.heap.size w w' ∧ ∀ j, j < i → l[j]? = m[j]?) _ ⟨0, rfl, by omega, rfl, Below.refl _ _, by omega⟩ ?_
  rintro n _ w1 ⟨i, rfl, hi, rfl, hb1, hP⟩
  rw [w_lss]
  by_cases hlt : i < l.length
  case' neg =>
    rw [decide_eq_false (by omega), condW_false]
    have := hk _ hb1
    rwa [decide_eq_true (List.ext_getElem? fun j => by
      by_cases hj : j < i
      · exact hP j hj
      · rw [List.getElem?_eq_none (by omega), List.getElem?_eq_none (by omega)])] at this
  rw [decide_eq_true (by omega), condW_true, drewW_eq]
  obtain ⟨x, hx⟩ : ∃ x, l[i]? = some x := ⟨_, List.getElem?_eq_getElem hlt⟩
  obtain ⟨y, hy⟩ : ∃ y, m[i]? = some y := ⟨_, List.getElem?_eq_getElem (by omega)⟩
  have hbd := below_trans hb1 (below_drew w1)
  rw [hget (hu.below hbd) hx, hget (hv.below hbd) hy, hne]
  by_cases hxy : x = y
  · rw [decide_eq_true hxy, Bool.not_true, condW_false, w_add, wrap_id (by omega), loopK_self]
    refine ⟨l.length - (i + 1), by omega, i + 1, by simp [I], by omega, rfl, hbd, fun j hj => ?_⟩
    by_cases hji : j = i
    · subst hji; rw [hx, hy, hxy]
    · exact hP j (by omega)
  · rw [decide_eq_false hxy, Bool.not_false, condW_true]
    have := hk _ hbd
    rwa [decide_eq_false (fun h => hxy (by rw [h, hy] at hx; exact (Option.some.inj hx).symm))] at this
theorem run_neqC {ox oy : Operand} (a b : CW) (w : World) : (binS .neq 121 ox oy (.agg (fC.e a).toArray) (.agg (fC.e b).toArray)).run Tryz.prog w = .ok (.bool (!decide (a = b))) w := by
  have h1 := run_eqlAgg (P := Tryz.prog) (t := 121) (ox := ox) (oy := oy) (L := [(3, 0), (3, 1)]) (xs := (fC.e a).toArray) (ys := (fC.e b).toArray) (by kernel_rfl) (by kernel_rfl) (by kernel_rfl) (by kernel_rfl)
    [decide (a.fact = b.fact), decide (a.count = b.count)] rfl (fun i f c hf hb => by
      match i with
      | 0 => cases hf; cases hb; exact ⟨_, _, rfl, rfl, .int (q' := .i64) (by kernel_rfl) (by kernel_rfl)⟩
      | 1 => cases hf; cases hb; exact ⟨_, _, rfl, rfl, .int (q' := .i64) (by kernel_rfl) (by kernel_rfl)⟩
      | n + 2 => cases hf) w
  have e : ([decide (a.fact = b.fact), decide (a.count = b.count)] : List Bool).all id = decide (a = b) := by
    rw [Bool.eq_iff_iff]
    simp only [List.all_cons, List.all_nil, id, Bool.and_true, Bool.and_eq_true, decide_eq_true_eq]
    cases a; cases b; simp
  rw [e] at h1
  exact run_of_eq fun k => w_neqAgg h1.1 h1.2
theorem c112 {u v : Value} {l m : List Int} (hu : IsSl fI w u l) (hv : IsSl fI w v m) (hl : l.length ≤ maxLen) (hk : ∀ w', Below w.heap.size w w' → k (.bool (decide (l = m))) w') : callW Tryz.prog (.func (.func 112) #[] #[]) #[u, v] k w := C112 _ _ _ _ (eqS_ok (el := fun n => I n) (fun hs => len25 hs) (fun hs hx => nt25 (F := fI) rfl hs hx rfl) (by intros; exact t_neq) hu hv hl hk)
theorem c113 {u v : Value} {l m : List CW} (hu : IsSl fC w u l) (hv : IsSl fC w v m) (hl : l.length ≤ maxLen) (hk : ∀ w', Below w.heap.size w w' → k (.bool (decide (l = m))) w') : callW Tryz.prog (.func (.func 113) #[] #[]) #[u, v] k w := C113 _ _ _ _ (eqS_ok (el := fun c => .agg (fC.e c).toArray) (fun hs => len26 hs) (fun hs hx => nta26 (F := fC) rfl hs hx) (by intros; exact takeW_pure fun w => run_neqC _ _ w) hu hv hl hk)
theorem c51 {l m : List (RawV 9)} {p : Nat → Bool} {u v f : Value} (hu : IsSl (fR 9) w u l) (hv : IsSl (fR 9) w v m) (hl : l.length ≤ maxLen)
    (hf : ∀ (i : Nat) x y, l[i]? = some x → m[i]? = some y → ∀ (w1 : World) (k : Value → World → Prop), Below w.heap.size w w1 → (∀ w2, Below w1.heap.size w1 w2 → k (.bool (p i)) w2) → callW Tryz.prog f #[.agg ((fR 9).e x).toArray, .agg ((fR 9).e y).toArray] k w1)
    (hk : ∀ b w', Below w.heap.size w w' → (b = true ↔ l.length = m.length ∧ ∀ i, i < l.length → p i = true) → k (.bool b) w') : callW Tryz.prog (.func (.func 51) #[] #[]) #[u, v, f] k w := C51 _ _ _ _ _ (by
  unfold S51
  have hml : maxLen ≤ 9223372036854775807 := by decide
  rw [len24 hu, len24 hv, w_neq]
  by_cases hlm : l.length = m.length
  case' neg =>
    rw [decide_eq_false (by omega), Bool.not_false, condW_true]
    exact hk _ _ (Below.refl _ _) (iffF fun h => hlm h.1)
  rw [decide_eq_true (by omega), Bool.not_true, condW_false, len24 hu]
  refine Loop1.intro (fun n a w' => ∃ i : Nat, a = I i ∧ i ≤ l.length ∧ n = l.length - i ∧ Below w.heap.size w w' ∧ ∀ j, j < i → p j = true) _ ⟨0, rfl, by omega, rfl, Below.refl _ _, by omega⟩ ?_
  rintro n _ w1 ⟨i, rfl, hi, rfl, hb1, hP⟩
  rw [w_lss]
  by_cases hlt : i < l.length
  case' neg =>
    rw [decide_eq_false (by omega), condW_false]
    exact hk true _ hb1 (iffT ⟨hlm, fun j hj => hP j (by omega)⟩)
  rw [decide_eq_true (by omega), condW_true]
  obtain ⟨x, hx⟩ : ∃ x, l[i]? = some x := ⟨_, List.getElem?_eq_getElem hlt⟩
  obtain ⟨y, hy⟩ : ∃ y, m[i]? = some y := ⟨_, List.getElem?_eq_getElem (by omega)⟩
  rw [ga24 (F := (fR 9)) rfl (hu.below hb1) (by omega) (by simpa using hx)]
  refine w_var (vs := (fR 9).e x) hz63 (by rw [zc63, (fR 9).len]; rfl) (oneR x) (by rw [size63, (fR 9).len]; rfl) known63 fun w2 hb2 hsz2 hr2 => ?_
  have hb02 := below_trans hb1 hb2
  rw [ga24 (F := (fR 9)) rfl (hv.below hb02) (by omega) (by simpa using hy)]
  refine w_var (vs := (fR 9).e y) hz63 (by rw [zc63, (fR 9).len]; rfl) (oneR y) (by rw [size63, (fR 9).len]; rfl) known63 fun w3 hb3 hsz3 hr3 => ?_
  have hb03 := below_trans hb02 hb3
  rw [ld63 ((fR 9).len x) (hr2.below hb3).cells, ld63 ((fR 9).len y) hr3.cells]
  refine hf i x y hx hy w3 _ hb03 fun w4 hb4 => ?_
  have hb04 := below_trans hb03 hb4
  rw [w_not]
  cases hp : p i with
  | false =>
    rw [Bool.not_false, condW_true]
    exact hk false _ hb04 (iffF fun h => by rw [h.2 i hlt] at hp; cases hp)
  | true =>
    rw [Bool.not_true, condW_false, w_add, wrap_id (by omega), loopK_self]
    refine ⟨l.length - (i + 1), by omega, i + 1, by simp [I], by omega, rfl, hb04, fun j hj => ?_⟩
    by_cases hji : j = i
    · subst hji; exact hp
    · exact hP j (by omega))
theorem c110 {l m : List QW} {p : Nat → Bool} {u v f : Value} (hu : IsSl fQW w u l) (hv : IsSl fQW w v m) (hl : l.length ≤ maxLen)
    (hf : ∀ (i : Nat) x y, l[i]? = some x → m[i]? = some y → ∀ (w1 : World) (k : Value → World → Prop), Below w.heap.size w w1 → (∀ w2, Below w1.heap.size w1 w2 → k (.bool (p i)) w2) → callW Tryz.prog f #[.agg (fQW.e x).toArray, .agg (fQW.e y).toArray] k w1)
    (hk : ∀ b w', Below w.heap.size w w' → (b = true ↔ l.length = m.length ∧ ∀ i, i < l.length → p i = true) → k (.bool b) w') : callW Tryz.prog (.func (.func 110) #[] #[]) #[u, v, f] k w := C110 _ _ _ _ _ (by
  unfold S110
  have hml : maxLen ≤ 9223372036854775807 := by decide
  rw [len59 hu, len59 hv, w_neq]
  by_cases hlm : l.length = m.length
  case' neg =>
    rw [decide_eq_false (by omega), Bool.not_false, condW_true]
    exact hk _ _ (Below.refl _ _) (iffF fun h => hlm h.1)
  rw [decide_eq_true (by omega), Bool.not_true, condW_false, len59 hu]
  refine Loop1.intro (fun n a w' => ∃ i : Nat, a = I i ∧ i ≤ l.length ∧ n = l.length - i ∧ Below w.heap.size w w' ∧ ∀ j, j < i → p j = true) _ ⟨0, rfl, by omega, rfl, Below.refl _ _, by omega⟩ ?_
  rintro n _ w1 ⟨i, rfl, hi, rfl, hb1, hP⟩
  rw [w_lss]
  by_cases hlt : i < l.length
  case' neg =>
    rw [decide_eq_false (by omega), condW_false]
    exact hk true _ hb1 (iffT ⟨hlm, fun j hj => hP j (by omega)⟩)
  rw [decide_eq_true (by omega), condW_true]
  obtain ⟨x, hx⟩ : ∃ x, l[i]? = some x := ⟨_, List.getElem?_eq_getElem hlt⟩
  obtain ⟨y, hy⟩ : ∃ y, m[i]? = some y := ⟨_, List.getElem?_eq_getElem (by omega)⟩
  rw [ga59 (F := fQW) rfl (hu.below hb1) (by omega) (by simpa using hx)]
  refine w_var (vs := fQW.e x) hz87 (by rw [zc87, fQW.len]; rfl) (oneQ x) (by rw [size87, fQW.len]; rfl) known87 fun w2 hb2 hsz2 hr2 => ?_
  have hb02 := below_trans hb1 hb2
  rw [ga59 (F := fQW) rfl (hv.below hb02) (by omega) (by simpa using hy)]
  refine w_var (vs := fQW.e y) hz87 (by rw [zc87, fQW.len]; rfl) (oneQ y) (by rw [size87, fQW.len]; rfl) known87 fun w3 hb3 hsz3 hr3 => ?_
  have hb03 := below_trans hb02 hb3
  rw [ld87 (fQW.len x) (hr2.below hb3).cells, ld87 (fQW.len y) hr3.cells]
  refine hf i x y hx hy w3 _ hb03 fun w4 hb4 => ?_
  have hb04 := below_trans hb03 hb4
  rw [w_not]
  cases hp : p i with
  | false =>
    rw [Bool.not_false, condW_true]
    exact hk false _ hb04 (iffF fun h => by rw [h.2 i hlt] at hp; cases hp)
  | true =>
    rw [Bool.not_true, condW_false, w_add, wrap_id (by omega), loopK_self]
    refine ⟨l.length - (i + 1), by omega, i + 1, by simp [I], by omega, rfl, hb04, fun j hj => ?_⟩
    by_cases hji : j = i
    · subst hji; exact hp
    · exact hP j (by omega))
theorem c111 {u v : Value} {a b : Lock} (hu : QuorV w u a) (hv : QuorV w v b) (hl : a.2.length ≤ maxLen) (hk : ∀ w', Below w.heap.size w w' → k (.bool (decide (a = b))) w') : callW Tryz.prog (.func (.func 111) #[] #[]) #[u, v] k w := C111 _ _ _ _ (by
  unfold S111
  obtain ⟨ka, rfl, ha⟩ := id hu
  obtain ⟨kb, rfl, hb⟩ := id hv
  refine w_boxN (v := .agg #[I a.1, ka]) fun w1 hb1 hsz1 hr1 => ?_
  replace hr1 : RowAt w1 w.heap.size 87 [I a.1, ka] := hr1
  refine w_boxN (v := .agg #[I b.1, kb]) fun w2 hb2 hsz2 hr2 => ?_
  replace hr2 : RowAt w2 w1.heap.size 87 [I b.1, kb] := hr2
  have hb02 := below_trans hb1 hb2
  rw [ld87 rfl (hr1.below hb2).cells, ld87 rfl hr2.cells]
  refine c70 (hu.below hb02) (hv.below hb02) hl fun w3 hb3 => ?_
  rw [w_eql]
  have := hk _ (below_trans hb02 hb3)
  rwa [show decide (a = b) = decide (cmpQ a b = 0) by rw [decide_eq_decide]; exact cmpQ_eq.symm] at this)
theorem locks_eq {xs ys : List QW} {l m : List Lock} (hx : xs.length = l.length) (hy : ys.length = m.length) : l = m ↔ xs.length = ys.length ∧ ∀ i, i < xs.length → (match l[i]?, m[i]? with | some a, some b => decide (a = b) | _, _ => false) = true := by
  constructor
  · rintro rfl
    refine ⟨by omega, fun i hi => ?_⟩
    rw [List.getElem?_eq_getElem (by omega)]; simp
  · rintro ⟨h1, h2⟩
    apply List.ext_getElem?
    intro i
    by_cases hi : i < l.length
    · have := h2 i (by omega)
      rw [List.getElem?_eq_getElem hi, List.getElem?_eq_getElem (by omega)] at this ⊢
      simpa using this
    · rw [List.getElem?_eq_none (by omega), List.getElem?_eq_none (by omega)]
theorem c93 {u v : Value} {a b : Lab} (hu : LabV w u a) (hv : LabV w v b) (oka : okLab a) (hk : ∀ x w', Below w.heap.size w w' → (x = true ↔ a = b) → k (.bool x) w') : callW Tryz.prog (.func (.func 93) #[] #[]) #[u, v] k w := C93 _ _ _ _ (by
  unfold S93
  obtain ⟨e, c, q, rfl, he, hc, ⟨xs, hq, hqx⟩⟩ := hu
  obtain ⟨e2, c2, q2, rfl, he2, hc2, ⟨ys, hq2, hqy⟩⟩ := hv
  obtain ⟨ok1, ok2, ok3, ok4⟩ := oka
  refine w_boxN (v := .agg #[I a.til, e, c, I a.terr, I a.cls, q]) fun w1 hb1 hsz1 hr1 => ?_
  replace hr1 : RowAt w1 w.heap.size 61 [I a.til, e, c, I a.terr, I a.cls, q] := hr1
  refine w_boxN (v := .agg #[I b.til, e2, c2, I b.terr, I b.cls, q2]) fun w2 hb2 hsz2 hr2 => ?_
  replace hr2 : RowAt w2 w1.heap.size 61 [I b.til, e2, c2, I b.terr, I b.cls, q2] := hr2
  have hb02 := below_trans hb1 hb2
  replace hr1 := hr1.below hb2
  rw [rw61_5 (hr1.cell (i := 0 + 5) rfl), rw61_5 (hr2.cell (i := 0 + 5) rfl)]
  refine c110 (p := fun i => match a.locks[i]?, b.locks[i]? with | some x, some y => decide (x = y) | _, _ => false) (hq.below hb02) (hq2.below hb02) (by rw [hqx.1]; exact ok3) (fun i x y hx hy w3 k3 hb3 hk3 => ?_) fun t w3 hb3 ht => ?_
  · obtain ⟨l1, hl1⟩ : ∃ z, a.locks[i]? = some z := ⟨_, List.getElem?_eq_getElem (by have := (List.getElem?_eq_some_iff.1 hx).1; have := hqx.1; omega)⟩
    obtain ⟨l2, hl2⟩ : ∃ z, b.locks[i]? = some z := ⟨_, List.getElem?_eq_getElem (by have := (List.getElem?_eq_some_iff.1 hy).1; have := hqy.1; omega)⟩
    rw [hl1, hl2] at hk3
    exact c111 ((hqx.2 i x l1 hx hl1).below (below_trans hb02 hb3)) ((hqy.2 i y l2 hy hl2).below (below_trans hb02 hb3)) (ok4 l1 (List.mem_of_getElem? hl1)).1 hk3
  rw [← locks_eq hqx.1 hqy.1] at ht
  have hb03 := below_trans hb02 hb3
  replace hr1 := hr1.below hb3
  replace hr2 := hr2.below hb3
  cases t with
  | false =>
    simp only [guardW_ft, guardW_u, pickW_false]
    exact hk _ _ hb03 (iffF fun h => by have := ht.2 (by rw [h]); cases this)
  | true =>
  have hlk := ht.1 rfl
  simp only [guardW_tt, pickW_true]
  rw [rw61_0 (hr1.cell (i := 0) rfl), rw61_0 (hr2.cell (i := 0) rfl), w_eql]
  by_cases h1 : a.til = b.til
  case' neg =>
    rw [decide_eq_false h1]
    simp only [guardW_ft, guardW_u, pickW_false]
    exact hk _ _ hb03 (iffF fun h => h1 (by rw [h]))
  rw [decide_eq_true h1]
  simp only [guardW_tt, pickW_true]
  rw [rw61_3 (hr1.cell (i := 0 + 3) rfl), rw61_3 (hr2.cell (i := 0 + 3) rfl), w_eql]
  by_cases h2 : a.terr = b.terr
  case' neg =>
    rw [decide_eq_false h2]
    simp only [guardW_ft, guardW_u, pickW_false]
    exact hk _ _ hb03 (iffF fun h => h2 (by rw [h]))
  rw [decide_eq_true h2]
  simp only [guardW_tt, pickW_true]
  rw [rw61_4 (hr1.cell (i := 0 + 4) rfl), rw61_4 (hr2.cell (i := 0 + 4) rfl), w_eql]
  by_cases h3 : a.cls = b.cls
  case' neg =>
    rw [decide_eq_false h3]
    simp only [guardW_ft, guardW_u, pickW_false]
    exact hk _ _ hb03 (iffF fun h => h3 (by rw [h]))
  rw [decide_eq_true h3]
  simp only [guardW_tt, pickW_true]
  rw [rw61_1 (hr1.cell (i := 0 + 1) rfl), rw61_1 (hr2.cell (i := 0 + 1) rfl)]
  refine c112 (he.below hb03) (he2.below hb03) ok1.1 fun w4 hb4 => ?_
  have hb04 := below_trans hb03 hb4
  replace hr1 := hr1.below hb4
  replace hr2 := hr2.below hb4
  by_cases h4 : a.ev = b.ev
  case' neg =>
    rw [decide_eq_false h4]
    simp only [guardW_ft, guardW_u, pickW_false]
    exact hk _ _ hb04 (iffF fun h => h4 (by rw [h]))
  rw [decide_eq_true h4]
  simp only [guardW_tt, pickW_true]
  rw [rw61_2 (hr1.cell (i := 0 + 2) rfl), rw61_2 (hr2.cell (i := 0 + 2) rfl)]
  refine c113 (hc.below hb04) (hc2.below hb04) ok2 fun w5 hb5 => ?_
  refine hk _ _ (below_trans hb04 hb5) ?_
  rw [decide_eq_true_eq]
  constructor
  · intro h5
    cases a; cases b
    simp only at h1 h2 h3 h4 h5 hlk
    rw [h1, h2, h3, h4, h5, hlk]
  · intro h; rw [h])
theorem ItW.ext' {x y : ItW} (h1 : x.at' = y.at') (h2 : x.cls = y.cls) (h3 : x.text = y.text) (h4 : x.lab = y.lab) : x = y := by
  cases x; cases y
  simp only at h1 h2 h3 h4
  rw [h1, h2, h3, h4]
theorem c52 {u v : Value} {x y : ItW} (hu : ItemV w u x) (hv : ItemV w v y) (okx : okLab x.lab) (hk : ∀ w', Below w.heap.size w w' → k (.bool (bOf (x = y))) w') : callW Tryz.prog (.func (.func 52) #[] #[]) #[u, v] k w := C52 _ _ _ _ (by
  unfold S52
  obtain ⟨e, c, q, rfl, he, hc, hq⟩ := hu
  obtain ⟨e2, c2, q2, rfl, he2, hc2, hq2⟩ := hv
  refine w_boxN (v := .agg (itemL x e c q).toArray) fun w1 hb1 hsz1 hr1 => ?_
  replace hr1 : RowAt w1 w.heap.size 63 (itemL x e c q) := hr1
  refine w_boxN (v := .agg (itemL y e2 c2 q2).toArray) fun w2 hb2 hsz2 hr2 => ?_
  replace hr2 : RowAt w2 w1.heap.size 63 (itemL y e2 c2 q2) := hr2
  have hb02 := below_trans hb1 hb2
  replace hr1 := hr1.below hb2
  have no : x ≠ y → k (.bool false) w2 := fun hn => by
    have := hk w2 hb02
    rwa [← bOf_eq (b := false) (iffF hn)] at this
  rw [rw63_0 (hr1.cell (i := 0) rfl), rw63_0 (hr2.cell (i := 0) rfl), w_eql]
  by_cases h1 : x.at' = y.at'
  case' neg =>
    rw [decide_eq_false h1]
    simp only [guardW_ft, guardW_u, pickW_false]
    exact no fun h => h1 (by rw [h])
  rw [decide_eq_true h1]
  simp only [guardW_tt, pickW_true]
  rw [rw63_2 (hr1.cell (i := 0 + 7) rfl), rw63_2 (hr2.cell (i := 0 + 7) rfl), w_eql]
  by_cases h2 : x.cls = y.cls
  case' neg =>
    rw [decide_eq_false h2]
    simp only [guardW_ft, guardW_u, pickW_false]
    exact no fun h => h2 (by rw [h])
  rw [decide_eq_true h2]
  simp only [guardW_tt, pickW_true]
  rw [rw63_3 (hr1.cell (i := 0 + 8) rfl), rw63_3 (hr2.cell (i := 0 + 8) rfl), w_eqlStr (by kernel_rfl)]
  by_cases h3 : x.text = y.text
  case' neg =>
    rw [decide_eq_false h3]
    simp only [guardW_ft, guardW_u, pickW_false]
    exact no fun h => h3 (by rw [h])
  rw [decide_eq_true h3]
  simp only [guardW_tt, pickW_true]
  rw [fl63_1, ld61 rfl (cells_lab hr1), fl63_1, ld61 rfl (cells_lab hr2)]
  refine c93 (itLab (he.below hb02) (hc.below hb02) (hq.below hb02)) (itLab (he2.below hb02) (hc2.below hb02) (hq2.below hb02)) okx fun b w3 hb3 hb => ?_
  have := hk _ (below_trans hb02 hb3)
  rwa [← bOf_eq (b := b) (hb.trans ⟨fun h => ItW.ext' h1 h2 h3 h, fun h => by rw [h]⟩)] at this)
theorem items_eq {rs ss : List (RawV 9)} {xs ys : List ItW} (hx : rs.length = xs.length) (hy : ss.length = ys.length) : xs = ys ↔ rs.length = ss.length ∧ ∀ i, i < rs.length → (match xs[i]?, ys[i]? with | some a, some b => bOf (a = b) | _, _ => false) = true := by
  constructor
  · rintro rfl
    refine ⟨by omega, fun i hi => ?_⟩
    rw [List.getElem?_eq_getElem (by omega)]; exact bOf_iff.2 rfl
  · rintro ⟨h1, h2⟩
    apply List.ext_getElem?
    intro i
    by_cases hi : i < xs.length
    · have := h2 i (by omega)
      rw [List.getElem?_eq_getElem hi, List.getElem?_eq_getElem (by omega)] at this ⊢
      rw [bOf_iff.1 this]
    · rw [List.getElem?_eq_none (by omega), List.getElem?_eq_none (by omega)]
theorem eqItems {u v : Value} {xs ys : List ItW} (hu : ItemsV w u xs) (hv : ItemsV w v ys) (hok : okIts xs) (hk : ∀ b w', Below w.heap.size w w' → (b = true ↔ xs = ys) → k (.bool b) w') : callW Tryz.prog (.func (.func 51) #[] #[]) #[u, v, fv 52] k w := by
  obtain ⟨rs, hr, hrx⟩ := hu
  obtain ⟨ss, hs, hsx⟩ := hv
  refine c51 (p := fun i => match xs[i]?, ys[i]? with | some a, some b => bOf (a = b) | _, _ => false) hr hs (by rw [hrx.1]; exact hok.1) (fun i x y hx hy w3 k3 hb3 hk3 => ?_) fun t w3 hb3 ht => ?_
  · obtain ⟨a, ha⟩ : ∃ z, xs[i]? = some z := ⟨_, List.getElem?_eq_getElem (by have := (List.getElem?_eq_some_iff.1 hx).1; have := hrx.1; omega)⟩
    obtain ⟨b, hb⟩ : ∃ z, ys[i]? = some z := ⟨_, List.getElem?_eq_getElem (by have := (List.getElem?_eq_some_iff.1 hy).1; have := hsx.1; omega)⟩
    rw [ha, hb] at hk3
    exact c52 ((hrx.2 i x a hx ha).below hb3) ((hsx.2 i y b hy hb).below hb3) (hok.2 a (List.mem_of_getElem? ha)) hk3
  · exact hk t w3 hb3 (by rw [ht, items_eq hrx.1 hsx.1])
end
end Go.Proofs.YtfkfkldhcignbaaGreatDoor
/- Labels and items compared, by the reference. -/
set_option linter.unusedSimpArgs false
set_option linter.unusedVariables false
set_option maxRecDepth 4000
namespace Go.Proofs.YtfkfkldhcignbaaGreatDoor
open Go Go.V Go.RowKit
section
variable {k : Value → World → Prop} {w w0 : World}
theorem c45 {u v : Value} {a b : Lab} (hu : LabV w u a) (hv : LabV w v b) (oka : okLab a) (okb : okLab b) (hk : ∀ x w', Below w.heap.size w w' → (x = true ↔ a = b) → k (.bool x) w') : callW Tryz.prog (.func (.func 45) #[] #[]) #[u, v] k w := C45 _ _ _ _ (by
  unfold S45
  have hml : maxLen ≤ 9223372036854775807 := by decide
  obtain ⟨e, c, q, rfl, he, hc, ⟨xs, hq, hqx⟩⟩ := hu
  obtain ⟨e2, c2, q2, rfl, he2, hc2, ⟨ys, hq2, hqy⟩⟩ := hv
  obtain ⟨ok1, ok2, ok3, ok4⟩ := oka
  obtain ⟨pk1, pk2, pk3, pk4⟩ := okb
  refine w_boxN (v := .agg #[I a.til, e, c, I a.terr, I a.cls, q]) fun w1 hb1 hsz1 hr1 => ?_
  replace hr1 : RowAt w1 w.heap.size 61 [I a.til, e, c, I a.terr, I a.cls, q] := hr1
  refine w_boxN (v := .agg #[I b.til, e2, c2, I b.terr, I b.cls, q2]) fun w2 hb2 hsz2 hr2 => ?_
  replace hr2 : RowAt w2 w1.heap.size 61 [I b.til, e2, c2, I b.terr, I b.cls, q2] := hr2
  have hb02 := below_trans hb1 hb2
  replace hr1 := hr1.below hb2
  rw [rw61_0 (hr1.cell (i := 0) rfl), rw61_0 (hr2.cell (i := 0) rfl), w_neq]
  by_cases h1 : a.til = b.til
  case' neg =>
    rw [decide_eq_false h1]
    simp only [Bool.not_false, guardW_tf, guardW_u, pickW_true, condW_true]
    exact hk _ _ hb02 (iffF fun h => h1 (by rw [h]))
  rw [decide_eq_true h1]
  simp only [Bool.not_true, guardW_ff, pickW_false]
  rw [rw61_3 (hr1.cell (i := 0 + 3) rfl), rw61_3 (hr2.cell (i := 0 + 3) rfl), w_neq]
  by_cases h2 : a.terr = b.terr
  case' neg =>
    rw [decide_eq_false h2]
    simp only [Bool.not_false, guardW_tf, guardW_u, pickW_true, pickW_false, condW_true]
    exact hk _ _ hb02 (iffF fun h => h2 (by rw [h]))
  rw [decide_eq_true h2]
  simp only [Bool.not_true, guardW_ff, pickW_false]
  rw [rw61_4 (hr1.cell (i := 0 + 4) rfl), rw61_4 (hr2.cell (i := 0 + 4) rfl), w_neq]
  by_cases h3 : a.cls = b.cls
  case' neg =>
    rw [decide_eq_false h3]
    simp only [Bool.not_false, guardW_tf, guardW_u, pickW_true, pickW_false, condW_true]
    exact hk _ _ hb02 (iffF fun h => h3 (by rw [h]))
  rw [decide_eq_true h3]
  simp only [Bool.not_true, guardW_ff, pickW_false]
  rw [rw61_1 (hr1.cell (i := 0 + 1) rfl), rw61_1 (hr2.cell (i := 0 + 1) rfl)]
  refine c84 (he.below hb02) (he2.below hb02) ⟨ok1.1, pk1.1⟩ ok1.2 pk1.2 fun rc w4 hb4 hrc _ => ?_
  have hb04 := below_trans hb02 hb4
  replace hr1 := hr1.below hb4
  replace hr2 := hr2.below hb4
  rw [w_neq]
  by_cases h4 : a.ev = b.ev
  case' neg =>
    rw [decide_eq_false (fun h => h4 (hrc.1 h))]
    simp only [Bool.not_false, guardW_tf, guardW_u, pickW_true, pickW_false, condW_true]
    exact hk _ _ hb04 (iffF fun h => h4 (by rw [h]))
  rw [decide_eq_true (hrc.2 h4)]
  simp only [Bool.not_true, guardW_ff, pickW_false]
  rw [rw61_2 (hr1.cell (i := 0 + 2) rfl), len26 (hc.below hb04), rw61_2 (hr2.cell (i := 0 + 2) rfl), len26 (hc2.below hb04), w_neq]
  by_cases h5 : a.ct.length = b.ct.length
  case' neg =>
    rw [decide_eq_false (by omega)]
    simp only [Bool.not_false, guardW_tf, guardW_u, pickW_true, pickW_false, condW_true]
    exact hk _ _ hb04 (iffF fun h => h5 (by rw [h]))
  rw [decide_eq_true (by omega)]
  simp only [Bool.not_true, guardW_ff, pickW_false]
  have hxl := hqx.1
  have hyl := hqy.1
  rw [rw61_5 (hr1.cell (i := 0 + 5) rfl), len59 (hq.below hb04), rw61_5 (hr2.cell (i := 0 + 5) rfl), len59 (hq2.below hb04), w_neq]
  by_cases h6 : a.locks.length = b.locks.length
  case' neg =>
    rw [decide_eq_false (by omega)]
    simp only [Bool.not_false, guardW_tf, guardW_u, pickW_true, pickW_false, condW_true]
    exact hk _ _ hb04 (iffF fun h => h6 (by rw [h]))
  rw [decide_eq_true (by omega)]
  simp only [Bool.not_true, guardW_ff, pickW_false, condW_false]
  refine Loop1.intro (fun n x w' => ∃ i : Nat, x = I i ∧ i ≤ a.ct.length ∧ n = a.ct.length - i ∧ Below w.heap.size w w' ∧ RowAt w' w.heap.size 61 [I a.til, e, c, I a.terr, I a.cls, q] ∧ RowAt w' w1.heap.size 61 [I b.til, e2, c2, I b.terr, I b.cls, q2] ∧ ∀ j, j < i → a.ct[j]? = b.ct[j]?) _ ⟨0, rfl, by omega, rfl, hb04, hr1, hr2, by omega⟩ ?_
  clear hr1 hr2 hb04 hb4 hb02 hb2 hb1
  rintro n _ w5 ⟨i, rfl, hi, rfl, hb5, hr1, hr2, hP⟩
  rw [rw61_2 (hr1.cell (i := 0 + 2) rfl), len26 (hc.below hb5), w_lss]
  by_cases hlt : i < a.ct.length
  case' pos =>
    rw [decide_eq_true (by omega), condW_true, drewW_eq]
    obtain ⟨x, hx⟩ : ∃ x, a.ct[i]? = some x := ⟨_, List.getElem?_eq_getElem hlt⟩
    obtain ⟨y, hy⟩ : ∃ y, b.ct[i]? = some y := ⟨_, List.getElem?_eq_getElem (by omega)⟩
    have hbd := below_drew w5
    have hb6 := below_trans hb5 hbd
    rw [rt61_2 (hr1.drew.cell (i := 0 + 2) rfl), nta26 (F := fC) rfl (hc.below hb6) hx, rt61_2 (hr2.drew.cell (i := 0 + 2) rfl), nta26 (F := fC) rfl (hc2.below hb6) hy, takeW_pure fun w => run_neqC x y w]
    by_cases hxy : x = y
    · rw [decide_eq_true hxy, Bool.not_true, condW_false, w_add, wrap_id (by omega), loopK_self]
      refine ⟨a.ct.length - (i + 1), by omega, i + 1, by simp [I], by omega, rfl, hb6, hr1.drew, hr2.drew, fun j hj => ?_⟩
      by_cases hji : j = i
      · subst hji; rw [hx, hy, hxy]
      · exact hP j (by omega)
    · rw [decide_eq_false hxy, Bool.not_false, condW_true]
      exact hk _ _ hb6 (iffF fun h => hxy (by rw [h, hy] at hx; exact (Option.some.inj hx).symm))
  rw [decide_eq_false (by omega), condW_false]
  have h7 : a.ct = b.ct := List.ext_getElem? fun j => by
    by_cases hj : j < i
    · exact hP j hj
    · rw [List.getElem?_eq_none (by omega), List.getElem?_eq_none (by omega)]
  refine Loop1.intro (fun n x w' => ∃ i : Nat, x = I i ∧ i ≤ a.locks.length ∧ n = a.locks.length - i ∧ Below w.heap.size w w' ∧ RowAt w' w.heap.size 61 [I a.til, e, c, I a.terr, I a.cls, q] ∧ RowAt w' w1.heap.size 61 [I b.til, e2, c2, I b.terr, I b.cls, q2] ∧ ∀ j, j < i → a.locks[j]? = b.locks[j]?) _ ⟨0, rfl, by omega, rfl, hb5, hr1, hr2, by omega⟩ ?_
  clear hr1 hr2 hb5 hP hlt hi
  rintro n _ w5 ⟨i, rfl, hi, rfl, hb5, hr1, hr2, hP⟩
  rw [rw61_5 (hr1.cell (i := 0 + 5) rfl), len59 (hq.below hb5), w_lss]
  by_cases hlt : i < a.locks.length
  case' neg =>
    rw [decide_eq_false (by omega), condW_false]
    refine hk _ _ hb5 (iffT ?_)
    have h8 : a.locks = b.locks := List.ext_getElem? fun j => by
      by_cases hj : j < i
      · exact hP j hj
      · rw [List.getElem?_eq_none (by omega), List.getElem?_eq_none (by omega)]
    cases a; cases b
    simp only at h1 h2 h3 h4 h7 h8
    rw [h1, h2, h3, h4, h7, h8]
  rw [decide_eq_true (by omega), condW_true, drewW_eq]
  obtain ⟨x, hx⟩ : ∃ x, xs[i]? = some x := ⟨_, List.getElem?_eq_getElem (by omega)⟩
  obtain ⟨y, hy⟩ : ∃ y, ys[i]? = some y := ⟨_, List.getElem?_eq_getElem (by omega)⟩
  obtain ⟨x', hx'⟩ : ∃ x, a.locks[i]? = some x := ⟨_, List.getElem?_eq_getElem hlt⟩
  obtain ⟨y', hy'⟩ : ∃ y, b.locks[i]? = some y := ⟨_, List.getElem?_eq_getElem (by omega)⟩
  have hbd := below_drew w5
  have hb6 := below_trans hb5 hbd
  replace hr1 := hr1.drew
  replace hr2 := hr2.drew
  clear hb5
  generalize w5.drew = w6 at *
  have a6 := after_refl w6
  refine ⟨after w6, a6, ?_⟩
  rw [ra61_5 (hr1.cell (i := 0 + 5) rfl) a6, nta59 (F := fQW) rfl (hq.below hb6) hx, ra61_5 (hr2.cell (i := 0 + 5) rfl) a6, nta59 (F := fQW) rfl (hq2.below hb6) hy]
  refine c85 ((hqx.2 i x x' hx hx').below hb6) ((hqy.2 i y y' hy hy').below hb6) (ok4 x' (List.mem_of_getElem? hx')) (pk4 y' (List.mem_of_getElem? hy')) fun w7 hb7 => ?_
  rw [keepS_eq]
  refine ⟨hb7, ?_⟩
  have hb07 := below_trans hb6 hb7
  rw [t_not]
  by_cases hxy : x' = y'
  · rw [decide_eq_true hxy, Bool.not_true, condW_false, w_add, wrap_id (by omega), loopK_self]
    refine ⟨a.locks.length - (i + 1), by omega, i + 1, by simp [I], by omega, rfl, hb07, hr1.below hb7, hr2.below hb7, fun j hj => ?_⟩
    by_cases hji : j = i
    · subst hji; rw [hx', hy', hxy]
    · exact hP j (by omega)
  · rw [decide_eq_false hxy, Bool.not_false, condW_true]
    exact hk _ _ hb07 (iffF fun h => hxy (by rw [h, hy'] at hx'; exact (Option.some.inj hx').symm)))
theorem t_lab {v : Value} {l : List (RawV 9)} {i : Nat} {K : Value → Prop} {r : RawV 9} {x : ItW} {e c q : Value} (hs : IsSl (fR 9) w v l) (hx : l[i]? = some r) (hr : r.1 = itemL x e c q) :
    takeW Tryz.prog anyW (Instr.indexAt 24 v (I i)) (fun p => takeW Tryz.prog anyW (Instr.fieldAt 63 p 1) (fun p => takeW Tryz.prog (sameW w) (Instr.loadAt 61 p) K w) w) w = K (.agg ([I x.lab.til, e, c, I x.lab.terr, I x.lab.cls, q] : List Value).toArray) := by
  obtain ⟨b, o, c', rfl, hlt, hcl⟩ := hs.at (i := (i : Int)) (by omega) (by simpa using hx)
  rw [takeW_pure (fun w => run_index (by kernel_rfl) (by kernel_rfl) (by omega) hlt w), tfl63_1]
  refine xld61 rfl fun j u hu => ?_
  have hlt2 := (List.getElem?_eq_some_iff.1 hu).1
  simp at hlt2
  have hsz : sizeT Tryz.prog (elemT Tryz.prog 24) = 9 := by kernel_rfl
  rw [hsz]
  have := hcl (1 + j) u (by
    show r.1[1 + j]? = some u
    rw [hr]
    unfold itemL
    match j, hlt2, hu with
    | 0, _, hu | 1, _, hu | 2, _, hu | 3, _, hu | 4, _, hu | 5, _, hu => simpa using hu)
  have hfz : (fR 9).sz = 9 := rfl
  rw [hfz] at this
  rw [← this]
  congr 2
  omega
theorem c18 {u v : Value} {xs ys : List ItW} (hu : ItemsV w u xs) (hv : ItemsV w v ys) (hok : okIts xs) (hoy : okIts ys) (hk : ∀ b w', Below w.heap.size w w' → (b = true ↔ xs = ys) → k (.bool b) w') : callW Tryz.prog (.func (.func 18) #[] #[]) #[u, v] k w := C18 _ _ _ _ (by
  unfold S18
  have hml : maxLen ≤ 9223372036854775807 := by decide
  have hol := hok.1
  obtain ⟨rs, hr, hrx⟩ := hu
  obtain ⟨ss, hs, hsx⟩ := hv
  have hrl := hrx.1
  have hsl := hsx.1
  rw [len24 hr, len24 hs, w_neq]
  by_cases hlm : xs.length = ys.length
  case' neg =>
    rw [decide_eq_false (by omega), Bool.not_false, condW_true]
    exact hk _ _ (Below.refl _ _) (iffF fun h => hlm (by rw [h]))
  rw [decide_eq_true (by omega), Bool.not_true, condW_false]
  refine Loop1.intro (fun n a w' => ∃ i : Nat, a = I i ∧ i ≤ xs.length ∧ n = xs.length - i ∧ Below w.heap.size w w' ∧ ∀ j, j < i → xs[j]? = ys[j]?) _ ⟨0, rfl, by omega, rfl, Below.refl _ _, by omega⟩ ?_
  rintro n _ w1 ⟨i, rfl, hi, rfl, hb1, hP⟩
  rw [len24 (hr.below hb1), w_lss]
  by_cases hlt : i < xs.length
  case' neg =>
    rw [decide_eq_false (by omega), condW_false]
    refine hk true _ hb1 (iffT (List.ext_getElem? fun j => ?_))
    by_cases hj : j < i
    · exact hP j hj
    · rw [List.getElem?_eq_none (by omega), List.getElem?_eq_none (by omega)]
  rw [decide_eq_true (by omega), condW_true, drewW_eq]
  obtain ⟨x, hx⟩ : ∃ x, xs[i]? = some x := ⟨_, List.getElem?_eq_getElem hlt⟩
  obtain ⟨y, hy⟩ : ∃ y, ys[i]? = some y := ⟨_, List.getElem?_eq_getElem (by omega)⟩
  obtain ⟨r, hri⟩ : ∃ x, rs[i]? = some x := ⟨_, List.getElem?_eq_getElem (by omega)⟩
  obtain ⟨s, hsi⟩ : ∃ y, ss[i]? = some y := ⟨_, List.getElem?_eq_getElem (by omega)⟩
  have hbd := below_trans hb1 (below_drew w1)
  clear hb1
  generalize w1.drew = w2 at *
  obtain ⟨e, c, q, hr0, he, hc, hq⟩ := (hrx.2 i r x hri hx).one
  obtain ⟨e2, c2, q2, hs0, he2, hc2, hq2⟩ := (hsx.2 i s y hsi hy).one
  have hr2 := hr.below hbd
  have hs2 := hs.below hbd
  have a2 := after_refl w2
  refine ⟨after w2, a2, ?_⟩
  have get : ∀ {v : Value} {l : List (RawV 9)} {r : RawV 9} {u : Value} {f o ft : Nat} {K : Value → Prop}, fieldOff Tryz.prog 63 f = some o → isAggT Tryz.prog ft = false → known Tryz.prog ft = true → IsSl (fR 9) w2 v l → l[i]? = some r → r.1[o]? = some u → takeW Tryz.prog anyW (Instr.indexAt 24 v (I i)) (fun p => takeW Tryz.prog anyW (Instr.fieldAt 63 p f) (fun p => takeW Tryz.prog (after w2) (Instr.loadAt ft p) K w2) w2) w2 = K u :=
    fun hf hg hk hs hx hu => t_getFAi (F := fR 9) rfl (by kernel_rfl) (by kernel_rfl) (by kernel_rfl) hf hg hk hs hx hu a2
  have no : x ≠ y → k (.bool false) w2 := fun hn => hk false w2 hbd (iffF fun h => hn (by rw [h, hy] at hx; exact (Option.some.inj hx).symm))
  rw [get (o := 0) (by kernel_rfl) (by kernel_rfl) (by kernel_rfl) hr2 hri (by rw [hr0]; rfl), get (o := 0) (by kernel_rfl) (by kernel_rfl) (by kernel_rfl) hs2 hsi (by rw [hs0]; rfl), t_neq]
  by_cases h1 : x.at' = y.at'
  case' neg =>
    rw [decide_eq_false h1]
    simp only [Bool.not_false, guardT_tf, guardT_u, guardW_tf, guardW_u, pickT_true, keepS_eq, condW_true]
    exact ⟨a2, no fun h => h1 (by rw [h])⟩
  rw [decide_eq_true h1]
  simp only [Bool.not_true, guardT_ff, pickT_false]
  rw [get (o := 7) (by kernel_rfl) (by kernel_rfl) (by kernel_rfl) hr2 hri (by rw [hr0]; rfl), get (o := 7) (by kernel_rfl) (by kernel_rfl) (by kernel_rfl) hs2 hsi (by rw [hs0]; rfl), t_neq]
  by_cases h2 : x.cls = y.cls
  case' neg =>
    rw [decide_eq_false h2]
    simp only [Bool.not_false, guardT_tf, guardT_u, guardW_tf, guardW_u, pickT_true, pickT_false, keepS_eq, condW_true]
    exact ⟨a2, no fun h => h2 (by rw [h])⟩
  rw [decide_eq_true h2]
  simp only [Bool.not_true, guardT_ff, pickT_false]
  rw [get (o := 8) (by kernel_rfl) (by kernel_rfl) (by kernel_rfl) hr2 hri (by rw [hr0]; rfl), get (o := 8) (by kernel_rfl) (by kernel_rfl) (by kernel_rfl) hs2 hsi (by rw [hs0]; rfl), takeW_pure (fun w => run_neqStr (by kernel_rfl) w)]
  by_cases h3 : x.text = y.text
  case' neg =>
    rw [decide_eq_false h3]
    simp only [Bool.not_false, guardT_tf, guardT_u, guardW_tf, guardW_u, pickT_true, pickT_false, keepS_eq, condW_true]
    exact ⟨a2, no fun h => h3 (by rw [h])⟩
  rw [decide_eq_true h3]
  simp only [Bool.not_true, guardT_ff, guardW_ff, pickT_false]
  rw [t_lab hr2 hri hr0, t_lab hs2 hsi hs0]
  refine c45 (itLab (he.below hbd) (hc.below hbd) (hq.below hbd)) (itLab (he2.below hbd) (hc2.below hbd) (hq2.below hbd)) (hok.2 x (List.mem_of_getElem? hx)) (hoy.2 y (List.mem_of_getElem? hy)) fun b w3 hb3 hb => ?_
  rw [keepS_eq]
  refine ⟨hb3, ?_⟩
  rw [t_not]
  have hb03 := below_trans hbd hb3
  cases b with
  | false =>
    rw [Bool.not_false, condW_true]
    exact hk false _ hb03 (iffF fun h => by
      have hxy : x = y := by rw [h, hy] at hx; exact (Option.some.inj hx).symm
      have := hb.2 (by rw [hxy]); cases this)
  | true =>
    rw [Bool.not_true, condW_false, w_add, wrap_id (by omega), loopK_self]
    refine ⟨xs.length - (i + 1), by omega, i + 1, by simp [I], by omega, rfl, hb03, fun j hj => ?_⟩
    by_cases hji : j = i
    · subst hji; rw [hx, hy, ItW.ext' h1 h2 h3 (hb.1 rfl)]
    · exact hP j (by omega))
end
end Go.Proofs.YtfkfkldhcignbaaGreatDoor
/- Feeds: the reference's Open, Released and Seen. -/
set_option linter.unusedSimpArgs false
set_option linter.unusedVariables false
set_option maxRecDepth 4000
namespace Go.Proofs.YtfkfkldhcignbaaGreatDoor
open Go Go.V Go.RowKit
def opAt (x : ItW) (r : Rdr) (ms : List Mom) (j : Nat) : Prop := ∃ m, ms[j]? = some m ∧ OpensP x r m
theorem relN_cases (x : ItW) (r : Rdr) (ms : List Mom) : ∀ n, (relN x r ms n = -1 ∧ ∀ j, j < n → ¬ opAt x r ms j) ∨ ∃ j : Nat, j < n ∧ relN x r ms n = j ∧ opAt x r ms j ∧ ∀ i, i < j → ¬ opAt x r ms i
  | 0 => .inl ⟨rfl, by omega⟩
  | n + 1 => by
    unfold relN
    rcases relN_cases x r ms n with ⟨h1, h2⟩ | ⟨j, h1, h2, h3, h4⟩
    · rw [if_neg (by omega)]
      cases hm : ms[n]? with
      | none =>
        refine .inl ⟨rfl, fun j hj => ?_⟩
        rcases Nat.lt_or_ge j n with h | h
        · exact h2 j h
        · obtain rfl : j = n := by omega
          rintro ⟨m, hm', _⟩; rw [hm] at hm'; cases hm'
      | some m =>
        simp only
        split
        · rename_i ho
          exact .inr ⟨n, by omega, rfl, ⟨m, hm, bOf_iff.1 ho⟩, fun i hi => h2 i hi⟩
        · rename_i ho
          refine .inl ⟨rfl, fun j hj => ?_⟩
          rcases Nat.lt_or_ge j n with h | h
          · exact h2 j h
          · obtain rfl : j = n := by omega
            rintro ⟨m', hm', ho'⟩
            rw [hm] at hm'; cases hm'
            exact ho (bOf_iff.2 ho')
    · rw [if_pos (by omega)]
      exact .inr ⟨j, by omega, h2, h3, h4⟩
/-- looking at fewer slots -/
theorem relN_le {x : ItW} {r : Rdr} {ms : List Mom} {n m : Nat} (h : n ≤ m) : relN x r ms n = if 0 ≤ relN x r ms m ∧ relN x r ms m < n then relN x r ms m else -1 := by
  rcases relN_cases x r ms m with ⟨h1, h2⟩ | ⟨j, h1, h2, h3, h4⟩
  · rw [if_neg (by omega)]
    rcases relN_cases x r ms n with ⟨g1, g2⟩ | ⟨i, g1, g2, g3, g4⟩
    · exact g1
    · exact absurd g3 (h2 i (by omega))
  · rcases relN_cases x r ms n with ⟨g1, g2⟩ | ⟨i, g1, g2, g3, g4⟩
    · rw [if_neg fun hh => g2 j (by omega) h3]; exact g1
    · have : i = j := by
        rcases Nat.lt_trichotomy i j with h | h | h
        · exact absurd g3 (h4 i h)
        · exact h
        · exact absurd h3 (g4 j h)
      subst this
      rw [if_pos (by omega), g2, h2]
section
variable {k : Value → World → Prop} {w w0 : World}
theorem c56 {u v z : Value} {x : ItW} {r : Rdr} {m : Mom} (hu : ItemV w u x) (hr : RdrV v r) (hm : MomV w z m) (okl : okLab x.lab) (okm : okMom m) (hk : ∀ w', Below w.heap.size w w' → k (.bool (bOf (OpensP x r m))) w') : callW Tryz.prog (.func (.func 56) #[] #[]) #[u, v, z] k w := C56 _ _ _ _ _ (by
  unfold S56
  cases hr
  obtain ⟨e, c, q, rfl, he, hc, hq⟩ := id hu
  obtain ⟨e2, c2, q2, rfl, he2, hc2, hq2⟩ := id hm
  refine w_boxN (v := .agg (itemL x e c q).toArray) fun w1 hb1 hsz1 hr1 => ?_
  replace hr1 : RowAt w1 w.heap.size 63 (itemL x e c q) := hr1
  refine w_boxN (v := .agg #[I r.1, I r.2]) fun w2 hb2 hsz2 hr2 => ?_
  replace hr2 : RowAt w2 w1.heap.size 30 [I r.1, I r.2] := hr2
  refine w_boxN (v := .agg #[I m.now, I m.drift, e2, c2, q2]) fun w3 hb3 hsz3 hr3 => ?_
  replace hr3 : RowAt w3 w2.heap.size 28 [I m.now, I m.drift, e2, c2, q2] := hr3
  have hb03 := below_trans (below_trans hb1 hb2) hb3
  replace hr1 := (hr1.below hb2).below hb3
  replace hr2 := hr2.below hb3
  rw [rw63_0 (hr1.cell (i := 0) rfl), rw28_0 (hr3.cell (i := 0) rfl), w_leq]
  by_cases h1 : x.at' ≤ m.now
  case' neg =>
    rw [decide_eq_false h1]
    simp only [guardW_ft, guardW_u, pickW_false]
    have := hk _ hb03
    rwa [← bOf_eq (b := false) (iffF fun h => h1 h.1)] at this
  rw [decide_eq_true h1]
  simp only [guardW_tt, pickW_true]
  rw [fl63_1, ld61 rfl (cells_lab hr1), ld30 rfl hr2.cells, ld28 rfl hr3.cells]
  refine c97 (itLab (he.below hb03) (hc.below hb03) (hq.below hb03)) rfl (hm.below hb03) okl okm fun b w4 hb4 hb => ?_
  have := hk _ (below_trans hb03 hb4)
  rwa [← bOf_eq (b := b) (hb.trans ⟨fun h => ⟨h1, h⟩, fun h => h.2⟩)] at this)
theorem c30 {u v z : Value} {x : ItW} {r : Rdr} {ms : List Mom} (hu : ItemV w u x) (hr : RdrV v r) (hm : MomsV w z ms) (okl : okLab x.lab) (hom : okMs ms) (hk : ∀ w', Below w.heap.size w w' → k (I (relN x r ms ms.length)) w') : callW Tryz.prog (.func (.func 30) #[] #[]) #[u, v, z] k w := C30 _ _ _ _ _ (by
  unfold S30
  have hml : maxLen ≤ 9223372036854775807 := by decide
  cases hr
  obtain ⟨e, c, q, rfl, he, hc, hq⟩ := id hu
  obtain ⟨qs, hqs, hqx⟩ := id hm
  have hql := hqx.1
  have hom1 := hom.1
  refine w_boxN (v := .agg (itemL x e c q).toArray) fun w1 hb1 hsz1 hr1 => ?_
  replace hr1 : RowAt w1 w.heap.size 63 (itemL x e c q) := hr1
  refine w_boxN (v := .agg #[I r.1, I r.2]) fun w2 hb2 hsz2 hr2 => ?_
  replace hr2 : RowAt w2 w1.heap.size 30 [I r.1, I r.2] := hr2
  have hb02 := below_trans hb1 hb2
  replace hr1 := hr1.below hb2
  refine Loop1.intro (fun n a w' => ∃ i : Nat, a = I i ∧ i ≤ ms.length ∧ n = ms.length - i ∧ Below w.heap.size w w' ∧ RowAt w' w.heap.size 63 (itemL x e c q) ∧ RowAt w' w1.heap.size 30 [I r.1, I r.2] ∧ ∀ j, j < i → ¬ opAt x r ms j) _ ⟨0, rfl, by omega, rfl, hb02, hr1, hr2, by omega⟩ ?_
  clear hr1 hr2 hb02 hb2 hb1
  rintro n _ w3 ⟨i, rfl, hi, rfl, hb3, hr1, hr2, hP⟩
  rw [len33 (hqs.below hb3), w_lss]
  by_cases hlt : i < ms.length
  case' neg =>
    rw [decide_eq_false (by omega), condW_false]
    have := hk _ hb3
    rcases relN_cases x r ms ms.length with ⟨g1, g2⟩ | ⟨j, g1, g2, g3, g4⟩
    · rw [g1] at this; exact this
    · exact absurd g3 (hP j (by omega))
  rw [decide_eq_true (by omega), condW_true, drewW_eq]
  obtain ⟨m, hmi⟩ : ∃ m, ms[i]? = some m := ⟨_, List.getElem?_eq_getElem hlt⟩
  obtain ⟨q0, hq0⟩ : ∃ m, qs[i]? = some m := ⟨_, List.getElem?_eq_getElem (by omega)⟩
  have hbd := below_trans hb3 (below_drew w3)
  replace hr1 := hr1.drew
  replace hr2 := hr2.drew
  clear hb3
  generalize w3.drew = w4 at *
  rw [xld63 rfl hr1.cells, xld30 rfl hr2.cells, nta33 (F := fR 5) rfl (hqs.below hbd) hq0]
  refine c56 (hu.below hbd) rfl ((hqx.2 i q0 m hq0 hmi).below hbd) okl (hom.2 m (List.mem_of_getElem? hmi)) fun w5 hb5 => ?_
  have hb05 := below_trans hbd hb5
  cases ho : bOf (OpensP x r m) with
  | true =>
    rw [condW_true]
    have := hk _ hb05
    rcases relN_cases x r ms ms.length with ⟨g1, g2⟩ | ⟨j, g1, g2, g3, g4⟩
    · exact absurd ⟨m, hmi, bOf_iff.1 ho⟩ (g2 i hlt)
    · have : i = j := by
        rcases Nat.lt_trichotomy i j with h | h | h
        · exact absurd ⟨m, hmi, bOf_iff.1 ho⟩ (g4 i h)
        · exact h
        · exact absurd g3 (hP j h)
      subst this
      rw [g2] at this
      assumption
  | false =>
    rw [condW_false, w_add, wrap_id (by omega), loopK_self]
    refine ⟨ms.length - (i + 1), by omega, i + 1, by simp [I], by omega, rfl, hb05, hr1.below hb5, hr2.below hb5, fun j hj => ?_⟩
    by_cases hji : j = i
    · subst hji
      rintro ⟨m', hm', ho'⟩
      rw [hmi] at hm'; cases hm'
      rw [bOf_iff.2 ho'] at ho; cases ho
    · exact hP j (by omega))
end
end Go.Proofs.YtfkfkldhcignbaaGreatDoor
/- Feeds: the reference's Feed. -/
set_option linter.unusedSimpArgs false
set_option linter.unusedVariables false
set_option maxRecDepth 4000
namespace Go.Proofs.YtfkfkldhcignbaaGreatDoor
open Go Go.V Go.RowKit
section
variable {k : Value → World → Prop} {w w0 : World}
theorem zerosS {n : Nat} (h0 : 0 < n) (hn : n ≤ 1000) (hk : ∀ w', Below w.heap.size w w' → k (.string (zeroB n)) w') : opW Tryz.prog (Instr.makeSlice 85 (I n) (I n)) (fun t w => opW Tryz.prog (convert 85 9 t) k w) w := by
  refine w_zerosM (n := n) (F := fB) (x := 0) rfl sty85 rfl rfl rfl (by omega) (by omega) fun w3 hb3 hm3 => ?_
  have hs := hm3.sl
  rw [w_toStr (e := 5) (by kernel_rfl) (by kernel_rfl) (by kernel_rfl) hs (fun hh => by have := congrArg List.length hh; simp at this; omega)]
  exact hk _ hb3
theorem c35 {n : Nat} (h0 : 0 < n) (hn : n ≤ 1000) (hk : ∀ w', Below w.heap.size w w' → k (.string (zeroB n)) w') : callW Tryz.prog (.func (.func 35) #[] #[]) #[I n] k w := C35 _ _ _ (by
  unfold S35
  exact zerosS h0 hn hk)
end
/-! plain -/
theorem cntB_rel {xs : List ItW} {r : Rdr} {ms : List Mom} {n i : Nat} {x : ItW} (hx : xs[i]? = some x) (hn : n < ms.length) : cntB true xs r ms n i = decide (0 ≤ relN x r ms ms.length ∧ relN x r ms ms.length ≤ n) ∧ (0 ≤ relN x r ms ms.length → relN x r ms ms.length ≤ n → relI xs r ms (n + 1) i = relN x r ms ms.length) := by
  have h := relN_le (x := x) (r := r) (ms := ms) (n := n + 1) (m := ms.length) (by omega)
  unfold cntB relI
  rw [hx]
  simp only [if_true]
  constructor
  · rw [decide_eq_decide, h]
    split
    · rename_i hh; constructor <;> intro h' <;> omega
    · rename_i hh; constructor <;> intro h' <;> omega
  · intro h1 h2
    rw [h, if_pos (by omega)]
theorem candF_true {xs : List ItW} {r : Rdr} {ms : List Mom} {n : Nat} {snt : Nat → Bool} : candF true xs r ms n snt = leftF true xs r ms n snt := by
  unfold candF
  exact List.filter_eq_self.2 fun x _ => rfl
def lftN (sl : Bool) (xs : List ItW) (r : Rdr) (ms : List Mom) (n : Nat) (snt : Nat → Bool) (i : Nat) : Prop := i < xs.length ∧ snt i = false ∧ cntB sl xs r ms n i = true
theorem mem_left {sl : Bool} {xs : List ItW} {r : Rdr} {ms : List Mom} {n : Nat} {snt : Nat → Bool} {i : Nat} : i ∈ leftF sl xs r ms n snt ↔ lftN sl xs r ms n snt i := by
  unfold leftF lftN
  rw [List.mem_filter, List.mem_range, Bool.and_eq_true, Bool.not_eq_true']
end Go.Proofs.YtfkfkldhcignbaaGreatDoor
/- Feeds: the reference's Feed, the slots. -/
set_option linter.unusedSimpArgs false
set_option linter.unusedVariables false
set_option maxRecDepth 4000
namespace Go.Proofs.YtfkfkldhcignbaaGreatDoor
open Go Go.V Go.RowKit
theorem packF_some {sl : Bool} {xs : List ItW} {r : Rdr} {ms : List Mom} {n : Nat} {snt : Nat → Bool} {i : Nat} (h : pickF sl xs r ms n snt = some i) : packF sl xs r ms n snt = if sl = true then codedB (txtI xs i) ++ zeroB (63 - (txtI xs i).size) else zeroB (aheadF sl xs r ms n snt i) ++ codedB (txtI xs i) := by
  unfold packF; rw [h]
theorem packF_none {sl : Bool} {xs : List ItW} {r : Rdr} {ms : List Mom} {n : Nat} {snt : Nat → Bool} (h : pickF sl xs r ms n snt = none) : packF sl xs r ms n snt = if sl = true then zeroB 64 else zeroB (leftF sl xs r ms n snt).length := by
  unfold packF; rw [h]
section
variable {k : Value → World → Prop} {w w0 : World}
end
end Go.Proofs.YtfkfkldhcignbaaGreatDoor
/- Feeds: Feed, Tells, Alike, and the reference's; texts compared. -/
set_option linter.unusedSimpArgs false
set_option linter.unusedVariables false
set_option maxRecDepth 4000
namespace Go.Proofs.YtfkfkldhcignbaaGreatDoor
open Go Go.V Go.RowKit
def okF (md : Int) (xs : List ItW) (r : Rdr) (ms : List Mom) : Prop := GivenP xs r ms ∧ (md = 1 ∨ md = 2)
noncomputable def fdF (md : Int) (xs : List ItW) (r : Rdr) (ms : List Mom) : List ByteArray := feedF (decide (md = 1)) xs r ms ms.length
theorem fdF_len {md : Int} {xs : List ItW} {r : Rdr} {ms : List Mom} : (fdF md xs r ms).length = ms.length := feedF_len
/-- the first place at which two lists of texts differ -/
def dif (a b : List ByteArray) : Int := match (List.range a.length).find? fun i => !decide (a[i]? = b[i]?) with | some i => (i : Int) | none => -1
theorem dif_at {a b : List ByteArray} {i : Nat} (hi : i < a.length) (h : a[i]? ≠ b[i]?) (hb : ∀ j, j < i → a[j]? = b[j]?) : dif a b = i := by
  unfold dif
  have : (List.range a.length).find? (fun i => !decide (a[i]? = b[i]?)) = some i := by
    rw [List.find?_range_eq_some]
    refine ⟨by simpa using h, List.mem_range.2 hi, fun j hj => by simpa using hb j hj⟩
  rw [this]
theorem dif_none {a b : List ByteArray} (hb : ∀ j, j < a.length → a[j]? = b[j]?) : dif a b = -1 := by
  unfold dif
  have : (List.range a.length).find? (fun i => !decide (a[i]? = b[i]?)) = none := by
    rw [List.find?_eq_none]
    intro j hj
    rw [List.mem_range] at hj
    simpa using hb j hj
  rw [this]
theorem seenL_ok {xs : List ItW} {r : Rdr} {ms : List Mom} (h : okIts xs) : okIts (seenL xs r ms) := ⟨Nat.le_trans (List.length_filter_le _ _) h.1, fun x hx => h.2 x (List.mem_filter.1 hx).1⟩
section
variable {k : Value → World → Prop} {w w0 : World}
theorem ex0 {a b : Value} : opW Tryz.prog (Instr.extract (.tuple #[a, b]) 0) k w = k a w := w_extract rfl
theorem ex1 {a b : Value} : opW Tryz.prog (Instr.extract (.tuple #[a, b]) 1) k w = k b w := w_extract rfl
theorem c23 {md : Int} {u v z : Value} {xs : List ItW} {r : Rdr} {ms : List Mom} (hg : Gl w) (h : ItemsV w u xs) (hr : RdrV v r) (hm : MomsV w z ms) (hok : okIts xs) (hom : okMs ms)
    (hk : ∀ o e w', Below w.heap.size w w' → (¬ okF md xs r ms → o = nS ∧ e = 260) → (okF md xs r ms → e = 0 ∧ IsSl fT w' o (fdF md xs r ms)) → k (.tuple #[o, I e]) w') : callW Tryz.prog (.func (.func 23) #[] #[]) #[I md, u, v, z] k w := by
  by_cases hf : okF md xs r ms
  · obtain ⟨HG, hmd⟩ := id hf
    rcases hmd with rfl | rfl
    · exact feed_ok (sl := true) hg h hr hm hok hom HG fun o w' hb hm' => hk o 0 w' hb (fun hn => absurd hf hn) fun _ => ⟨rfl, hm'.sl⟩
    · exact feed_ok (sl := false) hg h hr hm hok hom HG fun o w' hb hm' => hk o 0 w' hb (fun hn => absurd hf hn) fun _ => ⟨rfl, hm'.sl⟩
  · have bad : ∀ w', Below w.heap.size w w' → k (.tuple #[nS, I 260]) w' := fun w' hb => hk nS 260 w' hb (fun _ => ⟨rfl, rfl⟩) fun h => absurd h hf
    refine C23 _ _ _ _ _ _ ?_
    unfold S23
    cases hr
    refine w_boxN (v := .agg #[I r.1, I r.2]) fun w1 hb1 hsz1 hr1 => ?_
    replace hr1 : RowAt w1 w.heap.size 30 [I r.1, I r.2] := hr1
    rw [ld30 rfl hr1.cells]
    refine c41 (h.below hb1) rfl (hm.below hb1) hok hom fun b w2 hb2 hG => ?_
    have hb02 := below_trans hb1 hb2
    rw [w_not]
    cases b with
    | false =>
      simp only [Bool.not_false, guardW_tf, guardW_u, pickW_true, condW_true]
      exact bad _ hb02
    | true =>
      have hmd : ¬ (md = 1 ∨ md = 2) := fun hh => hf ⟨hG.1 rfl, hh⟩
      simp only [Bool.not_true, guardW_ff, pickW_false]
      rw [w_lss]
      by_cases h1 : md < 1
      · rw [decide_eq_true h1]
        simp only [guardW_tf, guardW_u, pickW_true, condW_true]
        exact bad _ hb02
      · rw [decide_eq_false h1]
        simp only [guardW_ff, pickW_false]
        rw [w_gtr, decide_eq_true (by omega)]
        simp only [condW_true]
        exact bad _ hb02
noncomputable def telN (md : Int) (xs ys : List ItW) (r : Rdr) (ms : List Mom) : Int := if bOf (okF md xs r ms ∧ okF md ys r ms) = true then dif (fdF md xs r ms) (fdF md ys r ms) else 0
noncomputable def telE (md : Int) (xs ys : List ItW) (r : Rdr) (ms : List Mom) : Int := if bOf (okF md xs r ms ∧ okF md ys r ms) = true then 0 else 260
theorem c25 {md : Int} {u u2 v z : Value} {xs ys : List ItW} {r : Rdr} {ms : List Mom} (hg : Gl w) (h : ItemsV w u xs) (h2 : ItemsV w u2 ys) (hr : RdrV v r) (hm : MomsV w z ms) (hok : okIts xs) (hoy : okIts ys) (hom : okMs ms)
    (hk : ∀ w', Below w.heap.size w w' → k (.tuple #[I (telN md xs ys r ms), I (telE md xs ys r ms)]) w') : callW Tryz.prog (.func (.func 25) #[] #[]) #[I md, u, u2, v, z] k w := C25 _ _ _ _ _ _ _ (by
  unfold S25
  have hml : maxLen ≤ 9223372036854775807 := by decide
  have hml2 := hom.1
  cases hr
  refine w_boxN (v := .agg #[I r.1, I r.2]) fun w1 hb1 hsz1 hr1 => ?_
  replace hr1 : RowAt w1 w.heap.size 30 [I r.1, I r.2] := hr1
  rw [ld30 rfl hr1.cells]
  refine c23 (hg.below hb1) (h.below hb1) rfl (hm.below hb1) hok hom fun o1 e1 w2 hb2 n1 y1 => ?_
  have hb02 := below_trans hb1 hb2
  rw [ex0, ex1, ld30 rfl (hr1.below hb2).cells]
  refine c23 (hg.below hb02) (h2.below hb02) rfl (hm.below hb02) hoy hom fun o2 e2 w3 hb3 n2 y2 => ?_
  have hb03 := below_trans hb02 hb3
  rw [ex0, ex1, w_neq]
  have fin := hk w3 hb03
  by_cases f1 : okF md xs r ms
  case' neg =>
    obtain ⟨rfl, rfl⟩ := n1 f1
    rw [decide_eq_false (by decide), Bool.not_false]
    simp only [guardW_tf, guardW_u, pickW_true, condW_true]
    have hb : bOf (okF md xs r ms ∧ okF md ys r ms) = false := (bOf_eq (iffF fun h => f1 h.1)).symm
    unfold telN telE at fin
    rw [hb] at fin
    exact fin
  obtain ⟨rfl, s1⟩ := y1 f1
  rw [decide_eq_true rfl, Bool.not_true]
  simp only [guardW_ff, pickW_false]
  rw [w_neq]
  by_cases f2 : okF md ys r ms
  case' neg =>
    obtain ⟨rfl, rfl⟩ := n2 f2
    rw [decide_eq_false (by decide), Bool.not_false]
    simp only [pickW_true, pickW_false, condW_true]
    have hb : bOf (okF md xs r ms ∧ okF md ys r ms) = false := (bOf_eq (iffF fun h => f2 h.2)).symm
    unfold telN telE at fin
    rw [hb] at fin
    exact fin
  obtain ⟨rfl, s2⟩ := y2 f2
  rw [decide_eq_true rfl, Bool.not_true]
  simp only [pickW_true, pickW_false, condW_false]
  have hb : bOf (okF md xs r ms ∧ okF md ys r ms) = true := bOf_iff.2 ⟨f1, f2⟩
  unfold telN telE at hk
  rw [hb] at hk
  simp only [if_true] at hk
  rw [len31 (s1.below hb3), fdF_len]
  refine Loop1.intro (fun n a w' => ∃ i : Nat, a = I i ∧ i ≤ ms.length ∧ n = ms.length - i ∧ Below w.heap.size w w' ∧ Below w3.heap.size w3 w' ∧ ∀ j, j < i → (fdF md xs r ms)[j]? = (fdF md ys r ms)[j]?) _ ⟨0, rfl, by omega, rfl, hb03, Below.refl _ _, by omega⟩ ?_
  rintro n _ w4 ⟨i, rfl, hi, rfl, hb4, hb34, hP⟩
  rw [w_lss]
  by_cases hlt : i < ms.length
  case' neg =>
    rw [decide_eq_false (by omega), condW_false]
    have := hk _ hb4
    rwa [dif_none fun j hj => hP j (by rw [fdF_len] at hj; omega)] at this
  rw [decide_eq_true (by omega), condW_true, drewW_eq]
  obtain ⟨x, hx⟩ : ∃ x, (fdF md xs r ms)[i]? = some x := ⟨_, List.getElem?_eq_getElem (by rw [fdF_len]; omega)⟩
  obtain ⟨y, hy⟩ : ∃ y, (fdF md ys r ms)[i]? = some y := ⟨_, List.getElem?_eq_getElem (by rw [fdF_len]; omega)⟩
  have hbd := below_drew w4
  have hb5 := below_trans hb4 hbd
  have hb35 := below_trans hb34 hbd
  rw [nt31 (F := fT) rfl ((s1.below hb3).below hb35) hx rfl, nt31 (F := fT) rfl (s2.below hb35) hy rfl, takeW_pure fun w => run_neqStr (by kernel_rfl) w]
  by_cases hxy : x = y
  · rw [decide_eq_true hxy, Bool.not_true, condW_false, w_add, wrap_id (by omega), loopK_self]
    refine ⟨ms.length - (i + 1), by omega, i + 1, by simp [I], by omega, rfl, hb5, hb35, fun j hj => ?_⟩
    by_cases hji : j = i
    · subst hji; rw [hx, hy, hxy]
    · exact hP j (by omega)
  · rw [decide_eq_false hxy, Bool.not_false, condW_true]
    have := hk _ hb5
    rwa [dif_at (i := i) (by rw [fdF_len]; omega) (by rw [hx, hy]; simpa using hxy) hP] at this)
def AlikeP (xs ys : List ItW) (r : Rdr) (ms : List Mom) : Prop := GivenP xs r ms ∧ GivenP ys r ms ∧ seenL xs r ms = seenL ys r ms
theorem c21 {u u2 v z : Value} {xs ys : List ItW} {r : Rdr} {ms : List Mom} (hg : Gl w) (h : ItemsV w u xs) (h2 : ItemsV w u2 ys) (hr : RdrV v r) (hm : MomsV w z ms) (hok : okIts xs) (hoy : okIts ys) (hom : okMs ms)
    (hk : ∀ b w', Below w.heap.size w w' → (b = true ↔ AlikeP xs ys r ms) → k (.bool b) w') : callW Tryz.prog (.func (.func 21) #[] #[]) #[u, u2, v, z] k w := C21 _ _ _ _ _ _ (by
  unfold S21
  cases hr
  refine w_boxN (v := .agg #[I r.1, I r.2]) fun w1 hb1 hsz1 hr1 => ?_
  replace hr1 : RowAt w1 w.heap.size 30 [I r.1, I r.2] := hr1
  rw [ld30 rfl hr1.cells]
  refine c16 (hg.below hb1) (h.below hb1) rfl (hm.below hb1) hok hom fun o1 e1 w2 hb2 n1 y1 => ?_
  have hb02 := below_trans hb1 hb2
  rw [ex0, ex1, ld30 rfl (hr1.below hb2).cells]
  refine c16 (hg.below hb02) (h2.below hb02) rfl (hm.below hb02) hoy hom fun o2 e2 w3 hb3 n2 y2 => ?_
  have hb03 := below_trans hb02 hb3
  rw [ex0, ex1, w_eql]
  by_cases f1 : GivenP xs r ms
  case' neg =>
    obtain ⟨rfl, rfl⟩ := n1 f1
    rw [decide_eq_false (by decide)]
    simp only [guardW_ft, guardW_u, pickW_false]
    exact hk false _ hb03 (iffF fun h => f1 h.1)
  obtain ⟨rfl, s1⟩ := y1 f1
  rw [decide_eq_true rfl]
  simp only [guardW_tt, pickW_true]
  rw [w_eql]
  by_cases f2 : GivenP ys r ms
  case' neg =>
    obtain ⟨rfl, rfl⟩ := n2 f2
    rw [decide_eq_false (by decide)]
    simp only [guardW_ft, guardW_u, pickW_false, pickW_true]
    exact hk false _ hb03 (iffF fun h => f2 h.2.1)
  obtain ⟨rfl, s2⟩ := y2 f2
  rw [decide_eq_true rfl]
  simp only [guardW_tt, pickW_true]
  refine eqItems (s1.below hb3) s2 (seenL_ok hok) fun b w4 hb4 hb => ?_
  exact hk b _ (below_trans hb03 hb4) (hb.trans ⟨fun h => ⟨f1, f2, h⟩, fun h => h.2.2⟩))
theorem c27 {u v : Value} {a b : List ByteArray} (hu : IsSl fT w u a) (hv : IsSl fT w v b) (hl : a.length ≤ maxLen) (hk : ∀ w', Below w.heap.size w w' → k (.bool (decide (a = b))) w') : callW Tryz.prog (.func (.func 27) #[] #[]) #[u, v] k w := C27 _ _ _ _ (by
  unfold S27
  have hml : maxLen ≤ 9223372036854775807 := by decide
  rw [len31 hu, len31 hv, w_neq]
  by_cases hlm : a.length = b.length
  case' neg =>
    rw [decide_eq_false (by omega), Bool.not_false, condW_true]
    have := hk _ (Below.refl _ _)
    rwa [decide_eq_false (fun h => hlm (by rw [h]))] at this
  rw [decide_eq_true (by omega), Bool.not_true, condW_false]
  refine Loop1.intro (fun n x w' => ∃ i : Nat, x = I i ∧ i ≤ a.length ∧ n = a.length - i ∧ Below w.heap.size w w' ∧ ∀ j, j < i → a[j]? = b[j]?) _ ⟨0, rfl, by omega, rfl, Below.refl _ _, by omega⟩ ?_
  rintro n _ w1 ⟨i, rfl, hi, rfl, hb1, hP⟩
  rw [len31 (hu.below hb1), w_lss]
  by_cases hlt : i < a.length
  case' neg =>
    rw [decide_eq_false (by omega), condW_false]
    have := hk _ hb1
    rwa [decide_eq_true (List.ext_getElem? fun j => by
      by_cases hj : j < i
      · exact hP j hj
      · rw [List.getElem?_eq_none (by omega), List.getElem?_eq_none (by omega)])] at this
  rw [decide_eq_true (by omega), condW_true, drewW_eq]
  obtain ⟨x, hx⟩ : ∃ x, a[i]? = some x := ⟨_, List.getElem?_eq_getElem hlt⟩
  obtain ⟨y, hy⟩ : ∃ y, b[i]? = some y := ⟨_, List.getElem?_eq_getElem (by omega)⟩
  have hbd := below_trans hb1 (below_drew w1)
  rw [nt31 (F := fT) rfl (hu.below hbd) hx rfl, nt31 (F := fT) rfl (hv.below hbd) hy rfl, takeW_pure fun w => run_neqStr (by kernel_rfl) w]
  by_cases hxy : x = y
  · rw [decide_eq_true hxy, Bool.not_true, condW_false, w_add, wrap_id (by omega), loopK_self]
    refine ⟨a.length - (i + 1), by omega, i + 1, by simp [I], by omega, rfl, hbd, fun j hj => ?_⟩
    by_cases hji : j = i
    · subst hji; rw [hx, hy, hxy]
    · exact hP j (by omega)
  · rw [decide_eq_false hxy, Bool.not_false, condW_true]
    have := hk _ hbd
    rwa [decide_eq_false (fun h => hxy (by rw [h, hy] at hx; exact (Option.some.inj hx).symm))] at this)
end
end Go.Proofs.YtfkfkldhcignbaaGreatDoor
/- Feeds: Read, and the reference's. -/
set_option linter.unusedSimpArgs false
set_option linter.unusedVariables false
set_option maxRecDepth 4000
namespace Go.Proofs.YtfkfkldhcignbaaGreatDoor
open Go Go.V Go.RowKit
def bAt (s : ByteArray) (i : Nat) : UInt8 := s.data.toList.getD i 0
def byt (s : ByteArray) (i : Nat) : Nat := (bAt s i).toNat
theorem get_bAt {s : ByteArray} {i : Nat} (h : i < s.size) : s[i]? = some (bAt s i) := by
  rw [getElem?_pos s i h]
  unfold bAt
  rw [List.getD_eq_getElem?_getD, List.getElem?_eq_getElem (by simpa using h)]
  simp
  rfl
def okP (p : ByteArray) : Prop := p.size = 64 ∧ byt p 0 ≤ 60 ∧ ∀ k, byt p 0 < k → k < 64 → byt p k = 0
def txtP (p : ByteArray) : List ByteArray := if 0 < byt p 0 then [p.extract 1 (byt p 0 + 1)] else []
def readP (l : List ByteArray) : Prop := ∀ p ∈ l, okP p
def readL (l : List ByteArray) : List ByteArray := l.flatMap txtP
theorem dropWhile_nil {l : List UInt8} : l.dropWhile (· == 0) = [] ↔ ∀ b ∈ l, b = 0 := by
  induction l with
  | nil => simp
  | cons x r ih =>
    by_cases hx : x = 0
    · subst hx
      rw [List.dropWhile_cons_of_pos (by simp), ih]; simp
    · rw [List.dropWhile_cons_of_neg (by simpa using hx)]
      simp [hx]
theorem trim_nil {l : List UInt8} : Lib.trimB l 0 = [] ↔ ∀ b ∈ l, b = 0 := by
  unfold Lib.trimB Lib.trimLeftB Lib.trimRightB
  rw [dropWhile_nil]
  constructor
  · intro h
    have h2 : l.reverse.dropWhile (· == 0) = [] := by
      cases hd : l.reverse.dropWhile (· == 0) with
      | nil => rfl
      | cons x r =>
        exfalso
        have hx : x = 0 := h x (by rw [hd]; simp)
        have := List.head?_dropWhile_not (· == (0 : UInt8)) l.reverse
        rw [hd] at this
        simp at this
        exact this hx
    rw [dropWhile_nil] at h2
    intro b hb
    exact h2 b (List.mem_reverse.2 hb)
  · intro h b hb
    rw [List.mem_reverse] at hb
    exact h b (List.mem_reverse.1 ((List.dropWhile_sublist _).subset hb))
theorem tail_zero {p : ByteArray} {n : Nat} (hs : p.size = 64) : (∀ b ∈ (p.extract n p.size).data.toList, b = 0) ↔ ∀ k, n ≤ k → k < 64 → byt p k = 0 := by
  have hd : (p.extract n p.size).data.toList = p.data.toList.drop n := by
    have : p.data.toList.length = 64 := by simpa using hs
    rw [ByteArray.data_extract, hs]
    simp only [Array.toList_extract, List.extract_eq_take_drop]
    exact List.take_of_length_le (by rw [List.length_drop]; omega)
  have hlen : p.data.toList.length = 64 := by simpa using hs
  rw [hd]
  constructor
  · intro h k hk hk2
    unfold byt bAt
    rw [List.getD_eq_getElem?_getD, List.getElem?_eq_getElem (by omega)]
    have := h (p.data.toList[k]'(by omega)) (by
      rw [List.mem_iff_getElem?]
      refine ⟨k - n, ?_⟩
      rw [List.getElem?_drop, show n + (k - n) = k by omega]
      exact List.getElem?_eq_getElem (by omega))
    rw [Option.getD_some, this]; rfl
  · intro h b hb
    obtain ⟨i, hi⟩ := List.mem_iff_getElem?.1 hb
    rw [List.getElem?_drop] at hi
    have hlt := (List.getElem?_eq_some_iff.1 hi).1
    have := h (n + i) (by omega) (by omega)
    unfold byt bAt at this
    rw [List.getD_eq_getElem?_getD, hi, Option.getD_some] at this
    exact UInt8.toNat_inj.1 this
theorem readL_take {l : List ByteArray} {i : Nat} {p : ByteArray} (h : l[i]? = some p) : readL (l.take (i + 1)) = readL (l.take i) ++ txtP p := by
  unfold readL
  rw [List.take_add_one, h]
  simp
section
variable {k : Value → World → Prop} {w w0 : World}
theorem w_fromStr {t : TypeId} {s : ByteArray} {q : IntKind} {i : Int} (h : Tryz.prog.underlying t = some .string) (h0 : 0 ≤ i) (h1 : i ≤ s.size) : opW Tryz.prog (Instr.sliceAt t (.string s) (some (.int q i)) none none) k w = k (.string (s.extract i.toNat s.size)) w := opW_ok (by
  rw [run_sliceAt_string _ _ _ _ _ _ h, run_slice_string_from_if w t s q i h, if_pos ⟨h0, h1⟩])
theorem c28 {v : Value} {l : List ByteArray} (hs : IsSl fT w v l) (hl : l.length ≤ 100000) (hk : ∀ o e w', Below w.heap.size w w' → (¬ readP l → o = nS ∧ e = 260) → (readP l → e = 0 ∧ IsSl fT w' o (readL l)) → k (.tuple #[o, I e]) w') : callW Tryz.prog (.func (.func 28) #[] #[]) #[v] k w := C28 _ _ _ (by
  unfold S28
  have hml : 1000000 ≤ maxLen := by decide
  have hml2 : maxLen ≤ 9223372036854775807 := by decide
  rw [len31 hs]
  refine Loop2.intro (fun n a b w' => ∃ i : Nat, b = I i ∧ i ≤ l.length ∧ n = l.length - i ∧ Below w.heap.size w w' ∧ Mine fT 9 w' w.heap.size a (readL (l.take i)) ∧ (readL (l.take i)).length ≤ i ∧ ∀ p ∈ l.take i, okP p) _ ⟨0, rfl, by omega, rfl, Below.refl _ _, Mine.nil _ _, by simp [readL], by simp⟩ ?_
  rintro n ov _ w1 ⟨i, rfl, hi, rfl, hb1, hO, hlen, hP⟩
  rw [w_lss]
  by_cases hlt : i < l.length
  case' neg =>
    rw [decide_eq_false (by omega), condW_false]
    rw [List.take_of_length_le (by omega)] at hO hP
    exact hk _ _ _ hb1 (fun hn => absurd hP hn) fun _ => ⟨rfl, hO.sl⟩
  rw [decide_eq_true (by omega), condW_true]
  obtain ⟨p, hp⟩ : ∃ p, l[i]? = some p := ⟨_, List.getElem?_eq_getElem hlt⟩
  have hpm := List.mem_of_getElem? hp
  have htk : l.take (i + 1) = l.take i ++ [p] := by rw [List.take_add_one, hp]; rfl
  refine joinW_use1 (fun a w' => Below w.heap.size w w' ∧ Mine fT 9 w' w.heap.size a (readL (l.take (i + 1))) ∧ (readL (l.take (i + 1))).length ≤ i + 1 ∧ okP p) ?_ ?_
  · rintro a w' ⟨q1, q2, q3, q4⟩
    rw [w_add, wrap_id (by omega), loopK_self]
    refine ⟨l.length - (i + 1), by omega, i + 1, by simp [I], by omega, rfl, q1, q2, q3, fun z hz => ?_⟩
    rw [htk] at hz
    rcases List.mem_append.1 hz with h | h
    · exact hP z h
    · simp at h; rw [h]; exact q4
  intro J hJ
  have bad : ∀ w', Below w.heap.size w w' → ¬ okP p → k (.tuple #[nS, I 260]) w' := fun w' hb hn => hk _ _ _ hb (fun _ => ⟨rfl, rfl⟩) fun h => absurd (h p hpm) hn
  rw [gw31 (F := fT) rfl (hs.below hb1) (by omega) (by simpa using hp) rfl, w_lenStr (by kernel_rfl), w_neq]
  by_cases h64 : p.size = 64
  case' neg =>
    rw [decide_eq_false (by omega), Bool.not_false]
    simp only [guardW_tf, guardW_u, pickW_true, condW_true]
    exact bad _ hb1 fun h => h64 h.1
  rw [decide_eq_true (by omega), Bool.not_true]
  simp only [guardW_ff, pickW_false]
  have hb0 := get_bAt (s := p) (i := 0) (by omega)
  have hlt256 := (bAt p 0).toNat_lt
  rw [w_indexStr (by kernel_rfl) (by omega) (by simpa using hb0), w_gtr]
  by_cases h60 : byt p 0 ≤ 60
  case' neg =>
    rw [decide_eq_true (by unfold byt at h60; omega), condW_true]
    exact bad _ hb1 fun h => h60 h.2.1
  have h60' := h60
  unfold byt at h60'
  rw [decide_eq_false (by omega), condW_false, w_indexStr (by kernel_rfl) (by omega) (by simpa using hb0), w_conv (q := .i64) (by kernel_rfl) (by kernel_rfl), wrap_id (by omega), w_add, wrap_id (by omega), w_fromStr (by kernel_rfl) (by omega) (by omega)]
  have hsz : (p.extract ((bAt p 0).toNat + 1) p.size).size ≤ 64 := by rw [ByteArray.size_extract]; omega
  rw [show (((bAt p 0).toNat : Int) + 1).toNat = (bAt p 0).toNat + 1 by omega]
  refine c59 (c := 0) (by decide) (by omega) fun w2 hb2 => ?_
  have hb02 := below_trans hb1 hb2
  have hO2 := hO.below hb2
  rw [w_neqStr (by kernel_rfl)]
  have hz := tail_zero (n := (bAt p 0).toNat + 1) h64
  by_cases htr : Lib.trimB (p.extract ((bAt p 0).toNat + 1) p.size).data.toList 0 = []
  case' neg =>
    rw [decide_eq_false (fun hh => htr (by
      have := congrArg (fun s => s.data.toList) hh
      simpa using this)), Bool.not_false, condW_true]
    refine bad _ hb02 fun h => htr (trim_nil.2 (hz.2 fun j hj hj2 => h.2.2 j (by unfold byt; omega) hj2))
  have hokp : okP p := ⟨h64, h60, fun j hj hj2 => hz.1 (trim_nil.1 htr) j (by unfold byt at hj; omega) hj2⟩
  rw [htr, decide_eq_true rfl, Bool.not_true, condW_false, w_gtr]
  by_cases hpos : 0 < (bAt p 0).toNat
  · rw [decide_eq_true (by omega), condW_true, w_sliceStr (by kernel_rfl) (by omega) (by omega) (by omega)]
    rw [show (1 : Int).toNat = 1 from rfl, show (((bAt p 0).toNat : Int) + 1).toNat = (bAt p 0).toNat + 1 by omega]
    have htx : txtP p = [p.extract 1 ((bAt p 0).toNat + 1)] := by unfold txtP byt; rw [if_pos hpos]
    refine Mine.push (F := fT) (x := p.extract 1 ((bAt p 0).toNat + 1)) sty31 (oneT _) rfl (by decide) hO2 hb02.size (by omega) (by omega) fun vo w3 hm3 hb3 ho3 hu3 => ?_
    refine hJ _ _ ⟨hb02.trans hb3, ?_, ?_, hokp⟩
    · rw [readL_take hp, htx]; exact hm3
    · rw [readL_take hp, htx]; simp; omega
  · rw [decide_eq_false (by omega), condW_false]
    have htx : txtP p = [] := by unfold txtP byt; rw [if_neg hpos]
    refine hJ _ _ ⟨hb02, ?_, ?_, hokp⟩
    · rw [readL_take hp, htx, List.append_nil]; exact hO2
    · rw [readL_take hp, htx, List.append_nil]; omega)
end
end Go.Proofs.YtfkfkldhcignbaaGreatDoor
/- Feeds, plain: what packets of slots say. -/
set_option linter.unusedSimpArgs false
set_option linter.unusedVariables false
set_option maxRecDepth 4000
namespace Go.Proofs.YtfkfkldhcignbaaGreatDoor
open Go Go.V Go.RowKit
theorem list_ext {s t : ByteArray} (h : s.data.toList = t.data.toList) : s = t := by
  apply ByteArray.ext
  exact Array.ext' h
theorem codedB_list (s : ByteArray) : (codedB s).data.toList = UInt8.ofNat s.size :: s.data.toList := by
  unfold codedB oneB
  rw [ByteArray.data_append]
  simp
theorem zeroB_list (n : Nat) : (zeroB n).data.toList = List.replicate n 0 := by simp [zeroB]
/-- the packet of a slot in which s is sent -/
def slotB (s : ByteArray) : ByteArray := codedB s ++ zeroB (63 - s.size)
theorem slotB_list (s : ByteArray) : (slotB s).data.toList = UInt8.ofNat s.size :: (s.data.toList ++ List.replicate (63 - s.size) 0) := by
  unfold slotB
  rw [ByteArray.data_append]
  simp only [Array.toList_append, codedB_list, zeroB_list]
  rfl
theorem toList_len (s : ByteArray) : s.data.toList.length = s.size := by simp
theorem slotB_ok {s : ByteArray} (h : 1 ≤ s.size ∧ s.size ≤ 60) : okP (slotB s) ∧ txtP (slotB s) = [s] := by
  have hl := slotB_list s
  have hsz : (slotB s).size = 64 := by rw [← toList_len, hl]; simp; omega
  have h0 : byt (slotB s) 0 = s.size := by
    unfold byt bAt
    rw [hl]
    simp
    omega
  refine ⟨⟨hsz, by omega, fun k hk hk2 => ?_⟩, ?_⟩
  · rw [h0] at hk
    unfold byt bAt
    rw [hl, List.getD_eq_getElem?_getD]
    obtain ⟨j, rfl⟩ : ∃ j, k = j + 1 := ⟨k - 1, by omega⟩
    rw [List.getElem?_cons_succ, List.getElem?_append_right (by rw [toList_len]; omega), toList_len, List.getElem?_replicate, if_pos (by omega)]
    rfl
  · unfold txtP
    rw [h0, if_pos (by omega)]
    congr 1
    apply list_ext
    rw [ByteArray.data_extract]
    simp only [Array.toList_extract, List.extract_eq_take_drop, hl, List.drop_succ_cons, List.drop_zero]
    rw [Nat.add_sub_cancel, List.take_append_of_le_length (by rw [toList_len]; omega), List.take_of_length_le (by rw [toList_len]; omega)]
theorem zeroB_ok : okP (zeroB 64) ∧ txtP (zeroB 64) = [] := by
  have hb : ∀ k, byt (zeroB 64) k = 0 := fun k => by
    unfold byt bAt
    rw [zeroB_list, List.getD_eq_getElem?_getD, List.getElem?_replicate]
    split <;> rfl
  refine ⟨⟨zeroB_size 64, by rw [hb]; omega, fun k _ _ => hb k⟩, ?_⟩
  unfold txtP
  rw [if_neg (by rw [hb]; omega)]
/-- a packet of a slot: the text of what is picked, or none -/
theorem pack_slot {xs : List ItW} {r : Rdr} {ms : List Mom} {n : Nat} {snt : Nat → Bool} : packF true xs r ms n snt = match pickF true xs r ms n snt with | some i => slotB (txtI xs i) | none => zeroB 64 := by
  unfold packF
  cases pickF true xs r ms n snt <;> rfl
theorem pick_left {sl : Bool} {xs : List ItW} {r : Rdr} {ms : List Mom} {n : Nat} {snt : Nat → Bool} {i : Nat} (h : pickF sl xs r ms n snt = some i) : lftN sl xs r ms n snt i := by
  have := ((minK_eq keyF_idx).1 h).1
  unfold candF at this
  exact mem_left.1 (List.mem_filter.1 this).1
theorem pack_read {xs : List ItW} {r : Rdr} {ms : List Mom} (HG : GivenP xs r ms) {n : Nat} {snt : Nat → Bool} : okP (packF true xs r ms n snt) ∧ txtP (packF true xs r ms n snt) = match pickF true xs r ms n snt with | some i => [txtI xs i] | none => [] := by
  rw [pack_slot]
  cases hp : pickF true xs r ms n snt with
  | none => exact zeroB_ok
  | some i =>
    have hi := (pick_left hp).1
    have hx : xs[i]? = some xs[i] := List.getElem?_eq_getElem hi
    have := (HG.1.2 _ (List.getElem_mem hi)).2.2.2
    refine slotB_ok ?_
    rw [txtI_eq hi]; exact this
theorem feed_read {xs : List ItW} {r : Rdr} {ms : List Mom} (HG : GivenP xs r ms) : readP (feedF true xs r ms ms.length) := by
  intro p hp
  unfold feedF at hp
  obtain ⟨j, _, rfl⟩ := List.mem_map.1 hp
  exact (pack_read HG).1
end Go.Proofs.YtfkfkldhcignbaaGreatDoor
/- The example of the feeds' laws. -/
set_option linter.unusedSimpArgs false
set_option linter.unusedVariables false
set_option maxRecDepth 4000
namespace Go.Proofs.YtfkfkldhcignbaaGreatDoor
open Go Go.V Go.RowKit
def heldL : Lab := ⟨100, [], [], 255, 255, []⟩
def warX : ItW := ⟨10, heldL, 1, ⟨#[119, 97, 114]⟩⟩
def rainX : ItW := ⟨10, noneL, 3, ⟨#[114, 97, 105, 110]⟩⟩
def mmX (t : Int) : Mom := ⟨t, 0, [], [], []⟩
def exA : List ItW := [warX, rainX]
def exB : List ItW := [rainX]
def exM : List Mom := [mmX 10, mmX 11, mmX 12]
def warL : List Value := [I 10, I 100, nS, nS, I 255, I 255, nS, I 1, .string ⟨#[119, 97, 114]⟩]
def rainL : List Value := [I 10, I 0, nS, nS, I 255, I 255, nS, I 3, .string ⟨#[114, 97, 105, 110]⟩]
def warR : RawV 9 := ⟨warL, rfl, by simp [warL, Value.oneCell']⟩
def rainR : RawV 9 := ⟨rainL, rfl, by simp [rainL, Value.oneCell']⟩
def mmR (t : Int) : RawV 5 := ⟨[I t, I 0, nS, nS, nS], rfl, by simp [Value.oneCell']⟩
theorem locksNil (w : World) : LocksV w nS [] := ⟨[], slNil _ _, rfl, fun i x q hx => by simp at hx⟩
theorem warV (w : World) : ItemV w (agR warR) warX := ⟨nS, nS, nS, rfl, slNil _ _, slNil _ _, locksNil w⟩
theorem rainV (w : World) : ItemV w (agR rainR) rainX := ⟨nS, nS, nS, rfl, slNil _ _, slNil _ _, locksNil w⟩
theorem mmV (w : World) (t : Int) : MomV w (agR (mmR t)) (mmX t) := ⟨nS, nS, nS, rfl, slNil _ _, slNil _ _, slNil _ _⟩
theorem exA_x (w : World) : ItemsX w [warR, rainR] exA := ⟨rfl, fun i r x h1 h2 => by
  match i, h1, h2 with
  | 0, h1, h2 => simp [exA] at h1 h2; subst h1 h2; exact warV w
  | 1, h1, h2 => simp [exA] at h1 h2; subst h1 h2; exact rainV w
  | n + 2, h1, h2 => simp at h1⟩
theorem exB_x (w : World) : ItemsX w [rainR] exB := ⟨rfl, fun i r x h1 h2 => by
  match i, h1, h2 with
  | 0, h1, h2 => simp [exB] at h1 h2; subst h1 h2; exact rainV w
  | n + 1, h1, h2 => simp at h1⟩
theorem exM_x (w : World) : MomsX w [mmR 10, mmR 11, mmR 12] exM := ⟨rfl, fun i r x h1 h2 => by
  match i, h1, h2 with
  | 0, h1, h2 => simp [exM] at h1 h2; subst h1 h2; exact mmV w _
  | 1, h1, h2 => simp [exM] at h1 h2; subst h1 h2; exact mmV w _
  | 2, h1, h2 => simp [exM] at h1 h2; subst h1 h2; exact mmV w _
  | n + 3, h1, h2 => simp at h1⟩
section
variable {k : Value → World → Prop} {w : World}
theorem b63w {s : ByteArray} {p c t : Int} : opW Tryz.prog (Instr.build 63 #[(0, I p), (1, .agg ([I t, nS, nS, I 255, I 255, nS] : List Value).toArray), (2, I c), (3, .string s)]) k w = k (.agg ([I p, I t, nS, nS, I 255, I 255, nS, I c, .string s] : List Value).toArray) w := opW_ok (by kernel_rfl)
theorem b28w {t : Int} : opW Tryz.prog (Instr.build 28 #[(0, I t)]) k w = k (.agg ([I t, I 0, nS, nS, nS] : List Value).toArray) w := opW_ok (by kernel_rfl)
/-- what each operation of the region keeps -/
def PhE (B : Nat) : Nat → Value → World → Prop
  | 0, v, _ => v = .agg warL.toArray
  | 1, v, _ => v = .agg rainL.toArray
  | 2, v, w => IsSl (fR 9) w v [warR, rainR]
  | 3, v, _ => v = .agg rainL.toArray
  | 4, v, w => IsSl (fR 9) w v [rainR]
  | 5, v, _ => v = .agg (mmR 10).1.toArray
  | 6, v, _ => v = .agg (mmR 11).1.toArray
  | 7, v, _ => v = .agg (mmR 12).1.toArray
  | 8, v, w => IsSl (fR 5) w v [mmR 10, mmR 11, mmR 12]
  | 9, v, w => IsSl (fR 9) w v [warR, rainR]
  | 10, v, w => IsSl (fR 9) w v [rainR]
  | 11, v, w => IsSl (fR 5) w v [mmR 10, mmR 11, mmR 12]
  | _, _, _ => False
theorem PhE.below {B j : Nat} {v : Value} {w w' : World} (hb : Below w.heap.size w w') (h : PhE B j v w) : PhE B j v w' := by
  match j, h with
  | 0, h | 1, h | 3, h | 5, h | 6, h | 7, h => exact h
  | 2, h => exact IsSl.below h hb
  | 4, h => exact IsSl.below h hb
  | 8, h => exact IsSl.below h hb
  | 9, h => exact IsSl.below h hb
  | 10, h => exact IsSl.below h hb
  | 11, h => exact IsSl.below h hb
  | n + 12, h => exact h
theorem bagE {w0 w w' : World} {B j : Nat} {v : Value} (ha : after w0 w) (hb : Below w.heap.size w w') (h : PhE B j v w') : bagK (PhE B) (after w0) j w v w' := ⟨⟨below_trans ha hb, h, fun _ _ => PhE.below hb⟩⟩
theorem c36 (hk : ∀ a b c w', Below w.heap.size w w' → ItemsV w' a exA → ItemsV w' b exB → MomsV w' c exM → k (.tuple #[a, b, c]) w') : callW Tryz.prog (.func (.func 36) #[] #[]) #[] k w := C36 _ _ (by
  unfold S36
  refine c31 fun w1 hb1 => ?_
  refine al61 fun w2 hb2 hs2 hr2 => ?_
  refine sr61 (vs := [I 0, nS, nS, I 255, I 255, nS]) rfl hr2 rfl (by simp [Value.oneCell']) fun w3 ho3 hr3 => ?_
  rw [fl61_0, st3 rfl (hr3.cell (i := 0) rfl) (hr3.free _)]
  have hr4 : RowAt (w3.setCell ⟨w1.heap.size, 0, none⟩ (I 100)) w1.heap.size 61 [I 100, nS, nS, I 255, I 255, nS] := hr3.set 0 (I 100)
  have hb04 : Below w.heap.size w (w3.setCell ⟨w1.heap.size, 0, none⟩ (I 100)) := (below_trans hb1 (hb2.trans (ho3.rest _ (Nat.le_refl _)))).setCell (show w.heap.size ≤ w1.heap.size from hb1.size) _
  clear hr3 hr2 hb2 ho3
  generalize w3.setCell ⟨w1.heap.size, 0, none⟩ (I 100) = w4 at *
  rw [ld61 rfl hr4.cells, b63w]
  refine w_var (vs := warL) hz63 (by rw [zc63]; rfl) warR.2.2 (by rw [size63]; rfl) known63 fun w5 hb5 hs5 hr5 => ?_
  have hb05 := below_trans hb04 hb5
  refine c31 fun w6 hb6 => ?_
  have hb06 := below_trans hb05 hb6
  rw [show noneV = .agg ([I 0, nS, nS, I 255, I 255, nS] : List Value).toArray from rfl, b63w]
  refine w_var (vs := rainL) hz63 (by rw [zc63]; rfl) rainR.2.2 (by rw [size63]; rfl) known63 fun w7 hb7 hs7 hr7 => ?_
  have hb07 := below_trans hb06 hb7
  replace hr5 := (hr5.below hb6).below hb7
  rw [drewW_eq]
  have hb08 := hb07.drew
  replace hr5 := hr5.drew
  replace hr7 := hr7.drew
  generalize w7.drew = w8 at *
  refine ⟨after w8, PhE 0, after_refl _, ?_, ?_, ?_, ?_, ?_, ?_, ?_, ?_, ?_, ?_, ?_, ?_, ?_, trivial⟩
  · intro u ha t0 _ t1 _ t2 _ t3 _ t4 _ t5 _ t6 _ t7 _ t8 _ t9 h9 t10 h10 t11 h11
    exact hk _ _ _ _ (below_trans hb08 ha) ⟨_, h9, exA_x u⟩ ⟨_, h10, exB_x u⟩ ⟨_, h11, exM_x u⟩
  · intro u ha
    rw [ld63 rfl (hr5.below ha).cells]
    exact bagE ha (Below.refl _ _) rfl
  · intro u ha
    rw [ld63 rfl (hr7.below ha).cells]
    exact bagE ha (Below.refl _ _) rfl
  · rintro u ha _ rfl _ rfl
    refine w_parts (F := fR 9) (l := [warR, rainR]) sty24 rfl (by decide) (by decide) (by kernel_rfl) rfl fun u' hb _ hm => ?_
    exact bagE ha hb hm.sl
  · intro u ha
    rw [ld63 rfl (hr7.below ha).cells]
    exact bagE ha (Below.refl _ _) rfl
  · rintro u ha _ rfl
    refine w_parts (F := fR 9) (l := [rainR]) sty24 rfl (by decide) (by decide) (by kernel_rfl) rfl fun u' hb _ hm => ?_
    exact bagE ha hb hm.sl
  · intro u ha
    rw [b28w]
    exact bagE ha (Below.refl _ _) rfl
  · intro u ha
    rw [b28w]
    exact bagE ha (Below.refl _ _) rfl
  · intro u ha
    rw [b28w]
    exact bagE ha (Below.refl _ _) rfl
  · rintro u ha _ rfl _ rfl _ rfl
    refine w_parts (F := fR 5) (l := [mmR 10, mmR 11, mmR 12]) sty33 rfl (by decide) (by decide) (by kernel_rfl) rfl fun u' hb _ hm => ?_
    exact bagE ha hb hm.sl
  · rintro u ha t h
    exact bagE ha (Below.refl _ _) h
  · rintro u ha t h
    exact bagE ha (Below.refl _ _) h
  · rintro u ha t h
    exact bagE ha (Below.refl _ _) h)
end
end Go.Proofs.YtfkfkldhcignbaaGreatDoor
/- The example of the feeds' laws, plain; sane. -/
set_option linter.unusedSimpArgs false
set_option linter.unusedVariables false
set_option maxRecDepth 4000
namespace Go.Proofs.YtfkfkldhcignbaaGreatDoor
open Go Go.V Go.RowKit
def exR : Rdr := (0, 0)
theorem heldL_valid : ValidLab heldL := ⟨by decide, by decide, by decide, by decide, fun i q hq => by simp [heldL] at hq, RisingP.nil _, CountsP.nil _⟩
theorem heldL_ok : okLab heldL := ⟨⟨by decide, by simp [heldL]⟩, by decide, by decide, by simp [heldL]⟩
theorem warX_valid : ValidIt warX := ⟨by decide, heldL_valid, by decide, by decide⟩
theorem rainX_valid : ValidIt rainX := ⟨by decide, noneL_valid, by decide, by decide⟩
theorem exA_all {p : ItW → Prop} (h1 : p warX) (h2 : p rainX) : ∀ x ∈ exA, p x := fun x hx => by
  simp [exA] at hx
  rcases hx with rfl | rfl <;> assumption
theorem exB_all {p : ItW → Prop} (h2 : p rainX) : ∀ x ∈ exB, p x := fun x hx => by
  simp [exB] at hx
  subst hx; assumption
theorem mm_valid {t : Int} (h : 0 ≤ t ∧ t ≤ 50000000) : ValidMom (mmX t) := ⟨h, by simp [mmX], RisingP.nil _, CountsP.nil _, RisingP.nil _⟩
theorem mm_ok {t : Int} : okMom (mmX t) := by exact ⟨Nat.zero_le _, Nat.zero_le _, Nat.zero_le _⟩
theorem exM_all {p : Mom → Prop} (h : ∀ t, 10 ≤ t ∧ t ≤ 12 → p (mmX t)) : ∀ m ∈ exM, p m := fun x hx => by
  simp [exM] at hx
  rcases hx with rfl | rfl | rfl <;> exact h _ (by decide)
theorem exA_given : GivenP exA exR exM := ⟨⟨by decide, exA_all warX_valid rainX_valid⟩, by decide, by decide, by decide, exM_all fun t h => mm_valid (by omega)⟩
theorem exB_given : GivenP exB exR exM := ⟨⟨by decide, exB_all rainX_valid⟩, by decide, by decide, by decide, exM_all fun t h => mm_valid (by omega)⟩
theorem exA_ok : okIts exA := ⟨by decide, exA_all heldL_ok noneL_ok⟩
theorem exB_ok : okIts exB := ⟨by decide, exB_all noneL_ok⟩
theorem exM_ok : okMs exM := ⟨by decide, exM_all fun t _ => mm_ok⟩
theorem ex_mom {n : Nat} (h : n < 3) : ∃ t, exM[n]? = some (mmX t) ∧ 10 ≤ t ∧ t ≤ 12 := by
  match n, h with
  | 0, _ => exact ⟨10, rfl, by decide⟩
  | 1, _ => exact ⟨11, rfl, by decide⟩
  | 2, _ => exact ⟨12, rfl, by decide⟩
theorem rain_open {t : Int} (h : 10 ≤ t ∧ t ≤ 12) : OpensP rainX exR (mmX t) := by
  refine ⟨h.1, noneL_valid, mm_valid (by omega), by decide, by decide, ?_, ?_, ?_, ?_, ?_, ?_⟩
  · unfold bitOn; decide
  · unfold bitOn; decide
  · simp [rainX, noneL, mmX]; omega
  · intro x hx; simp [rainX, noneL] at hx
  · intro x hx; simp [rainX, noneL] at hx
  · intro x hx; simp [rainX, noneL] at hx
theorem war_shut {t : Int} (h : t ≤ 12) : ¬ OpensP warX exR (mmX t) := fun hh => by
  have := hh.2.2.2.2.2.2.2.1
  simp [warX, heldL, mmX] at this
  omega
theorem bOf_true {P : Prop} (h : P) : bOf P = true := bOf_iff.2 h
theorem bOf_false {P : Prop} (h : ¬ P) : bOf P = false := (bOf_eq (iffF h)).symm
theorem ex_opA0 {n : Nat} (h : n < 3) : opB exA exR exM n 0 = false := by
  obtain ⟨t, ht, h1, h2⟩ := ex_mom h
  unfold opB
  rw [ht]
  exact bOf_false (war_shut h2)
theorem ex_opA1 {n : Nat} (h : n < 3) : opB exA exR exM n 1 = true := by
  obtain ⟨t, ht, h1, h2⟩ := ex_mom h
  unfold opB
  rw [ht]
  exact bOf_true (rain_open ⟨h1, h2⟩)
theorem ex_opB0 {n : Nat} (h : n < 3) : opB exB exR exM n 0 = true := by
  obtain ⟨t, ht, h1, h2⟩ := ex_mom h
  unfold opB
  rw [ht]
  exact bOf_true (rain_open ⟨h1, h2⟩)
theorem ex_relW (n : Nat) : relN warX exR exM n = -1 := by
  rcases relN_cases warX exR exM n with ⟨h, _⟩ | ⟨j, h1, h2, ⟨m, hm, ho⟩, _⟩
  · exact h
  · exfalso
    have hj : j < 3 := (List.getElem?_eq_some_iff.1 hm).1
    obtain ⟨t, ht, h3, h4⟩ := ex_mom hj
    rw [ht] at hm; cases hm
    exact war_shut h4 ho
theorem ex_relR (n : Nat) : relN rainX exR exM (n + 1) = 0 := by
  have h0 : opAt rainX exR exM 0 := ⟨mmX 10, rfl, rain_open (by decide)⟩
  rcases relN_cases rainX exR exM (n + 1) with ⟨_, h⟩ | ⟨j, h1, h2, _, h4⟩
  · exact absurd h0 (h 0 (by omega))
  · rcases Nat.eq_zero_or_pos j with rfl | hp
    · exact h2
    · exact absurd h0 (h4 0 hp)
theorem ex_cA0 (n : Nat) : cntB true exA exR exM n 0 = false := by
  show decide (0 ≤ relN warX exR exM (n + 1)) = false
  rw [ex_relW]; rfl
theorem ex_cA1 (n : Nat) : cntB true exA exR exM n 1 = true := by
  show decide (0 ≤ relN rainX exR exM (n + 1)) = true
  rw [ex_relR]; rfl
theorem ex_cB0 (n : Nat) : cntB true exB exR exM n 0 = true := by
  show decide (0 ≤ relN rainX exR exM (n + 1)) = true
  rw [ex_relR]; rfl
theorem ex_rd {n i : Nat} (h : n < 3) (hi : i < 2) : cntB false exA exR exM n i = true := by
  obtain ⟨t, ht, h1, h2⟩ := ex_mom h
  unfold cntB rdB
  rw [ht]
  match i, hi with
  | 0, _ => exact decide_eq_true h1
  | 1, _ => exact decide_eq_true h1
theorem ex_rdB {n : Nat} (h : n < 3) : cntB false exB exR exM n 0 = true := by
  obtain ⟨t, ht, h1, h2⟩ := ex_mom h
  unfold cntB rdB
  rw [ht]
  exact decide_eq_true h1
theorem range2 : List.range exA.length = [0, 1] := rfl
theorem range1 : List.range exB.length = [0] := rfl
theorem pick_of {sl : Bool} {xs : List ItW} {r : Rdr} {ms : List Mom} {n i : Nat} {snt : Nat → Bool} (h : candF sl xs r ms n snt = [i]) : pickF sl xs r ms n snt = some i := by unfold pickF; rw [h]; rfl
theorem pick_no {sl : Bool} {xs : List ItW} {r : Rdr} {ms : List Mom} {n : Nat} {snt : Nat → Bool} (h : candF sl xs r ms n snt = []) : pickF sl xs r ms n snt = none := by unfold pickF; rw [h]; rfl
/-! slots -/
theorem exA_s0 : pickF true exA exR exM 0 (sntF true exA exR exM 0) = some 1 := pick_of (by
  rw [candF_true]; unfold leftF; rw [range2]; simp [sntF, ex_cA0, ex_cA1])
theorem exA_s1 : sntF true exA exR exM 1 = fun i => decide (1 = i) := by
  funext i
  show (false || decide (pickF true exA exR exM 0 (sntF true exA exR exM 0) = some i)) = _
  rw [exA_s0]; simp
theorem exA_p1 : pickF true exA exR exM 1 (sntF true exA exR exM 1) = none := pick_no (by
  rw [candF_true]; unfold leftF; rw [range2, exA_s1]; simp [ex_cA0, ex_cA1])
theorem exA_s2 : sntF true exA exR exM 2 = fun i => decide (1 = i) := by
  funext i
  show (sntF true exA exR exM 1 i || decide (pickF true exA exR exM 1 (sntF true exA exR exM 1) = some i)) = _
  rw [exA_p1, exA_s1]; simp
theorem exA_p2 : pickF true exA exR exM 2 (sntF true exA exR exM 2) = none := pick_no (by
  rw [candF_true]; unfold leftF; rw [range2, exA_s2]; simp [ex_cA0, ex_cA1])
theorem exA_slots : fdF 1 exA exR exM = [slotB rainX.text, zeroB 64, zeroB 64] := by
  show [packF true exA exR exM 0 (sntF true exA exR exM 0), packF true exA exR exM 1 (sntF true exA exR exM 1), packF true exA exR exM 2 (sntF true exA exR exM 2)] = _
  rw [pack_slot, pack_slot, pack_slot, exA_s0, exA_p1, exA_p2]; rfl
theorem exB_s0 : pickF true exB exR exM 0 (sntF true exB exR exM 0) = some 0 := pick_of (by
  rw [candF_true]; unfold leftF; rw [range1]; simp [sntF, ex_cB0])
theorem exB_s1 : sntF true exB exR exM 1 = fun i => decide (0 = i) := by
  funext i
  show (false || decide (pickF true exB exR exM 0 (sntF true exB exR exM 0) = some i)) = _
  rw [exB_s0]; simp
theorem exB_p1 : pickF true exB exR exM 1 (sntF true exB exR exM 1) = none := pick_no (by
  rw [candF_true]; unfold leftF; rw [range1, exB_s1]; simp [ex_cB0])
theorem exB_s2 : sntF true exB exR exM 2 = fun i => decide (0 = i) := by
  funext i
  show (sntF true exB exR exM 1 i || decide (pickF true exB exR exM 1 (sntF true exB exR exM 1) = some i)) = _
  rw [exB_p1, exB_s1]; simp
theorem exB_p2 : pickF true exB exR exM 2 (sntF true exB exR exM 2) = none := pick_no (by
  rw [candF_true]; unfold leftF; rw [range1, exB_s2]; simp [ex_cB0])
theorem exB_slots : fdF 1 exB exR exM = [slotB rainX.text, zeroB 64, zeroB 64] := by
  show [packF true exB exR exM 0 (sntF true exB exR exM 0), packF true exB exR exM 1 (sntF true exB exR exM 1), packF true exB exR exM 2 (sntF true exB exR exM 2)] = _
  rw [pack_slot, pack_slot, pack_slot, exB_s0, exB_p1, exB_p2]; rfl
/-! tight -/
theorem exA_l0 : leftF false exA exR exM 0 (sntF false exA exR exM 0) = [0, 1] := by unfold leftF; rw [range2]; simp [sntF, ex_rd]
theorem exA_t0 : pickF false exA exR exM 0 (sntF false exA exR exM 0) = some 1 := pick_of (by
  unfold candF; rw [exA_l0]; simp [ex_opA0, ex_opA1])
theorem exA_u1 : sntF false exA exR exM 1 = fun i => decide (1 = i) := by
  funext i
  show (false || decide (pickF false exA exR exM 0 (sntF false exA exR exM 0) = some i)) = _
  rw [exA_t0]; simp
theorem exA_l1 : leftF false exA exR exM 1 (sntF false exA exR exM 1) = [0] := by unfold leftF; rw [range2, exA_u1]; simp [ex_rd]
theorem exA_t1 : pickF false exA exR exM 1 (sntF false exA exR exM 1) = none := pick_no (by
  unfold candF; rw [exA_l1]; simp [ex_opA0, ex_opA1])
theorem exA_u2 : sntF false exA exR exM 2 = fun i => decide (1 = i) := by
  funext i
  show (sntF false exA exR exM 1 i || decide (pickF false exA exR exM 1 (sntF false exA exR exM 1) = some i)) = _
  rw [exA_t1, exA_u1]; simp
theorem exA_l2 : leftF false exA exR exM 2 (sntF false exA exR exM 2) = [0] := by unfold leftF; rw [range2, exA_u2]; simp [ex_rd]
theorem exA_t2 : pickF false exA exR exM 2 (sntF false exA exR exM 2) = none := pick_no (by
  unfold candF; rw [exA_l2]; simp [ex_opA0, ex_opA1])
theorem exA_tight : fdF 2 exA exR exM = [zeroB 1 ++ codedB rainX.text, zeroB 1, zeroB 1] := by
  show [packF false exA exR exM 0 (sntF false exA exR exM 0), packF false exA exR exM 1 (sntF false exA exR exM 1), packF false exA exR exM 2 (sntF false exA exR exM 2)] = _
  rw [packF_some exA_t0, packF_none exA_t1, packF_none exA_t2, exA_l1, exA_l2]
  unfold aheadF
  rw [exA_l0]; rfl
theorem exB_l0 : leftF false exB exR exM 0 (sntF false exB exR exM 0) = [0] := by unfold leftF; rw [range1]; simp [sntF, ex_rdB]
theorem exB_t0 : pickF false exB exR exM 0 (sntF false exB exR exM 0) = some 0 := pick_of (by
  unfold candF; rw [exB_l0]; simp [ex_opB0])
theorem exB_u1 : sntF false exB exR exM 1 = fun i => decide (0 = i) := by
  funext i
  show (false || decide (pickF false exB exR exM 0 (sntF false exB exR exM 0) = some i)) = _
  rw [exB_t0]; simp
theorem exB_l1 : leftF false exB exR exM 1 (sntF false exB exR exM 1) = [] := by unfold leftF; rw [range1, exB_u1]; simp
theorem exB_t1 : pickF false exB exR exM 1 (sntF false exB exR exM 1) = none := pick_no (by
  unfold candF; rw [exB_l1]; rfl)
theorem exB_u2 : sntF false exB exR exM 2 = fun i => decide (0 = i) := by
  funext i
  show (sntF false exB exR exM 1 i || decide (pickF false exB exR exM 1 (sntF false exB exR exM 1) = some i)) = _
  rw [exB_t1, exB_u1]; simp
theorem exB_l2 : leftF false exB exR exM 2 (sntF false exB exR exM 2) = [] := by unfold leftF; rw [range1, exB_u2]; simp
theorem exB_t2 : pickF false exB exR exM 2 (sntF false exB exR exM 2) = none := pick_no (by
  unfold candF; rw [exB_l2]; rfl)
theorem exB_tight : fdF 2 exB exR exM = [zeroB 0 ++ codedB rainX.text, zeroB 0, zeroB 0] := by
  show [packF false exB exR exM 0 (sntF false exB exR exM 0), packF false exB exR exM 1 (sntF false exB exR exM 1), packF false exB exR exM 2 (sntF false exB exR exM 2)] = _
  rw [packF_some exB_t0, packF_none exB_t1, packF_none exB_t2, exB_l1, exB_l2]
  unfold aheadF
  rw [exB_l0]; rfl
theorem exA_seen : seenL exA exR exM = exB := by
  unfold seenL exA
  have h1 : relN warX exR exM exM.length = -1 := ex_relW _
  have h2 : relN rainX exR exM exM.length = 0 := ex_relR 2
  simp [h1, h2, exB]
theorem exB_seen : seenL exB exR exM = exB := by
  unfold seenL exB
  have h2 : relN rainX exR exM exM.length = 0 := ex_relR 2
  simp [h2]
def rain4 : ByteArray := ⟨#[4, 114, 97, 105, 110]⟩
theorem coded_rain : codedB rainX.text = rain4 := list_ext (by rw [codedB_list]; rfl)
theorem slot_rain : slotB rainX.text = rain4 ++ zeroB 59 := by
  unfold slotB
  rw [coded_rain]; rfl
theorem tight_rain : zeroB 1 ++ codedB rainX.text = ⟨#[0, 4, 114, 97, 105, 110]⟩ := list_ext (by
  rw [ByteArray.data_append, Array.toList_append, codedB_list, zeroB_list]; rfl)
theorem tight_rain0 : zeroB 0 ++ codedB rainX.text = rain4 := by rw [← coded_rain]; exact nil_appB _
theorem ex_tel1 : telN 1 exA exB exR exM = -1 ∧ telE 1 exA exB exR exM = 0 := by
  have hb : bOf (okF 1 exA exR exM ∧ okF 1 exB exR exM) = true := bOf_true ⟨⟨exA_given, .inl rfl⟩, exB_given, .inl rfl⟩
  unfold telN telE
  rw [hb]
  refine ⟨?_, rfl⟩
  rw [if_pos rfl, exA_slots, exB_slots]
  exact dif_none fun _ _ => rfl
theorem ex_tel2 : telN 2 exA exB exR exM = 0 ∧ telE 2 exA exB exR exM = 0 := by
  have hb : bOf (okF 2 exA exR exM ∧ okF 2 exB exR exM) = true := bOf_true ⟨⟨exA_given, .inr rfl⟩, exB_given, .inr rfl⟩
  unfold telN telE
  rw [hb]
  refine ⟨?_, rfl⟩
  rw [if_pos rfl, exA_tight, exB_tight]
  refine dif_at (i := 0) (by decide) ?_ (by omega)
  rw [tight_rain, tight_rain0]
  simp [rain4]
theorem ex_read : readP (fdF 1 exA exR exM) ∧ readL (fdF 1 exA exR exM) = [rainX.text] := by
  refine ⟨feed_read exA_given, ?_⟩
  rw [exA_slots]
  unfold readL
  simp only [List.flatMap_cons, List.flatMap_nil, (slotB_ok (s := rainX.text) (by decide)).2, zeroB_ok.2]
  rfl
theorem nilS_bad : ¬ readP [(⟨#[]⟩ : ByteArray)] := fun h => by
  have := (h _ (List.mem_singleton.2 rfl)).1
  cases this
end Go.Proofs.YtfkfkldhcignbaaGreatDoor
/- sane. -/
set_option linter.unusedSimpArgs false
set_option linter.unusedVariables false
set_option maxRecDepth 4000
namespace Go.Proofs.YtfkfkldhcignbaaGreatDoor
open Go Go.V Go.RowKit
def zeroX : ItW := ⟨0, ⟨0, [], [], 0, 0, []⟩, 0, ⟨#[]⟩⟩
def zeroR : RawV 9 := ⟨[I 0, I 0, nS, nS, I 0, I 0, nS, I 0, .string ⟨#[]⟩], rfl, by simp [Value.oneCell']⟩
theorem zeroV (w : World) : ItemV w (agR zeroR) zeroX := ⟨nS, nS, nS, rfl, slNil _ _, slNil _ _, locksNil w⟩
theorem zero_x (w : World) : ItemsX w [zeroR] [zeroX] := ⟨rfl, fun i r x h1 h2 => by
  match i, h1, h2 with
  | 0, h1, h2 => simp at h1 h2; subst h1 h2; exact zeroV w
  | n + 1, h1, h2 => simp at h1⟩
theorem zero_ok : okIts [zeroX] := ⟨by decide, fun x hx => by simp at hx; subst hx; exact ⟨⟨by decide, by simp [zeroX]⟩, by decide, by decide, by simp [zeroX]⟩⟩
theorem zero_bad : ¬ ValidIts [zeroX] := fun h => by
  have := (h.2 zeroX (by simp)).2.2.1
  simp [zeroX] at this
theorem nil_items (w : World) : ItemsV w nS [] := ⟨[], slNil _ _, rfl, fun i r x h => by simp at h⟩
section
variable {k : Value → World → Prop} {w : World}
theorem b30z : opW Tryz.prog (Instr.build 30 #[]) k w = k (.agg #[I 0, I 0]) w := opW_ok (by kernel_rfl)
theorem b63z : opW Tryz.prog (Instr.build 63 #[]) k w = k (.agg zeroR.1.toArray) w := opW_ok (by kernel_rfl)
theorem sl1 {s : ByteArray} (h : ∀ v w', Below w.heap.size w w' → IsSl fT w' v [s] → k v w') : opW Tryz.prog (Instr.buildSlice 31 1 #[(0, .string s)]) k w :=
  w_parts (F := fT) (l := [s]) sty31 rfl (by decide) (by decide) (by kernel_rfl) rfl fun w' hb _ hm => h _ _ hb hm.sl
theorem sl3 {s t u : ByteArray} (h : ∀ v w', Below w.heap.size w w' → IsSl fT w' v [s, t, u] → k v w') : opW Tryz.prog (Instr.buildSlice 31 3 #[(0, .string s), (1, .string t), (2, .string u)]) k w :=
  w_parts (F := fT) (l := [s, t, u]) sty31 rfl (by decide) (by decide) (by kernel_rfl) rfl fun w' hb _ hm => h _ _ hb hm.sl
set_option maxHeartbeats 1000000 in
theorem c10 (hg : Gl w) (hk : ∀ w', Below w.heap.size w w' → k (.bool true) w') : callW Tryz.prog (.func (.func 10) #[] #[]) #[] k w := C10 _ _ (by
  unfold S10
  have hml : 1000000 ≤ maxLen := by decide
  refine c36 fun a b c w1 hb1 hA hB hM => ?_
  rw [w_extract (v := a) rfl, w_extract (v := b) rfl, w_extract (v := c) rfl, b30z]
  refine w_var (vs := [I 0, I 0]) hz30 (by rw [zc30]) (by simp [Value.oneCell']) (by rw [size30]; rfl) known30 fun w2 hb2 hs2 hr2 => ?_
  have hb02 := below_trans hb1 hb2
  replace hA := hA.below hb2
  replace hB := hB.below hb2
  replace hM := hM.below hb2
  replace hg := hg.below hb02
  have hR : RdrV (.agg ([I 0, I 0] : List Value).toArray) exR := rfl
  clear hb2
  rw [ld30 rfl hr2.cells]
  refine c16 hg hA hR hM exA_ok exM_ok fun s e w3 hb3 _ h1 => ?_
  obtain ⟨rfl, hs⟩ := h1 exA_given
  rw [exA_seen] at hs
  rw [ex0, ex1, ld30 rfl (hr2.below hb3).cells]
  refine c23 (hg.below hb3) (hA.below hb3) hR (hM.below hb3) exA_ok exM_ok fun x e w4 hb4 _ h1 => ?_
  obtain ⟨rfl, hx⟩ := h1 ⟨exA_given, .inl rfl⟩
  have hb4' := below_trans hb3 hb4
  replace hs := hs.below hb4
  rw [ex0, ex1, ld30 rfl (hr2.below hb4').cells]
  refine c23 (hg.below hb4') (hA.below hb4') hR (hM.below hb4') exA_ok exM_ok fun y e w5 hb5 _ h1 => ?_
  obtain ⟨rfl, hy⟩ := h1 ⟨exA_given, .inr rfl⟩
  have hb5' := below_trans hb4' hb5
  replace hs := hs.below hb5
  replace hx := hx.below hb5
  rw [ex0, ex1, ld30 rfl (hr2.below hb5').cells]
  refine c23 (hg.below hb5') (hB.below hb5') hR (hM.below hb5') exB_ok exM_ok fun z e w6 hb6 _ h1 => ?_
  obtain ⟨rfl, hz⟩ := h1 ⟨exB_given, .inr rfl⟩
  have hb6' := below_trans hb5' hb6
  replace hs := hs.below hb6
  replace hx := hx.below hb6
  replace hy := hy.below hb6
  rw [ex0, ex1, ld30 rfl (hr2.below hb6').cells]
  refine c25 (hg.below hb6') (hA.below hb6') (hB.below hb6') hR (hM.below hb6') exA_ok exB_ok exM_ok fun w7 hb7 => ?_
  have hb7' := below_trans hb6' hb7
  replace hs := hs.below hb7
  replace hx := hx.below hb7
  replace hy := hy.below hb7
  replace hz := hz.below hb7
  rw [ex_tel1.1, ex_tel1.2, ex0, ex1, ld30 rfl (hr2.below hb7').cells]
  refine c25 (hg.below hb7') (hA.below hb7') (hB.below hb7') hR (hM.below hb7') exA_ok exB_ok exM_ok fun w8 hb8 => ?_
  have hb8' := below_trans hb7' hb8
  replace hs := hs.below hb8
  replace hx := hx.below hb8
  replace hy := hy.below hb8
  replace hz := hz.below hb8
  rw [ex_tel2.1, ex_tel2.2, ex0, ex1]
  refine c28 hx (by rw [fdF_len]; decide) fun t e w9 hb9 _ h1 => ?_
  obtain ⟨rfl, ht⟩ := h1 ex_read.1
  rw [ex_read.2] at ht
  have hb9' := below_trans hb8' hb9
  replace hs := hs.below hb9
  replace hx := hx.below hb9
  replace hy := hy.below hb9
  replace hz := hz.below hb9
  rw [ex0, ex1]
  refine sl1 fun v1 wa hba hv1 => ?_
  have hba' := below_trans hb9' hba
  replace hs := hs.below hba
  replace hx := hx.below hba
  replace hy := hy.below hba
  replace hz := hz.below hba
  replace ht := ht.below hba
  refine c28 hv1 (by decide) fun o e wb hbb h1 _ => ?_
  obtain ⟨rfl, rfl⟩ := h1 nilS_bad
  have hbb' := below_trans hba' hbb
  replace hs := hs.below hbb
  replace hx := hx.below hbb
  replace hy := hy.below hbb
  replace hz := hz.below hbb
  replace ht := ht.below hbb
  rw [ex0, ex1, ld30 rfl (hr2.below hbb').cells]
  refine c23 (hg.below hbb') (hA.below hbb') hR (hM.below hbb') exA_ok exM_ok fun o e wc hbc h1 _ => ?_
  obtain ⟨rfl, rfl⟩ := h1 (fun h => by have := h.2; omega)
  have hbc' := below_trans hbb' hbc
  replace hs := hs.below hbc
  replace hx := hx.below hbc
  replace hy := hy.below hbc
  replace hz := hz.below hbc
  replace ht := ht.below hbc
  rw [ex0, ex1]
  simp only [w_neq, decide_true, Bool.not_true, guardW_ff, pickW_false, pickW_true, condW_false, decide_false]
  have hBc := hB.below hbc'
  refine c18 hs hBc exB_ok exB_ok fun b1 wd hbd hq => ?_
  obtain rfl : b1 = true := hq.2 rfl
  have hbd' := below_trans hbc' hbd
  simp only [guardW_tt, pickW_true]
  refine c35 (n := 59) (by omega) (by omega) fun we hbe => ?_
  rw [w_addStr (by rw [zeroB_size]; decide)]
  refine c35 (n := 64) (by omega) (by omega) fun wf hbf => ?_
  refine c35 (n := 64) (by omega) (by omega) fun wg hbg => ?_
  have hdg := below_trans (below_trans (below_trans hbd hbe) hbf) hbg
  refine sl3 fun v2 wh hbh hv2 => ?_
  have hch := below_trans hdg hbh
  refine c27 (hx.below hch) hv2 (by rw [fdF_len]; decide) fun wi hbi => ?_
  rw [show decide (fdF 1 exA exR exM = _) = true from decide_eq_true (by rw [exA_slots, slot_rain]; rfl)]
  simp only [guardW_tt, pickW_true]
  have hci := below_trans hch hbi
  refine sl3 fun v3 wj hbj hv3 => ?_
  have hcj := below_trans hci hbj
  refine c27 (hy.below hcj) hv3 (by rw [fdF_len]; decide) fun wk hbk => ?_
  rw [show decide (fdF 2 exA exR exM = _) = true from decide_eq_true (by rw [exA_tight, tight_rain]; rfl)]
  simp only [guardW_tt, pickW_true]
  have hck := below_trans hcj hbk
  refine sl3 fun v4 wl hbl hv4 => ?_
  have hcl := below_trans hck hbl
  refine c27 (hz.below hcl) hv4 (by rw [fdF_len]; decide) fun wm hbm => ?_
  rw [show decide (fdF 2 exB exR exM = _) = true from decide_eq_true (by rw [exB_tight, tight_rain0]; rfl)]
  simp only [guardW_tt, pickW_true]
  have hcm := below_trans hcl hbm
  simp only [w_eql, decide_true, guardW_tt, pickW_true]
  refine sl1 fun v5 wn hbn hv5 => ?_
  have hcn := below_trans hcm hbn
  refine c27 (ht.below hcn) hv5 (by decide) fun wo hbo => ?_
  rw [show decide ([rainX.text] = [⟨#[114, 97, 105, 110]⟩]) = true from decide_eq_true rfl]
  simp only [guardW_tt, pickW_true]
  have hco := below_trans hbc' (below_trans hcn hbo)
  rw [ld30 rfl (hr2.below hco).cells]
  refine c21 (hg.below hco) (hA.below hco) (hB.below hco) hR (hM.below hco) exA_ok exB_ok exM_ok fun b2 wp hbp hq => ?_
  obtain rfl : b2 = true := hq.2 ⟨exA_given, exB_given, by rw [exA_seen, exB_seen]⟩
  simp only [guardW_tt, pickW_true]
  have hcp := below_trans hco hbp
  rw [ld30 rfl (hr2.below hcp).cells]
  refine c21 (ys := []) (hg.below hcp) (hA.below hcp) (nil_items _) hR (hM.below hcp) exA_ok ⟨by decide, by simp⟩ exM_ok fun b3 wq hbq hq => ?_
  obtain rfl : b3 = false := by
    cases b3 with
    | false => rfl
    | true =>
      have := (hq.1 rfl).2.2
      rw [exA_seen] at this
      cases this
  rw [w_not]
  simp only [Bool.not_false, guardW_tt, pickW_true]
  have hcq := below_trans hcp hbq
  refine c19 (hA.below hcq) exA_ok fun b4 wr hbr hq => ?_
  obtain rfl : b4 = true := hq.2 exA_given.1
  simp only [guardW_tt, pickW_true]
  rw [b63z]
  refine w_parts (F := fR 9) (l := [zeroR]) sty24 rfl (by decide) (by decide) (by kernel_rfl) rfl fun ws hbs _ hms => ?_
  refine c19 ⟨_, hms.sl, zero_x ws⟩ zero_ok fun b5 wt hbt hq => ?_
  obtain rfl : b5 = false := by
    cases b5 with
    | false => rfl
    | true => exact absurd (hq.1 rfl) zero_bad
  rw [w_not]
  simp only [Bool.not_false, guardW_tt, pickW_true]
  exact hk _ (below_trans hb02 (below_trans hcq (below_trans hbr (below_trans hbs hbt)))))
end
end Go.Proofs.YtfkfkldhcignbaaGreatDoor
/- FlowFirst, walked. -/
set_option linter.unusedSimpArgs false
set_option linter.unusedVariables false
set_option maxRecDepth 4000
namespace Go.Proofs.YtfkfkldhcignbaaGreatDoor
open Go Go.V Go.RowKit
/-- the laws' reader, put into bounds: the order of the text is drawn -/
def PickRS (r_6 : Value) (J_10 : Value → World → Prop) (w : World) : Prop :=
   drewW w (fun w =>
   ∃ S : World → Prop, S w ∧
   takeW Tryz.prog anyW (Instr.fieldAt 30 r_6 0) (fun t28_11 =>
   takeW Tryz.prog S (Instr.loadAt 3 t28_11) (fun t29_12 =>
   takeW Tryz.prog anyW (Instr.fieldAt 30 r_6 1) (fun t31_13 =>
   takeW Tryz.prog S (Instr.loadAt 3 t31_13) (fun t32_14 =>
   (callW Tryz.prog (Value.func (Fn.func 13) #[] #[]) #[t29_12, (Value.int IntKind.i64 8)] (fun t30_15 w => keepS S (fun w =>
   (callW Tryz.prog (Value.func (Fn.func 13) #[] #[]) #[t32_14, (Value.int IntKind.i64 8)] (fun t33_16 w => keepS S (fun w =>
   (opW Tryz.prog (Instr.build 30 #[(0, t30_15), (1, t33_16)]) (fun t34_17 w => keepS S (fun w =>
   opW Tryz.prog (Instr.alloc 30 true (Value.tuple #[])) (fun p_18 w => keepS S (fun w =>
   opU Tryz.prog (Instr.storeAt 30 p_18 t34_17) (fun _ w =>
   J_10 p_18 w) w) w) w) w) w) ∧ (opW Tryz.prog (Instr.alloc 30 true (Value.tuple #[])) (fun p_19 w => keepS S (fun w =>
   opW Tryz.prog (Instr.build 30 #[(0, t30_15), (1, t33_16)]) (fun t34_20 w => keepS S (fun w =>
   opU Tryz.prog (Instr.storeAt 30 p_19 t34_20) (fun _ w =>
   J_10 p_19 w) w) w) w) w) w)) w) w) ∧ (opW Tryz.prog (Instr.alloc 30 true (Value.tuple #[])) (fun p_21 w => keepS S (fun w =>
   callW Tryz.prog (Value.func (Fn.func 13) #[] #[]) #[t32_14, (Value.int IntKind.i64 8)] (fun t33_22 w => keepS S (fun w =>
   opW Tryz.prog (Instr.build 30 #[(0, t30_15), (1, t33_22)]) (fun t34_23 w => keepS S (fun w =>
   opU Tryz.prog (Instr.storeAt 30 p_21 t34_23) (fun _ w =>
   J_10 p_21 w) w) w) w) w) w) w) w)) w) w) ∧ (opW Tryz.prog (Instr.alloc 30 true (Value.tuple #[])) (fun p_24 w => keepS S (fun w =>
   callW Tryz.prog (Value.func (Fn.func 13) #[] #[]) #[t29_12, (Value.int IntKind.i64 8)] (fun t30_25 w => keepS S (fun w =>
   callW Tryz.prog (Value.func (Fn.func 13) #[] #[]) #[t32_14, (Value.int IntKind.i64 8)] (fun t33_26 w => keepS S (fun w =>
   opW Tryz.prog (Instr.build 30 #[(0, t30_25), (1, t33_26)]) (fun t34_27 w => keepS S (fun w =>
   opU Tryz.prog (Instr.storeAt 30 p_24 t34_27) (fun _ w =>
   J_10 p_24 w) w) w) w) w) w) w) w) w) w)) w) w) w) w)
section
variable {k : Value → World → Prop} {w : World}
theorem b30ab {a b : Int} : opW Tryz.prog (Instr.build 30 #[(0, I a), (1, I b)]) k w = k (.agg ([I a, I b] : List Value).toArray) w := opW_ok (by kernel_rfl)
def RPre (w : World) (a : Value) (w' : World) : Prop := ∃ (pb : Nat) (r : Rdr), a = .pointer (some ⟨pb, 0, none⟩) ∧ RowAt w' pb 30 [I r.1, I r.2] ∧ (0 ≤ r.1 ∧ r.1 ≤ 7) ∧ (0 ≤ r.2 ∧ r.2 ≤ 7) ∧ Below w.heap.size w w' ∧ w.heap.size ≤ pb
theorem one2i {a b : Int} : ∀ v ∈ ([I a, I b] : List Value), v.oneCell' = true := by simp [Value.oneCell']
theorem pickR_ok {w0 : World} {rb : Nat} {a b : Int} {J : Value → World → Prop} (h0 : Below w0.heap.size w0 w) (hr : RowAt w rb 30 [I a, I b]) (ha : in64 a) (hb : in64 b) (hJ : ∀ v w', RPre w0 v w' → J v w') : PickRS (.pointer (some ⟨rb, 0, none⟩)) J w := by
  unfold PickRS
  rw [drewW_eq]
  replace h0 := h0.drew
  replace hr := hr.drew
  generalize w.drew = w1 at *
  have a1 := after_refl w1
  refine ⟨after w1, a1, ?_⟩
  rw [ra30_0 (hr.cell (i := 0) rfl) a1, ra30_1 (hr.cell (i := 0 + 1) rfl) a1]
  have fin : ∀ {x y : Int} {w' w'' : World} {old : List Value}, (0 ≤ x ∧ x < 8) → (0 ≤ y ∧ y < 8) → Below w1.heap.size w1 w' → RowAt w' w1.heap.size 30 old → old.length = 2 → opU Tryz.prog (Instr.storeAt 30 (.pointer (some ⟨w1.heap.size, 0, none⟩)) (.agg ([I x, I y] : List Value).toArray)) (fun _ w => J (.pointer (some ⟨w1.heap.size, 0, none⟩)) w) w' := by
    intro x y w' _ old hx hy hb' hr' hl
    refine sr30 (vs := [I x, I y]) rfl hr' hl one2i fun w2 ho2 hr2 => ?_
    exact hJ _ _ ⟨_, (x, y), rfl, hr2, ⟨hx.1, by simp only; omega⟩, ⟨hy.1, by simp only; omega⟩, (below_trans h0 (hb'.trans (ho2.rest _ (Nat.le_refl _)))), h0.size⟩
  refine ⟨c13 ha (by decide) fun x hx => ?_, ?_⟩
  · rw [keepS_eq]
    refine ⟨a1, c13 hb (by decide) fun y hy => ?_, ?_⟩
    · rw [keepS_eq]
      refine ⟨a1, ?_, ?_⟩
      · rw [b30ab, keepS_eq]
        refine ⟨a1, al30 fun w2 hb2 hs2 hr2 => ?_⟩
        rw [keepS_eq]
        exact ⟨hb2, fin (w'' := w2) hx hy hb2 hr2 rfl⟩
      · refine al30 fun w2 hb2 hs2 hr2 => ?_
        rw [keepS_eq]
        refine ⟨hb2, ?_⟩
        rw [b30ab, keepS_eq]
        exact ⟨hb2, fin (w'' := w2) hx hy hb2 hr2 rfl⟩
    · refine al30 fun w2 hb2 hs2 hr2 => ?_
      rw [keepS_eq]
      refine ⟨hb2, c13 hb (by decide) fun y hy => ?_⟩
      rw [keepS_eq]
      refine ⟨hb2, ?_⟩
      rw [b30ab, keepS_eq]
      exact ⟨hb2, fin (w'' := w2) hx hy hb2 hr2 rfl⟩
  · refine al30 fun w2 hb2 hs2 hr2 => ?_
    rw [keepS_eq]
    refine ⟨hb2, c13 ha (by decide) fun x hx => ?_⟩
    rw [keepS_eq]
    refine ⟨hb2, c13 hb (by decide) fun y hy => ?_⟩
    rw [keepS_eq]
    refine ⟨hb2, ?_⟩
    rw [b30ab, keepS_eq]
    exact ⟨hb2, fin (w'' := w2) hx hy hb2 hr2 rfl⟩
theorem given_of {xs : List ItW} {r : Rdr} {ms : List Mom} (hx : ∀ x ∈ xs, ValidIt x ∧ okLab x.lab) (hl : xs.length ≤ 12) (h1 : 0 ≤ r.1 ∧ r.1 ≤ 7) (h2 : 0 ≤ r.2 ∧ r.2 ≤ 7) (hm : ∀ m ∈ ms, ValidMom m ∧ okMom m) (hml : ms.length ≤ 14) : GivenP xs r ms ∧ okIts xs ∧ okMs ms :=
  ⟨⟨⟨hl, fun x h => (hx x h).1⟩, h1, h2, by omega, fun m h => (hm m h).1⟩, ⟨Nat.le_trans hl (by decide), fun x h => (hx x h).2⟩, ⟨Nat.le_trans hml (by decide), fun m h => (hm m h).2⟩⟩
end
end Go.Proofs.YtfkfkldhcignbaaGreatDoor
/- Feeds, plain: slots depend on what is seen alone; what a tight feed tells of a flash. -/
set_option linter.unusedSimpArgs false
set_option linter.unusedVariables false
set_option maxRecDepth 4000
namespace Go.Proofs.YtfkfkldhcignbaaGreatDoor
open Go Go.V Go.RowKit
/-- the choice among indices that were renamed in order -/
theorem minK_map {key key' : Nat → Int × Int × Int} {f : Nat → Nat} {L : List Nat} (hk : ∀ i, (key i).2.2 = i) (h : ∀ i ∈ L, ∀ j ∈ L, keyC (key (f i)) (key (f j)) < 0 → keyC (key' i) (key' j) < 0) : minK key (L.map f) = (minK key' L).map f := by
  cases hm : minK key' L with
  | none =>
    have := minK_none.1 hm
    subst this; rfl
  | some j =>
    have hok := minK_ok (key := key') (l := L)
    rw [hm] at hok
    have hj : IsMin key' L j := hok
    refine (minK_eq hk).2 ⟨List.mem_map_of_mem hj.1, fun z hz => ?_⟩
    obtain ⟨i, hi, rfl⟩ := List.mem_map.1 hz
    exact fun hh => hj.2 i hi (h i hi j hj.1 hh)
section
variable {xs : List ItW} {r : Rdr} {ms : List Mom}
noncomputable def relsR (xs : List ItW) (r : Rdr) (ms : List Mom) : List Nat := (List.range xs.length).filter fun i => decide (0 ≤ relI xs r ms ms.length i)
theorem list_range {α : Type} (l : List α) (d : α) : l = (List.range l.length).map fun i => l.getD i d := by
  apply List.ext_getElem?
  intro i
  rw [List.getElem?_map]
  by_cases h : i < l.length
  · rw [List.getElem?_range h, List.getElem?_eq_getElem h]
    simp [List.getD_eq_getElem?_getD, List.getElem?_eq_getElem h]
  · rw [List.getElem?_eq_none (by omega), List.getElem?_eq_none (by simp; omega)]; rfl
theorem seenL_map : seenL xs r ms = (relsR xs r ms).map fun i => xs.getD i zeroX := by
  unfold seenL relsR
  have h : xs.filter (fun x => decide (0 ≤ relN x r ms ms.length)) = ((List.range xs.length).map fun i => xs.getD i zeroX).filter (fun x => decide (0 ≤ relN x r ms ms.length)) := by rw [← list_range]
  rw [h, List.filter_map]
  congr 1
  apply List.filter_congr
  intro i hi
  rw [List.mem_range] at hi
  simp [Function.comp, relI, List.getD_eq_getElem?_getD, List.getElem?_eq_getElem hi]
theorem relsR_lt {i : Nat} (h : i ∈ relsR xs r ms) : i < xs.length := List.mem_range.1 (List.mem_filter.1 h).1
theorem seenL_len : (seenL xs r ms).length = (relsR xs r ms).length := by rw [seenL_map, List.length_map]
/-- the place in the list of a released item -/
noncomputable def plR (xs : List ItW) (r : Rdr) (ms : List Mom) (j : Nat) : Nat := (relsR xs r ms).getD j 0
theorem plR_get {j : Nat} (h : j < (relsR xs r ms).length) : (relsR xs r ms)[j]? = some (plR xs r ms j) := by
  unfold plR
  rw [List.getD_eq_getElem?_getD, List.getElem?_eq_getElem h]; rfl
theorem plR_mem {j : Nat} (h : j < (relsR xs r ms).length) : plR xs r ms j ∈ relsR xs r ms := List.mem_of_getElem? (plR_get h)
theorem plR_item {j : Nat} (h : j < (relsR xs r ms).length) : (seenL xs r ms)[j]? = xs[plR xs r ms j]? := by
  have hl := relsR_lt (plR_mem h)
  rw [seenL_map, List.getElem?_map, plR_get h, List.getElem?_eq_getElem hl]
  simp [List.getD_eq_getElem?_getD, List.getElem?_eq_getElem hl]
theorem relsR_sorted : (relsR xs r ms).Pairwise (· < ·) := by
  unfold relsR
  exact List.pairwise_lt_range.filter _
theorem plR_lt {i j : Nat} (hi : i < (relsR xs r ms).length) (hj : j < (relsR xs r ms).length) (h : i < j) : plR xs r ms i < plR xs r ms j := by
  have := List.pairwise_iff_getElem.1 (relsR_sorted (xs := xs) (r := r) (ms := ms)) i j hi hj h
  have e1 := plR_get hi
  have e2 := plR_get hj
  rw [List.getElem?_eq_getElem hi] at e1
  rw [List.getElem?_eq_getElem hj] at e2
  rw [Option.some.inj e1, Option.some.inj e2] at this
  exact this
theorem plR_lt_iff {i j : Nat} (hi : i < (relsR xs r ms).length) (hj : j < (relsR xs r ms).length) : plR xs r ms i < plR xs r ms j ↔ i < j := by
  constructor
  · intro h
    rcases Nat.lt_trichotomy i j with c | c | c
    · exact c
    · subst c; omega
    · have := plR_lt hj hi c; omega
  · exact plR_lt hi hj
theorem plR_inj {i j : Nat} (hi : i < (relsR xs r ms).length) (hj : j < (relsR xs r ms).length) (h : plR xs r ms i = plR xs r ms j) : i = j := by
  have h1 := plR_lt_iff (xs := xs) (r := r) (ms := ms) hi hj
  have h2 := plR_lt_iff (xs := xs) (r := r) (ms := ms) hj hi
  rcases Nat.lt_trichotomy i j with c | c | c
  · have := h1.2 c; omega
  · exact c
  · have := h2.2 c; omega
theorem relI_seen {n j : Nat} (h : j < (relsR xs r ms).length) : relI (seenL xs r ms) r ms n j = relI xs r ms n (plR xs r ms j) := by
  unfold relI; rw [plR_item h]
theorem rel_full {n i : Nat} (hn : n < ms.length) (h : cntB true xs r ms n i = true) (hi : i < xs.length) : i ∈ relsR xs r ms := by
  unfold relsR
  rw [List.mem_filter, List.mem_range]
  refine ⟨hi, ?_⟩
  have hx : xs[i]? = some xs[i] := List.getElem?_eq_getElem hi
  obtain ⟨c1, _⟩ := cntB_rel (xs := xs) (r := r) (n := n) hx hn
  rw [c1, decide_eq_true_eq] at h
  rw [decide_eq_true_eq]
  unfold relI
  rw [hx]
  exact h.1
theorem left_seen {n : Nat} (hn : n < ms.length) {snt snt' : Nat → Bool} (hs : ∀ j, j < (relsR xs r ms).length → snt (plR xs r ms j) = snt' j) :
    leftF true xs r ms n snt = (leftF true (seenL xs r ms) r ms n snt').map (plR xs r ms) := by
  have e1 : leftF true xs r ms n snt = (relsR xs r ms).filter fun i => !snt i && cntB true xs r ms n i := by
    unfold leftF relsR
    rw [List.filter_filter]
    apply List.filter_congr
    intro i hi
    rw [List.mem_range] at hi
    cases hp : (!snt i && cntB true xs r ms n i) with
    | false => simp
    | true =>
      have hc : cntB true xs r ms n i = true := by
        cases hcc : cntB true xs r ms n i with
        | true => rfl
        | false => rw [hcc] at hp; simp at hp
      have := (List.mem_filter.1 (rel_full hn hc hi)).2
      rw [this]; rfl
  have e2 : relsR xs r ms = (List.range (relsR xs r ms).length).map (plR xs r ms) := by
    have := list_range (relsR xs r ms) 0
    exact this
  rw [e1]
  have e3 : ((List.range (relsR xs r ms).length).map (plR xs r ms)).filter (fun i => !snt i && cntB true xs r ms n i) = ((List.range (relsR xs r ms).length).filter fun j => !snt' j && cntB true (seenL xs r ms) r ms n j).map (plR xs r ms) := by
    rw [List.filter_map]
    congr 1
    apply List.filter_congr
    intro j hj
    rw [List.mem_range] at hj
    simp only [Function.comp]
    rw [hs j hj]
    congr 1
    unfold cntB
    simp only [if_true]
    rw [relI_seen hj]
  rw [← e2] at e3
  rw [e3]
  unfold leftF
  rw [seenL_len]
theorem clsI_seen {j : Nat} (h : j < (relsR xs r ms).length) : clsI (seenL xs r ms) j = clsI xs (plR xs r ms j) := by unfold clsI; rw [plR_item h]
theorem txtI_seen {j : Nat} (h : j < (relsR xs r ms).length) : txtI (seenL xs r ms) j = txtI xs (plR xs r ms j) := by unfold txtI; rw [plR_item h]
theorem pick_seen {n : Nat} (hn : n < ms.length) {snt snt' : Nat → Bool} (hs : ∀ j, j < (relsR xs r ms).length → snt (plR xs r ms j) = snt' j) :
    pickF true xs r ms n snt = (pickF true (seenL xs r ms) r ms n snt').map (plR xs r ms) := by
  unfold pickF
  rw [candF_true, candF_true, left_seen hn hs]
  refine minK_map keyF_idx fun i hi j hj hh => ?_
  have hi' := (mem_left.1 hi).1
  have hj' := (mem_left.1 hj).1
  rw [seenL_len] at hi' hj'
  rw [keyC_neg] at hh ⊢
  simp only [keyF, if_true] at hh ⊢
  rw [clsI_seen hi', clsI_seen hj', relI_seen hi', relI_seen hj']
  have := plR_lt_iff hi' hj'
  omega
theorem snt_seen : ∀ n, n ≤ ms.length → ∀ j, j < (relsR xs r ms).length → sntF true xs r ms n (plR xs r ms j) = sntF true (seenL xs r ms) r ms n j
  | 0, _, j, _ => rfl
  | n + 1, hn, j, hj => by
    have ih := snt_seen n (by omega)
    have hp := pick_seen (n := n) (by omega) ih
    show (sntF true xs r ms n (plR xs r ms j) || decide (pickF true xs r ms n (sntF true xs r ms n) = some (plR xs r ms j))) = (sntF true (seenL xs r ms) r ms n j || decide (pickF true (seenL xs r ms) r ms n (sntF true (seenL xs r ms) r ms n) = some j))
    rw [ih j hj, hp]
    congr 1
    cases hq : pickF true (seenL xs r ms) r ms n (sntF true (seenL xs r ms) r ms n) with
    | none => simp
    | some i =>
      have hi := (pick_left hq).1
      rw [seenL_len] at hi
      rw [decide_eq_decide]
      simp only [Option.map_some, Option.some.injEq]
      exact ⟨fun h => plR_inj hi hj h, fun h => by rw [h]⟩
/-- the packets of slots are those of what is seen -/
theorem feed_seen {n : Nat} (hn : n ≤ ms.length) : feedF true xs r ms n = feedF true (seenL xs r ms) r ms n := by
  unfold feedF
  apply List.map_congr_left
  intro j hj
  rw [List.mem_range] at hj
  have hs := snt_seen (xs := xs) (r := r) (ms := ms) j (by omega)
  have hp := pick_seen (n := j) (by omega) hs
  rw [pack_slot, pack_slot, hp]
  cases hq : pickF true (seenL xs r ms) r ms j (sntF true (seenL xs r ms) r ms j) with
  | none => rfl
  | some i =>
    have hi := (pick_left hq).1
    rw [seenL_len] at hi
    simp only [Option.map_some]
    rw [txtI_seen hi]
theorem feed_alike {ys : List ItW} (h : seenL xs r ms = seenL ys r ms) : fdF 1 xs r ms = fdF 1 ys r ms := by
  show feedF true xs r ms ms.length = feedF true ys r ms ms.length
  rw [feed_seen (Nat.le_refl _), h, ← feed_seen (Nat.le_refl _)]
end
/-! a flash that is never open -/
section
variable {xs : List ItW} {r : Rdr} {ms : List Mom} {z : ItW}
end
end Go.Proofs.YtfkfkldhcignbaaGreatDoor
/- FlowLeaks, walked. -/
set_option linter.unusedSimpArgs false
set_option linter.unusedVariables false
set_option maxRecDepth 4000
namespace Go.Proofs.YtfkfkldhcignbaaGreatDoor
open Go Go.V Go.RowKit
section
variable {k : Value → World → Prop} {w : World}
theorem ex0t {a b : Value} {S : World → Prop} {K : Value → Prop} : takeW Tryz.prog S (Instr.extract (.tuple #[a, b]) 0) K w = K a := t_extract rfl
theorem ex1t {a b : Value} {S : World → Prop} {K : Value → Prop} : takeW Tryz.prog S (Instr.extract (.tuple #[a, b]) 1) K w = K b := t_extract rfl
end
end Go.Proofs.YtfkfkldhcignbaaGreatDoor
/- FlowSecret, walked. -/
set_option linter.unusedSimpArgs false
set_option linter.unusedVariables false
set_option maxRecDepth 4000
namespace Go.Proofs.YtfkfkldhcignbaaGreatDoor
open Go Go.V Go.RowKit
section
variable {k : Value → World → Prop} {w : World}
set_option maxHeartbeats 1000000 in
theorem c14m {l : List (IntV 9)} {v : Value} {most : Nat} (hs : IsSl (fV 9) w v l) (hl : l.length ≤ maxLen) (hi : okV l) (hm : most ≤ 12) (hk : ∀ v rs xs w', Below w.heap.size w w' → ItS w.heap.size w' v rs xs → (∀ x ∈ xs, ValidIt x ∧ okLab x.lab) → xs.length ≤ most → (∀ (i : Nat) x, xs[i]? = some x → ∃ s, x.text = s ++ onB i) → k v w') : callW Tryz.prog (.func (.func 14) #[] #[]) #[v, I most] k w := C14 _ _ _ _ (by
  unfold S14
  have hml : 1000000 ≤ maxLen := by decide
  have hml2 : maxLen ≤ 9223372036854775807 := by decide
  refine Loop2.intro (fun n a p w' => ∃ (i : Nat) (rs : List (RawV 9)) (xs : List ItW), p = I i ∧ i ≤ l.length ∧ i ≤ most ∧ n = l.length - i ∧ Below w.heap.size w w' ∧ ItS w.heap.size w' a rs xs ∧ xs.length = i ∧ (∀ x ∈ xs, ValidIt x ∧ okLab x.lab) ∧ (∀ (i : Nat) x, xs[i]? = some x → ∃ s, x.text = s ++ onB i)) _ ⟨0, [], [], rfl, by omega, by omega, rfl, Below.refl _ _, ⟨Mine.nil _ _, rfl, fun i r m h => by simp at h⟩, rfl, by simp, by simp⟩ ?_
  rintro n ov _ w1 ⟨i, rs, xs, rfl, hil, him, rfl, hb1, hS, hxl, hv1, ht1⟩
  have fin : k ov w1 := hk _ rs xs _ hb1 hS hv1 (by omega) ht1
  rw [len22 (hs.below hb1), w_lss]
  by_cases hlt : i < l.length
  case' neg =>
    rw [decide_eq_false (by omega)]
    simp only [guardW_ft, guardW_u, pickW_false, condW_false]
    exact fin
  rw [decide_eq_true (by omega)]
  simp only [guardW_tt]
  rw [w_lss]
  simp only [pickW_true]
  by_cases hlt2 : i < most
  case' neg =>
    rw [decide_eq_false (by omega), condW_false]
    exact fin
  rw [decide_eq_true (by omega), condW_true]
  clear fin
  obtain ⟨y, hy⟩ : ∃ y, l[i]? = some y := ⟨_, List.getElem?_eq_getElem hlt⟩
  have hyi := hi y (List.mem_of_getElem? hy)
  obtain ⟨ys, hys9⟩ := y
  rw [ga22 (F := fV 9) rfl (hs.below hb1) (by omega) (by simpa using hy)]
  obtain ⟨y0, y1, y2, y3, y4, y5, y6, y7, y8, rfl⟩ : ∃ a b c d e f g h j, ys = [a, b, c, d, e, f, g, h, j] := by
    match ys, hys9 with
    | [a, b, c, d, e, f, g, h, j], _ => exact ⟨a, b, c, d, e, f, g, h, j, rfl⟩
  have i0 := hyi y0 (by simp)
  have i1 := hyi y1 (by simp)
  have i2 := hyi y2 (by simp)
  have i3 := hyi y3 (by simp)
  have i4 := hyi y4 (by simp)
  have i5 := hyi y5 (by simp)
  have i6 := hyi y6 (by simp)
  have i7 := hyi y7 (by simp)
  have i8 := hyi y8 (by simp)
  refine al84 fun w2 hb2 hsz2 hr2 => ?_
  refine sr84 (vs := [I y0, I y1, I y2, I y3, I y4, I y5, I y6, I y7, I y8]) rfl hr2 rfl (by simp [Value.oneCell']) fun w3 ho3 hr3 => ?_
  obtain ⟨yb, hyb⟩ : ∃ yb, w1.heap.size = yb := ⟨_, rfl⟩
  rw [hyb] at hr3 ⊢
  have hb13 : Below w1.heap.size w1 w3 := hb2.trans (ho3.rest _ (by omega))
  rw [drewW_eq]
  have hb14 := hb13.drew
  replace hr3 := hr3.drew
  have hS4 := hS.below hb14
  have hb04 := below_trans hb1 hb14
  have hyb4 : yb < w3.drew.heap.size := hr3.lt
  have hs14 := hb14.size
  clear hb13 ho3 hr2 hb2
  generalize w3.drew = w4 at *
  have hnb : ∀ b, w4.heap.size ≤ b → ¬ isOf ov b := fun b hb h => by have := (hS.out.ge h).2; omega
  clear hS
  refine ⟨after w4, PhI w4.heap.size yb i [], after_refl w4, ?_, ?_, ?_, ?_, ?_, ?_, ?_, ?_, ?_, ?_, ?_, ?_, ?_, ?_, ?_, ?_, ?_, ?_, ?_, ?_, ?_, ?_, ?_, ?_, ?_, trivial⟩
  · intro w5 ha5 v0 _ v1 _ v2 _ v3 _ v4 _ v5 _ v6 _ v7 _ v8 _ v9 _ v10 _ v11 _ v12 _ v13 _ v14 _ v15 _ v16 _ v17 _ v18 _ v19 _ v20 _ v21 _ v22 _ ⟨t, b, hv22, hbb, p, c, s, hr5, hp, hc, hss⟩
    simp only [Value.tuple.injEq, Array.mk.injEq, List.cons.injEq, and_true] at hv22
    obtain ⟨rfl, rfl⟩ := hv22
    have hS5 := hS4.below ha5
    have hr5y := hr3.below ha5
    have hb05 := hb04.trans (ha5.mono hb04.size)
    have hb0s := hb1.size
    have hnbb := hnb b hbb
    have htx : (s ++ onB i).size = s.size + 1 := by rw [ByteArray.size_append]; rfl
    refine joinW_use0 (fun w' => ∃ (L : Lab) (e c' q : Value) (qs : List QW), Below w.heap.size w w' ∧ RowAt w' b 63 (itemL ⟨p, L, c, s ++ onB i⟩ e c' q) ∧ LabM w.heap.size w' L e c' q qs ∧ ItS w.heap.size w' ov rs xs ∧ ValidLab L ∧ okLab L) ?_ ?_
    · rintro w6 ⟨L, e, c', q, qs, hb6, hr6, hL6, hS6, hVL, hokL⟩
      rw [ld63 (vs := itemL ⟨p, L, c, s ++ onB i⟩ e c' q) rfl hr6.cells]
      obtain ⟨rn, hrn⟩ : ∃ rn : RawV 9, rn.1 = itemL ⟨p, L, c, s ++ onB i⟩ e c' q := ⟨⟨_, rfl, one9' hL6.ev.sl hL6.ct.sl hL6.lk.sl⟩, rfl⟩
      have hlen := hS6.len
      refine Mine.push (F := fR 9) (x := rn) sty24 (fun u hu => rn.2.2 u hu) (by show _ = rn.1; rw [hrn]; rfl) (by decide) hS6.out hb6.size (by omega) (by omega) fun v7 w7 hm7 hb7 ho7 hu7 => ?_
      rw [w_add, wrap_id (by omega), loopK_self]
      have a3 : Apart w6 (isOf ov) 3 := apMine hS6.out (by decide)
      have a4 : Apart w6 (isOf ov) 121 := apMine hS6.out (by decide)
      have a5 : Apart w6 (isOf ov) 87 := apMine hS6.out (by decide)
      refine ⟨l.length - (i + 1), by omega, i + 1, rs ++ [rn], xs ++ [⟨p, L, c, s ++ onB i⟩], by simp [I], by omega, by omega, rfl, hb6.trans hb7, ⟨hm7, by simp [hlen], fun j r x h1 h2 => ?_⟩, by simp [hxl], fun x hx => ?_, fun j x hx => ?_⟩
      · rw [List.getElem?_append] at h1 h2
        split at h1
        · rename_i hj
          rw [if_pos (by omega)] at h2
          exact (hS6.ms j r x h1 h2).apart ho7 a3 a4 a5
        · rename_i hj
          rw [if_neg (by omega)] at h2
          have hj0 : j - rs.length = 0 := by
            have := (List.getElem?_eq_some_iff.1 h1).1
            simp at this; omega
          rw [hj0] at h1
          rw [show j - xs.length = 0 by omega] at h2
          simp at h1 h2
          subst h1 h2
          exact ⟨e, c', q, qs, hrn, hL6.apart ho7 a3 a4 a5⟩
      · rcases List.mem_append.1 hx with h | h
        · exact hv1 x h
        · simp at h
          subst h
          exact ⟨⟨by simp only; omega, hVL, hc, by simp only; omega⟩, hokL⟩
      · rw [List.getElem?_append] at hx
        split at hx
        · exact ht1 j x hx
        · rename_i hj
          have hj0 : j - xs.length = 0 := by
            have := (List.getElem?_eq_some_iff.1 hx).1
            simp at this; omega
          rw [hj0] at hx
          simp at hx
          subst hx
          exact ⟨s, by rw [show j = i by omega]⟩
    intro J hJ
    have hno : J w5 := hJ _ ⟨noneL, nS, nS, nS, [], hb05, hr5, ⟨Mine.nil _ _, Mine.nil _ _, Mine.nil _ _, rfl, fun i x p h => by simp at h⟩, hS5, noneL_valid, noneL_ok⟩
    rw [rw84 (n := 8) (j := 8) hr5y rfl rfl (by omega)]
    refine c38 (n := 3) i8 (by decide) fun z hz => ?_
    rw [w_gtr]
    cases decide (0 < z) with
    | false => rw [condW_false]; exact hno
    | true =>
      rw [condW_true, rw84 (n := 2) (j := 2) hr5y rfl rfl (by omega), rw84 (n := 3) (j := 3) hr5y rfl rfl (by omega), rw84 (n := 4) (j := 4) hr5y rfl rfl (by omega), rw84 (n := 5) (j := 5) hr5y rfl rfl (by omega), rw84 (n := 6) (j := 6) hr5y rfl rfl (by omega), rw84 (n := 7) (j := 7) hr5y rfl rfl (by omega), rw84 (n := 8) (j := 8) hr5y rfl rfl (by omega), b71]
      refine c32 rfl (fun x hx => by simp at hx; rcases hx with rfl | rfl | rfl | rfl | rfl | rfl | rfl <;> assumption) fun L e c' q qs w6 hb6 hL6 hVL hl1 hl2 => ?_
      have hokL : okLab L := ⟨⟨by have := hVL.2.2.2.2.2.1.len; omega, hVL.2.2.2.2.2.1.in64 (by decide)⟩, by omega, by omega, fun q hq => (hVL.2.2.2.2.1.ok hq).1⟩
      have hr6 := hr5.below hb6
      have hb06 := below_trans hb05 hb6
      have hS6 := hS5.below hb6
      have hL6' := hL6.base hb05.size
      rw [fl63_1, sta61 (b := b) (o := 0 + 1) rfl (by
        obtain ⟨a1, c1, rfl, -⟩ := id hL6.ev.sl
        obtain ⟨a2, c2, rfl, -⟩ := id hL6.ct.sl
        obtain ⟨a3, c3, rfl, -⟩ := id hL6.lk.sl
        exact one6) (fun j hj => ⟨(rowI p c (s ++ onB i))[0 + 1 + j]'(by simp [rowI]; omega), hr6.cell (List.getElem?_eq_getElem _)⟩) (fun j hj => hr6.free _)]
      have hr7 : RowAt (setCells w6 b 1 [I L.til, e, c', I L.terr, I L.cls, q]) b 63 (itemL ⟨p, L, c, s ++ onB i⟩ e c' q) := rowAt_setMid [I L.til, e, c', I L.terr, I L.cls, q] [I p] [I 0, nS, nS, I 255, I 255, nS] [I c, .string (s ++ onB i)] w6 hr6 rfl
      have ho7 := only_setCells (b := b) [I L.til, e, c', I L.terr, I L.cls, q] 1 w6
      have hof7 : Off (fun x => x = b) w6 (setCells w6 b 1 [I L.til, e, c', I L.terr, I L.cls, q]) := Off.only ho7 rfl
      have tg : Tag w6 b 63 := RowAt.tag hr6
      have ap : ∀ t, t ≠ 63 → Apart w6 (fun x => x = b) t := fun t ht => apRow hr6 (fun h => ht h.symm)
      have hL7 := hL6'.apart hof7 (ap 3 (by decide)) (ap 121 (by decide)) (ap 87 (by decide))
      have hS7 := hS6.row hof7 tg hnbb
      have hb07 : Below w.heap.size w (setCells w6 b 1 [I L.til, e, c', I L.terr, I L.cls, q]) := hb06.trans (ho7.rest _ (by omega))
      have hy7 : RowAt (setCells w6 b 1 [I L.til, e, c', I L.terr, I L.cls, q]) yb 84 _ := (hr5y.below hb6).off hof7 (fun h => by omega)
      have hsz7 : w6.heap.size ≤ (setCells w6 b 1 [I L.til, e, c', I L.terr, I L.cls, q]).heap.size := Nat.le_of_eq ho7.size.symm
      simp only [Nat.zero_add]
      clear hof7 tg ap ho7
      generalize setCells w6 b 1 [I L.til, e, c', I L.terr, I L.cls, q] = w7 at *
      have hyes : J w7 := hJ _ ⟨L, e, c', q, qs, hb07, hr7, hL7, hS7, hVL, hokL⟩
      rw [rw84 (n := 8) (j := 8) hy7 rfl rfl (by omega)]
      refine c38 (n := 6) i8 (by decide) fun z2 hz2 => ?_
      rw [w_lss]
      cases decide (z2 < 5) with
      | false => rw [condW_false]; exact hyes
      | true =>
        rw [condW_true, rw84 (n := 2) (j := 2) hy7 rfl rfl (by omega)]
        refine c38 (n := 60) i2 (by decide) fun tl htl => ?_
        rw [fl63_1, fl61_0, st3 rfl (hr7.cell (i := 0 + 1) rfl) (hr7.free _)]
        have hr8 := hr7.set 1 (I tl)
        have hof8 : Off (fun x => x = b) w7 (w7.setCell ⟨b, 1, none⟩ (I tl)) := Off.set rfl
        have tg : Tag w7 b 63 := RowAt.tag hr7
        have ap : ∀ t, t ≠ 63 → Apart w7 (fun x => x = b) t := fun t ht => apRow hr7 (fun h => ht h.symm)
        exact hJ _ ⟨⟨tl, L.ev, L.ct, L.terr, L.cls, L.locks⟩, e, c', q, qs, hb07.setCell (show w.heap.size ≤ b by omega) _, hr8, (hL7.til tl).apart hof8 (ap 3 (by decide)) (ap 121 (by decide)) (ap 87 (by decide)), hS7.row hof8 tg hnbb, ⟨by simp only; omega, hVL.2⟩, hokL⟩
  · intro u ha
    rw [ix84 (n := 0) (j := 0) rfl (by omega)]
    exact bag_same ha rfl
  · rintro u ha _ rfl
    rw [ld3 ((hr3.below ha).cell (i := 0) rfl)]
    exact bag_same ha ⟨_, rfl, i0⟩
  · rintro u ha _ ⟨z, rfl, hz⟩
    exact c38 (n := 40) hz (by decide) fun r hr => bag_same ha ⟨r, rfl, hr⟩
  · intro u ha
    exact c40 fun u' hb => bag_below ha hb rfl
  · intro u ha
    rw [ix84 (n := 1) (j := 1) rfl (by omega)]
    exact bag_same ha rfl
  · rintro u ha _ rfl
    rw [ld3 ((hr3.below ha).cell (i := 1) rfl)]
    exact bag_same ha ⟨_, rfl, i1⟩
  · rintro u ha _ ⟨z, rfl, hz⟩
    exact c38 (n := 3) hz (by decide) fun r hr => bag_same ha ⟨r, rfl, hr⟩
  · rintro u ha _ ⟨z, rfl, hz⟩
    rw [w_add, wrap_id (by omega)]
    exact bag_same ha ⟨_, rfl, by omega⟩
  · intro u ha
    refine w_parts (F := fT) (l := five) sty31 rfl (by decide) (by decide) (by kernel_rfl) rfl fun u' hb _ hm => ?_
    exact bag_below ha hb (hm.base ha.size)
  · intro u ha
    rw [ix84 (n := 1) (j := 1) rfl (by omega)]
    exact bag_same ha rfl
  · rintro u ha _ rfl
    rw [ld3 ((hr3.below ha).cell (i := 1) rfl)]
    exact bag_same ha ⟨_, rfl, i1⟩
  · rintro u ha _ ⟨z, rfl, hz⟩
    rw [w_quo (by decide)]
    exact bag_same ha ⟨_, rfl, wrap_in64 _⟩
  · rintro u ha _ ⟨z, rfl, hz⟩
    exact c38 (n := 5) hz (by decide) fun r hr => bag_same ha ⟨r.toNat, by rw [Int.toNat_of_nonneg hr.1], by omega⟩
  · rintro u ha v8 h8 _ ⟨z, rfl, hz⟩
    obtain ⟨s, hs5⟩ : ∃ s, five[z]? = some s := ⟨_, List.getElem?_eq_getElem (by simp [five]; omega)⟩
    have hm8 : Mine fT 9 u w4.heap.size v8 five := h8
    obtain ⟨g, c, rfl, hof, _⟩ := hm8.at (by simp [five])
    have htag := Mine.tag hm8 hof
    obtain ⟨b', o', c', he, hlt5, hcl⟩ := hm8.sl.at (i := (z : Int)) (by omega) (by simpa using hs5)
    simp only [Value.slice.injEq, Option.some.injEq, Addr.mk.injEq, and_true, true_and] at he
    obtain ⟨⟨rfl, rfl⟩, rfl⟩ := he
    rw [opW_ok (run_index (by kernel_rfl) (by kernel_rfl) (by omega) hlt5 u)]
    have hsz : sizeT Tryz.prog (elemT Tryz.prog 31) = 1 := by kernel_rfl
    rw [hsz]
    refine bag_same ha ⟨_, s, rfl, ?_, (five_size s (List.mem_of_getElem? hs5)).2, htag⟩
    have := hcl 0 (.string s) rfl
    simpa [fT] using this
  · rintro u ha _ ⟨a, s, rfl, hc, hss, _⟩
    rw [ld9 hc]
    exact bag_same ha ⟨s, rfl, hss⟩
  · intro u ha
    exact bag_same ha rfl
  · rintro u ha _ rfl
    rw [w_add, wrap_id (by omega)]
    exact bag_same ha rfl
  · rintro u ha _ rfl
    rw [w_conv (by kernel_rfl) (by kernel_rfl), conv_bI]
    exact bag_same ha rfl
  · rintro u ha _ rfl
    refine w_parts (F := fB) (l := [bI (97 + i)]) sty85 rfl (by decide) (by decide) (by kernel_rfl) rfl fun u' hb _ hm => ?_
    exact bag_below ha hb (hm.base ha.size)
  · rintro u ha v18 h18
    have hm8 : Mine fB 5 u w4.heap.size v18 [bI (97 + i)] := h18
    rw [w_toStr (e := 5) (by kernel_rfl) (by kernel_rfl) (by kernel_rfl) hm8.sl (by simp)]
    exact bag_same ha rfl
  · rintro u ha _ ⟨s, rfl, hss⟩ _ rfl
    rw [w_addStr (by have : (onB i).size = 1 := rfl; omega)]
    exact bag_same ha ⟨s, rfl, hss⟩
  · rintro u ha _ ⟨p, rfl, hp⟩ _ rfl _ ⟨c, rfl, hc⟩ _ ⟨s, rfl, hss⟩
    rw [b63]
    exact bag_same ha ⟨p, c, s, rfl, hp, hc, hss⟩
  · intro u ha
    refine al63 fun u' hb hsz hr => ?_
    exact bag_below ha hb ⟨_, _, rfl, ha.size, rfl, hr⟩
  · rintro u ha _ ⟨p, c, s, rfl, hp, hc, hss⟩ _ ⟨b, vs, rfl, hbb, h9, hr⟩
    refine sr63 (vs := rowI p c (s ++ onB i)) rfl hr h9 one9 fun u' ho hr' => ?_
    have hg : GoodRow w4.heap.size i u' b := ⟨hbb, p, c, s, hr', hp, hc, hss⟩
    exact ⟨⟨ha.trans (ho.rest _ hbb), ⟨_, b, rfl, hg⟩, PhI.row (Off.only ho rfl) (RowAt.tag hr) hg⟩⟩)
end
theorem ItemV.old {w w' : World} {v : Value} {x : ItW} {n : Nat} (h : ItemV w v x) (hn : w.heap.size ≤ n) (ho : Off (fun b => n ≤ b) w w') : ItemV w' v x := by
  obtain ⟨e, c, q, rfl, h1, h2, xs, h3, h4⟩ := h
  refine ⟨e, c, q, rfl, slOld h1 (by decide) hn ho, slOld h2 (by decide) hn ho, xs, slOld h3 (by decide) hn ho, h4.1, fun i a b ha hb => ?_⟩
  obtain ⟨kv, hk1, hk2⟩ := h4.2 i a b ha hb
  exact ⟨kv, hk1, slOld hk2 (by decide) hn ho⟩
/-- rows that read as items, whatever is stored in the block lb -/
def Els (lb : Nat) (w : World) (rs : List (RawV 9)) (L : List ItW) : Prop := rs.length = L.length ∧ ∀ (i : Nat) r x, rs[i]? = some r → L[i]? = some x → AV (fun w => ItemV w (agR r) x) (fun y => y = lb) w
theorem Els.off {lb : Nat} {w w' : World} {rs : List (RawV 9)} {L : List ItW} (h : Els lb w rs L) (ho : Off (fun y => y = lb) w w') : Els lb w' rs L := ⟨h.1, fun i r x h1 h2 => (h.2 i r x h1 h2).off ho⟩
theorem Els.below {lb : Nat} {w w' : World} {rs : List (RawV 9)} {L : List ItW} (h : Els lb w rs L) (hb : Below w.heap.size w w') : Els lb w' rs L := h.off (Off.below hb)
theorem Els.append {lb : Nat} {w : World} {rs ss : List (RawV 9)} {L M : List ItW} (h : Els lb w rs L) (g : Els lb w ss M) : Els lb w (rs ++ ss) (L ++ M) := by
  refine ⟨by simp [h.1, g.1], fun i r x h1 h2 => ?_⟩
  have hl := h.1
  rw [List.getElem?_append] at h1 h2
  split at h1
  · rw [if_pos (by omega)] at h2; exact h.2 i r x h1 h2
  · rw [if_neg (by omega)] at h2
    rw [← hl] at h2
    exact g.2 _ r x h1 h2
theorem Els.take {lb : Nat} {w : World} {rs : List (RawV 9)} {L : List ItW} (h : Els lb w rs L) (n : Nat) : Els lb w (rs.take n) (L.take n) := by
  refine ⟨by simp [h.1], fun i r x h1 h2 => ?_⟩
  rw [List.getElem?_take] at h1 h2
  split at h1
  · rename_i hi
    rw [if_pos hi] at h2
    exact h.2 i r x h1 h2
  · cases h1
theorem Els.drop {lb : Nat} {w : World} {rs : List (RawV 9)} {L : List ItW} (h : Els lb w rs L) (n : Nat) : Els lb w (rs.drop n) (L.drop n) := by
  refine ⟨by simp [h.1], fun i r x h1 h2 => ?_⟩
  rw [List.getElem?_drop] at h1 h2
  exact h.2 _ r x h1 h2
theorem Els.one {lb : Nat} {w : World} {r : RawV 9} {x : ItW} (h : AV (fun w => ItemV w (agR r) x) (fun y => y = lb) w) : Els lb w [r] [x] := by
  refine ⟨rfl, fun i a b h1 h2 => ?_⟩
  match i, h1, h2 with
  | 0, h1, h2 => simp at h1 h2; subst h1 h2; exact h
  | n + 1, h1, h2 => simp at h1
theorem Els.x {lb : Nat} {w : World} {rs : List (RawV 9)} {L : List ItW} (h : Els lb w rs L) : ItemsX w rs L := ⟨h.1, fun i r x h1 h2 => (h.2 i r x h1 h2).now⟩
theorem seenL_self {xs : List ItW} {r : Rdr} {ms : List Mom} : seenL (seenL xs r ms) r ms = seenL xs r ms := by
  unfold seenL
  rw [List.filter_filter]
  congr 1
  funext x
  rw [Bool.and_self]
theorem seenL_ins {L : List ItW} {x : ItW} {r : Rdr} {ms : List Mom} {k : Nat} (h : relN x r ms ms.length < 0) : seenL (L.take k ++ [x] ++ L.drop k) r ms = seenL L r ms := by
  unfold seenL
  rw [List.filter_append, List.filter_append]
  have : [x].filter (fun x => decide (0 ≤ relN x r ms ms.length)) = [] := by simp; omega
  rw [this, List.append_nil, ← List.filter_append, List.take_append_drop]
theorem w_partS {P : Program} {k : Value → World → Prop} {w : World} {α : Type} {F : Fl α} {x : α} {t e : Nat} {bytes : Nat} {z v : Value} (h : STy P t e F.sz bytes z) (hxc : v.cells.toList = F.e x) (hsm : F.sz ≤ 16777216)
    (hk : ∀ w', Below w.heap.size w w' → w'.heap.size = w.heap.size + 1 → Mine F e w' w.heap.size (.slice (some ⟨w.heap.size, 0, none⟩) 1 1) [x] → k (.slice (some ⟨w.heap.size, 0, none⟩) 1 1) w') : opW P (Instr.buildSlice t 1 #[(0, v)]) k w := by
  have hcs : v.cells.size = F.sz := by rw [← F.len x, ← hxc]; simp
  rw [w_one h hcs hsm]
  have hm := slAlloc (F := F) (e := e) (w := w) (l := [x]) (by rw [hxc]; simp [flat]) (by show 1 ≤ maxLen; decide)
  exact hk _ ((Below.refl _ _).alloc (Nat.le_refl _) _) (by simp) hm
theorem eIt : ETy Tryz.prog 24 63 (fR 9) := ⟨by kernel_rfl, by kernel_rfl, by kernel_rfl, by kernel_rfl, by kernel_rfl, by kernel_rfl, fun x => oneR x⟩
section
variable {k : Value → World → Prop} {w w0 : World}
/-- what a list is put together of, in any order of the text -/
theorem ins_ok {rs : List (RawV 9)} {rr : RawV 9} {J : Value → World → Prop} {kk : Nat} {hd tl : Value} (hl : rs.length ≤ 100) (hhd : IsSl (fR 9) w hd (rs.take kk)) (htl : IsSl (fR 9) w tl (rs.drop kk))
    (hJ : ∀ v w', Below w.heap.size w w' → Mine (fR 9) 63 w' w.heap.size v (rs.take kk ++ [rr] ++ rs.drop kk) → J v w') :
    (opW Tryz.prog (Instr.buildSlice 24 0 #[]) (fun t94 w_1 => keepS (after w) (fun w_2 =>
      (opW Tryz.prog (Builtin.append_ #[24, 24] 24 #[t94, hd]) (fun t98 w_1 => keepS (after w) (fun w_2 => opW Tryz.prog (Instr.buildSlice 24 1 #[(0, agR rr)]) (fun t103 w_1 => opW Tryz.prog (Builtin.append_ #[24, 24] 24 #[t98, t103]) (fun t104 w_1 => keepS (after w) (fun w_2 => opW Tryz.prog (Builtin.append_ #[24, 24] 24 #[t104, tl]) (fun t108 w_1 => keepS (after w) (fun w_2 => J t108 w_2) w_1) w_2) w_1) w_1) w_2) w_1) w_2) ∧
      (opW Tryz.prog (Instr.buildSlice 24 1 #[(0, agR rr)]) (fun t103 w_1 => opW Tryz.prog (Builtin.append_ #[24, 24] 24 #[t94, hd]) (fun t98 w_1 => keepS (after w) (fun w_2 => opW Tryz.prog (Builtin.append_ #[24, 24] 24 #[t98, t103]) (fun t104 w_1 => keepS (after w) (fun w_2 => opW Tryz.prog (Builtin.append_ #[24, 24] 24 #[t104, tl]) (fun t108 w_1 => keepS (after w) (fun w_2 => J t108 w_2) w_1) w_2) w_1) w_2) w_1) w_1) w_2)) w_1) w) ∧
    (opW Tryz.prog (Instr.buildSlice 24 1 #[(0, agR rr)]) (fun t103 w_1 => opW Tryz.prog (Instr.buildSlice 24 0 #[]) (fun t94 w_1 => keepS (after w) (fun w_2 => opW Tryz.prog (Builtin.append_ #[24, 24] 24 #[t94, hd]) (fun t98 w_1 => keepS (after w) (fun w_2 => opW Tryz.prog (Builtin.append_ #[24, 24] 24 #[t98, t103]) (fun t104 w_1 => keepS (after w) (fun w_2 => opW Tryz.prog (Builtin.append_ #[24, 24] 24 #[t104, tl]) (fun t108 w_1 => keepS (after w) (fun w_2 => J t108 w_2) w_1) w_2) w_1) w_2) w_1) w_2) w_1) w_1) w) := by
  have hml : 1000000 ≤ maxLen := by decide
  have hone : ∀ x : RawV 9, ∀ u ∈ (fR 9).e x, u.oneCell' = true := fun x => oneR x
  have ht1 : (rs.take kk).length ≤ 100 := by rw [List.length_take]; omega
  have ht2 : (rs.drop kk).length ≤ 100 := by rw [List.length_drop]; omega
  -- the last steps
  have last : ∀ (v u : Value) (w1 : World), Below w.heap.size w w1 → Mine (fR 9) 63 w1 w.heap.size v (rs.take kk) → IsSl (fR 9) w1 u [rr] → opW Tryz.prog (Builtin.append_ #[24, 24] 24 #[v, u]) (fun t104 w_1 => keepS (after w) (fun w_2 => opW Tryz.prog (Builtin.append_ #[24, 24] 24 #[t104, tl]) (fun t108 w_1 => keepS (after w) (fun w_2 => J t108 w_2) w_1) w_2) w_1) w1 := fun v u w1 hb hm hu => by
    refine Mine.append (F := fR 9) sty24 hone hm hu hb.size (by simp; omega) (by simp; omega) fun v2 w2 hm2 hb2 ho2 hu2 => ?_
    have hb02 : Below w.heap.size w w2 := hb.trans hb2
    rw [keepS_eq]
    refine ⟨hb02, ?_⟩
    refine Mine.append (F := fR 9) sty24 hone hm2 (htl.below hb02) hb02.size (by simp; omega) (by simp; omega) fun v3 w3 hm3 hb3 ho3 hu3 => ?_
    have hb03 := hb02.trans hb3
    rw [keepS_eq]
    exact ⟨hb03, hJ _ _ hb03 hm3⟩
  refine ⟨mkNil (F := fR 9) sty24 fun g w1 hb1 hm1 => ?_, ?_⟩
  · rw [keepS_eq]
    refine ⟨hb1, ?_, ?_⟩
    · refine Mine.append (F := fR 9) sty24 hone hm1 (hhd.below hb1) hb1.size (by simp; omega) (by simp; omega) fun v2 w2 hm2 hb2 ho2 hu2 => ?_
      have hb02 : Below w.heap.size w w2 := hb1.trans hb2
      rw [keepS_eq]
      refine ⟨hb02, w_partS (F := fR 9) (x := rr) sty24 rfl (by decide) fun w3 hb3 hs3 hm3 => ?_⟩
      exact last _ _ w3 (below_trans hb02 hb3) (by have := hm2.below hb3; simpa using this) hm3.sl
    · refine w_partS (F := fR 9) (x := rr) sty24 rfl (by decide) fun w3 hb3 hs3 hm3 => ?_
      have hb03 := below_trans hb1 hb3
      refine Mine.append (F := fR 9) sty24 hone (hm1.below hb3) (hhd.below hb03) hb03.size (by simp; omega) (by simp; omega) fun v2 w2 hm2 hb2 ho2 hu2 => ?_
      have hb02 : Below w.heap.size w w2 := hb03.trans hb2
      rw [keepS_eq]
      refine ⟨hb02, last _ _ w2 hb02 (by simpa using hm2) ((hm3.off ho2 fun b hb hh => ?_).sl)⟩
      have q1 := hm3.ge hb
      have q2 := hm1.ge hh
      omega
  · refine w_partS (F := fR 9) (x := rr) sty24 rfl (by decide) fun w1 hb1 hs1 hm1 => ?_
    refine mkNil (F := fR 9) sty24 fun g w2 hb2 hm2 => ?_
    have hb02 := below_trans hb1 hb2
    rw [keepS_eq]
    refine ⟨hb02, ?_⟩
    refine Mine.append (F := fR 9) sty24 hone hm2 (hhd.below hb02) hb2.size (by simp; omega) (by simp; omega) fun v3 w3 hm3 hb3 ho3 hu3 => ?_
    have hb13 : Below w1.heap.size w1 w3 := hb2.trans hb3
    have hb03 := below_trans hb1 hb13
    rw [keepS_eq]
    refine ⟨hb03, last _ _ w3 hb03 (by have := hm3.base hb1.size; simpa using this) (((hm1.below hb2).off ho3 fun b hb hh => ?_).sl)⟩
    have q1 := hm1.ge hb
    have q2 := hm2.ge hh
    omega
end
end Go.Proofs.YtfkfkldhcignbaaGreatDoor
/- FlowSecret, walked. -/
set_option linter.unusedSimpArgs false
set_option linter.unusedVariables false
set_option maxRecDepth 4000
namespace Go.Proofs.YtfkfkldhcignbaaGreatDoor
open Go Go.V Go.RowKit
/-- a list, however the block lb is written, in which the reader sees zs -/
def GLs (lb : Nat) (r : Rdr) (ms : List Mom) (zs : List ItW) (w : World) (u : Value) : Prop := ∃ L, AV (fun w => ItemsV w u L) (fun y => y = lb) w ∧ (∀ x ∈ L, ValidIt x ∧ okLab x.lab) ∧ L.length ≤ 12 ∧ seenL L r ms = zs
theorem GLs.off {lb : Nat} {r : Rdr} {ms : List Mom} {zs : List ItW} {w w' : World} {u : Value} (h : GLs lb r ms zs w u) (ho : Off (fun y => y = lb) w w') : GLs lb r ms zs w' u := by
  obtain ⟨L, h1, h2⟩ := h
  exact ⟨L, h1.off ho, h2⟩
theorem GLs.below {lb : Nat} {r : Rdr} {ms : List Mom} {zs : List ItW} {w w' : World} {u : Value} (h : GLs lb r ms zs w u) (hb : Below w.heap.size w w') : GLs lb r ms zs w' u := h.off (Off.below hb)
def InPre (lb B : Nat) (r : Rdr) (ms : List Mom) (zs : List ItW) (n : Nat) (w0 : World) (v : Value) (w : World) : Prop := ∃ rsL L, Below w0.heap.size w0 w ∧ Mine (fR 9) 63 w B v rsL ∧ Els lb w rsL L ∧ (∀ x ∈ L, ValidIt x ∧ okLab x.lab) ∧ L.length ≤ 6 + n ∧ seenL L r ms = zs
section
variable {k : Value → World → Prop} {w : World}
set_option maxHeartbeats 1000000 in
theorem s4 {x z e1 f1 e2 f2 : Value} {a b : Int} {l0 l1 m1 : List (IntV 9)} {l2 m2 : List Int} {l3 : List (IntV 5)} (hg : Gl w) (h0 : IsSl (fV 9) w x l0) (h1 : IsSl (fV 9) w e1 l1) (h1' : IsSl (fV 9) w f1 m1) (h2 : IsSl fI w e2 l2) (h2' : IsSl fI w f2 m2) (h3 : IsSl (fV 5) w z l3)
    (o0 : l0.length ≤ maxLen ∧ okV l0) (o1 : l1.length ≤ maxLen ∧ okV l1) (o1' : m1.length ≤ maxLen ∧ okV m1) (o2 : l2.length ≤ maxLen ∧ ∀ x ∈ l2, in64 x) (o2' : m2.length ≤ maxLen ∧ ∀ x ∈ m2, in64 x) (o3 : l3.length ≤ maxLen ∧ okV l3) (ia : in64 a) (ib : in64 b)
    (hk : ∀ w', Below w.heap.size w w' → k (.bool true) w') : S4 x (.agg #[e1, f1]) (.agg #[e2, f2]) z (.agg #[I a, I b]) k w := by
  unfold S4
  have hml : maxLen ≤ 9223372036854775807 := by decide
  have hml0 : 1000000 ≤ maxLen := by decide
  refine w_boxN (v := .agg #[e1, f1]) fun w1 hb1 hsz1 hry => ?_
  replace hry : RowAt w1 w.heap.size 55 [e1, f1] := hry
  refine w_boxN (v := .agg #[e2, f2]) fun w2 hb2 hsz2 hrw => ?_
  replace hrw : RowAt w2 w1.heap.size 56 [e2, f2] := hrw
  have hb02 := below_trans hb1 hb2
  refine w_boxN (v := .agg #[I a, I b]) fun w3 hb3 hsz3 hr1 => ?_
  replace hr1 : RowAt w3 w2.heap.size 30 [I a, I b] := hr1
  have hb03 := below_trans hb02 hb3
  refine c10 (hg.below hb03) fun w4 hb4 => ?_
  have hb04 := below_trans hb03 hb4
  rw [w_not, Bool.not_true, condW_false]
  have hb24 := below_trans hb3 hb4
  have hry4 := (hry.below hb2).below hb24
  have hrw4 := hrw.below hb24
  refine joinW_use1 (RPre w4) ?_ fun J hJ => pickR_ok (Below.refl _ _) (hr1.below hb4) ia ib hJ
  rintro _ w5 ⟨pb, r, rfl, hrp, hr1', hr2', hb5, hpb⟩
  have hb05 := below_trans hb04 hb5
  clear hr1 hb3 hb2 hb1 hry hrw
  refine c11 (h3.below hb05) o3.1 o3.2 fun zv ms w6 hb6 hms hmv hml4 => ?_
  rw [drewW_eq]
  have hb6d := below_trans hb6 (below_drew w6)
  replace hms := hms.below (below_drew w6)
  generalize w6.drew = w7 at *
  have a7 := after_refl w7
  have hrp7 := hrp.below hb6d
  have hb47 := below_trans hb5 hb6d
  have hb07 := below_trans hb04 hb47
  refine ⟨after w7, a7, ?_⟩
  rw [la30 rfl hrp7.cells a7]
  refine c14 (h0.below hb07) o0.1 o0.2 (by decide) fun xv xs w8 hb8 hxs hxv hxl0 _ => ?_
  have hxl : xs.length ≤ 6 := hxl0
  rw [keepS_eq]
  refine ⟨hb8, ?_⟩
  obtain ⟨GX, okx, okm⟩ := given_of (r := r) hxv (by omega) hr1' hr2' hmv hml4
  have hb08 := below_trans hb07 hb8
  refine c16 (hg.below hb08) hxs rfl (hms.below hb8) okx okm fun o e w9 hb9 _ hZ0 => ?_
  obtain ⟨rfl, hZ⟩ := hZ0 GX
  rw [ex0t, ex1t]
  simp only [w_neq, decide_true, Bool.not_true, guardW_ff, pickW_false]
  obtain ⟨zs, hzs⟩ : ∃ zs, seenL xs r ms = zs := ⟨_, rfl⟩
  rw [hzs] at hZ
  have hzl : zs.length ≤ 6 := by rw [← hzs]; exact Nat.le_trans (List.length_filter_le _ _) hxl
  have hzv : ∀ x ∈ zs, ValidIt x ∧ okLab x.lab := fun x hx => hxv x (by rw [← hzs] at hx; exact (List.mem_filter.1 hx).1)
  have hzz : seenL zs r ms = zs := by rw [← hzs]; exact seenL_self
  obtain ⟨rz, hrz, hrzx⟩ := hZ
  have hrzl := hrzx.1
  rw [len24 hrz, w_gtr, decide_eq_false (by omega)]
  simp only [pickW_false, condW_false]
  have hb89 := below_trans hb8 hb9
  have hb09 := below_trans hb07 hb89
  refine al57 fun w10 hb10 hsz10 hrl10 => ?_
  have hE10 : Els w9.heap.size w10 rz zs := ⟨hrzl, fun i r x q1 q2 w' ho => ItemV.old (hrzx.2 i r x q1 q2) (Nat.le_refl _) ((Off.below hb10).trans (ho.mono fun i _ hi => by omega))⟩
  have hb010 := below_trans hb09 hb10
  have hb410 := below_trans hb47 (below_trans hb89 hb10)
  have hb710 := below_trans hb89 hb10
  have hms10 := hms.below hb710
  have hrp10 := hrp7.below hb710
  have hry10 := hry4.below hb410
  have hrw10 := hrw4.below hb410
  have hrz10 := hrz.below hb10
  have hg10 := hg.below hb010
  have h1w := h1.below hb010
  have h1w' := h1'.below hb010
  have h2w := h2.below hb010
  have h2w' := h2'.below hb010
  have hpl := hrp7.lt
  have hyl := hry4.lt
  have hwl := hrw4.lt
  have q47 := hb47.size
  have q79 := hb89.size
  have q910 := hb10.size
  have hms9 := hms.below hb89
  have hrp9 := hrp7.below hb89
  have hry9 := hry4.below (below_trans hb47 hb89)
  have hrw9 := hrw4.below (below_trans hb47 hb89)
  have h19 := h1.below hb09
  have h19' := h1'.below hb09
  have h29 := h2.below hb09
  have h29' := h2'.below hb09
  have hg9 := hg.below hb09
  clear hms hrp hrp7 hry4 hrw4 hrzx hg h1 h1' h2 h2' h3 h0 hxs hb8 hb9 hb89
  obtain ⟨lb, hlb⟩ : ∃ n, w9.heap.size = n := ⟨_, rfl⟩
  refine Loop1.intro (fun n c w' => ∃ (j : Nat) (u0 u1 : Value), c = I j ∧ j ≤ 2 ∧ n = 2 - j ∧ Below w9.heap.size w9 w' ∧ w10.heap.size ≤ w'.heap.size ∧ Els lb w' rz zs ∧ RowAt w' lb 57 [u0, u1] ∧ (0 < j → GLs lb r ms zs w' u0) ∧ (1 < j → GLs lb r ms zs w' u1)) _ ⟨0, nS, nS, rfl, by omega, rfl, hb10, Nat.le_refl _, by rw [← hlb]; exact hE10, by rw [← hlb]; exact hrl10, fun h => by omega, fun h => by omega⟩ ?_
  rintro n _ wa ⟨j, u0, u1, rfl, hj, rfl, hba, hsa, hEa, hrl, g0, g1⟩
  rw [hlb]
  rw [w_lss]
  by_cases hj2 : j < 2
  · rw [decide_eq_true (by omega), condW_true]
    refine mkNil (F := fR 9) sty24 fun g wb hbb hmb => ?_
    have hb9b := hba.trans (hbb.mono hba.size)
    refine Mine.append (F := fR 9) sty24 (fun x => oneR x) hmb (hrz.below hb9b) hbb.size (by simp; omega) (by simp; omega) fun vc wc hmc hbc _ _ => ?_
    have hbac : Below wa.heap.size wa wc := hbb.trans hbc
    have hb9c := below_trans hba hbac
    rw [List.nil_append] at hmc
    obtain ⟨eu, lu, wu, ml, he1, he2, he3, he4, he5, he6, he7⟩ : ∃ (eu : Value) (lu : List (IntV 9)) (wu : Value) (ml : List Int), [e1, f1][j]? = some eu ∧ IsSl (fV 9) w9 eu lu ∧ lu.length ≤ maxLen ∧ okV lu ∧ [e2, f2][j]? = some wu ∧ IsSl fI w9 wu ml ∧ (ml.length ≤ maxLen ∧ ∀ x ∈ ml, in64 x) := by
      match j, hj2 with
      | 0, _ => exact ⟨_, _, _, _, rfl, h19, o1.1, o1.2, rfl, h29, o2⟩
      | 1, _ => exact ⟨_, _, _, _, rfl, h19', o1'.1, o1'.2, rfl, h29', o2'⟩
    rw [r_arr (n := 2) (e := 22) (j := j) rfl (by kernel_rfl) (by kernel_rfl) (by kernel_rfl) (by kernel_rfl) (by kernel_rfl) hj2 ((hry9.below hb9c).cell (i := j) he1)]
    refine c14m (he2.below hb9c) he3 he4 (by decide) fun ov rs ys wd hbd hS hyv hyl0 _ => ?_
    have hyl : ys.length ≤ 6 := hyl0
    have hbcd := hbd
    have hbad := below_trans hbac hbd
    have hb9d := below_trans hba hbad
    have hrld := hrl.below hbad
    have hEo : Els lb wd rs ys := ⟨hS.len, fun i r x q1 q2 w'' ho => ((hS.ms i r x q1 q2).apart ho (apRow hrld (by decide)) (apRow hrld (by decide)) (apRow hrld (by decide))).v⟩
    have hlen := hS.len
    have hov := hS.out.sl
    clear hS
    refine Loop2.intro (fun n l c w' => ∃ i : Nat, c = I i ∧ i ≤ ys.length ∧ n = ys.length - i ∧ InPre lb wa.heap.size r ms zs i wd l w') _ ⟨0, rfl, by omega, rfl, rz, zs, Below.refl _ _, hmc.below hbd, (hEa.below hbad), hzv, by omega, hzz⟩ ?_
    rintro n lv _ we ⟨i, rfl, hi, rfl, rsL, L, hbe, hML, hEL, hvL, hlL, hsL⟩
    have hov2 := hov.below hbe
    rw [len24 hov2, w_lss]
    have hLl := hEL.1
    by_cases hlt : i < ys.length
    · rw [decide_eq_true (by omega), condW_true]
      refine joinW_use1 (InPre lb wa.heap.size r ms zs (i + 1) wd) ?_ ?_
      · rintro lv' wf h
        rw [w_add, wrap_id (by omega), loopK_self]
        exact ⟨ys.length - (i + 1), by omega, i + 1, by simp [I], by omega, rfl, h⟩
      intro J hJ
      rw [drewW_eq]
      have hdd := below_drew we
      replace hov2 := hov2.below hdd
      replace hML := hML.below hdd
      replace hEL := hEL.below hdd
      replace hbe := below_trans hbe hdd
      generalize we.drew = wf at *
      have hb9f := below_trans hb9d hbe
      obtain ⟨y, hy⟩ : ∃ y, ys[i]? = some y := ⟨_, List.getElem?_eq_getElem hlt⟩
      obtain ⟨ry, hry2⟩ : ∃ y, rs[i]? = some y := ⟨_, List.getElem?_eq_getElem (by omega)⟩
      have hEf := hEo.below hbe
      rw [getT eIt hov2 hry2, xld30 rfl (hrp9.below hb9f).cells]
      have hyV := hyv y (List.mem_of_getElem? hy)
      refine c30 (hEf.2 i ry y hry2 hy).now rfl (hms9.below hb9f) hyV.2 okm fun wg hbg => ?_
      rw [t_geq]
      by_cases h0 : 0 ≤ relN y r ms ms.length
      · rw [decide_eq_true h0, condW_true]
        exact hJ _ _ ⟨rsL, L, below_trans hbe hbg, hML.below hbg, hEL.below hbg, hvL, by omega, hsL⟩
      · rw [decide_eq_false h0, condW_false]
        refine joinW_use1 (fun kv w' => ∃ q : Int, kv = I q ∧ in64 q ∧ Below wf.heap.size wf w') ?_ ?_
        · rintro _ wh ⟨q, rfl, hq, hbh⟩
          rw [len24 (hML.below hbh).sl, w_add, wrap_id (by omega)]
          refine c13 hq (by omega) fun kk hkk => ?_
          refine joinW_use1 (InPre lb wa.heap.size r ms zs (i + 1) wd) (fun a w h => hJ _ _ h) ?_
          intro J2 hJ2
          rw [drewW_eq]
          replace hbh := below_trans hbh (below_drew wh)
          generalize wh.drew = wi at *
          have ai := after_refl wi
          refine ⟨after wi, ai, ?_⟩
          have hMi := hML.below hbh
          have hEi := hEL.below hbh
          have hFi := hEf.below hbh
          have hbi := below_trans hbe hbh
          obtain ⟨kn, rfl⟩ : ∃ n : Nat, kk = n := ⟨kk.toNat, by omega⟩
          refine t_headS (w0 := wi) rfl (by kernel_rfl) (by kernel_rfl) hMi.sl (m := kn) (by omega) fun hd hhd => ?_
          rw [getA eIt (hov2.below hbh) hry2 ai (by decide)]
          refine t_fromS (w0 := wi) rfl (by kernel_rfl) (by kernel_rfl) (by kernel_rfl) hMi.sl (i := kn) (by omega) fun tl htl => ?_
          refine ins_ok (rr := ry) (by omega) hhd htl fun v w' hbv hmv' => ?_
          have hEy := Els.one (hFi.2 i ry y hry2 hy)
          refine hJ2 _ _ ⟨_, L.take kn ++ [y] ++ L.drop kn, below_trans hbi hbv, hmv'.base (Nat.le_trans hbad.size hbi.size), (((hEi.take kn).append hEy).append (hEi.drop kn)).below hbv, fun x hx => ?_, by simp; omega, ?_⟩
          · simp only [List.mem_append, List.mem_singleton] at hx
            rcases hx with (hx | rfl) | hx
            · exact hvL x (List.mem_of_mem_take hx)
            · exact hyV
            · exact hvL x (List.mem_of_mem_drop hx)
          · rw [seenL_ins (by omega), hsL]
        · intro J2 hJ2
          have hb9g := below_trans hb9f hbg
          rw [r_arr (n := 2) (e := 25) (j := j) rfl (by kernel_rfl) (by kernel_rfl) (by kernel_rfl) (by kernel_rfl) (by kernel_rfl) hj2 ((hrw9.below hb9g).cell (i := j) he5), len25 (he6.below hb9g), w_lss]
          by_cases him : i < ml.length
          · rw [decide_eq_true (by omega), condW_true, r_arr (n := 2) (e := 25) (j := j) rfl (by kernel_rfl) (by kernel_rfl) (by kernel_rfl) (by kernel_rfl) (by kernel_rfl) hj2 ((hrw9.below hb9g).cell (i := j) he5)]
            obtain ⟨q, hq⟩ : ∃ y, ml[i]? = some y := ⟨_, List.getElem?_eq_getElem him⟩
            rw [nw25 (F := fI) rfl (he6.below hb9g) hq (u := I q) rfl]
            exact hJ2 _ _ ⟨q, rfl, he7.2 q (List.mem_of_getElem? hq), hbg⟩
          · rw [decide_eq_false (by omega), condW_false]
            exact hJ2 _ _ ⟨i, rfl, by unfold in64; omega, hbg⟩
    · rw [decide_eq_false (by omega), condW_false]
      have hbae := below_trans hbad hbe
      have hrle := hrl.below hbae
      have hlbl := hrle.lt
      rw [opW_ok (run_indexArr (t := 57) (n := 2) (e := 24) (b := lb) (o := 0) (i := (j : Int)) (by kernel_rfl) (by kernel_rfl) (by omega) (by omega) we)]
      have hsz : sizeT Tryz.prog 24 = 1 := by kernel_rfl
      rw [hsz, Nat.zero_add, Int.toNat_natCast, Nat.mul_one]
      obtain ⟨a1, c1, rfl, _⟩ := hML.sl
      obtain ⟨old, hold⟩ : ∃ o, [u0, u1][j]? = some o := by
        match j, hj2 with
        | 0, _ => exact ⟨_, rfl⟩
        | 1, _ => exact ⟨_, rfl⟩
      rw [st24 rfl (hrle.cell (i := j) hold) (hrle.free _), w_add, wrap_id (by omega), loopK_self]
      have hof : Off (fun y => y = lb) we (we.setCell ⟨lb, j, none⟩ (.slice a1 rsL.length c1)) := Off.set rfl
      have hr' := hrle.set j (.slice a1 rsL.length c1)
      have hAV : GLs lb r ms zs we (.slice a1 rsL.length c1) := ⟨L, fun w' ho => ⟨rsL, (hML.off ho fun b hb hh => by have := hML.ge hb; have := hrl.lt; omega).sl, (hEL.off ho).x⟩, hvL, by omega, hsL⟩
      have hb9e := below_trans hba hbae
      refine ⟨2 - (j + 1), by omega, j + 1, if j = 0 then .slice a1 rsL.length c1 else u0, if j = 0 then u1 else .slice a1 rsL.length c1, by simp [I], by omega, rfl, by rw [← hlb]; exact hb9e.setCell (Nat.le_refl _) _, ?_, (hEa.below hbae).off hof, ?_, fun _ => ?_, fun h => ?_⟩
      · have := hof.size; have := hbae.size; omega
      · match j, hj2, hr' with
        | 0, _, hr' => exact hr'
        | 1, _, hr' => exact hr'
      · by_cases hj0 : j = 0
        · rw [if_pos hj0]; exact hAV.off hof
        · rw [if_neg hj0]; exact ((g0 (by omega)).below hbae).off hof
      · rw [if_neg (by omega)]; exact hAV.off hof
  · rw [decide_eq_false (by omega), condW_false]
    obtain ⟨L0, hA0, hv0, hl0, hs0⟩ := g0 (by omega)
    obtain ⟨L1, hA1, hv1, hl1, hs1⟩ := g1 (by omega)
    have i0 := hA0.now
    have i1 := hA1.now
    have hb0a := below_trans hb09 hba
    have hrpa := hrp9.below hba
    rw [r_arr (n := 2) (e := 24) (i := 0) (j := 0) rfl (by kernel_rfl) (by kernel_rfl) (by kernel_rfl) (by kernel_rfl) (by kernel_rfl) (by omega) (hrl.cell (i := 0) rfl), r_arr (n := 2) (e := 24) (i := 1) (j := 1) rfl (by kernel_rfl) (by kernel_rfl) (by kernel_rfl) (by kernel_rfl) (by kernel_rfl) (by omega) (hrl.cell (i := 1) rfl), ld30 rfl hrpa.cells]
    obtain ⟨G0, ok0, _⟩ := given_of (r := r) hv0 hl0 hr1' hr2' hmv hml4
    obtain ⟨G1, ok1, _⟩ := given_of (r := r) hv1 hl1 hr1' hr2' hmv hml4
    have hR : RdrV (.agg ([I r.1, I r.2] : List Value).toArray) r := rfl
    refine c25 (hg9.below hba) i0 i1 hR (hms9.below hba) ok0 ok1 okm fun wb hbb => ?_
    have hbo : bOf (okF 1 L0 r ms ∧ okF 1 L1 r ms) = true := bOf_true ⟨⟨G0, .inl rfl⟩, G1, .inl rfl⟩
    have e1 : telE 1 L0 L1 r ms = 0 := by unfold telE; rw [hbo]; rfl
    have e2 : telN 1 L0 L1 r ms = -1 := by
      unfold telN; rw [hbo]
      show dif (fdF 1 L0 r ms) (fdF 1 L1 r ms) = -1
      rw [feed_alike (hs0.trans hs1.symm)]
      exact dif_none fun _ _ => rfl
    have hb9b := below_trans hba hbb
    rw [e1, e2, ex0, ex1]
    simp only [w_eql, decide_true, guardW_tt, guardW_ft, pickW_true]
    rw [r_arr (n := 2) (e := 24) (i := 0) (j := 0) rfl (by kernel_rfl) (by kernel_rfl) (by kernel_rfl) (by kernel_rfl) (by kernel_rfl) (by omega) ((hrl.below hbb).cell (i := 0) rfl), r_arr (n := 2) (e := 24) (i := 1) (j := 1) rfl (by kernel_rfl) (by kernel_rfl) (by kernel_rfl) (by kernel_rfl) (by kernel_rfl) (by omega) ((hrl.below hbb).cell (i := 1) rfl), ld30 rfl (hrpa.below hbb).cells]
    refine c21 (hg9.below hb9b) (i0.below hbb) (i1.below hbb) hR (hms9.below hb9b) ok0 ok1 okm fun bb wc hbc hbb' => ?_
    rw [hbb'.2 ⟨G0, G1, hs0.trans hs1.symm⟩]
    exact hk _ (below_trans hb0a (below_trans hbb hbc))
end
end Go.Proofs.YtfkfkldhcignbaaGreatDoor
/- FlowSecret answers true for every input, and the input reads as it did; its card ties the four listed variables to the program's text: no condition of its own. -/
namespace Go.Proofs.YtfkfkldhcignbaaGreatDoor.flowSecret
open Go Go.V Go.ChangeShapes Go.WideShapes Go.ChangeAt Go.RowKit Go.Deep
set_option linter.unusedVariables false
theorem laid_met (os : Os) (args : Array Value) : laidMetH Tryz.prog Rows.flowSecretRow.laid ((laidWorld os).forCall (fun _ _ => 0) ⟨#[], args, []⟩).memory :=
  laidMetH_of_parts3 (fuel := 8) (laidMet_of_run' 8 (by kernel_rfl) (by kernel_rfl)) (by kernel_rfl) (by kernel_rfl)
theorem witness_row (os : Os) {H : Type} (enc : TypeId × Value → H) :
    (OpenSpec.ofChange Rows.flowSecretSpec).preRow enc Tryz.prog Tryz.f4 Rows.flowSecretRow.domain false Rows.flowSecretRow.laid ((laidWorld os).forCall (fun _ _ => 0) ⟨#[], #[.slice none 0 0, .agg #[.slice none 0 0, .slice none 0 0], .agg #[.slice none 0 0, .slice none 0 0], .slice none 0 0, .agg #[.int .i64 0, .int .i64 0]], []⟩).memory #[.slice none 0 0, .agg #[.slice none 0 0, .slice none 0 0], .agg #[.slice none 0 0, .slice none 0 0], .slice none 0 0, .agg #[.int .i64 0, .int .i64 0]] := by
  have hw : (DataW.whole enc Tryz.prog ((laidWorld os).forCall (fun _ _ => 0) ⟨#[], #[.slice none 0 0, .agg #[.slice none 0 0, .slice none 0 0], .agg #[.slice none 0 0, .slice none 0 0], .slice none 0 0, .agg #[.int .i64 0, .int .i64 0]], []⟩).memory Tryz.f4.params.toList (OpenSpec.ofChange Rows.flowSecretSpec).vars false (#[.slice none 0 0, .agg #[.slice none 0 0, .slice none 0 0], .agg #[.slice none 0 0, .slice none 0 0], .slice none 0 0, .agg #[.int .i64 0, .int .i64 0]] : Array Value).toList 8).map (fun x => (x.1, x.2.1)) =
      some ([.nil, .agg [.nil, .nil], .agg [.nil, .nil], .nil, .agg [.lit (.int .i64 0), .lit (.int .i64 0)]], []) := by kernel_rfl
  obtain ⟨⟨x1, x2, x3⟩, hx, hx1⟩ := Option.map_eq_some_iff.1 hw
  simp only [Prod.mk.injEq] at hx1
  obtain ⟨rfl, rfl⟩ := hx1
  exact OpenSpec.preRow_of_cond 8 hx (by kernel_rfl) (fun k hk => by cases hk) (by kernel_rfl) (laid_met os _)
set_option maxRecDepth 100000 in
theorem lifted (os : Os) (started : os.Started) (H : Type) (enc : TypeId × Value → H) (F : Stop.Interp) :
    ReturnsInHanded {} Tryz.checked os 4 .any ((OpenSpec.ofChange Rows.flowSecretSpec).preRow enc Tryz.prog Tryz.f4 Rows.flowSecretRow.domain false Rows.flowSecretRow.laid) (((OpenSpec.ofChange Rows.flowSecretSpec).at F).post enc Tryz.prog Tryz.f4 false true false false) := by
  refine returnsInHanded_of_row (C := Tryz.checked) (s := OpenSpec.ofChange Rows.flowSecretSpec) own started (by kernel_rfl) Tryz.func4
    (witness_row_atRef (enc := enc) (C := Tryz.checked) false (laidWorld os) #[.slice none 0 0, .agg #[.slice none 0 0, .slice none 0 0], .agg #[.slice none 0 0, .slice none 0 0], .slice none 0 0, .agg #[.int .i64 0, .int .i64 0]] rfl (by kernel_rfl) (by kernel_rfl) (by kernel_rfl) (witness_row os enc)) ?_
  intro W base args ds gs before hval0 hW _ _ _ hL _ _
  have hgl : Gl W := gl_of_laid rfl hL
  have hval : ∀ (j : Nat) t v, Tryz.f4.params[j]? = some t → args[j]? = some v → Value.okWide Tryz.prog W .any base t v := hval0
  have hW' := hW
  obtain ⟨p, q, hA0, hV, rfl, hfz, hnd⟩ := hW
  have hA : DataW.TrodAll enc Tryz.prog W 0 (fun _ => true) true Tryz.f4.params.toList args.toList ds p := hA0
  rw [Tryz.params4] at hA hval
  obtain ⟨v0, vs0, d0, ds0, p0, q0, hargs, rfl, rfl, h0, r0⟩ := trodAll_cons hA
  obtain ⟨v1, vs1, d1, ds1, p1, q1, rfl, rfl, rfl, h1, r1⟩ := trodAll_cons r0
  obtain ⟨v2, vs2, d2, ds2, p2, q2, rfl, rfl, rfl, h2, r2⟩ := trodAll_cons r1
  obtain ⟨v3, vs3, d3, ds3, p3, q3, rfl, rfl, rfl, h3, r3⟩ := trodAll_cons r2
  obtain ⟨v4, vs4, d4, ds4, p4, q4, rfl, rfl, rfl, h4, r4⟩ := trodAll_cons r3
  obtain ⟨rfl, rfl, rfl⟩ := trodAll_nil r4
  obtain rfl : args = #[v0, v1, v2, v3, v4] := by cases args; simp_all
  obtain ⟨rfl, rfl⟩ := trodVars_none hV
  obtain ⟨a0, len0, cap0, rfl⟩ := okWide_slice und22 (hval 0 22 v0 rfl rfl)
  obtain ⟨c1, rfl⟩ := okWide_arrT Tryz.underlying55 (hval 1 55 v1 rfl rfl)
  obtain ⟨c2, rfl⟩ := okWide_arrT Tryz.underlying56 (hval 2 56 v2 rfl rfl)
  obtain ⟨a3, len3, cap3, rfl⟩ := okWide_slice und23 (hval 3 23 v3 rfl rfl)
  obtain ⟨c4, rfl, _⟩ := okWide_struct Tryz.underlying30 (hval 4 30 v4 rfl rfl)
  have k0 := h0
  have lt0 : ∀ x ∈ p0, x.block < W.heap.size := by obtain ⟨m, hm⟩ := k0; exact DataW.trod_lt m _ _ _ hm
  have k1 := h1
  have lt1 : ∀ x ∈ p1, x.block < W.heap.size := by obtain ⟨m, hm⟩ := k1; exact DataW.trod_lt m _ _ _ hm
  have k2 := h2
  have lt2 : ∀ x ∈ p2, x.block < W.heap.size := by obtain ⟨m, hm⟩ := k2; exact DataW.trod_lt m _ _ _ hm
  have k3 := h3
  have lt3 : ∀ x ∈ p3, x.block < W.heap.size := by obtain ⟨m, hm⟩ := k3; exact DataW.trod_lt m _ _ _ hm
  have k4 := h4
  have lt4 : ∀ x ∈ p4, x.block < W.heap.size := by obtain ⟨m, hm⟩ := k4; exact DataW.trod_lt m _ _ _ hm
  obtain ⟨l0, s0, o0⟩ : ∃ l : List (IntV 9), IsSl (fV 9) W (.slice a0 len0 cap0) l ∧ l.length ≤ maxLen ∧ okV l := by
    obtain ⟨fuel, hf⟩ := h0
    exact openN hf
  obtain ⟨e1, f1, l1, m1, hc1, s1, t1, o1, u1⟩ : ∃ a b l m, c1 = #[a, b] ∧ IsSl (fV 9) W a l ∧ IsSl (fV 9) W b m ∧ (l.length ≤ maxLen ∧ okV l) ∧ (m.length ≤ maxLen ∧ okV m) := by
    obtain ⟨fuel, hf⟩ := h1
    exact openNN hf
  subst hc1
  obtain ⟨e2, f2, l2, m2, hc2, s2, t2, o2, u2⟩ : ∃ a b l m, c2 = #[a, b] ∧ IsSl fI W a l ∧ IsSl fI W b m ∧ (l.length ≤ maxLen ∧ ∀ x ∈ l, in64 x) ∧ (m.length ≤ maxLen ∧ ∀ x ∈ m, in64 x) := by
    obtain ⟨fuel, hf⟩ := h2
    exact openWW hf
  subst hc2
  obtain ⟨l3, s3, o3⟩ : ∃ l : List (IntV 5), IsSl (fV 5) W (.slice a3 len3 cap3) l ∧ l.length ≤ maxLen ∧ okV l := by
    obtain ⟨fuel, hf⟩ := h3
    exact openF hf
  obtain ⟨x4, y4, hc4, wx4, wy4⟩ : ∃ a b, c4 = #[I a, I b] ∧ in64 a ∧ in64 b := by
    obtain ⟨fuel, hf⟩ := h4
    exact openR hf
  subst hc4
  clear hA0 hval0
  have walk : Calls Tryz.prog 4 #[.slice a0 len0 cap0, .agg #[e1, f1], .agg #[e2, f2], .slice a3 len3 cap3, .agg #[I x4, I y4]] W fun e w' => e = .returned (.bool true) ∧ Below W.heap.size W w' :=
    (S4_calls _ _ _ _ _ _ W (s4 (k := fun v w' => v = .bool true ∧ Below W.heap.size W w') hgl s0 s1 t1 s2 t2 s3 o0 o1 u1 o2 u2 o3 wx4 wy4 fun w' hb => ⟨rfl, hb⟩)).mono fun e w' h => by
      cases e <;> first | exact h.elim | exact ⟨by rw [h.1], h.2⟩
  refine walk.mono fun e W' ⟨he, bel⟩ => ?_
  subst he
  exact ⟨_, rfl, _, _, _, [], _, [], hW', trodAll_mk1 (shut_bool Tryz.underlying4 _), (trodAll_cons_mk (Below.trod laidOut (by kernel_rfl) (of_decide_eq_true (by kernel_rfl)) k0 bel lt0) (trodAll_cons_mk (Below.trod laidOut (by kernel_rfl) (of_decide_eq_true (by kernel_rfl)) k1 bel lt1) (trodAll_cons_mk (Below.trod laidOut (by kernel_rfl) (of_decide_eq_true (by kernel_rfl)) k2 bel lt2) (trodAll_cons_mk (Below.trod laidOut (by kernel_rfl) (of_decide_eq_true (by kernel_rfl)) k3 bel lt3) (trodAll_cons_mk (Below.trod laidOut (by kernel_rfl) (of_decide_eq_true (by kernel_rfl)) k4 bel lt4) trodAll_mk0))))), rfl, bel.frame _, fun h => by cases h⟩
theorem row_holds : Rows.FlowSecretSaid :=
  OpenClaim.holds_of_cond 4 Tryz.f4 rfl rfl rfl rfl rfl rfl rfl ⟨rfl, rfl, rfl, rfl, rfl⟩ rfl rfl rfl rfl rfl (by kernel_rfl) Tryz.func4 (by kernel_rfl)
    (of_decide_eq_true (by kernel_rfl)) (by unfold Func.isWrapper; first | (rw [if_pos (by decide +kernel)]; kernel_rfl) | (rw [if_neg (by decide +kernel)]; exact ⟨rfl, rfl⟩))
    (fun os started H enc _ F0 => by rw [OpenClaim.pre_eq_preRow]; exact lifted os started H enc F0)
theorem wants (t : TypeId) (ht : t ∈ [22, 55, 56, 23, 30]) : Tryz.prog.wantsStandIn t = false := by
  simp only [List.mem_cons, List.not_mem_nil, or_false] at ht
  rcases ht with rfl | rfl | rfl | rfl | rfl <;> kernel_rfl
theorem proved : Rows.FlowSecretCardSaid :=
  Claim7.holds_tied_plain_at .later [] [.data, .funcs, .funcs, .pinned] true (true, "36ff14b8e280d3072425211c8c452e45a20f28404a5cb1ce5d8b4f836afc09c9") false
    row_holds (fun _ h => by cases h) (by kernel_rfl) (fun _ h => by cases h) flowSecret_row_tie rfl ⟨rfl, rfl⟩ (by kernel_rfl) rfl
    (fun f fn hf hfn => by
      obtain rfl : f = 4 := Option.some.inj ((show Tryz.prog.funcNamed "newswire/newswirelaw26.FlowSecret" = some 4 by kernel_rfl).symm.trans hf) |>.symm
      obtain rfl : fn = Tryz.f4 := (Option.some.inj (Tryz.func4.symm.trans hfn)).symm
      exact ⟨by kernel_rfl, fun j t ht => wants t (by
        rw [Tryz.params4] at ht
        exact List.mem_of_getElem? (by simpa using ht))⟩)
    (by kernel_rfl)
end Go.Proofs.YtfkfkldhcignbaaGreatDoor.flowSecret
