/- Part 4 of the proof of journalDamaged: lemmas for it; no condition beyond the statement. -/
import Derived.Test.YtbojglaimdjagaaGreatDoorJd2
/- The journal's calls of the disk: two, and four. -/
set_option linter.unusedSimpArgs false
set_option linter.unusedVariables false
set_option maxRecDepth 4000
namespace Go.Proofs.YtbojglaimdjagaaGreatDoor
open Go Go.V Go.RowKit
/-- a disk that has been worked on since w0 -/
def StR (B : Nat) (w0 w : World) (b : Nat) (D : DK) (dv vv pv0 : Value) : Prop :=
  ∃ pv, DiskR B w b D dv vv pv ∧ Off (dBl b dv vv pv0) w0 w ∧ Below B w0 w ∧ ∀ x, isOf pv x → isOf pv0 x ∨ w0.heap.size ≤ x
theorem StR.refl {B b : Nat} {w : World} {D : DK} {dv vv pv : Value} (h : DiskR B w b D dv vv pv) : StR B w w b D dv vv pv := ⟨pv, h, Off.refl _ _, Below.refl _ _, fun _ h => .inl h⟩
theorem StR.row {B b r T : Nat} {w0 w : World} {D D0 : DK} {dv vv pv0 : Value} {vs : List Value} (hd : DiskR B w0 b D0 dv vv pv0) (h : StR B w0 w b D dv vv pv0) (hr : RowAt w0 r T vs) (ht : 97 ≠ T ∧ 5 ≠ T ∧ 92 ≠ T) : RowAt w r T vs := by
  obtain ⟨pv, _, ho, _, _⟩ := h
  exact hr.apart ho (hd.apart ht)
theorem StR.mine {α : Type} {F : Fl α} {B B' b e : Nat} {w0 w : World} {D D0 : DK} {dv vv pv0 v : Value} {l : List α} (hd : DiskR B w0 b D0 dv vv pv0) (h : StR B w0 w b D dv vv pv0) (hm : Mine F e w0 B' v l) (ht : 97 ≠ e ∧ 5 ≠ e ∧ 92 ≠ e) : Mine F e w B' v l := by
  obtain ⟨pv, _, ho, _, _⟩ := h
  exact hm.apart ho (hd.apart ht)
theorem StR.step {B b : Nat} {w0 w w' : World} {D' : DK} {dv vv pv0 pv pv' : Value} (h0 : Off (dBl b dv vv pv0) w0 w) (hb0 : Below B w0 w) (hu0 : ∀ x, isOf pv x → isOf pv0 x ∨ w0.heap.size ≤ x)
    (h : DiskR B w' b D' dv vv pv') (ho : Off (dBl b dv vv pv) w w') (hb : Below B w w') (hu : ∀ x, isOf pv' x → isOf pv x ∨ w.heap.size ≤ x) : StR B w0 w' b D' dv vv pv0 := by
  refine ⟨pv', h, Off.trans2 h0 ho ?_, hb0.trans hb, fun x hx => ?_⟩
  · rintro x hx (rfl | hh | hh | hh)
    · exact .inl rfl
    · exact .inr (.inl hh)
    · exact .inr (.inr (.inl hh))
    · rcases hu0 x hh with hh | hh
      · exact .inr (.inr (.inr hh))
      · omega
  · rcases hu x hx with hh | hh
    · exact hu0 x hh
    · exact .inr (Nat.le_trans h0.size hh)
/-- what a disk may hold -/
structure DOk (n : Nat) (D : DK) : Prop where
  n1 : 1 ≤ n
  n2 : n ≤ 1000000
  dur : D.dur.length = n
  vis : D.vis.length = n
  left : 0 ≤ D.left ∧ D.left ≤ 1000000
theorem DOk.ne {n : Nat} {D : DK} (h : DOk n D) : D.dur ≠ [] := fun hh => by
  have h1 := h.dur
  have h2 := h.n1
  rw [hh] at h1; simp at h1; omega
theorem DOk.sync {n : Nat} {D : DK} (h : DOk n D) : DOk n (syncD D) := ⟨h.n1, h.n2, h.vis, h.vis, h.left⟩
theorem DOk.wr {n : Nat} {D : DK} (h : DOk n D) {o : Nat} {s : ByteArray} (ho : o + s.size ≤ n) : DOk n (wrD D o s) := by
  have hl := h.left
  obtain ⟨a1, a2, a3⟩ := usedD_dur { D with vis := ontoL D.vis o s, pend := D.pend ++ [((o : Int), s)] }
  refine ⟨h.n1, h.n2, ?_, ?_, ?_⟩
  · unfold wrD; rw [a1]; exact h.dur
  · unfold wrD; rw [a2]
    show (ontoL D.vis o s).length = n
    rw [ontoL_len (by rw [h.vis]; exact ho)]; exact h.vis
  · unfold wrD usedD
    split
    · exact hl
    · rename_i hz
      have hz : ¬ D.left = 0 := hz
      show 0 ≤ D.left - 1 ∧ D.left - 1 ≤ 1000000
      omega
theorem wr_pend {D : DK} {o : Nat} {s : ByteArray} : (wrD D o s).pend = D.pend ++ [((o : Int), s)] := by
  obtain ⟨a1, a2, a3⟩ := usedD_dur { D with vis := ontoL D.vis o s, pend := D.pend ++ [((o : Int), s)] }
  unfold wrD; rw [a3]
theorem wr_vis {D : DK} {o : Nat} {s : ByteArray} : (wrD D o s).vis = ontoL D.vis o s := by
  obtain ⟨a1, a2, a3⟩ := usedD_dur { D with vis := ontoL D.vis o s, pend := D.pend ++ [((o : Int), s)] }
  unfold wrD; rw [a2]
/-- a write and a sync, up to the first error -/
def ap2 (D : DK) (o : Nat) (x : ByteArray) : Int × DK := if D.off = true then (331, D) else if (wrD D o x).off = true then (331, wrD D o x) else (0, syncD (wrD D o x))
/-- .. twice -/
def ap4 (D : DK) (o : Nat) (x : ByteArray) (p : Nat) (y : ByteArray) : Int × DK :=
  if D.off = true then (331, D) else if (wrD D o x).off = true then (331, wrD D o x) else ap2 (syncD (wrD D o x)) p y
section
variable {k : Value → World → Prop} {w : World} {B b : Nat} {D : DK} {dv vv pv : Value}
/-- the variables of a call that writes -/
structure WrR (w : World) (jb ja a sb : Nat) (o : Nat) (s : ByteArray) : Prop where
  r1 : RowAt w ja 28 [.pointer (some ⟨jb, 0, none⟩)]
  r2 : RowAt w a 3 [I o]
  r3 : RowAt w sb 9 [.string s]
theorem WrR.st {w' : World} {D0 : DK} {jb ja a sb o : Nat} {s : ByteArray} (hd : DiskR B w b D0 dv vv pv) (h : StR B w w' b D dv vv pv) (hw : WrR w jb ja a sb o s) : WrR w' jb ja a sb o s :=
  ⟨h.row hd hw.r1 (by decide), h.row hd hw.r2 (by decide), h.row hd hw.r3 (by decide)⟩
theorem stepW {w0 : World} {D0 : DK} {n jb ja a sb o : Nat} {s : ByteArray} {rv hd sz br : Value} (h0 : DiskR B w0 b D0 dv vv pv) (h : StR B w0 w b D dv vv pv) (hok : DOk n D) (hin : o + s.size ≤ n) (hpl : D.pend.length ≤ 100000) (hBw : B ≤ w0.heap.size)
    (hj : RowAt w0 jb 74 [rv, hd, sz, .pointer (some ⟨b, 0, none⟩), br]) (hw : WrR w0 jb ja a sb o s)
    (hk0 : D.off = true → ∀ w', StR B w0 w' b D dv vv pv → k (I 331) w') (hk : D.off = false → ∀ w', StR B w0 w' b (wrD D o s) dv vv pv → k (I 0) w') : callW Tryz.prog (fnW ja a sb) #[] k w := by
  have hj1 := h.row h0 hj (by decide)
  have hw1 := hw.st h0 h
  obtain ⟨pv1, h1, ho1, hb1, hu1⟩ := h
  refine c72 h1 hok.ne (by rw [hok.dur]; exact hin) (by rw [hok.dur]; exact hok.n2) hok.left hpl (Nat.le_trans hBw ho1.size) hj1 hw1.r1 hw1.r2 hw1.r3 (fun hoff w' hb' => hk0 hoff w' ?_) (fun hoff w' pv' h' ho' hb' hu' => hk hoff w' ?_)
  · exact StR.step ho1 hb1 hu1 (h1.below hb') (Off.below hb') (hb'.mono (Nat.le_trans hBw ho1.size)) fun x hx => .inl hx
  · exact StR.step ho1 hb1 hu1 h' ho' hb' hu'
theorem stepS {w0 : World} {D0 : DK} {n : Nat} (h0 : DiskR B w0 b D0 dv vv pv) (h : StR B w0 w b D dv vv pv) (hok : DOk n D) (hBw : B ≤ w0.heap.size)
    (hk0 : D.off = true → k (I 331) w) (hk : D.off = false → ∀ w', StR B w0 w' b (syncD D) dv vv pv → k (I 0) w') : callW Tryz.prog (fnS b) #[] k w := by
  obtain ⟨pv1, h1, ho1, hb1, hu1⟩ := h
  exact c42S h1 hok.ne (Nat.le_trans hBw ho1.size) hk0 fun hoff w' pv' h' ho' hb' hu' => hk hoff w' (StR.step ho1 hb1 hu1 h' ho' hb' fun x hx => .inl (hu' x hx))
theorem first2 {n jb ja a sb o B' : Nat} {s : ByteArray} {rv hd sz br v : Value} (h0 : DiskR B w b D dv vv pv) (hok : DOk n D) (hin : o + s.size ≤ n) (hpl : D.pend.length ≤ 100000) (hBw : B ≤ w.heap.size)
    (hj : RowAt w jb 74 [rv, hd, sz, .pointer (some ⟨b, 0, none⟩), br]) (hw : WrR w jb ja a sb o s) (hv : Mine fFn 85 w B' v [fnW ja a sb, fnS b])
    (hk : ∀ w', StR B w w' b (ap2 D o s).2 dv vv pv → k (I (ap2 D o s).1) w') : callW Tryz.prog (.func (.func 40) #[] #[]) #[v] k w := by
  refine c40 (fs := [fnW ja a sb, fnS b]) (Inv := fun i w' => match i with
    | 0 => StR B w w' b D dv vv pv
    | 1 => D.off = false ∧ StR B w w' b (wrD D o s) dv vv pv
    | _ => D.off = false ∧ (wrD D o s).off = false ∧ StR B w w' b (syncD (wrD D o s)) dv vv pv) (fun i w' hI => ?_) (by simp) (StR.refl h0) (fun i f w' hf hI => ?_) (fun w' hI => ?_)
  · match i, hI with
    | 0, hI => exact (StR.mine h0 hI hv (by decide)).sl
    | 1, hI => exact (StR.mine h0 hI.2 hv (by decide)).sl
    | _ + 2, hI => exact (StR.mine h0 hI.2.2 hv (by decide)).sl
  · match i, hf, hI with
    | 0, hf, hI =>
      cases hf
      refine stepW h0 hI hok hin hpl hBw hj hw (fun hoff w2 h2 => .inl ⟨331, by decide, rfl, ?_⟩) (fun hoff w2 h2 => .inr ⟨rfl, hoff, h2⟩)
      have := hk w2
      unfold ap2 at this
      rw [if_pos hoff] at this
      exact this h2
    | 1, hf, hI =>
      cases hf
      refine stepS h0 hI.2 (hok.wr hin) hBw (fun hoff => .inl ⟨331, by decide, rfl, ?_⟩) (fun hoff w2 h2 => .inr ⟨rfl, hI.1, hoff, h2⟩)
      have := hk w'
      unfold ap2 at this
      rw [if_neg (by rw [hI.1]; simp), if_pos hoff] at this
      exact this hI.2
    | i + 2, hf, hI => simp at hf
  · obtain ⟨e1, e2, h2⟩ := hI
    have := hk w'
    unfold ap2 at this
    rw [if_neg (by rw [e1]; simp), if_neg (by rw [e2]; simp)] at this
    exact this h2
theorem first4 {n jb ja a sb o ja' a' sb' o' B' : Nat} {s s' : ByteArray} {rv hd sz br v : Value} (h0 : DiskR B w b D dv vv pv) (hok : DOk n D) (hin : o + s.size ≤ n) (hin' : o' + s'.size ≤ n) (hpl : D.pend.length ≤ 100000) (hBw : B ≤ w.heap.size)
    (hj : RowAt w jb 74 [rv, hd, sz, .pointer (some ⟨b, 0, none⟩), br]) (hw : WrR w jb ja a sb o s) (hw' : WrR w jb ja' a' sb' o' s') (hv : Mine fFn 85 w B' v [fnW ja a sb, fnS b, fnW ja' a' sb', fnS b])
    (hk : ∀ w', StR B w w' b (ap4 D o s o' s').2 dv vv pv → k (I (ap4 D o s o' s').1) w') : callW Tryz.prog (.func (.func 40) #[] #[]) #[v] k w := by
  have ok1 : DOk n (wrD D o s) := hok.wr hin
  have ok2 : DOk n (syncD (wrD D o s)) := ok1.sync
  have ok3 : DOk n (wrD (syncD (wrD D o s)) o' s') := ok2.wr hin'
  refine c40 (fs := [fnW ja a sb, fnS b, fnW ja' a' sb', fnS b]) (Inv := fun i w' => match i with
    | 0 => StR B w w' b D dv vv pv
    | 1 => D.off = false ∧ StR B w w' b (wrD D o s) dv vv pv
    | 2 => D.off = false ∧ (wrD D o s).off = false ∧ StR B w w' b (syncD (wrD D o s)) dv vv pv
    | 3 => D.off = false ∧ (wrD D o s).off = false ∧ StR B w w' b (wrD (syncD (wrD D o s)) o' s') dv vv pv
    | _ => D.off = false ∧ (wrD D o s).off = false ∧ (wrD (syncD (wrD D o s)) o' s').off = false ∧ StR B w w' b (syncD (wrD (syncD (wrD D o s)) o' s')) dv vv pv) (fun i w' hI => ?_) (by simp) (StR.refl h0) (fun i f w' hf hI => ?_) (fun w' hI => ?_)
  · match i, hI with
    | 0, hI => exact (StR.mine h0 hI hv (by decide)).sl
    | 1, hI => exact (StR.mine h0 hI.2 hv (by decide)).sl
    | 2, hI => exact (StR.mine h0 hI.2.2 hv (by decide)).sl
    | 3, hI => exact (StR.mine h0 hI.2.2 hv (by decide)).sl
    | _ + 4, hI => exact (StR.mine h0 hI.2.2.2 hv (by decide)).sl
  · match i, hf, hI with
    | 0, hf, hI =>
      cases hf
      refine stepW h0 hI hok hin hpl hBw hj hw (fun hoff w2 h2 => .inl ⟨331, by decide, rfl, ?_⟩) (fun hoff w2 h2 => .inr ⟨rfl, hoff, h2⟩)
      have := hk w2
      unfold ap4 at this
      rw [if_pos hoff] at this
      exact this h2
    | 1, hf, hI =>
      cases hf
      refine stepS h0 hI.2 ok1 hBw (fun hoff => .inl ⟨331, by decide, rfl, ?_⟩) (fun hoff w2 h2 => .inr ⟨rfl, hI.1, hoff, h2⟩)
      have := hk w'
      unfold ap4 at this
      rw [if_neg (by rw [hI.1]; simp), if_pos hoff] at this
      exact this hI.2
    | 2, hf, hI =>
      cases hf
      obtain ⟨e1, e2, hI⟩ := hI
      refine stepW h0 hI ok2 hin' (Nat.zero_le _) hBw hj hw' (fun hoff w2 h2 => ?_) (fun hoff w2 h2 => .inr ⟨rfl, e1, e2, h2⟩)
      have hoff : (wrD D o s).off = true := hoff
      rw [e2] at hoff; cases hoff
    | 3, hf, hI =>
      cases hf
      obtain ⟨e1, e2, hI⟩ := hI
      refine stepS h0 hI ok3 hBw (fun hoff => .inl ⟨331, by decide, rfl, ?_⟩) (fun hoff w2 h2 => .inr ⟨rfl, e1, e2, hoff, h2⟩)
      have := hk w'
      have e3 : (syncD (wrD D o s)).off = false := e2
      unfold ap4 ap2 at this
      rw [if_neg (by rw [e1]; simp), if_neg (by rw [e2]; simp), if_neg (by rw [e3]; simp), if_pos hoff] at this
      exact this hI
    | i + 4, hf, hI => simp at hf
  · obtain ⟨e1, e2, e4, h2⟩ := hI
    have := hk w'
    have e3 : (syncD (wrD D o s)).off = false := e2
    unfold ap4 ap2 at this
    rw [if_neg (by rw [e1]; simp), if_neg (by rw [e2]; simp), if_neg (by rw [e3]; simp), if_neg (by rw [e4]; simp)] at this
    exact this h2
end
end Go.Proofs.YtbojglaimdjagaaGreatDoor
/- The journal: Records, Room; a builder. -/
set_option linter.unusedSimpArgs false
set_option linter.unusedVariables false
set_option maxRecDepth 4000
namespace Go.Proofs.YtbojglaimdjagaaGreatDoor
open Go Go.V Go.RowKit
section
variable {k : Value → World → Prop} {w : World}
theorem c36 {v : Value} {l : List ByteArray} (hs : IsSl fT w v l) (hl : l.length ≤ 1000000) (hk : ∀ v' w', Below w.heap.size w w' → Mine fT 9 w' w.heap.size v' l → k v' w') : callW Tryz.prog (.func (.func 36) #[] #[]) #[v] k w := by
  obtain ⟨a, c, rfl, hc, hx⟩ := hs
  cases a with
  | none =>
    have : l = [] := by
      cases l with
      | nil => rfl
      | cons x r => obtain ⟨b, o, h, _⟩ := hx 0 x rfl; cases h
    subst this
    refine callW_calls ok36 (Calls.mono (Tryz.slices_Clone_string_nil 0 c w) ?_)
    rintro e w' ⟨rfl, rfl⟩
    exact hk _ _ (Below.refl _ _) (Mine.nil _ _)
  | some ad =>
    cases l with
    | nil =>
      refine callW_calls ok36 (Calls.mono (Tryz.slices_Clone_string_zero ad c w) ?_)
      rintro e w' ⟨v', rfl, ho, _, hb⟩
      exact hk _ _ hb ho
    | cons x r =>
      obtain ⟨bk, o, he, _⟩ := hx 0 x rfl
      cases he
      refine callW_calls ok36 (Calls.mono (Tryz.slices_Clone_string bk o (x :: r).length c (x :: r) w (Nat.le_refl _) (by omega) fun j hj => ?_) ?_)
      · obtain ⟨b', o', he, hcl⟩ := hx j (x :: r)[j] (List.getElem?_eq_getElem hj)
        cases he
        have := hcl 0 (.string (x :: r)[j]) rfl
        rw [List.getD_eq_getElem?_getD, List.getElem?_eq_getElem hj]
        simpa [fT] using this
      · rintro e w' ⟨v', rfl, ho, _, hb⟩
        rw [List.take_length] at ho
        have e1 : flat fT (x :: r) = (x :: r).map Value.string := by
          have : ∀ l : List ByteArray, flat fT l = l.map Value.string := fun l => by
            induction l with
            | nil => rfl
            | cons y l ih => rw [List.map_cons, ← ih]; rfl
          exact this _
        refine hk _ _ hb ?_
        unfold Mine
        rw [e1]
        exact ho
theorem eqP28 {ox oy : Operand} {a : Addr} : opW Tryz.prog (binS .eql 28 ox oy (.pointer (some a)) (.pointer none)) k w = k (.bool false) w := opW_ok (by kernel_rfl)
variable {B b jb : Nat} {rest : List Value} {rv : Value} {t : TP}
theorem c19 (h : TapeR B w jb 74 rest rv t) (hl : t.recs.length ≤ 1000000) (hk : ∀ v' w', Below w.heap.size w w' → Mine fT 9 w' w.heap.size v' t.recs → k v' w') : callW Tryz.prog (.func (.func 19) #[] #[]) #[.pointer (some ⟨jb, 0, none⟩)] k w := C19 _ _ _ (by
  unfold S19
  rw [eqP28, condW_false]
  simp only [nilW_ptr]
  rw [fl74_0, fl72_0, ld22 (h.row.cell (i := 0) rfl)]
  exact c36 h.recs.sl hl hk)
theorem c20 {D : DK} {dv vv pv br : Value} {n : Nat} (hd : DiskR B w b D dv vv pv) (hn : D.dur.length = n) (hn2 : n ≤ 1000000) (h : TapeR B w jb 74 [.pointer (some ⟨b, 0, none⟩), br] rv t) (hs : t.size ≤ 1000000) (hk : ∀ w', Below w.heap.size w w' → k (I ((n : Int) - t.size)) w') :
    callW Tryz.prog (.func (.func 20) #[] #[]) #[.pointer (some ⟨jb, 0, none⟩)] k w := C20 _ _ _ (by
  unfold S20
  rw [eqP28, condW_false, drewW_eq]
  have hbd := below_drew w
  replace hd := hd.below hbd
  replace h := h.below hbd
  replace hk : ∀ w', Below w.drew.heap.size w.drew w' → k (I ((n : Int) - t.size)) w' := fun w' h => hk w' (below_trans hbd h)
  generalize w.drew = w1 at *
  have a1 : after w1 w1 := Below.refl _ _
  refine ⟨after w1, a1, ?_⟩
  simp only [nilT_ptr]
  rw [tfl74_1, x_load agg27 known27 (h.row.cell (i := 0 + 3) rfl), tfl74_0, tfl72_2, r_loadA agg3 known3 (h.row.cell (i := 0 + 2) rfl) a1]
  refine c51 hd ?_
  rw [keepS_eq]
  refine ⟨a1, ?_⟩
  rw [t_sub, wrap_id (by omega), hn]
  exact hk _ (Below.refl _ _))
/-- a builder that holds bytes -/
abbrev BuR (w : World) (ob : Nat) (l : List UInt8) : Prop := Lib.IsBuilderF 78 5 ob ob (Lib.byteCells l) w
theorem BuR.at_ {ob : Nat} {l : List UInt8} (h : BuR w ob l) : ∃ p, Lib.BuilderAtF 78 5 ob ob p (Lib.byteCells l) w := by
  rcases h with h | h
  · exact ⟨_, h⟩
  · exact ⟨_, h⟩
theorem BuR.lt {ob : Nat} {l : List UInt8} (h : BuR w ob l) : ob < w.heap.size := by
  obtain ⟨p, _, v, hb, _⟩ := BuR.at_ h
  rcases Nat.lt_or_ge ob w.heap.size with h' | h'
  · exact h'
  · simp [Array.getElem?_eq_none h'] at hb
theorem BuR.new (hr : RowAt w b 78 [.pointer none, nS]) : BuR w b [] := .inl ⟨Nat.le_refl _, nS, hr, ⟨by simp [Lib.byteCells], .inl ⟨rfl, rfl⟩⟩, by simp [Value.ownBlock]⟩
theorem BuilderAtF.offP {ob : Nat} {p : Value} {bs : List Value} {w' : World} {q : Nat → Prop} (h : Lib.BuilderAtF 78 5 ob ob p bs w) (ho : Off q w w') (hq : ∀ x, q x → x ≠ ob ∧ ∀ c fz, w.heap[x]? ≠ some (.cells c 5 fz)) : Lib.BuilderAtF 78 5 ob ob p bs w' := by
  obtain ⟨h1, v, hb, hown, hne⟩ := h
  have same : ∀ (x : Nat) o, w.heap[x]? = some o → ¬ q x → w'.heap[x]? = some o := fun x o hx hn => by
    have hlt : x < w.heap.size := by
      rcases Nat.lt_or_ge x w.heap.size with h' | h'
      · exact h'
      · simp [Array.getElem?_eq_none h'] at hx
    rw [ho.block x hlt hn]; exact hx
  refine ⟨h1, v, same _ _ hb (fun hx => (hq _ hx).1 rfl), ⟨hown.1, ?_⟩, hne⟩
  rcases hown.2 with h2 | ⟨g, cap, cur, fz, h2, h3, h4, h5⟩
  · exact .inl h2
  · exact .inr ⟨g, cap, cur, fz, h2, h3, same _ _ h4 (fun hx => (hq _ hx).2 _ _ h4), h5⟩
theorem BuR.off {ob : Nat} {l : List UInt8} {w' : World} {q : Nat → Prop} (h : BuR w ob l) (ho : Off q w w') (hq : ∀ x, q x → x ≠ ob ∧ ∀ c fz, w.heap[x]? ≠ some (.cells c 5 fz)) : BuR w' ob l := by
  rcases h with h | h
  · exact .inl (BuilderAtF.offP h ho hq)
  · exact .inr (BuilderAtF.offP h ho hq)
/-- what a builder's work may change -/
def buP (w : World) (ob : Nat) (x : Nat) : Prop := ob ≤ x ∧ (x = ob ∨ ∃ c fz, w.heap[x]? = some (.cells c 5 fz))
theorem off_bu {ob : Nat} {w' : World} (hb : Below ob w w') (hk : Lib.OthersKept 5 (some ob) w w') : Off (buP w ob) w w' := by
  refine ⟨hb.size, fun x hx hn => ?_⟩
  rcases Nat.lt_or_ge x ob with h | h
  · exact hb.block x h
  · have hne : x ≠ ob := fun hh => hn ⟨h, .inl hh⟩
    rw [Array.getElem?_eq_getElem hx]
    exact hk x _ (Array.getElem?_eq_getElem hx) (fun hh => hne (Option.some.inj hh)) fun c fz hh => hn ⟨h, .inr ⟨c, fz, by rw [Array.getElem?_eq_getElem hx, hh]⟩⟩
theorem c37 {ob : Nat} {l : List UInt8} {s : ByteArray} (h : BuR w ob l) (hl : l.length + s.size ≤ 1000000000) (hk : ∀ r w', BuR w' ob (l ++ s.data.toList) → Below ob w w' → Off (buP w ob) w w' → k r w') : callW Tryz.prog (.func (.func 37) #[] #[]) #[.pointer (some ⟨ob, 0, none⟩), .string s] k w := by
  have hlt := BuR.lt h
  refine callW_calls ok37 (Calls.mono (Any.Builder_WriteString_k { Tryz.lays156 with } Tryz.Builder_Extra_156 ob ob (Lib.byteCells l) s w h (by rw [Lib.byteCells_length]; omega) (Nat.le_of_lt hlt)) ?_)
  rintro e w' ⟨rfl, hA, hb, hkp⟩
  refine hk _ _ (.inr ?_) hb (off_bu hb hkp)
  have : Lib.byteCells (l ++ s.data.toList) = Lib.byteCells l ++ Lib.strCells s := by
    rw [Lib.strCells_eq]; simp [Lib.byteCells]
  rw [this]
  exact hA
theorem c39 {ob : Nat} {l : List UInt8} (h : BuR w ob l) (hk : ∀ w', Below ob w w' → Off (buP w ob) w w' → k (.string ⟨l.toArray⟩) w') : callW Tryz.prog (.func (.func 39) #[] #[]) #[.pointer (some ⟨ob, 0, none⟩)] k w := by
  refine callW_calls ok39 (Calls.mono (Any.Builder_String_any_k Tryz.lays169 Tryz.Builder_Extra_169 ob ob l w h (Nat.le_of_lt (BuR.lt h))) ?_)
  rintro e w' ⟨rfl, hA, hb, hkp⟩
  exact hk _ hb (off_bu hb hkp)
theorem row_bu {ob r T : Nat} {vs : List Value} {l : List UInt8} (hb : BuR w ob l) (hr : RowAt w r T vs) (ht : T ≠ 78 ∧ T ≠ 5) : ¬ buP w ob r := by
  rintro ⟨_, rfl | ⟨c, fz, hc⟩⟩
  · obtain ⟨p, _, v, hb2, _⟩ := BuR.at_ hb
    have : RowAt w r T vs := hr
    unfold RowAt at this
    rw [hb2] at this
    simp only [Option.some.injEq, Obj.cells.injEq] at this
    exact ht.1 this.2.1.symm
  · have : RowAt w r T vs := hr
    unfold RowAt at this
    rw [hc] at this
    simp only [Option.some.injEq, Obj.cells.injEq] at this
    exact ht.2 this.2.1.symm
theorem tag_bu {ob r T : Nat} {l : List UInt8} (hb : BuR w ob l) (hr : Tag w r T) (ht : T ≠ 78 ∧ T ≠ 5) : ¬ buP w ob r := by
  obtain ⟨cur, hr⟩ := hr
  rintro ⟨_, rfl | ⟨c, fz, hc⟩⟩
  · obtain ⟨p, _, v, hb2, _⟩ := BuR.at_ hb
    rw [hb2] at hr
    simp only [Option.some.injEq, Obj.cells.injEq] at hr
    exact ht.1 hr.2.1.symm
  · rw [hc] at hr
    simp only [Option.some.injEq, Obj.cells.injEq] at hr
    exact ht.2 hr.2.1.symm
end
end Go.Proofs.YtbojglaimdjagaaGreatDoor
/- The journal: what Append does, plain; parts of its walk. -/
set_option linter.unusedSimpArgs false
set_option linter.unusedVariables false
set_option maxRecDepth 4000
namespace Go.Proofs.YtbojglaimdjagaaGreatDoor
open Go Go.V Go.RowKit
/-- what is stored for a group -/
def grpB (t : TP) (l : List ByteArray) : ByteArray := ⟨(stL t.head l).toArray⟩
theorem grpB_size (t : TP) (l : List ByteArray) : (grpB t l).size = (stL t.head l).length := by
  show Array.size _ = _; simp [grpB]
/-- what Append does: the answer, the disk, the tape, whether the journal is broken -/
def apJ (n : Nat) (D : DK) (t : TP) (br : Bool) (l : List ByteArray) : Int × DK × TP × Bool :=
  if br = true ∨ ∃ s ∈ l, 65536 < s.size then (340, D, t, br)
  else if n < t.size + (grpB t l).size then (341, D, t, br)
  else if l = [] then (0, D, t, br)
  else if (ap4 D (t.size + 1) ((grpB t l).extract 1 (grpB t l).size) t.size ((grpB t l).extract 0 1)).1 = 0 then
    (0, (ap4 D (t.size + 1) ((grpB t l).extract 1 (grpB t l).size) t.size ((grpB t l).extract 0 1)).2, l.foldl addT t, br)
  else ((ap4 D (t.size + 1) ((grpB t l).extract 1 (grpB t l).size) t.size ((grpB t l).extract 0 1)).1, (ap4 D (t.size + 1) ((grpB t l).extract 1 (grpB t l).size) t.size ((grpB t l).extract 0 1)).2, t, true)
/-- a journal and its disk, worked on since w0 -/
def StJ (B : Nat) (w0 w : World) (b jb : Nat) (D : DK) (dv vv pv0 rv0 : Value) (t : TP) (br : Bool) : Prop :=
  ∃ pv rv, DiskR B w b D dv vv pv ∧ TapeR B w jb 74 [.pointer (some ⟨b, 0, none⟩), .bool br] rv t ∧ Off (fun x => dBl b dv vv pv0 x ∨ x = jb) w0 w ∧ Below B w0 w ∧
    (∀ x, isOf pv x → isOf pv0 x ∨ w0.heap.size ≤ x) ∧ (∀ x, isOf rv x → isOf rv0 x ∨ w0.heap.size ≤ x)
/-- a tape that is in order -/
structure TOk (n : Nat) (t : TP) : Prop where
  head : t.head.size = 32
  size : t.size ≤ n
  recs : t.recs.length ≤ t.size
section
variable {k : Value → World → Prop} {w : World}
theorem run_tail {t : TypeId} {s : ByteArray} {q : IntKind} {i : Int} (h : Tryz.prog.underlying t = some .string) (h0 : 0 ≤ i) (h1 : i ≤ s.size) (w : World) : (Instr.sliceAt t (.string s) (some (.int q i)) none none).run Tryz.prog w = .ok (.string (s.extract i.toNat s.size)) w := by
  rw [run_sliceAt_string _ _ _ _ _ _ h, run_slice_string_from_if w t s q i h, if_pos ⟨h0, h1⟩]
theorem t_tailStr {S : World → Prop} {K : Value → Prop} {t : TypeId} {s : ByteArray} {q : IntKind} {i : Int} (h : Tryz.prog.underlying t = some .string) (h0 : 0 ≤ i) (h1 : i ≤ s.size) : takeW Tryz.prog S (Instr.sliceAt t (.string s) (some (.int q i)) none none) K w = K (.string (s.extract i.toNat s.size)) := takeW_pure fun w => run_tail h h0 h1 w
theorem w_tailStr {t : TypeId} {s : ByteArray} {q : IntKind} {i : Int} (h : Tryz.prog.underlying t = some .string) (h0 : 0 ≤ i) (h1 : i ≤ s.size) : opW Tryz.prog (Instr.sliceAt t (.string s) (some (.int q i)) none none) k w = k (.string (s.extract i.toNat s.size)) w := opW_ok (run_tail h h0 h1 w)
theorem c34 {s : ByteArray} (hk : k (.bool (decide (65536 < s.size))) w) : callW Tryz.prog (.func (.func 34) #[] #[]) #[.string s] k w := C34 _ _ _ (by
  unfold S34
  rw [w_lenStr (by kernel_rfl), w_gtr]
  rw [show decide ((65536 : Int) < (s.size : Int)) = decide (65536 < s.size) from by
    by_cases h : 65536 < s.size
    · rw [decide_eq_true h, decide_eq_true (by omega)]
    · rw [decide_eq_false h, decide_eq_false (by omega)]]
  exact hk)
/-- does a group contain a record that is too long? -/
theorem c35 {v : Value} {l : List ByteArray} (hs : IsSl fT w v l) (hl : l.length ≤ 1000000) (hk : k (.bool (decide (∃ s ∈ l, 65536 < s.size))) w) : callW Tryz.prog (.func (.func 35) #[] #[]) #[v, .func (.func 34) #[] #[]] k w := C35 _ _ _ _ (by
  unfold S35
  refine C68 _ _ _ _ ?_
  unfold S68
  rw [len22 hs]
  refine Loop1.intro (fun n a w' => ∃ i : Nat, a = I i ∧ n = l.length - i ∧ i ≤ l.length ∧ w' = w ∧ ∀ j s, j < i → l[j]? = some s → s.size ≤ 65536) _ ⟨0, rfl, rfl, Nat.zero_le _, rfl, by omega⟩ ?_
  rintro n _ w1 ⟨i, rfl, rfl, hi, rfl, hP⟩
  rw [w_lss]
  by_cases hlt : i < l.length
  case' neg =>
    rw [decide_eq_false (by omega), condW_false]
    simp only []
    rw [w_geq, decide_eq_false (by decide)]
    rwa [decide_eq_false (by
      rintro ⟨s, hs, h2⟩
      obtain ⟨j, hj, rfl⟩ := List.getElem_of_mem hs
      have := hP j l[j] (by omega) (List.getElem?_eq_getElem hj)
      omega)] at hk
  rw [decide_eq_true (by omega), condW_true]
  have hx : l[((i : Int)).toNat]? = some l[i] := by rw [Int.toNat_natCast]; exact List.getElem?_eq_getElem hlt
  refine ix22 hs rfl (by omega) hx fun b o hc => ?_
  rw [ld9 (show w1.cell? ⟨b, o, none⟩ = some (.string l[i]) from hc 0 _ rfl)]
  refine c34 ?_
  by_cases h2 : 65536 < l[i].size
  · rw [decide_eq_true h2, condW_true]
    simp only []
    rw [w_geq, decide_eq_true (by omega)]
    rwa [decide_eq_true ⟨l[i], List.getElem_mem hlt, h2⟩] at hk
  · rw [decide_eq_false h2, condW_false, w_add, wrap_id (by omega), loopK_self]
    refine ⟨l.length - (i + 1), by omega, i + 1, by simp [I], rfl, by omega, rfl, fun j s hj hs' => ?_⟩
    by_cases hji : j = i
    · subst hji
      rw [List.getElem?_eq_getElem hlt] at hs'
      cases hs'; omega
    · exact hP j s (by omega) hs')
theorem foldl_ok : ∀ (l : List ByteArray) (t : TP), t.head.size = 32 → t.recs.length ≤ t.size → (l.foldl addT t).head.size = 32 ∧ (l.foldl addT t).recs.length ≤ (l.foldl addT t).size
  | [], t, h1, h2 => ⟨h1, h2⟩
  | r :: l, t, h1, h2 => by
    refine foldl_ok l (addT t r) (chain_size _ _) ?_
    show (t.recs ++ [r]).length ≤ t.size + (recB t.head r).size
    rw [List.length_append, recB_size, List.length_singleton]
    omega
theorem stL_len (l : List ByteArray) : ∀ h : ByteArray, (∀ s ∈ l, s.size ≤ 65536) → (stL h l).length ≤ l.length * 200000 := by
  induction l with
  | nil => intro h _; simp [stL]
  | cons r l ih =>
    intro h hs
    have h1 := ih (chainF h r) fun s hs' => hs s (by simp [hs'])
    have h2 := hs r (by simp)
    have h3 := (vb_len (2 * r.size)).2
    simp only [stL, List.length_append, ba_len, recB_size, List.length_cons]
    omega
theorem w_storeTape {jb : Nat} {a b c a' b' c' : Value} {rest : List Value} (hr : RowAt w jb 74 (a :: b :: c :: rest)) (h1 : a'.oneCell' = true) (h2 : b'.oneCell' = true) (h3 : c'.oneCell' = true)
    (hk : ∀ w', RowAt w' jb 74 (a' :: b' :: c' :: rest) → Off (fun x => x = jb) w w' → (∀ B, B ≤ jb → Below B w w') → k undef w') : opU Tryz.prog (Instr.storeAt 72 (.pointer (some ⟨jb, 0, none⟩)) (.agg ([a', b', c'] : List Value).toArray)) k w := by
  rw [w_storeAgg (vs := [a', b', c']) (by simp [h1, h2, h3]) (by rw [size72]; rfl) known72 (fun j hj => ?_) (fun j hj => hr.free _)]
  · have hr3 : RowAt (setCells w jb 0 [a', b', c']) jb 74 (a' :: b' :: c' :: rest) := ((hr.set 0 a').set 1 b').set 2 c'
    have ho : Off (fun x => x = jb) w (setCells w jb 0 [a', b', c']) := (Off.set (p := fun x => x = jb) rfl).trans ((Off.set (p := fun x => x = jb) rfl).trans (Off.set (p := fun x => x = jb) rfl))
    refine hk _ hr3 ho fun B hB => ?_
    exact (((Below.refl B w).setCell hB _).setCell hB _).setCell hB _
  · match j, hj with
    | 0, _ => exact ⟨_, hr.cell (i := 0) rfl⟩
    | 1, _ => exact ⟨_, hr.cell (i := 1) rfl⟩
    | 2, _ => exact ⟨_, hr.cell (i := 2) rfl⟩
end
end Go.Proofs.YtbojglaimdjagaaGreatDoor
/- The journal: Append. -/
set_option linter.unusedSimpArgs false
set_option linter.unusedVariables false
set_option maxRecDepth 4000
namespace Go.Proofs.YtbojglaimdjagaaGreatDoor
open Go Go.V Go.RowKit
theorem t_mf {S : World → Prop} {K : Value → Prop} {w : World} {fn : Fn} {a b : Array Value} : takeW Tryz.prog S (Instr.makeFunc fn a b) K w = K (.func fn a b) := takeW_pure fun w => by simp [Instr.makeFunc]
theorem StJ.same {B : Nat} {w w' : World} {b jb : Nat} {D : DK} {dv vv pv rv : Value} {t : TP} {br : Bool} (hd : DiskR B w b D dv vv pv) (hj : TapeR B w jb 74 [.pointer (some ⟨b, 0, none⟩), .bool br] rv t) (hBw : B ≤ w.heap.size) (hb : Below w.heap.size w w') : StJ B w w' b jb D dv vv pv rv t br :=
  ⟨pv, rv, hd.below hb, hj.below hb, Off.below hb, hb.mono hBw, fun _ h => .inl h, fun _ h => .inl h⟩
section
variable {k : Value → World → Prop} {w : World}
set_option maxHeartbeats 1000000 in
theorem c10 {B b jb n : Nat} {D : DK} {dv vv pv rv lv : Value} {t : TP} {br : Bool} {l : List ByteArray} (hg : Gl w) (hB : 3 < B) (hBw : B ≤ w.heap.size) (hd : DiskR B w b D dv vv pv) (hok : DOk n D) (hpl : D.pend.length ≤ 100000)
    (hj : TapeR B w jb 74 [.pointer (some ⟨b, 0, none⟩), .bool br] rv t) (ht : TOk n t) (hl : IsSl fT w lv l) (hll : l.length ≤ 100)
    (hk : ∀ w', StJ B w w' b jb (apJ n D t br l).2.1 dv vv pv rv (apJ n D t br l).2.2.1 (apJ n D t br l).2.2.2 → k (I (apJ n D t br l).1) w') : callW Tryz.prog (.func (.func 10) #[] #[]) #[.pointer (some ⟨jb, 0, none⟩), lv] k w := C10 _ _ _ _ (by
  unfold S10
  have hml : 1000000000 ≤ maxLen := by decide
  obtain ⟨hn1, hn2, -, -, -⟩ := id hok
  obtain ⟨ht1, ht2, ht3⟩ := id ht
  rw [eqP28, condW_false]
  simp only [nilW_ptr]
  rw [fl74_2, ld4 (hj.row.cell (i := 0 + 4) rfl)]
  have hk1 : (br = true ∨ ∃ s ∈ l, 65536 < s.size) → k (I 340) w := fun h => by
    have := hk w
    unfold apJ at this
    rw [if_pos h] at this
    exact this (StJ.same hd hj hBw (Below.refl _ _))
  cases hbr : br with
  | true =>
    simp only [guardW_tf, guardW_u, pickW_true]
    rw [condW_true]
    exact hk1 (.inl hbr)
  | false =>
  subst hbr
  simp only [guardW_ff, pickW_false]
  refine c35 hl (by omega) ?_
  by_cases hlong : ∃ s ∈ l, 65536 < s.size
  · rw [decide_eq_true hlong, condW_true]
    exact hk1 (.inr hlong)
  rw [decide_eq_false hlong, condW_false]
  have hsm : ∀ s ∈ l, s.size ≤ 65536 := fun s hs => by
    rcases Nat.lt_or_ge 65536 s.size with h | h
    · exact absurd ⟨s, hs, h⟩ hlong
    · exact h
  have hbig := stL_len l t.head hsm
  have hgs := grpB_size t l
  rw [fl74_0, ld72 (vs := [rv, .string t.head, I t.size]) rfl (fun j u hu => by
    match j, hu with
    | 0, hu => cases hu; exact hj.row.cell (i := 0) rfl
    | 1, hu => cases hu; exact hj.row.cell (i := 1) rfl
    | 2, hu => cases hu; exact hj.row.cell (i := 2) rfl)]
  refine al72 fun w1 hb1 hs1 hr1 => ?_
  obtain ⟨nb, hnb⟩ : ∃ b, w.heap.size = b := ⟨_, rfl⟩
  rw [hnb] at hr1 hs1 ⊢
  have hov : rv.oneCell' = true := by obtain ⟨a9, c9, rfl, -⟩ := hj.recs.sl; rfl
  refine w_storeRow (vs := [rv, .string t.head, I t.size]) hr1 rfl (by intro v hv; simp at hv; rcases hv with rfl | rfl | rfl <;> first | exact hov | rfl) (by rw [size72]; rfl) known72 fun w2 ho2 hr2 => ?_
  have hb2 : Below w.heap.size w w2 := hb1.trans (ho2.rest _ (by omega))
  rw [fl72_0, ld22 (hr2.cell (i := 0) rfl)]
  have hs2 := ho2.size
  refine c36 (hj.recs.below hb2).sl (by omega) fun rv3 w3 hb3 hm3 => ?_
  have hr3 := hr2.below hb3
  have hov3 : rv3.oneCell' = true := by obtain ⟨a9, c9, rfl, -⟩ := hm3.sl; rfl
  rw [fl72_0, st22 hov3 (hr3.cell (i := 0) rfl) (hr3.free _)]
  have ho4 : Off (fun x => x = nb) w3 (w3.setCell ⟨nb, 0, none⟩ rv3) := Off.set (p := fun x => x = nb) rfl
  have hr4 := hr3.set 0 rv3
  have hb4 : Below nb w3 (w3.setCell ⟨nb, 0, none⟩ rv3) := (Below.refl nb w3).setCell (p := ⟨nb, 0, none⟩) (Nat.le_refl nb) rv3
  have hm4 := hm3.apart ho4 (apRow hr3 (by decide))
  have hb04 : Below w.heap.size w (w3.setCell ⟨nb, 0, none⟩ rv3) := (below_trans hb2 hb3).trans (hnb ▸ hb4)
  generalize w3.setCell ⟨nb, 0, none⟩ rv3 = w4 at *
  have hnb2 : nb ≤ w2.heap.size := by omega
  have ht4 : TapeR nb w4 nb 72 [] rv3 t := ⟨hr4, Nat.le_refl _, by decide, hm4.base hnb2⟩
  refine al78 fun w5 hb5 hs5 hr5 => ?_
  obtain ⟨ob, hob⟩ : ∃ b, w4.heap.size = b := ⟨_, rfl⟩
  rw [hob] at hr5 hs5 ⊢
  have hnob : nb < ob := by have := hr4.lt; omega
  have ht5 := ht4.below hb5
  have hb05 := below_trans hb04 hb5
  have hl5 := hl.below hb05
  rw [len22 hl5]
  refine Loop1.intro (fun m a w' => ∃ (i : Nat) (rvi : Value), a = I i ∧ m = l.length - i ∧ i ≤ l.length ∧ TapeR nb w' nb 72 [] rvi ((l.take i).foldl addT t) ∧ BuR w' ob (stL t.head (l.take i)) ∧ Below nb w w') _ ⟨0, rv3, rfl, rfl, Nat.zero_le _, ht5, BuR.new hr5, hnb ▸ hb05⟩ ?_
  rintro m _ w6 ⟨i, rvi, rfl, rfl, hi, ht6, hbu6, hb06⟩
  have hl6 := hl.below (hnb ▸ hb06)
  rw [w_lss]
  by_cases hlt : i < l.length
  · rw [decide_eq_true (by omega), condW_true]
    have hx : l[((i : Int)).toNat]? = some l[i] := by rw [Int.toNat_natCast]; exact List.getElem?_eq_getElem hlt
    refine ix22 hl6 rfl (by omega) hx fun b0 o0 hc0 => ?_
    rw [ld9 (show w6.cell? ⟨b0, o0, none⟩ = some (.string l[i]) from hc0 0 _ rfl)]
    obtain ⟨fo1, fo2⟩ := foldl_ok (l.take i) t ht1 ht3
    obtain ⟨fa1, fa2⟩ := foldl_addT (l.take i) t
    have hbi := stL_len (l.take i) t.head fun s hs => hsm s (List.mem_of_mem_take hs)
    rw [List.length_take] at hbi
    have hmul : min i l.length * 200000 ≤ 100 * 200000 := Nat.mul_le_mul_right _ (by omega)
    refine c38 (hg.below hb06 (by omega)) ht6 (by omega) fo1 (hsm _ (List.getElem_mem hlt)) (by omega) (by omega) fun w7 rv7 ht7 ho7 hb7 hu7 => ?_
    have hq : ∀ x, (x = nb ∨ isOf rvi x) → x ≠ ob ∧ ∀ c fz, w6.heap[x]? ≠ some (.cells c 5 fz) := by
      rintro x (rfl | hx)
      · refine ⟨by omega, fun c fz hc => ?_⟩
        have := ht6.row
        unfold RowAt at this
        rw [hc] at this
        simp at this
      · obtain ⟨cur, hcur⟩ := Mine.tag ht6.recs hx
        refine ⟨fun hh => ?_, fun c fz hc => ?_⟩
        · obtain ⟨p, _, v, hb2, _⟩ := BuR.at_ hbu6
          rw [hh, hb2] at hcur
          simp at hcur
        · rw [hc] at hcur
          simp at hcur
    have hbu7 := BuR.off hbu6 ho7 hq
    have hrec := recB_size ((l.take i).foldl addT t).head l[i]
    have hl2 := (vb_len (2 * l[i].size)).2
    have hl3 := hsm _ (List.getElem_mem hlt)
    refine c37 hbu7 (by omega) fun r8 w8 hbu8 hb8 ho8 => ?_
    have ht8 := ht7.off ho8 (fun x hx => by
      rcases hx with rfl | hx
      · exact row_bu hbu7 ht7.row (by decide)
      · exact tag_bu hbu7 (Mine.tag ht7.recs hx) (by decide))
    rw [w_add, wrap_id (by omega), loopK_self]
    refine ⟨l.length - (i + 1), by omega, i + 1, rv7, by simp [I], rfl, by omega, ?_, ?_, hb06.trans (hb7.trans (hb8.mono (by omega)))⟩
    · have e1 : l.take (i + 1) = l.take i ++ [l[i]] := by
        rw [List.take_add_one, List.getElem?_eq_getElem hlt]; rfl
      rw [e1, List.foldl_append]
      exact ht8
    · have e1 : l.take (i + 1) = l.take i ++ [l[i]] := by
        rw [List.take_add_one, List.getElem?_eq_getElem hlt]; rfl
      rw [e1, stL_append, ← foldl_head (l.take i) t]
      have : stL ((l.take i).foldl addT t).head [l[i]] = (recB ((l.take i).foldl addT t).head l[i]).data.toList := by simp [stL]
      rw [this]
      exact hbu8
  rw [decide_eq_false (by omega), condW_false]
  have hil : i = l.length := by omega
  subst hil
  rw [List.take_length] at ht6 hbu6
  refine c39 hbu6 fun w7 hb7 ho7 => ?_
  have ht7 := ht6.off ho7 (fun x hx => by
    rcases hx with rfl | hx
    · exact row_bu hbu6 ht6.row (by decide)
    · exact tag_bu hbu6 (Mine.tag ht6.recs hx) (by decide))
  have hb07 : Below w.heap.size w w7 := (hnb ▸ hb06).trans (hb7.mono (by omega))
  clear ho7 hb7 hb06
  rw [show (⟨(stL t.head l).toArray⟩ : ByteArray) = grpB t l from rfl, w_lenStr (by kernel_rfl)]
  refine c20 (n := n) (hd.below hb07) hok.dur hn2 (hj.below hb07) (by omega) fun w8 hb8 => ?_
  have hb08 := below_trans hb07 hb8
  have ht8 := ht7.below hb8
  clear ht7
  rw [w_gtr]
  have hnl : ¬ (false = true ∨ ∃ s ∈ l, 65536 < s.size) := fun h => h.elim (fun h => by cases h) hlong
  by_cases hfull : n < t.size + (grpB t l).size
  · rw [decide_eq_true (by omega), condW_true]
    have := hk w8
    unfold apJ at this
    rw [if_neg hnl, if_pos hfull] at this
    exact this (StJ.same hd hj hBw hb08)
  rw [decide_eq_false (by omega), condW_false, w_eqlStr (by kernel_rfl)]
  by_cases hnil : l = []
  · have e0 : grpB t l = ⟨#[]⟩ := by subst hnil; rfl
    rw [decide_eq_true e0, condW_true]
    have := hk w8
    unfold apJ at this
    rw [if_neg hnl, if_neg hfull, if_pos hnil] at this
    exact this (StJ.same hd hj hBw hb08)
  have hpos : 33 ≤ (grpB t l).size := by
    rw [hgs]
    obtain ⟨r, l', rfl⟩ := List.exists_cons_of_ne_nil hnil
    simp only [stL, List.length_append, ba_len, recB_size]
    omega
  rw [decide_eq_false (fun h => by rw [h] at hpos; exact absurd hpos (by decide)), condW_false, drewW_eq]
  have hb09 := below_trans hb08 (below_drew w8)
  have ht9 := ht8.below (below_drew w8)
  clear ht8
  generalize w8.drew = w9 at *
  have hd9 := hd.below hb09
  have hj9 := hj.below hb09
  have ho9 : Off (dBl b dv vv pv) w9 w9 := Off.refl _ _
  have nj : ¬ dBl b dv vv pv jb := fun hx => by
    obtain ⟨t', h1, h2⟩ := hd9.apart (t := 74) (by decide) jb hx
    exact h2 (Tag.uniq h1 hj9.row.tag)
  refine ⟨Off (dBl b dv vv pv) w9, ho9, ?_⟩
  simp only [nilT_ptr]
  rw [tfl74_0, tfl72_2, r_loadO agg3 known3 (hj9.row.cell (i := 0 + 2) rfl) nj ho9, t_add, wrap_id (by omega), t_tailStr (by kernel_rfl) (by decide) (by omega), tfl74_1, r_loadO agg27 known27 (hj9.row.cell (i := 0 + 3) rfl) nj ho9, t_mf,
    tfl74_0, tfl72_2, r_loadO agg3 known3 (hj9.row.cell (i := 0 + 2) rfl) nj ho9, t_headStr (by kernel_rfl) (by decide) (by omega), tfl74_1, r_loadO agg27 known27 (hj9.row.cell (i := 0 + 3) rfl) nj ho9, t_mf]
  rw [show ((t.size : Int) + 1) = ((t.size + 1 : Nat) : Int) by omega, show ((1 : Int)).toNat = 1 from rfl]
  refine c41 rfl fun ja a sb w10 hb10 hja ha hsb r1 r2 r3 => ?_
  rw [keepS_eq]
  refine ⟨Off.below hb10, ?_⟩
  refine c41 rfl fun ja' a' sb' w11 hb11 hja' ha' hsb' r1' r2' r3' => ?_
  have hb911 := below_trans hb10 hb11
  rw [keepS_eq]
  refine ⟨Off.below hb911, ?_⟩
  refine w_parts (F := fFn) (l := [fnW ja a sb, fnS b, fnW ja' a' sb', fnS b]) sty127 rfl (by decide) (by decide) (by kernel_rfl) rfl fun w12 hb12 _ hm12 => ?_
  have hb912 := below_trans hb911 hb12
  rw [keepS_eq]
  refine ⟨Off.below hb912, ?_⟩
  have hb012 := below_trans hb09 hb912
  have hd12 := hd.below hb012
  have hj12 := hj.below hb012
  have ht12 := ht9.below hb912
  have hin1 : (t.size + 1) + ((grpB t l).extract 1 (grpB t l).size).size ≤ n := by rw [ByteArray.size_extract]; omega
  have hin2 : t.size + ((grpB t l).extract 0 1).size ≤ n := by rw [ByteArray.size_extract]; omega
  refine first4 hd12 hok hin1 hin2 hpl (Nat.le_trans hBw hb012.size) hj12.row ⟨(r1.below hb11).below hb12, (r2.below hb11).below hb12, (r3.below hb11).below hb12⟩ ⟨r1'.below hb12, r2'.below hb12, r3'.below hb12⟩ hm12 fun w13 hst => ?_
  have hjr13 := StR.row hd12 hst hj12.row (by decide)
  have hjm13 := StR.mine hd12 hst hj12.recs (by decide)
  have htr13 := StR.row hd12 hst ht12.row (by decide)
  have htm13 := StR.mine hd12 hst ht12.recs (by decide)
  obtain ⟨pv13, hd13, ho13, hb13, hu13⟩ := hst
  rw [keepS_eq]
  refine ⟨(Off.below hb912).trans ho13, ?_⟩
  have nj13 : ∀ x, dBl b dv vv pv13 x → x ≠ jb := fun x hx hh => by
    obtain ⟨t', h1, h2⟩ := hd13.apart (t := 74) (by decide) x hx
    subst hh
    exact h2 (Tag.uniq h1 hjr13.tag)
  have hpv : ∀ x, isOf pv13 x → isOf pv x ∨ w.heap.size ≤ x := fun x hx => (hu13 x hx).imp (fun h => h) fun h => Nat.le_trans hb012.size h
  have ho013 : Off (fun x => dBl b dv vv pv x ∨ x = jb) w w13 := (Off.below hb012).trans (ho13.mono fun x _ hx => .inl hx)
  have hb013 : Below B w w13 := (hb012.mono hBw).trans hb13
  rw [w_neq]
  by_cases he : (ap4 D (t.size + 1) ((grpB t l).extract 1 (grpB t l).size) t.size ((grpB t l).extract 0 1)).1 = 0
  case' neg =>
    rw [decide_eq_false he, Bool.not_false, condW_true]
    rw [fl74_2, st4 rfl (hjr13.cell (i := 0 + 4) rfl) (hjr13.free _)]
    have hof : Off (fun x => x = jb) w13 (w13.setCell ⟨jb, 0 + 4, none⟩ (.bool true)) := Off.set (p := fun x => x = jb) rfl
    have := hk (w13.setCell ⟨jb, 0 + 4, none⟩ (.bool true))
    unfold apJ at this
    rw [if_neg hnl, if_neg hfull, if_neg hnil, if_neg he] at this
    refine this ⟨pv13, rv, hd13.off hof fun x hx hh => nj13 x hx hh, ⟨hjr13.set (0 + 4) (.bool true), hj.base, by decide, hjm13.apart hof (apRow hjr13 (by decide))⟩, ho013.trans (hof.mono fun x _ hx => .inr hx), hb013.trans ((Below.refl _ _).setCell hj.base _), hpv, fun x hx => .inl hx⟩
  rw [decide_eq_true he, Bool.not_true, condW_false]
  rw [ld72 (vs := [rvi, .string (l.foldl addT t).head, I (l.foldl addT t).size]) rfl htr13.cells]
  rw [fl74_0]
  have hov7 : rvi.oneCell' = true := by obtain ⟨a9, c9, rfl, -⟩ := htm13.sl; rfl
  refine w_storeTape hjr13 hov7 rfl rfl fun w14 hr14 ho14 hb14 => ?_
  have := hk w14
  unfold apJ at this
  rw [if_neg hnl, if_neg hfull, if_neg hnil, if_pos he] at this
  refine this ⟨pv13, rvi, hd13.off ho14 fun x hx hh => nj13 x hx hh, ⟨hr14, hj.base, by decide, ?_⟩, ho013.trans (ho14.mono fun x _ hx => .inr hx), hb013.trans (hb14 B hj.base), hpv, fun x hx => ?_⟩
  · exact (htm13.apart ho14 (apRow hjr13 (by decide))).base (by omega)
  · exact .inr (by have := (htm13.ge hx).1; omega))
end
end Go.Proofs.YtbojglaimdjagaaGreatDoor
