/- Contracts of package sched's functions, eighth part: Trace and Finish. -/
import Derived.Test.YtidnjppalebbfaaA10
set_option linter.unusedSimpArgs false
set_option linter.unusedVariables false
namespace Go.V
open Go Go.RowKit
theorem run_loadVar {P : Program} {w : World} {t : TypeId} {a : Addr} {v : Value} (h : isAggT P t = false) (hk : known P t = true) (hc : w.cell? a = some v) : (loadVar t a).run P w = .ok v w := by
  simp only [known, Bool.and_eq_true] at hk
  cases hu : P.underlying t with
  | none => rw [hu] at hk; simp at hk
  | some d =>
    have : (isAgg t).run P w = .ok false w := by
      simp only [isAgg, Sem.run_bind, Result.andThen, run_underlying hu]
      unfold isAggT at h
      rw [hu] at h
      cases d <;> first | rfl | (simp at h)
    simp [loadVar, Sem.run_bind, Result.andThen, this, load, Sem.run, hc]
theorem resCell_eq {P : Program} {w : World} {t : TypeId} {a : Addr} {v : Value} {K : Value → Prop} (h : isAggT P t = false) (hk : known P t = true) (hc : w.cell? a = some v) : resCell P t (.pointer (some a)) K w = K v :=
  propext ⟨fun hh => by have := hh.out; simp only [opW_ok (run_loadVar h hk hc)] at this; exact this.2, fun hh => ⟨by simp only [opW_ok (run_loadVar h hk hc)]; exact ⟨trivial, hh⟩⟩⟩
theorem IsSl.cellsOf {α : Type} {F : Fl α} {w : World} {v : Value} {l : List α} (h : IsSl F w v l) : v.cells = #[v] := by obtain ⟨a, c, rfl, _⟩ := h; rfl
theorem SubS.oneCell {α : Type} {F : Fl α} {w : World} {base e g : Nat} {v : Value} {l : List α} (h : SubS F w base e g v l) : v.oneCell' = true := by obtain ⟨o, cap, cur, rfl, _⟩ := h; rfl
end Go.V
namespace Go.Proofs.Ytidnjppalebbfaa
open Go Go.V Go.RowKit
section
variable {k : Value → World → Prop} {w : World}
theorem s18 {lv av : Value} {l : List Stream} {a : List Arr} (hs : IsSl fS w lv l) (ha : IsSl fA w av a) (hl : l.length ≤ maxLen)
    (hbad : ∀ w', Below w.heap.size w w' → ¬ ProperP l a → k (.tuple #[.slice none 0 0, I 240]) w')
    (hok : ∀ tr v w', Below w.heap.size w w' → ProperP l a → TraceP l a tr → IsSl fI w' v tr → k (.tuple #[v, I 0]) w') : S18 lv av k w := by
  unfold S18
  refine al26 fun w1 hb1 hsz1 hr1 => ?_
  refine c22 (hs.below hb1) (ha.below hb1) hl (fun w2 hb2 hpp => ?_) (fun w2 hb2 hnp => ?_)
  · rw [w_not]
    simp only [Bool.not_true, condW_false]
    have hr2 := hr1.below hb2
    have hb12 := below_trans hb1 hb2
    refine c37 (fun w3 hb3 hsz3 h59 h23 => ?_) hs.cellsOf ha.cellsOf
    have hr3 := hr2.below hb3
    have hb13 := below_trans hb12 hb3
    have hlt2 := hr2.lt
    refine range_ticks (wI := w) (F0 := fun b => b = w.heap.size) (Inv := fun tr F w' => ∃ v g, RowAt w' w.heap.size 26 [v] ∧ ((v = .slice none 0 0 ∧ tr = [] ∧ ∀ b, F b ↔ b = w.heap.size) ∨ (SubS fI w' (w.heap.size + 1) 3 g v tr ∧ ∀ b, F b ↔ b = w.heap.size ∨ b = g)))
      hpp hs ha hb13 h59 h23 ⟨by omega, by omega⟩ ⟨_, 0, hr3, .inl ⟨rfl, rfl, fun b => Iff.rfl⟩⟩ ?_ ?_ ?_ ?_
    · rintro tr F u u' p ⟨v, g, hr, hc⟩ ho hp
      refine ⟨v, g, hr.off ho (hp _ ?_), ?_⟩
      · rcases hc with ⟨_, _, h⟩ | ⟨_, h⟩
        · exact (h _).2 rfl
        · exact (h _).2 (.inl rfl)
      · rcases hc with ⟨h1, h2, h⟩ | ⟨h1, h⟩
        · exact .inl ⟨h1, h2, h⟩
        · exact .inr ⟨h1.off ho (hp _ ((h _).2 (.inr rfl))), h⟩
    · rintro tr F u b ⟨v, g, hr, hc⟩ hb
      have := hr.lt
      rcases hc with ⟨_, _, h⟩ | ⟨h1, h⟩
      · have := (h b).1 hb; omega
      · have := h1.lt
        rcases (h b).1 hb with h | h <;> omega
    · rintro tr i F u d ready o kk ⟨v, g, hr, hc⟩ hbu hleg hlen hrdy hd hwd hFd hkk
      refine ⟨hrdy, ?_⟩
      have hFo : F w.heap.size := by
        rcases hc with ⟨_, _, h⟩ | ⟨_, h⟩
        · exact (h _).2 rfl
        · exact (h _).2 (.inl rfl)
      have hne : w.heap.size ≠ d := fun h => hFd (h ▸ hFo)
      have ho1 : Off (· = d) u (u.putObj d o) := off_putObj rfl
      have hbu1 : Below w.heap.size w (u.putObj d o) := hbu.trans (below_putObj hwd)
      have hr1 := hr.off ho1 hne
      have hq : (v = .slice none 0 0 ∧ tr = []) ∨ SubS fI (u.putObj d o) (w.heap.size + 1) 3 g v tr := by
        rcases hc with ⟨h1, h2, h⟩ | ⟨h1, h⟩
        · exact .inl ⟨h1, h2⟩
        · exact .inr (h1.off ho1 fun hh => hFd (hh ▸ (h _).2 (.inr rfl)))
      show opW Try.prog (Instr.loadAt 26 (.pointer (some ⟨w.heap.size, 0, none⟩))) _ (u.putObj d o)
      generalize u.putObj d o = u1 at *
      refine (ld26 (hr1.cell (i := 0) rfl)).mpr ?_
      show opW Try.prog (Instr.buildSlice 26 1 #[(0, I i)]) _ u1
      rw [w_one (v := I i) sty26 rfl (by omega)]
      have hb2 := below_alloc u1 (.cells (I i).cells 3 (0, 0))
      have hq2 : (v = .slice none 0 0 ∧ tr = []) ∨ SubS fI (u1.alloc (.cells (I i).cells 3 (0, 0))) (w.heap.size + 1) 3 g v tr := hq.imp id fun h => h.same (hb2.block _ h.lt.2)
      have hr2 := hr1.below hb2
      have hsrc : (u1.alloc (.cells (I i).cells 3 (0, 0))).cell? ⟨u1.heap.size, 0, none⟩ = some (I i) := by rw [World.cell?_alloc_new]; rfl
      have hbu2 := hbu1.trans (hb2.mono hbu1.size)
      have hof2 : Off F u1 (u1.alloc (.cells (I i).cells 3 (0, 0))) := Off.below hb2
      have hsz2 : u1.heap.size + 1 = (u1.alloc (.cells (I i).cells 3 (0, 0))).heap.size := by simp
      generalize u1.alloc (.cells (I i).cells 3 (0, 0)) = u2 at *
      have hlt2 := hr1.lt
      refine w_append1 (F := fI) (base := w.heap.size + 1) (u := I i) sty26 rfl rfl rfl hsrc hq2 (by unfold maxLen; omega) (by omega) (by omega) fun v' g' u3 hS hu3 => ?_
      have hSl := hS.lt
      have hgo : w.heap.size ≠ g' := by omega
      have h3 : RowAt u3 w.heap.size 26 [v] ∧ Off F u2 u3 ∧ Below w.heap.size w u3 ∧ (F g' ∨ u2.heap.size ≤ g') := by
        rcases hu3 with ⟨hS0, _, rfl, hon⟩ | ⟨hge, hb⟩
        · have hFg : F g' := by
            rcases hc with ⟨h1, h2, h⟩ | ⟨h1, h⟩
            · obtain ⟨o, cap, cur, hh, _⟩ := hS0
              rw [h1] at hh; cases hh
            · obtain ⟨o, cap, cur, hh, _⟩ := hS0
              obtain ⟨o2, cap2, cur2, hh2, _⟩ := h1
              rw [hh2] at hh; cases hh; exact (h _).2 (.inr rfl)
          exact ⟨hr2.off (Off.only hon (p := (· = g')) rfl) hgo, Off.only hon hFg, hbu2.trans (hon.rest _ (by omega)), .inl hFg⟩
        · exact ⟨hr2.below hb, Off.below hb, hbu2.trans (hb.mono hbu2.size), .inr hge⟩
      obtain ⟨hr3, hof3, hbu3, hFg⟩ := h3
      refine (st26 hS.oneCell (hr3.cell (i := 0) rfl) (hr3.free 0)).mpr ?_
      have hoff4 : Off (· = w.heap.size) u3 (u3.setCell ⟨w.heap.size, 0, none⟩ v') := Off.set rfl
      refine hkk (fun b => b = w.heap.size ∨ b = g') _ (hbu3.setCell (Nat.le_refl _) _) ((hof2.trans hof3).trans (hoff4.mono fun b _ h => h ▸ hFo)) (fun b hb => ?_) ⟨v', g', hr3.set 0 v', .inr ⟨hS.off hoff4 (Ne.symm hgo), fun b => Iff.rfl⟩⟩
      rcases hb with h | h
      · exact .inl (h ▸ hFo)
      · rcases hFg with h' | h'
        · exact .inl (h ▸ h')
        · have := ho1.size; exact .inr (by omega)
    · rintro tr F u d htr hbu ⟨v, g, hr, hc⟩ hd hdw hFd hdef
      have hFo : F w.heap.size := by
        rcases hc with ⟨_, _, h⟩ | ⟨_, h⟩
        · exact (h _).2 rfl
        · exact (h _).2 (.inl rfl)
      have hne : w.heap.size ≠ d := fun h => hFd (h ▸ hFo)
      have hv : v.oneCell' = true := by
        rcases hc with ⟨rfl, _⟩ | ⟨h, _⟩
        · rfl
        · exact h.oneCell
      rw [jumpW_none]
      refine (ld26 (hr.cell (i := 0) rfl)).mpr ?_
      refine (st26 hv (hr.cell (i := 0) rfl) (hr.free 0)).mpr ?_
      have ho1 : Off (· = w.heap.size) u (u.setCell ⟨w.heap.size, 0, none⟩ v) := Off.set rfl
      have hr1 := hr.set 0 v
      have hbu1 : Below w.heap.size w (u.setCell ⟨w.heap.size, 0, none⟩ v) := hbu.setCell (Nat.le_refl _) _
      have hd1 : (u.setCell ⟨w.heap.size, 0, none⟩ v).heap[d]? = some (.deferred (some [])) := by rw [ho1.block d hd (fun h => hne h.symm)]; exact hdef
      refine ⟨hd1, ?_⟩
      have ho2 : Off (· = d) (u.setCell ⟨w.heap.size, 0, none⟩ v) ((u.setCell ⟨w.heap.size, 0, none⟩ v).putObj d (.deferred none)) := off_putObj rfl
      have hlt := (Array.getElem?_eq_some_iff.1 hd1).1
      generalize u.setCell ⟨w.heap.size, 0, none⟩ v = u1 at *
      have hr2 : RowAt (u1.putObj d (.deferred none)) w.heap.size 26 ([v].set 0 v) := hr1.off ho2 hne
      show resCell Try.prog 26 (.pointer (some ⟨w.heap.size, 0, none⟩)) _ (u1.putObj d (.deferred none))
      rw [resCell_eq agg26 known26 (hr2.cell (i := 0) (u := v) rfl)]
      refine hok tr v _ (hbu1.trans (below_putObj hdw)) hpp htr ?_
      rcases hc with ⟨rfl, rfl, _⟩ | ⟨h, h'⟩
      · exact .nil _
      · have hgo : g ≠ w.heap.size := by have := h.lt; omega
        exact ((h.off ho1 hgo).off ho2 fun hh => hFd (hh ▸ (h' _).2 (.inr rfl))).sl
  · rw [w_not]
    simp only [Bool.not_false, condW_true]
    have hr2 := hr1.below hb2
    refine (st26 rfl (hr2.cell (i := 0) rfl) (hr2.free 0)).mpr ?_
    rw [resCell_eq agg26 known26 ((hr2.set 0 _).cell (i := 0) (u := .slice none 0 0) rfl)]
    exact hbad _ ((below_trans hb1 hb2).setCell (Nat.le_refl _) _) hnp
/-- when arrivals are finished, out of the trace -/
def finOf (n : Nat) (tr : List Int) : List Int := tr.zipIdx.foldl (fun out p => if 0 ≤ p.1 then out.set p.1.toNat ((p.2 : Int) + 1) else out) (List.replicate n 0)
theorem finOf_snoc (n : Nat) (tr : List Int) (i : Int) : finOf n (tr ++ [i]) = if 0 ≤ i then (finOf n tr).set i.toNat ((tr.length : Int) + 1) else finOf n tr := by
  simp [finOf, List.zipIdx_append]
theorem finOf_length (n : Nat) (tr : List Int) : (finOf n tr).length = n := by
  have : ∀ (ps : List (Int × Nat)) (out : List Int), (ps.foldl (fun out p => if 0 ≤ p.1 then out.set p.1.toNat ((p.2 : Int) + 1) else out) out).length = out.length := by
    intro ps
    induction ps with
    | nil => intro out; rfl
    | cons p ps ih => intro out; rw [List.foldl_cons, ih]; split <;> simp
  rw [finOf, this]; simp
theorem s20 {lv av : Value} {l : List Stream} {a : List Arr} (hs : IsSl fS w lv l) (ha : IsSl fA w av a) (hl : l.length ≤ maxLen)
    (hbad : ∀ w', Below w.heap.size w w' → ¬ ProperP l a → k (.tuple #[.slice none 0 0, I 240]) w')
    (hok : ∀ tr v w', Below w.heap.size w w' → ProperP l a → TraceP l a tr → IsSl fI w' v (finOf a.length tr) → k (.tuple #[v, I 0]) w') : S20 lv av k w := by
  unfold S20
  refine c22 hs ha hl (fun w2 hb2 hpp => ?_) (fun w2 hb2 hnp => ?_)
  · rw [w_not]
    simp only [Bool.not_true, condW_false]
    have hn := hpp.len
    refine (len23 (ha.below hb2)).mpr ?_
    refine w_make (base := w2.heap.size) sty26 (by omega) (by unfold maxLen; omega) (Nat.le_refl _) fun w3 ho3 hg3 => ?_
    have ho3 := OwnS.zeros ho3
    have hb3 : Below w2.heap.size w2 w3 := below_grown (B := w2.heap.size) (Below.refl _ _) (Nat.le_refl _) hg3 (by simp)
    have hg2 := hb2.size
    have hgl := ho3.ge.2
    generalize hg : w2.heap.size = g at *
    refine al26 fun w4 hb4 hsz4 hr4 => ?_
    have hne : w3.heap.size ≠ g := by omega
    refine (st26 rfl (hr4.cell (i := 0) rfl) (hr4.free 0)).mpr ?_
    have ho4 := (ho3.below hb4).same (w' := w4.setCell ⟨w3.heap.size, 0, none⟩ (.slice (some ⟨g, 0, none⟩) a.length a.length)) (Below.heap_setCell _ _ _ _ (Ne.symm hne))
    have hr5 := hr4.set 0 (.slice (some ⟨g, 0, none⟩) a.length a.length)
    have hb5 : Below w.heap.size w (w4.setCell ⟨w3.heap.size, 0, none⟩ (.slice (some ⟨g, 0, none⟩) a.length a.length)) := ((hb2.trans (hb3.mono hg2)).trans (hb4.mono (by omega))).setCell (by show w.heap.size ≤ w3.heap.size; omega) _
    have hsz5 : (w4.setCell ⟨w3.heap.size, 0, none⟩ (.slice (some ⟨g, 0, none⟩) a.length a.length)).heap.size = w3.heap.size + 1 := by simp [hsz4]
    generalize w4.setCell ⟨w3.heap.size, 0, none⟩ (.slice (some ⟨g, 0, none⟩) a.length a.length) = w5 at *
    generalize hbo : w3.heap.size = bo at *
    refine c37 (fun w6 hb6 hsz6 h59 h23 => ?_) hs.cellsOf ha.cellsOf
    have hr6 : RowAt w6 bo 26 [.slice (some ⟨g, 0, none⟩) a.length a.length] := hr5.below hb6
    have ho6 := ho4.below hb6
    refine range_ticks (wI := w) (F0 := fun b => b = bo ∨ b = g) (Inv := fun tr F w' => RowAt w' bo 26 [.slice (some ⟨g, 0, none⟩) a.length a.length] ∧ OwnS fI w' g 3 g a.length (finOf a.length tr) ∧ ∀ b, F b ↔ b = bo ∨ b = g)
      hpp hs ha (hb5.trans (hb6.mono hb5.size)) h59 h23 ⟨by omega, by omega⟩ ⟨hr6, by simpa [finOf] using ho6, fun b => Iff.rfl⟩ ?_ ?_ ?_ ?_
    · rintro tr F u u' p ⟨hr, ho, h⟩ hof hp
      exact ⟨hr.off hof (hp _ ((h _).2 (.inl rfl))), ho.off hof (hp _ ((h _).2 (.inr rfl))), h⟩
    · rintro tr F u b ⟨hr, ho, h⟩ hb
      have h1 := hr.lt
      have h2 := ho.ge.2
      rcases (h b).1 hb with h | h <;> omega
    · rintro tr i F u d ready o kk ⟨hr, ho, h⟩ hbu hleg hlen hrdy hd hwd hFd hkk
      refine ⟨hrdy, ?_⟩
      have hd1 : bo ≠ d := fun hh => hFd ((h d).2 (.inl hh.symm))
      have hd2 : g ≠ d := fun hh => hFd ((h d).2 (.inr hh.symm))
      have ho1 : Off (· = d) u (u.putObj d o) := off_putObj rfl
      have hbu1 : Below w.heap.size w (u.putObj d o) := hbu.trans (below_putObj hwd)
      have hr1 := hr.off ho1 hd1
      have hq1 := ho.off ho1 hd2
      show joinW _ _
      rw [joinW_eq]
      show opW Try.prog (binS .geq 3 _ _ (I i) (I 0)) _ (u.putObj d o)
      generalize u.putObj d o = u1 at *
      rw [w_geq]
      by_cases hi : 0 ≤ i
      · rw [decide_eq_true hi, condW_true]
        refine (ld26 (hr1.cell (i := 0) rfl)).mpr ?_
        show opW Try.prog (binS .add 3 _ _ (I tr.length) (I 1)) _ u1
        rw [w_add, wrap_id (by omega)]
        obtain ⟨j, rfl⟩ : ∃ j : Nat, i = j := ⟨i.toNat, by omega⟩
        have hj : j < a.length := by omega
        show opW Try.prog (Instr.indexAt 26 _ (I j)) _ u1
        rw [ixz26 hj]
        have hjl : j < (finOf a.length tr).length := by rw [finOf_length]; exact hj
        obtain ⟨ho2, hg2', old, hold⟩ := hq1.store rfl (List.getElem?_eq_getElem hjl) (y := (tr.length : Int) + 1) (u := I ((tr.length : Int) + 1)) rfl
        refine (st3 rfl hold (hq1.free j)).mpr ?_
        have hof2 : Off (· = g) u1 (u1.setCell ⟨g, j, none⟩ (I ((tr.length : Int) + 1))) := Off.set rfl
        refine hkk F _ (hbu1.setCell (by show w.heap.size ≤ g; omega) _) (hof2.mono fun b _ hb => (h b).2 (.inr hb)) (fun b hb => .inl hb) ⟨hr1.off hof2 (by omega), ?_, h⟩
        rw [finOf_snoc, if_pos hi]; exact ho2
      · rw [decide_eq_false hi, condW_false]
        refine hkk F _ hbu1 (Off.refl _ _) (fun b hb => .inl hb) ⟨hr1, ?_, h⟩
        rw [finOf_snoc, if_neg hi]; exact hq1
    · rintro tr F u d htr hbu ⟨hr, ho, h⟩ hd hdw hFd hdef
      have hd2 : g ≠ d := fun hh => hFd ((h d).2 (.inr hh.symm))
      rw [jumpW_none]
      refine (ld26 (hr.cell (i := 0) rfl)).mpr ?_
      refine ⟨hdef, ?_⟩
      have ho2 : Off (· = d) u (u.putObj d (.deferred none)) := off_putObj rfl
      have hsl := (ho.off ho2 hd2).sl
      rw [finOf_length] at hsl
      exact hok tr (.slice (some ⟨g, 0, none⟩) a.length a.length) _ (hbu.trans (below_putObj (o := .deferred none) hdw)) hpp htr hsl
  · rw [w_not]
    simp only [Bool.not_false, condW_true]
    exact hbad _ hb2 hnp
theorem c18 {lv av : Value} {l : List Stream} {a : List Arr} (hs : IsSl fS w lv l) (ha : IsSl fA w av a) (hl : l.length ≤ maxLen)
    (hbad : ∀ w', Below w.heap.size w w' → ¬ ProperP l a → k (.tuple #[.slice none 0 0, I 240]) w')
    (hok : ∀ tr v w', Below w.heap.size w w' → ProperP l a → TraceP l a tr → IsSl fI w' v tr → k (.tuple #[v, I 0]) w') : callW Try.prog (.func (.func 18) #[] #[]) #[lv, av] k w := C18 _ _ _ _ (s18 hs ha hl hbad hok)
theorem c20 {lv av : Value} {l : List Stream} {a : List Arr} (hs : IsSl fS w lv l) (ha : IsSl fA w av a) (hl : l.length ≤ maxLen)
    (hbad : ∀ w', Below w.heap.size w w' → ¬ ProperP l a → k (.tuple #[.slice none 0 0, I 240]) w')
    (hok : ∀ tr v w', Below w.heap.size w w' → ProperP l a → TraceP l a tr → IsSl fI w' v (finOf a.length tr) → k (.tuple #[v, I 0]) w') : callW Try.prog (.func (.func 20) #[] #[]) #[lv, av] k w := C20 _ _ _ _ (s20 hs ha hl hbad hok)
end
end Go.Proofs.Ytidnjppalebbfaa
