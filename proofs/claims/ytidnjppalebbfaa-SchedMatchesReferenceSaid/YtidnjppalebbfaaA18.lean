/- The streams that integers determine: the walk. -/
import Derived.Test.YtidnjppalebbfaaA17
import Derived.Test.YtidnjppalebbfaaVq
set_option linter.unusedSimpArgs false
set_option linter.unusedVariables false
namespace Go.Proofs.Ytidnjppalebbfaa
open Go Go.V Go.RowKit
def fT3 : Fl (Int × Int × Int) := ⟨3, fun x => [I x.1, I x.2.1, I x.2.2], fun _ => rfl⟩
def fT2 : Fl (Int × Int) := ⟨2, fun x => [I x.1, I x.2], fun _ => rfl⟩
section
variable {k : Value → World → Prop} {w : World}
theorem u56 : Try.prog.underlying 56 = some (.array 3 3) := by kernel_rfl
theorem u57 : Try.prog.underlying 57 = some (.array 2 3) := by kernel_rfl
theorem tar56 {S : World → Prop} {K : Value → Prop} {b o : Nat} {i : Int} (h0 : 0 ≤ i) (h1 : i < 3) : takeW Try.prog S (Instr.indexAt 56 (.pointer (some ⟨b, o, none⟩)) (I i)) K w = K (.pointer (some ⟨b, o + i.toNat, none⟩)) :=
  takeW_pure fun w => by rw [run_indexArr u56 known3 h0 (by omega) w, size3, Nat.mul_one]
theorem tar57 {S : World → Prop} {K : Value → Prop} {b o : Nat} {i : Int} (h0 : 0 ≤ i) (h1 : i < 2) : takeW Try.prog S (Instr.indexAt 57 (.pointer (some ⟨b, o, none⟩)) (I i)) K w = K (.pointer (some ⟨b, o + i.toNat, none⟩)) :=
  takeW_pure fun w => by rw [run_indexArr u57 known3 h0 (by omega) w, size3, Nat.mul_one]
theorem war57 {b o : Nat} {i : Int} (h0 : 0 ≤ i) (h1 : i < 2) : opW Try.prog (Instr.indexAt 57 (.pointer (some ⟨b, o, none⟩)) (I i)) k w = k (.pointer (some ⟨b, o + i.toNat, none⟩)) w :=
  opW_ok (by rw [run_indexArr u57 known3 h0 (by omega) w, size3, Nat.mul_one])
theorem tiw24 {S : World → Prop} {K : Value → Prop} {α : Type} {F : Fl α} {w0 w : World} {v : Value} {l : List α} {i : Int} {x : α} (hs : IsSl F w0 v l) (hz : F.sz = 3) (h0 : 0 ≤ i) (hx : l[i.toNat]? = some x) (hk : ∀ b o, Cells w0 b o (F.e x) → K (.pointer (some ⟨b, o, none⟩))) : takeW Try.prog S (Instr.indexAt 24 v (I i)) K w := by
  obtain ⟨a, c, rfl, hc, hcell⟩ := hs
  obtain ⟨b, o, rfl, hcl⟩ := hcell _ _ hx
  have hlt : i < l.length := by have := (List.getElem?_eq_some_iff.1 hx).1; omega
  rw [takeW_pure fun w' => run_index isl24 (by rw [el24]; exact known56) h0 hlt w', el24, size56, ← hz]
  exact hk b _ hcl
theorem oneS (x : Stream) : ∀ u ∈ fS.e x, u.oneCell' = true := by
  intro u hu
  simp [fS] at hu
  rcases hu with rfl | rfl | rfl <;> rfl
theorem oneA (x : Arr) : ∀ u ∈ fA.e x, u.oneCell' = true := by
  intro u hu
  simp [fA] at hu
  rcases hu with rfl | rfl <;> rfl
theorem one22 {s : Stream} (hk : ∀ w', Below w.heap.size w w' → w'.heap.size = w.heap.size + 1 → OwnS fS w' w.heap.size 34 w.heap.size 1 [s] → k (.slice (some ⟨w.heap.size, 0, none⟩) 1 1) w') : opW Try.prog (Instr.buildSlice 22 1 #[(0, .agg #[I s.cls, I s.size, I s.period])]) k w := by
  rw [w_one sty22 rfl (by decide)]
  exact hk _ (below_alloc _ _) (by simp) (OwnS.one (F := fS) w 34 s (by decide))
theorem one23 {s : Arr} (hk : ∀ w', Below w.heap.size w w' → w'.heap.size = w.heap.size + 1 → OwnS fA w' w.heap.size 31 w.heap.size 1 [s] → k (.slice (some ⟨w.heap.size, 0, none⟩) 1 1) w') : opW Try.prog (Instr.buildSlice 23 1 #[(0, .agg #[I s.stream, I s.at_])]) k w := by
  rw [w_one sty23 rfl (by decide)]
  exact hk _ (below_alloc _ _) (by simp) (OwnS.one (F := fA) w 31 s (by decide))
theorem s10 {v : Value} {xs : List (Int × Int × Int)} (hs : IsSl fT3 w v xs) (hr : ∀ x ∈ xs, inI64 x.1 ∧ inI64 x.2.1 ∧ inI64 x.2.2) (hk : ∀ u l w', Below w.heap.size w w' → IsSl fS w' u l → validS l = true → k u w') : S10 v k w := by
  unfold S10
  rw [b34]
  refine one22 (s := S_ 3 3 40) fun w1 hb1 hsz1 ho1 => ?_
  refine Loop2.intro (fun n a c w' => ∃ (i g cp : Nat) (l : List Stream), a = .slice (some ⟨g, 0, none⟩) l.length cp ∧ c = I i ∧ i ≤ 6 ∧ n = 6 - i ∧ l.length = i + 1 ∧ Below w.heap.size w w' ∧ OwnS fS w' w.heap.size 34 g cp l ∧ ∀ s ∈ l, wrongS s = false) 6
    ⟨0, w.heap.size, 1, [S_ 3 3 40], rfl, rfl, by omega, rfl, rfl, hb1, ho1, by intro s hs; simp at hs; subst hs; decide⟩ ?_
  rintro n _ _ w2 ⟨i, g, cp, l, rfl, rfl, hi, rfl, hll, hb2, ho, hl⟩
  have hs2 := hs.below hb2
  refine (len24 hs2).mpr ?_
  rw [w_lss]
  refine and_lss ?_
  by_cases hgo : i < xs.length ∧ i < 6
  · rw [show (decide ((i : Int) < (xs.length : Int)) && decide ((i : Int) < 6)) = true by simp; omega, condW_true, drewW_eq]
    refine ⟨fun w' => Below w.heap.size w w', hb2.trans (Below.refl _ _).drew, ?_⟩
    obtain ⟨x, hx⟩ : ∃ x, xs[i]? = some x := ⟨xs[i], by simp [hgo.1]⟩
    obtain ⟨r1, r2, r3⟩ := hr x (List.mem_of_getElem? hx)
    have ld : ∀ {K : Value → Prop} {b o : Nat} {u : Value}, w.cell? ⟨b, o, none⟩ = some u → takeW Try.prog (fun w' => Below w.heap.size w w') (Instr.loadAt 3 (.pointer (some ⟨b, o, none⟩))) K w2.drew = K u := fun {K b o u} hc => by
      have hlt := World.block_lt_of_cell? w _ hc
      have e : ∀ w', Below w.heap.size w w' → w'.cell? ⟨b, o, none⟩ = some u := fun w' hw' => (World.cell?_of_block (w := w) (hw'.block b hlt)).trans hc
      have e2 := e w2.drew (hb2.trans (Below.refl _ _).drew)
      exact tld3 (w := w2.drew) e2 (fun w' hw' => (e w' hw').trans e2.symm)
    refine tiw24 (x := x) (F := fT3) hs rfl (by omega) (by simpa using hx) fun b o hc => ?_
    rw [tar56 (by decide) (by decide), show o + Int.toNat 0 = o from rfl, ld (show w.cell? ⟨b, o, none⟩ = some _ from hc 0 _ rfl)]
    refine tiw24 (x := x) (F := fT3) hs rfl (by omega) (by simpa using hx) fun b o hc => ?_
    rw [tar56 (by decide) (by decide), show o + Int.toNat 1 = o + 1 from rfl, ld (show w.cell? ⟨b, o + 1, none⟩ = some _ from hc 1 _ rfl)]
    refine tiw24 (x := x) (F := fT3) hs rfl (by omega) (by simpa using hx) fun b o hc => ?_
    rw [tar56 (by decide) (by decide), show o + Int.toNat 2 = o + 2 from rfl, ld (show w.cell? ⟨b, o + 2, none⟩ = some _ from hc 2 _ rfl)]
    have p1 := pickI_range (c := x.1) (n := 3) (by decide) r1
    have p2 := pickI_range (c := x.2.1) (n := 8) (by decide) r2
    have p3 := pickI_range (c := x.2.2) (n := 60) (by decide) r3
    refine c29 (by decide) ?_
    rw [keepS_eq]
    refine ⟨hb2.trans (Below.refl _ _).drew, ?_⟩
    rw [t_add, wrap_id (by omega)]
    refine c29 (by decide) ?_
    rw [keepS_eq]
    refine ⟨hb2.trans (Below.refl _ _).drew, ?_⟩
    rw [t_add, wrap_id (by omega)]
    refine c29 (by decide) ?_
    rw [keepS_eq]
    refine ⟨hb2.trans (Below.refl _ _).drew, ?_⟩
    rw [t_add, wrap_id (by omega), b34, keepS_eq]
    refine ⟨hb2.trans (Below.refl _ _).drew, ?_⟩
    refine one22 (s := S_ (1 + pickI x.1 3) (1 + pickI x.2.1 8) (5 + pickI x.2.2 60)) fun w3 hb3 hsz3 ho3 => ?_
    rw [keepS_eq]
    have hb23 : Below w2.heap.size w2 w3 := (below_drew w2).trans hb3
    have hb03 := hb2.trans (hb23.mono hb2.size)
    refine ⟨hb03, ?_⟩
    have hlt := ho.ge
    refine w_appendS (F := fS) (l := [S_ (1 + pickI x.1 3) (1 + pickI x.2.1 8) (5 + pickI x.2.2 60)]) (base := w.heap.size) sty22 oneS ho3.sl (by simp) ((ho.below hb23)) (by simp; unfold maxLen; omega) (by simp; omega) hb03.size fun g' c' w4 ho4 hg4 => ?_
    rw [keepS_eq]
    have hb24 : Below w.heap.size w2 w4 := ((hb23.mono hb2.size).grown hg4 hb03.size (fun k hk => by simp [Value.ownBlock] at hk; omega))
    refine ⟨hb2.trans hb24, ?_⟩
    · rw [w_add, wrap_id (by omega), loopK_self]
      refine ⟨6 - (i + 1), by omega, i + 1, g', c', l ++ [S_ (1 + pickI x.1 3) (1 + pickI x.2.1 8) (5 + pickI x.2.2 60)], by simp, by simp [I], by omega, rfl, by simp [hll], hb2.trans hb24, ho4, fun s hs => ?_⟩
      rcases List.mem_append.1 hs with h | h
      · exact hl s h
      · simp at h; subst h
        unfold wrongS
        simp; omega
  · rw [show (decide ((i : Int) < (xs.length : Int)) && decide ((i : Int) < 6)) = false by simp; omega, condW_false]
    refine hk _ l w2 hb2 ho.sl ?_
    unfold validS
    simp only [Bool.and_eq_true, decide_eq_true_eq, Bool.not_eq_true']
    exact ⟨by omega, List.any_eq_false.2 fun s hs => by simp [hl s hs]⟩
end
end Go.Proofs.Ytidnjppalebbfaa
