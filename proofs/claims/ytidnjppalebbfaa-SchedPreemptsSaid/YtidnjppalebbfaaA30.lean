/- Arrivals without some streams: the walk. -/
import Derived.Test.YtidnjppalebbfaaA28
import Derived.Test.YtidnjppalebbfaaA29
set_option linter.unusedSimpArgs false
set_option linter.unusedVariables false
namespace Go.Proofs.Ytidnjppalebbfaa
open Go Go.V Go.RowKit
section
variable {k : Value → World → Prop} {w : World}
theorem u50 : Try.prog.underlying 50 = some (.array 8 4) := by kernel_rfl
theorem war50 {b o : Nat} {i : Int} (h0 : 0 ≤ i) (h1 : i < 8) : opW Try.prog (Instr.indexAt 50 (.pointer (some ⟨b, o, none⟩)) (I i)) k w = k (.pointer (some ⟨b, o + i.toNat, none⟩)) w :=
  opW_ok (by rw [run_indexArr u50 known4 h0 (by omega) w, size4, Nat.mul_one])
theorem push23b {K : Value → World → Prop} {w0 : World} {v : Value} {A : List Arr} {x : Arr} (h : AOwn w w0.heap.size v A) (hb : Below w0.heap.size w0 w) (hl : A.length ≤ 100000) (hk : ∀ v' w', AOwn w' w0.heap.size v' (A ++ [x]) → Below w0.heap.size w0 w' → K v' w') :
    opW Try.prog (Instr.buildSlice 23 1 #[(0, .agg #[I x.stream, I x.at_])]) (fun t93 w => opW Try.prog (Builtin.append_ #[23, 23] 23 #[v, t93]) (fun t94 w => K t94 w) w) w := by
  have := push23 (x := x.stream) (y := x.at_) h hb hl hk
  rwa [b31] at this
theorem c27 {av : Value} {a : List Arr} {gs : List Bool} (hg : gs.length = 8) (ha : IsSl fA w av a) (hr : ∀ x, x ∈ a → 0 ≤ x.stream ∧ x.stream < 8) (hl : a.length ≤ 60)
    (hk : ∀ v w', Below w.heap.size w w' → IsSl fA w' v (a.filter (kept fun s => !(gs.getD s false))) → k v w') : callW Try.prog (.func (.func 27) #[] #[]) #[av, .agg (gs.map Value.bool).toArray] k w := C27 _ _ _ _ (by
  unfold S27
  refine w_boxN fun w1 hb1 hsz1 hr1 => ?_
  have hr1' : RowAt w1 w.heap.size 50 (gs.map Value.bool) := by simpa [Value.cells] using hr1
  refine Loop2.intro (fun n vo vi w' => ∃ i : Nat, vi = I i ∧ i ≤ a.length ∧ n = a.length - i ∧ AOwn w' w1.heap.size vo ((a.take i).filter (kept fun s => !(gs.getD s false))) ∧ Below w1.heap.size w1 w') _ ⟨0, rfl, by omega, rfl, .inl ⟨rfl, by simp⟩, Below.refl _ _⟩ ?_
  rintro n vo _ w2 ⟨i, rfl, hi, rfl, ho, hb2⟩
  have ha2 := (ha.below hb1).below hb2
  refine (len23 ha2).mpr ?_
  rw [w_lss]
  by_cases hlt : i < a.length
  · rw [decide_eq_true (by omega), condW_true]
    have hx : a[i]? = some a[i] := List.getElem?_eq_getElem hlt
    have hxr := hr a[i] (by simp)
    have htk : a.take (i + 1) = a.take i ++ [a[i]] := List.take_succ_eq_append_getElem hlt
    refine joinW_use1 (Pre := fun v w' => AOwn w' w1.heap.size v ((a.take (i + 1)).filter (kept fun s => !(gs.getD s false))) ∧ Below w1.heap.size w1 w') ?_ ?_
    · rintro v w3 ⟨h1, h2⟩
      rw [w_add, wrap_id (by omega), loopK_self]
      exact ⟨a.length - (i + 1), by omega, i + 1, by simp [I], by omega, rfl, h1, h2⟩
    · intro J hJ
      refine getS (x := a[i]) ha2 (by omega) (by rw [show ((i : Int)).toNat = i by omega]; exact hx) ?_
      rw [war50 hxr.1 hxr.2]
      have hr2 := hr1'.below hb2
      have hget : gs[a[i].stream.toNat]? = some (gs.getD a[i].stream.toNat false) := by
        rw [List.getD_eq_getElem?_getD, List.getElem?_eq_getElem (by omega)]; rfl
      have hcell := hr2.cell (i := a[i].stream.toNat) (u := .bool (gs.getD a[i].stream.toNat false)) (by rw [List.getElem?_map, hget]; rfl)
      rw [Nat.zero_add]
      refine (ld4 hcell).mpr ?_
      rw [w_not]
      cases hgv : gs.getD a[i].stream.toNat false with
      | true =>
        rw [Bool.not_true, condW_false]
        refine hJ _ _ ⟨?_, hb2⟩
        rw [htk, List.filter_append, show [a[i]].filter (kept fun s => !(gs.getD s false)) = [] by simp only [List.filter_cons, List.filter_nil, kept, hgv]; rfl, List.append_nil]
        exact ho
      | false =>
        rw [Bool.not_false, condW_true]
        refine ix23 (x := a[i]) (F := fA) ha2 rfl (by omega) (by rw [show ((i : Int)).toNat = i by omega]; exact hx) fun b o hc => ?_
        rw [ld31 (by rfl) hc]
        refine push23b (w0 := w1) (x := a[i]) ho hb2 (by have := List.length_filter_le (kept fun s => !(gs.getD s false)) (a.take i); rw [List.length_take] at this; omega) fun v' w' h1 h2 => ?_
        refine hJ _ _ ⟨?_, h2⟩
        rw [htk, List.filter_append, show [a[i]].filter (kept fun s => !(gs.getD s false)) = [a[i]] by simp only [List.filter_cons, List.filter_nil, kept, hgv]; rfl]
        exact h1
  · rw [decide_eq_false (by omega), condW_false]
    rw [List.take_of_length_le (by omega)] at ho
    exact hk _ _ (below_trans hb1 hb2) ho.sl)
end
end Go.Proofs.Ytidnjppalebbfaa
