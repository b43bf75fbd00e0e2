/- SchedMatchesReference answers true for every input, and the input reads as it did: no condition. -/
import Derived.Test.YtidnjppalebbfaaQ2
import Derived.Test.YtidnjppalebbfaaA36
namespace Go.Proofs.Ytidnjppalebbfaa.schedMatches
open Go.ChangeShapes Go.WideShapes Go.ChangeAt Go.RowKit Go.V
set_option linter.unusedVariables false
set_option maxRecDepth 100000 in
theorem lifted (os : Os) (started : os.Started) (H : Type) (enc : TypeId × Value → H) :
    ReturnsInHanded {} Try.checked os 3 .any (Rows.schedMatchesReferenceSpec.pre6 enc Try.prog Try.f3 Rows.schedMatchesReferenceRow.domain false) (Rows.schedMatchesReferenceSpec.post enc Try.prog Try.f3 false true false false) := by
  refine returnsInHanded_of_change (C := Try.checked) own started (by kernel_rfl) Try.func3
    (ChangeSpec.witness6 (enc := enc) (C := Try.checked) false ⟨#[], #[.slice none 0 0, .slice none 0 0, .slice none 0 0, .slice none 0 0, .int .i64 0, .int .i64 0, .slice none 0 0], []⟩ 8 (by kernel_rfl) (by kernel_rfl) (by kernel_rfl) (by kernel_rfl)) ?_
  intro W base args ds gs before hval0 hW hcnd _
  have hval : ∀ (j : Nat) t v, Try.f3.params[j]? = some t → args[j]? = some v → Value.okWide Try.prog W .any base t v := hval0
  have hW' := hW
  obtain ⟨p, q, hA0, hV, rfl, hfz, hnd⟩ := hW
  have hA : DataW.TrodAll enc Try.prog W 0 (fun _ => true) true Try.f3.params.toList args.toList ds p := hA0
  rw [Try.params3] at hA hval
  obtain ⟨v0, vs0, d0, ds0, p0, q0, hargs, rfl, rfl, h0, r0⟩ := trodAll_cons hA
  obtain ⟨v1, vs1, d1, ds1, p1, q1, rfl, rfl, rfl, h1, r1⟩ := trodAll_cons r0
  obtain ⟨v2, vs2, d2, ds2, p2, q2, rfl, rfl, rfl, h2, r2⟩ := trodAll_cons r1
  obtain ⟨v3, vs3, d3, ds3, p3, q3, rfl, rfl, rfl, h3, r3⟩ := trodAll_cons r2
  obtain ⟨v4, vs4, d4, ds4, p4, q4, rfl, rfl, rfl, h4, r4⟩ := trodAll_cons r3
  obtain ⟨v5, vs5, d5, ds5, p5, q5, rfl, rfl, rfl, h5, r5⟩ := trodAll_cons r4
  obtain ⟨v6, vs6, d6, ds6, p6, q6, rfl, rfl, rfl, h6, r6⟩ := trodAll_cons r5
  obtain ⟨rfl, rfl, rfl⟩ := trodAll_nil r6
  obtain rfl : args = #[v0, v1, v2, v3, v4, v5, v6] := by cases args; simp_all
  obtain ⟨rfl, rfl⟩ := trodVars_none hV
  obtain ⟨a0, len0, cap0, rfl⟩ := okWide_slice und22 (hval 0 22 v0 rfl rfl)
  obtain ⟨a1, len1, cap1, rfl⟩ := okWide_slice und23 (hval 1 23 v1 rfl rfl)
  obtain ⟨a2, len2, cap2, rfl⟩ := okWide_slice und24 (hval 2 24 v2 rfl rfl)
  obtain ⟨a3, len3, cap3, rfl⟩ := okWide_slice und25 (hval 3 25 v3 rfl rfl)
  obtain ⟨a4, rfl, rfl, rfl, wa4⟩ := open_int Try.underlying3 (hval 4 3 v4 rfl rfl) h4
  obtain ⟨a5, rfl, rfl, rfl, wa5⟩ := open_int Try.underlying3 (hval 5 3 v5 rfl rfl) h5
  obtain ⟨a6, len6, cap6, rfl⟩ := okWide_slice Try.underlying26 (hval 6 26 v6 rfl rfl)
  have k0 := h0
  have lt0 : ∀ x ∈ p0, x.block < W.heap.size := by obtain ⟨m, hm⟩ := k0; exact DataW.trod_lt m _ _ _ hm
  have k1 := h1
  have lt1 : ∀ x ∈ p1, x.block < W.heap.size := by obtain ⟨m, hm⟩ := k1; exact DataW.trod_lt m _ _ _ hm
  have k2 := h2
  have lt2 : ∀ x ∈ p2, x.block < W.heap.size := by obtain ⟨m, hm⟩ := k2; exact DataW.trod_lt m _ _ _ hm
  have k3 := h3
  have lt3 : ∀ x ∈ p3, x.block < W.heap.size := by obtain ⟨m, hm⟩ := k3; exact DataW.trod_lt m _ _ _ hm
  have k6 := h6
  have lt6 : ∀ x ∈ p6, x.block < W.heap.size := by obtain ⟨m, hm⟩ := k6; exact DataW.trod_lt m _ _ _ hm
  obtain ⟨l0, s0, n0, b0⟩ : ∃ l : List Stream, IsSl fS W (.slice a0 len0 cap0) l ∧ l.length ≤ maxLen ∧ ∀ z, z ∈ l → True := by
    obtain ⟨fuel, hf⟩ := h0
    exact sl_of_trod und22 cells34 (by decide) elem34 hf
  obtain ⟨l1, s1, n1, b1⟩ : ∃ l : List Arr, IsSl fA W (.slice a1 len1 cap1) l ∧ l.length ≤ maxLen ∧ ∀ z, z ∈ l → True := by
    obtain ⟨fuel, hf⟩ := h1
    exact sl_of_trod und23 cells31 (by decide) elem31 hf
  obtain ⟨l2, s2, n2, b2⟩ : ∃ l : List (Int × Int × Int), IsSl fT3 W (.slice a2 len2 cap2) l ∧ l.length ≤ maxLen ∧ ∀ z, z ∈ l → inI64 z.1 ∧ inI64 z.2.1 ∧ inI64 z.2.2 := by
    obtain ⟨fuel, hf⟩ := h2
    exact sl_of_trod und24 cells56 (by decide) elem56 hf
  obtain ⟨l3, sl3, n3, b3⟩ : ∃ l : List (Int × Int), IsSl fT2 W (.slice a3 len3 cap3) l ∧ l.length ≤ maxLen ∧ ∀ z, z ∈ l → inI64 z.1 ∧ inI64 z.2 := by
    obtain ⟨fuel, hf⟩ := h3
    exact sl_of_trod und25 cells57 (by decide) elem57 hf
  obtain ⟨l6, s6, n6, b6⟩ : ∃ l : List Int, IsSl fI W (.slice a6 len6 cap6) l ∧ l.length ≤ maxLen ∧ ∀ z, z ∈ l → inI64 z := by
    obtain ⟨fuel, hf⟩ := h6
    exact sl_of_trod Try.underlying26 cells3' (by decide) elem3 hf
  clear hA0 hval0
  have walk : Calls Try.prog 3 #[.slice a0 len0 cap0, .slice a1 len1 cap1, .slice a2 len2 cap2, .slice a3 len3 cap3, .int .i64 a4, .int .i64 a5, .slice a6 len6 cap6] W fun e w' => e = .returned (.bool true) ∧ Below W.heap.size W w' :=
    (S3j_calls _ _ _ _ _ _ _ _ W (s3 (k := fun v w' => v = .bool true ∧ Below W.heap.size W w') s0 n0 s1 n1 s2 b2 sl3 b3 (inI64_of_wf wa4) s6 n6 fun w' hb => ⟨rfl, hb⟩)).mono fun e w' h => by
      cases e <;> first | exact h.elim | exact ⟨by rw [h.1], h.2⟩
  refine walk.mono fun e W' ⟨he, bel⟩ => ?_
  subst he
  exact ⟨_, rfl, _, _, _, [], _, [], hW', trodAll_mk1 (shut_bool Try.underlying4 _), (trodAll_cons_mk (Below.trod laidOut (by kernel_rfl) (of_decide_eq_true (by kernel_rfl)) k0 bel lt0) (trodAll_cons_mk (Below.trod laidOut (by kernel_rfl) (of_decide_eq_true (by kernel_rfl)) k1 bel lt1) (trodAll_cons_mk (Below.trod laidOut (by kernel_rfl) (of_decide_eq_true (by kernel_rfl)) k2 bel lt2) (trodAll_cons_mk (Below.trod laidOut (by kernel_rfl) (of_decide_eq_true (by kernel_rfl)) k3 bel lt3) (trodAll_cons_mk (shut_int Try.underlying3 wa4) (trodAll_cons_mk (shut_int Try.underlying3 wa5) (trodAll_cons_mk (Below.trod laidOut (by kernel_rfl) (of_decide_eq_true (by kernel_rfl)) k6 bel lt6) trodAll_mk0))))))), rfl, bel.frame _, fun h => by cases h⟩
theorem over : Rows.schedMatchesReferenceRow.holds Try.pinned (OpenSpec.ofChange Rows.schedMatchesReferenceSpec) :=
  OpenClaim.holds_of_wide 3 Try.f3 rfl rfl rfl rfl rfl rfl rfl ⟨rfl, rfl, rfl, rfl, rfl⟩ rfl rfl rfl rfl rfl (by kernel_rfl) Try.func3 (by kernel_rfl)
    (of_decide_eq_true (by kernel_rfl)) (by unfold Func.isWrapper; first | (rw [if_pos (by decide +kernel)]; kernel_rfl) | (rw [if_neg (by decide +kernel)]; exact ⟨rfl, rfl⟩))
    (fun os started H enc _ => lifted os started H enc)
theorem proved : Rows.SchedMatchesReferenceSaid := over
end Go.Proofs.Ytidnjppalebbfaa.schedMatches
