/- RelayContradicts answers true for every input, and the input reads as it did; its card ties the one listed variable to the program's text: no condition of its own. -/
import Derived.Test.YtklknkmeljjmgaaGreatDoorKe6
import Derived.WalkKit
import Derived.ProofKit
import Derived.OpenShut
import Derived.ShutString
import Derived.ChangeOld
import Derived.Deep.Slices
import Derived.Deep.DeepHandedRow
import Derived.Lib.LaidTab
import Derived.Test.YtklknkmeljjmgaaGreatDoorTie
import Derived.Test.YtklknkmeljjmgaaGreatDoorCards
import Derived.SevenTiedAt
/- Arguments that are slices of flat elements, opened. -/
set_option linter.unusedSimpArgs false
set_option linter.unusedVariables false
namespace Go.Proofs.YtklknkmeljjmgaaGreatDoor
open Go Go.V Go.RowKit Go.ChangeShapes Go.WideShapes Go.ChangeAt Go.Deep
theorem own : ownKnob Tryz.prog.godebug = none := by kernel_rfl
theorem laidOut : laidOutB Tryz.prog = true := by kernel_rfl
theorem in64_of_wf {n : Int} (h : (Lit.int .i64 n).wf = true) : in64 n := bounds_i64 h
section
variable {H : Type} {enc : TypeId × Value → H} {P : Program} {w : World} {base : Nat} {spare : Nat → Bool} {held : Bool}
theorem spot_of_cell {x : Addr} {v : Value} (h : w.cell? x = some v) : x.spot = none := by
  unfold World.cell? at h
  cases hs : x.spot with
  | none => rfl
  | some s =>
    exfalso
    split at h
    · rw [hs] at h; simp at h
    · cases h
/-- a slice of flat elements that came in -/
theorem sl_of_trod {α : Type} {F : Fl α} {Q : α → Prop} {t e : TypeId} {fuel : Nat} {v : Value} {x : DataW H × List MemPlace} (ht : P.underlying t = some (.slice e)) (hc : P.cellsOf e = F.sz) (hp : 0 < F.sz)
    (helem : ∀ cs m (y : DataW H × List MemPlace), DataW.trod enc P w base spare held m e cs = some y → ∃ z, cs = F.e z ∧ Q z) (h : DataW.trod enc P w base spare held fuel t [v] = some x) :
    ∃ l : List α, IsSl F w v l ∧ l.length ≤ maxLen ∧ ∀ z, z ∈ l → Q z := by
  rcases open_slice ht h with ⟨hcs, _⟩ | ⟨a, len, cap, m, n, D, Pl, hcs, _, hl, hm, hmm, _, hel⟩
  · simp at hcs; subst hcs
    exact ⟨[], .nil _, by simp, by simp⟩
  · simp at hcs; subst hcs
    have hlm : len ≤ m := by rw [hmm]; split <;> omega
    have each : ∀ i, i < len → ∃ z, Q z ∧ ∀ j u, (F.e z)[j]? = some u → w.cell? ((a.add (i * F.sz)).add j) = some u := fun i hi => by
      obtain ⟨cs, h1, h2⟩ := hel i (by omega)
      obtain ⟨z, rfl, hq⟩ := helem cs n _ h2
      rw [hc] at h1
      obtain ⟨_, hlen, hcell⟩ := World.cells?_some h1
      exact ⟨z, hq, fun j u hu => by rw [hcell j (by have := (List.getElem?_eq_some_iff.1 hu).1; rw [F.len] at this; exact this)]; exact hu⟩
    have mk : ∀ k, k ≤ len → ∃ l : List α, l.length = k ∧ (∀ z, z ∈ l → Q z) ∧ ∀ i z, l[i]? = some z → ∀ j u, (F.e z)[j]? = some u → w.cell? ((a.add (i * F.sz)).add j) = some u := by
      intro k
      induction k with
      | zero => intro _; exact ⟨[], rfl, by simp, by simp⟩
      | succ k ih =>
        intro hk
        obtain ⟨l, h1, h2, h3⟩ := ih (by omega)
        obtain ⟨z, hz, hzc⟩ := each k (by omega)
        refine ⟨l ++ [z], by simp [h1], fun y hy => ?_, fun i y hy => ?_⟩
        · rcases List.mem_append.1 hy with h | h
          · exact h2 y h
          · simp at h; subst h; exact hz
        · rcases Nat.lt_or_ge i l.length with h | h
          · rw [List.getElem?_append_left h] at hy; exact h3 i y hy
          · rw [List.getElem?_append_right h] at hy
            have := (List.getElem?_eq_some_iff.1 hy).1
            simp at this
            have h0 : i - l.length = 0 := by omega
            rw [h0] at hy; simp at hy; subst hy
            obtain rfl : i = k := by omega
            exact hzc
    obtain ⟨l, h1, h2, h3⟩ := mk len (Nat.le_refl _)
    refine ⟨l, ⟨some a, cap, by rw [h1], by omega, fun i z hz => ?_⟩, by omega, h2⟩
    obtain ⟨z0, hz0⟩ : ∃ z0, l[0]? = some z0 := ⟨l[0]'(by have := (List.getElem?_eq_some_iff.1 hz).1; omega), by simp⟩
    obtain ⟨u, hu⟩ : ∃ u, (F.e z0)[0]? = some u := ⟨(F.e z0)[0]'(by rw [F.len]; exact hp), by simp⟩
    have hsp := spot_of_cell (h3 0 z0 hz0 0 u hu)
    obtain ⟨b, o, sp⟩ := a
    have hsn : sp = none := by
      revert hsp
      simp [Addr.add]
    subst hsn
    refine ⟨b, o, rfl, fun j v hv => ?_⟩
    have := h3 i z hz j v hv
    rwa [add_none, add_none] at this
theorem cells3' : Tryz.prog.cellsOf 3 = 1 := by kernel_rfl
theorem cell_of_trod {cs : List Value} {m : Nat} {y : DataW H × List MemPlace} {i : Nat} (hi : i < cs.length) (h : DataW.trod enc Tryz.prog w base spare held m 3 ((cs.drop (i * 1)).take 1) = some y) : ∃ n, cs[i]? = some (I n) ∧ in64 n := by
  obtain ⟨n, hn, _, hw⟩ := DataW.trod_int Tryz.underlying3 h
  refine ⟨n, ?_, in64_of_wf hw⟩
  have := congrArg (fun l : List Value => l[0]?) hn
  simp only [List.getElem?_take, List.getElem?_drop] at this
  simpa using this
theorem u59 : Tryz.prog.underlying 59 = some (.array 4 3) := by kernel_rfl
theorem cells59 : Tryz.prog.cellsOf 59 = 4 := by kernel_rfl
theorem cells23 : Tryz.prog.cellsOf 23 = 2 := by kernel_rfl
theorem und22 : Tryz.prog.underlying 22 = some (.slice 59) := by kernel_rfl
theorem u23 : Tryz.prog.underlying 23 = some (.array 2 3) := by kernel_rfl
set_option maxRecDepth 100000 in
theorem elem59 (cs : List Value) (m : Nat) (y : DataW H × List MemPlace) (h : DataW.trod enc Tryz.prog w base spare held m 59 cs = some y) : ∃ z : Q4, cs = fQ.e z ∧ okQ z := by
  obtain ⟨xs, m', _, _, hl, hxl, he⟩ := DataW.trod_array u59 h
  rw [cells59] at hl
  have get : ∀ i, i < 4 → ∃ n, cs[i]? = some (I n) ∧ in64 n := fun i hi => by
    have h1 := he i hi
    rw [cells3', List.getElem?_eq_getElem (show i < xs.length by omega)] at h1
    exact cell_of_trod (by omega) h1
  obtain ⟨a, ha, hwa⟩ := get 0 (by decide)
  obtain ⟨b, hb, hwb⟩ := get 1 (by decide)
  obtain ⟨c, hc, hwc⟩ := get 2 (by decide)
  obtain ⟨d, hd, hwd⟩ := get 3 (by decide)
  refine ⟨⟨a, b, c, d⟩, ?_, hwa, hwb, hwc, hwd⟩
  match cs, hl with
  | [x, y, z, t], _ => simp at ha hb hc hd; subst ha; subst hb; subst hc; subst hd; rfl
set_option maxRecDepth 100000 in
theorem arr23 {cs : List Value} {m : Nat} {y : DataW H × List MemPlace} (h : DataW.trod enc Tryz.prog w base spare held m 23 cs = some y) : ∃ a b, cs = [I a, I b] ∧ in64 a ∧ in64 b := by
  obtain ⟨xs, m', _, _, hl, hxl, he⟩ := DataW.trod_array u23 h
  rw [cells23] at hl
  have get : ∀ i, i < 2 → ∃ n, cs[i]? = some (I n) ∧ in64 n := fun i hi => by
    have h1 := he i hi
    rw [cells3', List.getElem?_eq_getElem (show i < xs.length by omega)] at h1
    exact cell_of_trod (by omega) h1
  obtain ⟨a, ha, hwa⟩ := get 0 (by decide)
  obtain ⟨b, hb, hwb⟩ := get 1 (by decide)
  refine ⟨a, b, ?_, hwa, hwb⟩
  match cs, hl with
  | [x, y], _ => simp at ha hb; subst ha; subst hb; rfl
end
/-- the constants are in the variable -/
theorem gl_of_laid {l : List (String × DataW Unit)} {w : World} (hl : l = [("newswire/digest.round", Rows.laid_newswire_digest_round)]) (h : laidMetH Tryz.prog l w) : Gl w := by
  subst hl
  have h0 : laidMet Tryz.prog [("newswire/digest.round", Lib.tabData .u32 (kL.map fun x => ((x.toNat : Nat) : Int)))] w := h
  have hT := Lib.tabIs_of_head (P := Tryz.prog) (g := 0) (t := 120) (e := 89) (n := 64) (by kernel_rfl) (by kernel_rfl) (by kernel_rfl) (by kernel_rfl) (by kernel_rfl) (by kernel_rfl) h0
  have hc : ∀ i, i < 64 → w.cell? ⟨0, i, none⟩ = some (uV (kL.getD i 0)) := fun i hi => by
    have := hT.cell (g := 0) (by kernel_rfl) i (by simpa [kL] using hi)
    rw [this]
    have hk : kL[i]? = some (kL.getD i 0) := by rw [List.getD_eq_getElem?_getD, List.getElem?_eq_getElem (show i < kL.length from hi)]; rfl
    rw [List.getD_eq_getElem?_getD, List.getElem?_map, hk]; rfl
  refine ⟨fun j v hv => ?_, World.block_lt_of_cell? w _ (hc 0 (by decide))⟩
  have hj : j < 64 := by
    have := (List.getElem?_eq_some_iff.1 hv).1
    simpa [K64, kL] using this
  rw [Nat.zero_add, hc j hj, ← hv]
  unfold K64
  have hk : kL[j]? = some (kL.getD j 0) := by rw [List.getD_eq_getElem?_getD, List.getElem?_eq_getElem (show j < kL.length from hj)]; rfl
  rw [List.getElem?_map, hk]; rfl
end Go.Proofs.YtklknkmeljjmgaaGreatDoor
/- The witness of the rows that list the variable. -/
namespace Go.Proofs.YtklknkmeljjmgaaGreatDoor
open Go Go.V Go.ChangeShapes Go.WideShapes Go.ChangeAt Go.RowKit
/-- the settled world, the variable holding what its initialiser lays -/
noncomputable def laidWorld (os : Os) : World :=
  { World.holding Tryz.prog os ⟨#[], #[], []⟩ with heap := (World.holding Tryz.prog os ⟨#[], #[], []⟩).heap.modify 0 fun
      | .cells _ t frozen => .cells K64.toArray t frozen
      | o => o }
end Go.Proofs.YtklknkmeljjmgaaGreatDoor
/- RelayContradicts answers true for every input, and the input reads as it did; its card ties the one listed variable to the program's text: no condition of its own. -/
namespace Go.Proofs.YtklknkmeljjmgaaGreatDoor.relayContradicts
open Go Go.V Go.ChangeShapes Go.WideShapes Go.ChangeAt Go.RowKit
set_option linter.unusedVariables false
theorem laid_met (os : Os) (args : Array Value) : laidMet Tryz.prog Rows.relayContradictsRow.laid ((laidWorld os).forCall (fun _ _ => 0) ⟨#[], args, []⟩).memory :=
  laidMet_of_run' 8 (by kernel_rfl) (by kernel_rfl)
theorem witness_row (os : Os) {H : Type} (enc : TypeId × Value → H) :
    (OpenSpec.ofChange Rows.relayContradictsSpec).preRow enc Tryz.prog Tryz.f8 Rows.relayContradictsRow.domain false Rows.relayContradictsRow.laid ((laidWorld os).forCall (fun _ _ => 0) ⟨#[], #[.slice none 0 0, .agg #[.int .i64 0, .int .i64 0], .int .i64 0], []⟩).memory #[.slice none 0 0, .agg #[.int .i64 0, .int .i64 0], .int .i64 0] := by
  have hw : (DataW.whole enc Tryz.prog ((laidWorld os).forCall (fun _ _ => 0) ⟨#[], #[.slice none 0 0, .agg #[.int .i64 0, .int .i64 0], .int .i64 0], []⟩).memory Tryz.f8.params.toList (OpenSpec.ofChange Rows.relayContradictsSpec).vars false (#[.slice none 0 0, .agg #[.int .i64 0, .int .i64 0], .int .i64 0] : Array Value).toList 8).map (fun x => (x.1, x.2.1)) =
      some ([.nil, .agg [.lit (.int .i64 0), .lit (.int .i64 0)], .lit (.int .i64 0)], []) := by kernel_rfl
  obtain ⟨⟨x1, x2, x3⟩, hx, hx1⟩ := Option.map_eq_some_iff.1 hw
  simp only [Prod.mk.injEq] at hx1
  obtain ⟨rfl, rfl⟩ := hx1
  exact OpenSpec.preRow_of_cond 8 hx (by kernel_rfl) (fun k hk => by cases hk) (by kernel_rfl) (laid_met os _)
set_option maxRecDepth 100000 in
theorem lifted (os : Os) (started : os.Started) (H : Type) (enc : TypeId × Value → H) (F : Stop.Interp) :
    ReturnsInHanded {} Tryz.checked os 8 .any ((OpenSpec.ofChange Rows.relayContradictsSpec).preRow enc Tryz.prog Tryz.f8 Rows.relayContradictsRow.domain false Rows.relayContradictsRow.laid) (((OpenSpec.ofChange Rows.relayContradictsSpec).at F).post enc Tryz.prog Tryz.f8 false true false false) := by
  refine returnsInHanded_of_row (C := Tryz.checked) (s := OpenSpec.ofChange Rows.relayContradictsSpec) own started (by kernel_rfl) Tryz.func8
    (witness_row_at (enc := enc) (C := Tryz.checked) false (laidWorld os) #[.slice none 0 0, .agg #[.int .i64 0, .int .i64 0], .int .i64 0] rfl (by kernel_rfl) (by kernel_rfl) (by kernel_rfl) (witness_row os enc)) ?_
  intro W base args ds gs before hval0 hW _ _ _ hL _ _
  have hgl : Gl W := gl_of_laid rfl hL
  have hval : ∀ (j : Nat) t v, Tryz.f8.params[j]? = some t → args[j]? = some v → Value.okWide Tryz.prog W .any base t v := hval0
  have hW' := hW
  obtain ⟨p, q, hA0, hV, rfl, hfz, hnd⟩ := hW
  have hA : DataW.TrodAll enc Tryz.prog W 0 (fun _ => true) true Tryz.f8.params.toList args.toList ds p := hA0
  rw [Tryz.params8] at hA hval
  obtain ⟨v0, vs0, d0, ds0, p0, q0, hargs, rfl, rfl, h0, r0⟩ := trodAll_cons hA
  obtain ⟨v1, vs1, d1, ds1, p1, q1, rfl, rfl, rfl, h1, r1⟩ := trodAll_cons r0
  obtain ⟨v2, vs2, d2, ds2, p2, q2, rfl, rfl, rfl, h2, r2⟩ := trodAll_cons r1
  obtain ⟨rfl, rfl, rfl⟩ := trodAll_nil r2
  obtain rfl : args = #[v0, v1, v2] := by cases args; simp_all
  obtain ⟨rfl, rfl⟩ := trodVars_none hV
  obtain ⟨a0, len0, cap0, rfl⟩ := okWide_slice und22 (hval 0 22 v0 rfl rfl)
  obtain ⟨e1, f1, rfl⟩ := WideMaps.okWide_pair pairT.arr (hval 1 23 v1 rfl rfl)
  obtain ⟨a2, rfl, rfl, rfl, wa2⟩ := open_int Tryz.underlying3 (hval 2 3 v2 rfl rfl) h2
  have k0 := h0
  have lt0 : ∀ x ∈ p0, x.block < W.heap.size := by obtain ⟨m, hm⟩ := k0; exact DataW.trod_lt m _ _ _ hm
  have k1 := h1
  have lt1 : ∀ x ∈ p1, x.block < W.heap.size := by obtain ⟨m, hm⟩ := k1; exact DataW.trod_lt m _ _ _ hm
  obtain ⟨l0, s0, _, b0⟩ : ∃ l : List Q4, IsSl fQ W (.slice a0 len0 cap0) l ∧ l.length ≤ maxLen ∧ ∀ z, z ∈ l → okQ z := by
    obtain ⟨fuel, hf⟩ := h0
    exact sl_of_trod und22 cells59 (by decide) elem59 hf
  obtain ⟨x1, y1, hxy1, wx1, wy1⟩ : ∃ a b, [e1, f1] = [I a, I b] ∧ in64 a ∧ in64 b := by
    obtain ⟨fuel, hf⟩ := h1
    exact arr23 hf
  obtain ⟨rfl, rfl⟩ : e1 = I x1 ∧ f1 = I y1 := by simpa using hxy1
  clear hA0 hval0
  have walk : Calls Tryz.prog 8 #[.slice a0 len0 cap0, .agg #[I x1, I y1], .int .i64 a2] W fun e w' => e = .returned (.bool true) ∧ Below W.heap.size W w' :=
    (S8_calls _ _ _ _ W (s8 (k := fun v w' => v = .bool true ∧ Below W.heap.size W w') hgl s0 b0 wx1 wy1 (in64_of_wf wa2) fun w' hb => ⟨rfl, hb⟩)).mono fun e w' h => by
      cases e <;> first | exact h.elim | exact ⟨by rw [h.1], h.2⟩
  refine walk.mono fun e W' ⟨he, bel⟩ => ?_
  subst he
  exact ⟨_, rfl, _, _, _, [], _, [], hW', trodAll_mk1 (shut_bool Tryz.underlying4 _), (trodAll_cons_mk (Below.trod laidOut (by kernel_rfl) (of_decide_eq_true (by kernel_rfl)) k0 bel lt0) (trodAll_cons_mk (Below.trod laidOut (by kernel_rfl) (of_decide_eq_true (by kernel_rfl)) k1 bel lt1) (trodAll_cons_mk (shut_int Tryz.underlying3 wa2) trodAll_mk0))), rfl, bel.frame _, fun h => by cases h⟩
theorem row_holds : Rows.RelayContradictsSaid :=
  OpenClaim.holds_of_cond 8 Tryz.f8 rfl rfl rfl rfl rfl rfl rfl ⟨rfl, rfl, rfl, rfl, rfl⟩ rfl rfl rfl rfl rfl (by kernel_rfl) Tryz.func8 (by kernel_rfl)
    (of_decide_eq_true (by kernel_rfl)) (by unfold Func.isWrapper; first | (rw [if_pos (by decide +kernel)]; kernel_rfl) | (rw [if_neg (by decide +kernel)]; exact ⟨rfl, rfl⟩))
    (fun os started H enc _ F0 => by rw [OpenClaim.pre_eq_preRow]; exact lifted os started H enc F0)
theorem wants (t : TypeId) (ht : t ∈ [22, 23, 3]) : Tryz.prog.wantsStandIn t = false := by
  simp only [List.mem_cons, List.not_mem_nil, or_false] at ht
  rcases ht with rfl | rfl | rfl <;> kernel_rfl
theorem proved : Rows.RelayContradictsCardSaid :=
  Claim7.holds_tied_plain_at .later [] [.data] true (true, "51406d0c7899d6db3014da037ff4d91b9abc5020012ce40afda720a4616556c1") false
    row_holds (fun _ h => by cases h) (by kernel_rfl) (fun _ h => by cases h) relayContradicts_row_tie rfl ⟨rfl, rfl⟩ (by kernel_rfl) rfl
    (fun f fn hf hfn => by
      obtain rfl : f = 8 := Option.some.inj ((show Tryz.prog.funcNamed "newswire/newswirelaw25.RelayContradicts" = some 8 by kernel_rfl).symm.trans hf) |>.symm
      obtain rfl : fn = Tryz.f8 := (Option.some.inj (Tryz.func8.symm.trans hfn)).symm
      exact ⟨by kernel_rfl, fun j t ht => wants t (by
        rw [Tryz.params8] at ht
        exact List.mem_of_getElem? (by simpa using ht))⟩)
    (by kernel_rfl)
end Go.Proofs.YtklknkmeljjmgaaGreatDoor.relayContradicts
