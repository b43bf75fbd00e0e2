/- The arrivals that integers determine: the walk. -/
import Derived.Test.YtidnjppalebbfaaA19
set_option linter.unusedSimpArgs false
set_option linter.unusedVariables false
namespace Go.Proofs.Ytidnjppalebbfaa
open Go Go.V Go.RowKit
def OutS (w : World) (B gN : Nat) (out : Value) (ol : List Arr) : Prop := (out = .slice none 0 0 ∧ ol = []) ∨ ∃ g c, out = .slice (some ⟨g, 0, none⟩) ol.length c ∧ OwnS fA w B 31 g c ol ∧ g ≠ gN
theorem OutS.sl {w : World} {B gN : Nat} {out : Value} {ol : List Arr} (h : OutS w B gN out ol) : IsSl fA w out ol := by
  rcases h with ⟨rfl, rfl⟩ | ⟨g, c, rfl, ho, _⟩
  · exact .nil _
  · exact ho.sl
theorem OutS.off {w w' : World} {p : Nat → Prop} {B gN : Nat} {out : Value} {ol : List Arr} (h : OutS w B gN out ol) (ho : Off p w w') (hp : ∀ g c, out = .slice (some ⟨g, 0, none⟩) ol.length c → g ≠ gN → ¬ p g) : OutS w' B gN out ol := by
  rcases h with h | ⟨g, c, rfl, hg, hne⟩
  · exact .inl h
  · exact .inr ⟨g, c, rfl, hg.off ho (hp g c rfl hne), hne⟩
section
variable {k : Value → World → Prop} {w : World}
theorem tldS31 {K : Value → Prop} {b : Nat} {x y : Int} {S : World → Prop} (hr : RowAt w b 31 [I x, I y]) (hS : ∀ w', S w' → RowAt w' b 31 [I x, I y]) : takeW Try.prog S (Instr.loadAt 31 (.pointer (some ⟨b, 0, none⟩))) K w = K (.agg #[I x, I y]) :=
  takeW_eq (run_of_eq fun k => ld31 (vs := [I x, I y]) rfl hr.cells) fun w' hw' => run_of_eq fun k => ld31 (vs := [I x, I y]) rfl (hS w' hw').cells
/-- may an arrival be put behind one? -/
theorem c_before {out : Value} {ol : List Arr} {bA p : Nat} {st t : Int} {d : Bool} {o1 o2 o3 o4 o5 o6 : Operand} {K : Value → Prop} (hsl : IsSl fA w out ol) (hr : RowAt w bA 31 [I st, I t]) (hd : d = decide ((p : Int) < (ol.length : Int)))
    (h : K (.bool (d && (decide ((ol.getD p ⟨0, 0⟩).at_ < t) || (decide ((ol.getD p ⟨0, 0⟩).at_ = t) && decide ((ol.getD p ⟨0, 0⟩).stream < st)))))) :
    guardT (some (.bool d), true) (fun k => k out) (fun t77 => guardT (some (.bool d), true) (fun k => k (I p)) (fun t78 => guardT (some (.bool d), true) (fun k => takeW Try.prog anyW (Instr.indexAt 23 t77 t78) k w) (fun t79 =>
      guardT (some (.bool d), true) (fun k => takeW Try.prog anyW (Instr.fieldAt 31 t79 1) k w) (fun t80 => guardT (some (.bool d), true) (fun k => takeW Try.prog (sameW w) (Instr.loadAt 3 t80) k w) (fun t81 =>
      guardT (some (.bool d), true) (fun k => takeW Try.prog anyW (Instr.fieldAt 31 (.pointer (some ⟨bA, 0, none⟩)) 1) k w) (fun t82 => guardT (some (.bool d), true) (fun k => takeW Try.prog (sameW w) (Instr.loadAt 3 t82) k w) (fun t83 =>
      guardT (some (.bool d), true) (fun k => takeW Try.prog anyW (binS .lss 3 o1 o2 t81 t83) k w) (fun t84 => guardT (some (.bool d), true) (fun k => k t84) (fun t85 =>
      guardT (some t85, false) (fun k => k out) (fun t86 => guardT (some t85, false) (fun k => k (I p)) (fun t87 => guardT (some t85, false) (fun k => takeW Try.prog anyW (Instr.indexAt 23 t86 t87) k w) (fun t88 =>
      guardT (some t85, false) (fun k => takeW Try.prog anyW (Instr.fieldAt 31 t88 1) k w) (fun t89 => guardT (some t85, false) (fun k => takeW Try.prog (sameW w) (Instr.loadAt 3 t89) k w) (fun t90 =>
      guardT (some t85, false) (fun k => takeW Try.prog anyW (Instr.fieldAt 31 (.pointer (some ⟨bA, 0, none⟩)) 1) k w) (fun t91 => guardT (some t85, false) (fun k => takeW Try.prog (sameW w) (Instr.loadAt 3 t91) k w) (fun t92 =>
      guardT (some t85, false) (fun k => takeW Try.prog anyW (binS .eql 3 o3 o4 t90 t92) k w) (fun t93 => guardT (some t85, false) (fun k => k t93) (fun t94 =>
      guardT (some t94, true) (fun k => k out) (fun t95 => guardT (some t94, true) (fun k => k (I p)) (fun t96 => guardT (some t94, true) (fun k => takeW Try.prog anyW (Instr.indexAt 23 t95 t96) k w) (fun t97 =>
      guardT (some t94, true) (fun k => takeW Try.prog anyW (Instr.fieldAt 31 t97 0) k w) (fun t98 => guardT (some t94, true) (fun k => takeW Try.prog (sameW w) (Instr.loadAt 3 t98) k w) (fun t99 => guardT (some t94, true) (fun k => k (I st)) (fun t100 =>
      guardT (some t94, true) (fun k => takeW Try.prog anyW (binS .lss 3 o5 o6 t99 t100) k w) (fun t101 => guardT (some t85, false) (fun k => pickT t94 t101 (.bool false) k) (fun t102 =>
      guardT (some (.bool d), true) (fun k => pickT t85 (.bool true) t102 k) (fun t103 => pickT (.bool d) t103 (.bool false) K))))))))))))))))))))))))))) := by
  subst hd
  by_cases hp : p < ol.length
  · rw [decide_eq_true (show (p : Int) < (ol.length : Int) by omega)] at h ⊢
    obtain ⟨z, hz⟩ : ∃ z, ol[p]? = some z := ⟨ol[p], by simp [hp]⟩
    rw [show ol.getD p ⟨0, 0⟩ = z by rw [List.getD_eq_getElem?_getD, hz]; rfl] at h
    simp only [guardT_tt]
    refine tix23 (x := z) (F := fA) hsl rfl (by omega) (by simpa using hz) fun b o hc => ?_
    rw [tfl31_1, xld3 (hc 1 _ rfl), tfl31_1, xld3 (v := I t) (hr.cell (i := 1) rfl), t_lss]
    by_cases h1 : z.at_ < t
    · rw [decide_eq_true h1] at h ⊢
      simp only [guardT_tf, guardT_u, pickT_true]
      simpa using h
    · rw [decide_eq_false h1] at h ⊢
      simp only [guardT_ff]
      refine tix23 (x := z) (F := fA) hsl rfl (by omega) (by simpa using hz) fun b o hc => ?_
      rw [tfl31_1, xld3 (hc 1 _ rfl), tfl31_1, xld3 (v := I t) (hr.cell (i := 1) rfl), t_eql]
      by_cases h2 : z.at_ = t
      · rw [decide_eq_true h2] at h ⊢
        simp only [guardT_tt, pickT_true, pickT_false]
        refine tix23 (x := z) (F := fA) hsl rfl (by omega) (by simpa using hz) fun b o hc => ?_
        rw [tfl31_0, xld3 (show w.cell? ⟨b, o, none⟩ = some (I z.stream) from hc 0 _ rfl), t_lss]
        simpa using h
      · rw [decide_eq_false h2] at h ⊢
        simp only [guardT_ft, guardT_u, pickT_true, pickT_false]
        simpa using h
  · rw [decide_eq_false (show ¬ (p : Int) < (ol.length : Int) by omega)] at h ⊢
    simp only [guardT_ft, guardT_u, pickT_false]
    simpa using h
end
end Go.Proofs.Ytidnjppalebbfaa
