/- Slices: none and empty ones; copies. -/
import Derived.Test.YtidnjppalebbfaaVo
set_option linter.unusedSimpArgs false
set_option linter.unusedVariables false
namespace Go.V
open Go Go.RowKit
section
variable {P : Program} {k : Value → World → Prop} {w w' : World} {t e : TypeId} {α : Type} {F : Fl α}
theorem run_eqlNil {ox oy : Operand} {a : Option Addr} {n c : Nat} (h : P.underlying t = some (.slice e)) (w : World) : (binS .eql t ox oy (.slice a n c) (.slice none 0 0)).run P w = .ok (.bool a.isNone) w := by
  have hd : Op.maxDepth = 9999 + 1 := rfl
  have h1 : (Op.equal t (.slice a n c) (.slice none 0 0)).run P w = .ok a.isNone w := by
    unfold Op.equal
    rw [hd]
    unfold Op.equalIn
    rw [Sem.run_bind, run_underlying h]
    cases a <;> rfl
  cases a <;> simp [binS, eqGuard, binOp, h1, Sem.run_bind, Result.andThen]
theorem w_eqlNil {ox oy : Operand} {a : Option Addr} {n c : Nat} (h : P.underlying t = some (.slice e)) : opW P (binS .eql t ox oy (.slice a n c) (.slice none 0 0)) k w = k (.bool a.isNone) w := opW_ok (run_eqlNil h w)
theorem w_build0 {size bytes : Nat} {z : Value} (h : STy P t e size bytes z) : opW P (Instr.buildSlice t 0 #[]) k w = k (.slice (some ⟨w.heap.size, 0, none⟩) 0 0) (w.alloc (.cells #[] e (0, 0))) := by
  obtain ⟨i, hi, hz, hs, hby⟩ := h.info
  have h0 : Array.range 0 = #[] := rfl
  exact opW_ok (by simp [Instr.buildSlice, run_underlying h.u, sizeOf, run_typeInfo hi, Sem.run_bind, Result.andThen, Instr.fill, newRow, h0])
theorem cells_flat {b : Nat} : ∀ (l : List α) (o : Nat), (∀ i x, l[i]? = some x → Cells w b (o + i * F.sz) (F.e x)) → Cells w b o (flat F l)
  | [], o, _ => fun j u hu => by simp [flat] at hu
  | x :: r, o, h => fun j u hu => by
    simp only [flat] at hu
    by_cases hj : j < F.sz
    · rw [List.getElem?_append_left (by rw [F.len]; exact hj)] at hu
      have := h 0 x rfl j u hu
      rwa [Nat.zero_mul, Nat.add_zero] at this
    · rw [List.getElem?_append_right (by rw [F.len]; omega), F.len] at hu
      have := cells_flat r (o + F.sz) (fun i y hy => by
        have := h (i + 1) y (by simpa using hy)
        rw [Nat.add_mul, Nat.one_mul] at this
        rwa [show o + F.sz + i * F.sz = o + (i * F.sz + F.sz) by omega]) (j - F.sz) u hu
      rwa [show o + F.sz + (j - F.sz) = o + j by omega] at this
theorem IsSl.flatAt {v : Value} {l : List α} (h : IsSl F w v l) (hne : l ≠ []) : ∃ b o c, v = .slice (some ⟨b, o, none⟩) l.length c ∧ Cells w b o (flat F l) := by
  obtain ⟨a, c, rfl, hc, hx⟩ := h
  obtain ⟨x, hx0⟩ : ∃ x, l[0]? = some x := by
    cases l with
    | nil => exact absurd rfl hne
    | cons x r => exact ⟨x, rfl⟩
  obtain ⟨b, o, rfl, _⟩ := hx 0 x hx0
  refine ⟨b, o, c, rfl, cells_flat l o fun i y hy => ?_⟩
  obtain ⟨b', o', hh, hcl⟩ := hx i y hy
  simp only [Option.some.injEq, Addr.mk.injEq, and_true] at hh
  obtain ⟨rfl, rfl⟩ := hh
  exact hcl
/-- all elements of a slice, appended to one of the call's own -/
theorem w_appendS {ty : TypeId} {bytes base : Nat} {z v0 v : Value} {l0 l : List α} (h : STy P t e F.sz bytes z) (hone : ∀ x, ∀ u ∈ F.e x, u.oneCell' = true) (hs : IsSl F w v l) (hne : l ≠ [])
    (hown : w.ownsRow base e F.sz v0 l0.length (flat F l0)) (h63 : l0.length + l.length ≤ maxLen) (hbytes : (l0.length + l.length) * bytes ≤ 140737488355328) (hbase : base ≤ w.heap.size)
    (hk : ∀ g c w', OwnS F w' base e g c (l0 ++ l) → w.grownBy w' v0.ownBlock → k (.slice (some ⟨g, 0, none⟩) (l0.length + l.length) c) w') :
    opW P (Builtin.append_ #[t, t] ty #[v0, v]) k w := by
  obtain ⟨b, o, c, rfl, hcl⟩ := hs.flatAt hne
  refine w_append (news := flat F l) h hown (flat_length l) (fun j u hu => by rw [add_none]; exact hcl j u hu) (fun u hu => ?_) h63 hbytes hbase fun v' w' ho hg => ?_
  · have : ∀ l : List α, ∀ u ∈ flat F l, u.oneCell' = true := by
      intro l
      induction l with
      | nil => intro u hu; simp [flat] at hu
      | cons x r ih =>
        intro u hu
        rcases List.mem_append.1 hu with h | h
        · exact hone x u h
        · exact ih u h
    exact this l u hu
  · have hl : 0 < l.length := List.length_pos_iff.2 hne
    rcases ho.2 with ⟨_, h0⟩ | ⟨g, cap, cur, rfl, hr⟩
    · omega
    · refine hk g cap w' ?_ hg
      unfold OwnS
      rw [List.length_append, flat_append]; exact ho
end
end Go.V
