/- Laws of the single operations, as equations of the generated conditions, and what memory holds. -/
import Derived.Test.YtidnjppalebbfaaVe
import Derived.IntWalk
import Derived.Below
import Derived.Laws.OwnMore
import Derived.Great.BuildSlice
set_option linter.unusedSimpArgs false
set_option linter.unusedVariables false
namespace Go.V
open Go Go.RowKit

/-! ### types -/
def isSliceT (P : Program) (t : TypeId) : Bool := match P.underlying t with | some (.slice _) => true | _ => false
def isAggT (P : Program) (t : TypeId) : Bool := match P.underlying t with | some (.struct _) => true | some (.array _ _) => true | _ => false
def elemT (P : Program) (t : TypeId) : Nat := match P.underlying t with | some (.slice e) => e | some (.array _ e) => e | some (.pointer e) => e | _ => 0
def known (P : Program) (t : TypeId) : Bool := (P.info? t).isSome && (P.underlying t).isSome
def sizeT (P : Program) (t : TypeId) : Nat := match P.info? t with | some i => i.size | none => 0
def bytesT (P : Program) (t : TypeId) : Nat := match P.info? t with | some i => i.bytes | none => 0
def zeroT (P : Program) (t : TypeId) : Value := match P.info? t with | some i => i.zero.getD undef | none => undef
def hasZero (P : Program) (t : TypeId) : Bool := match P.info? t with | some i => i.zero.isSome | none => false
/-- where a field lies in its struct, if it takes cells -/
def fieldOff (P : Program) (t : TypeId) (f : Nat) : Option Nat := match P.underlying t with
  | some (.struct fs) => match fs[f]? with
    | some x => match P.info? x.type with | some i => if i.size = 0 then none else some x.offset | none => none
    | none => none
  | _ => none

section
variable {P : Program} {k : Value → World → Prop} {w w' : World}
theorem opW_ok {s : Sem Value} {v : Value} (h : s.run P w = .ok v w') : opW P s k w = k v w' := propext ⟨fun hh => by have := hh.out; rw [h] at this; exact this, fun hh => ⟨by rw [h]; exact hh⟩⟩
theorem opU_ok {s : Sem Unit} {u : Unit} (h : s.run P w = .ok u w') : opU P s k w = k undef w' := propext ⟨fun hh => by have := hh.out; rw [h] at this; exact this, fun hh => ⟨by rw [h]; exact hh⟩⟩
/-- taken as at any world: from the equation of the operation -/
theorem takeW_eq {S : World → Prop} {s : Sem Value} {K : Value → Prop} {v : Value} (h0 : s.run P w = .ok v w) (h : ∀ w, S w → s.run P w = .ok v w) : takeW P S s K w = K v :=
  propext ⟨fun hh => by have := hh.out; rw [h0] at this; exact this.2.2, fun hh => ⟨by rw [h0]; exact ⟨rfl, h, hh⟩⟩⟩
/-- an operation that does not look at memory -/
theorem takeW_pure {S : World → Prop} {s : Sem Value} {K : Value → Prop} {v : Value} (h : ∀ w, s.run P w = .ok v w) : takeW P S s K w = K v := takeW_eq (h w) fun w _ => h w
theorem takeW_same {s : Sem Value} {K : Value → Prop} {v : Value} (h : s.run P w = .ok v w) : takeW P (sameW w) s K w = K v := takeW_eq h fun w' hw' => by cases hw'; exact h
@[simp] theorem keepS_eq {S K : World → Prop} : keepS S K w = (S w ∧ K w) := propext ⟨fun h => h.out, fun h => ⟨h⟩⟩
/-- what an operation that yields in every world the same does when it is carried out -/
theorem run_of_opW {s : Sem Value} {v : Value} (h : opW P s (fun u w' => u = v ∧ w' = w) w) : s.run P w = .ok v w := by
  have := h.out
  split at this
  · rename_i u w' hr; obtain ⟨rfl, rfl⟩ := this; exact hr
  · exact this.elim
theorem run_of_eq {s : Sem Value} {v : Value} (h : ∀ k : Value → World → Prop, opW P s k w = k v w) : s.run P w = .ok v w := run_of_opW (by rw [h]; exact ⟨rfl, rfl⟩)
@[simp] theorem pickW_true {a b : Value} : pickW (.bool true) a b k w = k a w := propext ⟨fun h => h.out, fun h => ⟨h⟩⟩
@[simp] theorem pickW_false {a b : Value} : pickW (.bool false) a b k w = k b w := propext ⟨fun h => h.out, fun h => ⟨h⟩⟩
@[simp] theorem pickT_true {a b : Value} {K : Value → Prop} : pickT (.bool true) a b K = K a := propext ⟨fun h => h.out, fun h => ⟨h⟩⟩
@[simp] theorem pickT_false {a b : Value} {K : Value → Prop} : pickT (.bool false) a b K = K b := propext ⟨fun h => h.out, fun h => ⟨h⟩⟩
@[simp] theorem condW_true {a b : Prop} : condW (.bool true) a b = a := propext ⟨fun h => h.out, fun h => ⟨h⟩⟩
@[simp] theorem condW_false {a b : Prop} : condW (.bool false) a b = b := propext ⟨fun h => h.out, fun h => ⟨h⟩⟩
@[simp] theorem guardW_tt {run : (Value → World → Prop) → World → Prop} : guardW (some (.bool true), true) run k w = run k w := propext ⟨fun h => h.out, fun h => ⟨h⟩⟩
@[simp] theorem guardW_ff {run : (Value → World → Prop) → World → Prop} : guardW (some (.bool false), false) run k w = run k w := propext ⟨fun h => h.out, fun h => ⟨h⟩⟩
@[simp] theorem guardW_tf {run : (Value → World → Prop) → World → Prop} : guardW (some (.bool true), false) run k w = k undef w := propext ⟨fun h => h.out, fun h => ⟨h⟩⟩
@[simp] theorem guardW_ft {run : (Value → World → Prop) → World → Prop} : guardW (some (.bool false), true) run k w = k undef w := propext ⟨fun h => h.out, fun h => ⟨h⟩⟩
@[simp] theorem guardT_tt {run : (Value → Prop) → Prop} {K : Value → Prop} : guardT (some (.bool true), true) run K = run K := propext ⟨fun h => h.out, fun h => ⟨h⟩⟩
@[simp] theorem guardT_ff {run : (Value → Prop) → Prop} {K : Value → Prop} : guardT (some (.bool false), false) run K = run K := propext ⟨fun h => h.out, fun h => ⟨h⟩⟩
@[simp] theorem guardT_tf {run : (Value → Prop) → Prop} {K : Value → Prop} : guardT (some (.bool true), false) run K = K undef := propext ⟨fun h => h.out, fun h => ⟨h⟩⟩
@[simp] theorem guardT_ft {run : (Value → Prop) → Prop} {K : Value → Prop} : guardT (some (.bool false), true) run K = K undef := propext ⟨fun h => h.out, fun h => ⟨h⟩⟩
@[simp] theorem guardW_u {run : (Value → World → Prop) → World → Prop} {b : Bool} : guardW (some undef, b) run k w = k undef w := propext ⟨fun h => h.out, fun h => ⟨h⟩⟩
@[simp] theorem guardT_u {run : (Value → Prop) → Prop} {K : Value → Prop} {b : Bool} : guardT (some undef, b) run K = K undef := propext ⟨fun h => h.out, fun h => ⟨h⟩⟩
@[simp] theorem drewW_eq {k : World → Prop} : drewW w k = k w.drew := propext ⟨fun h => h.out, fun h => ⟨h⟩⟩
@[simp] theorem jumpW_none {a b : Prop} : jumpW none a b = a := propext ⟨fun h => h.out, fun h => ⟨h⟩⟩
@[simp] theorem jumpW_ret {a b : Prop} : jumpW (some .ret) a b = b := propext ⟨fun h => h.out, fun h => ⟨h⟩⟩
@[simp] theorem nilW_ptr {a : Addr} : nilW (.pointer (some a)) k w = k (.pointer (some a)) w := propext ⟨fun h => h.out, fun h => ⟨h⟩⟩
@[simp] theorem nilT_ptr {a : Addr} {K : Value → Prop} : nilT (.pointer (some a)) K = K (.pointer (some a)) := propext ⟨fun h => h.out, fun h => ⟨h⟩⟩
@[simp] theorem nilW_func {f : FuncId} {a b : Array Value} : nilW (.func (.func f) a b) k w = k (.func (.func f) a b) w := propext ⟨fun h => h.out, fun h => ⟨h⟩⟩
theorem joinW_eq {α : Type} {K : α} {B : α → Prop} : joinW K B = B K := rfl

theorem run_underlying' {t : TypeId} {d : TypeDesc} (h : P.underlying t = some d) : (underlying t).run P w = .ok d w := by
  simp [underlying, program, Sem.run_bind, Sem.run, Result.andThen, h]
/-! ### integers, bools -/
section
variable {t : TypeId} {ox oy : Operand} {q : IntKind} {a b : Int}
theorem run_binS_int {op : BinOp} (h1 : op ≠ .shl) (h2 : op ≠ .shr) : (binS op t ox oy (.int q a) (.int q b)).run P w = (binOp op t (.int q a) (.int q b)).run P w := by
  unfold binS eqGuard
  cases op <;> simp [Sem.run_bind, Result.andThen] at h1 h2 ⊢
theorem w_lss : opW P (binS .lss t ox oy (.int q a) (.int q b)) k w = k (.bool (decide (a < b))) w := opW_ok (by rw [run_binS_int (by simp) (by simp)]; simp [binOp, Op.intCmp])
theorem w_leq : opW P (binS .leq t ox oy (.int q a) (.int q b)) k w = k (.bool (decide (a ≤ b))) w := opW_ok (by rw [run_binS_int (by simp) (by simp)]; simp [binOp, Op.intCmp])
theorem w_gtr : opW P (binS .gtr t ox oy (.int q a) (.int q b)) k w = k (.bool (decide (b < a))) w := opW_ok (by rw [run_binS_int (by simp) (by simp)]; simp [binOp, Op.intCmp])
theorem w_geq : opW P (binS .geq t ox oy (.int q a) (.int q b)) k w = k (.bool (decide (b ≤ a))) w := opW_ok (by rw [run_binS_int (by simp) (by simp)]; simp [binOp, Op.intCmp])
theorem w_eql : opW P (binS .eql t ox oy (.int q a) (.int q b)) k w = k (.bool (decide (a = b))) w := opW_ok (by rw [run_binS_int (by simp) (by simp)]; simp [binOp, Op.intCmp]; rfl)
theorem w_neq : opW P (binS .neq t ox oy (.int q a) (.int q b)) k w = k (.bool (!decide (a = b))) w := opW_ok (by rw [run_binS_int (by simp) (by simp)]; simp [binOp, Op.intCmp]; rfl)
theorem w_add : opW P (binS .add t ox oy (.int q a) (.int q b)) k w = k (.int q (q.wrap (a + b))) w := opW_ok (by rw [run_binS_int (by simp) (by simp)]; simp [binOp, Op.intArith])
theorem w_sub : opW P (binS .sub t ox oy (.int q a) (.int q b)) k w = k (.int q (q.wrap (a - b))) w := opW_ok (by rw [run_binS_int (by simp) (by simp)]; simp [binOp, Op.intArith])
theorem w_mul : opW P (binS .mul t ox oy (.int q a) (.int q b)) k w = k (.int q (q.wrap (a * b))) w := opW_ok (by rw [run_binS_int (by simp) (by simp)]; simp [binOp, Op.intArith])
theorem t_lss {S : World → Prop} {K : Value → Prop} : takeW P S (binS .lss t ox oy (.int q a) (.int q b)) K w = K (.bool (decide (a < b))) := takeW_pure fun w => run_of_eq fun k => w_lss
theorem t_leq {S : World → Prop} {K : Value → Prop} : takeW P S (binS .leq t ox oy (.int q a) (.int q b)) K w = K (.bool (decide (a ≤ b))) := takeW_pure fun w => run_of_eq fun k => w_leq
theorem t_gtr {S : World → Prop} {K : Value → Prop} : takeW P S (binS .gtr t ox oy (.int q a) (.int q b)) K w = K (.bool (decide (b < a))) := takeW_pure fun w => run_of_eq fun k => w_gtr
theorem t_geq {S : World → Prop} {K : Value → Prop} : takeW P S (binS .geq t ox oy (.int q a) (.int q b)) K w = K (.bool (decide (b ≤ a))) := takeW_pure fun w => run_of_eq fun k => w_geq
theorem t_eql {S : World → Prop} {K : Value → Prop} : takeW P S (binS .eql t ox oy (.int q a) (.int q b)) K w = K (.bool (decide (a = b))) := takeW_pure fun w => run_of_eq fun k => w_eql
theorem t_neq {S : World → Prop} {K : Value → Prop} : takeW P S (binS .neq t ox oy (.int q a) (.int q b)) K w = K (.bool (!decide (a = b))) := takeW_pure fun w => run_of_eq fun k => w_neq
theorem t_add {S : World → Prop} {K : Value → Prop} : takeW P S (binS .add t ox oy (.int q a) (.int q b)) K w = K (.int q (q.wrap (a + b))) := takeW_pure fun w => run_of_eq fun k => w_add
theorem t_sub {S : World → Prop} {K : Value → Prop} : takeW P S (binS .sub t ox oy (.int q a) (.int q b)) K w = K (.int q (q.wrap (a - b))) := takeW_pure fun w => run_of_eq fun k => w_sub
theorem t_mul {S : World → Prop} {K : Value → Prop} : takeW P S (binS .mul t ox oy (.int q a) (.int q b)) K w = K (.int q (q.wrap (a * b))) := takeW_pure fun w => run_of_eq fun k => w_mul
theorem w_quo (h : b ≠ 0) : opW P (binS .quo t ox oy (.int q a) (.int q b)) k w = k (.int q (q.wrap (a.tdiv b))) w := opW_ok (by rw [run_binS_int (by simp) (by simp)]; simp [binOp, Op.intDiv, h])
theorem w_rem (h : b ≠ 0) : opW P (binS .rem t ox oy (.int q a) (.int q b)) k w = k (.int q (a.tmod b)) w := opW_ok (by rw [run_binS_int (by simp) (by simp)]; simp [binOp, Op.intDiv, h])
theorem w_not {x : Bool} : opW P (Op.unary .not (.bool x)) k w = k (.bool (!x)) w := opW_ok (by simp [Op.unary])
theorem w_neg : opW P (Op.unary .neg (.int q a)) k w = k (.int q (q.wrap (-a))) w := opW_ok (by simp [Op.unary, Op.intArith])
theorem w_min : opW P (Builtin.min_ #[t, t] t #[.int q a, .int q b]) k w = k (.int q (if b < a then b else a)) w := opW_ok (by simp [Builtin.min_, Builtin.min2])
theorem w_max : opW P (Builtin.max_ #[t, t] t #[.int q a, .int q b]) k w = k (.int q (if b > a then b else a)) w := opW_ok (by simp [Builtin.max_, Builtin.max2])
theorem t_quo {S : World → Prop} {K : Value → Prop} (h : b ≠ 0) : takeW P S (binS .quo t ox oy (.int q a) (.int q b)) K w = K (.int q (q.wrap (a.tdiv b))) := takeW_pure fun w => run_of_eq fun k => w_quo h
theorem t_rem {S : World → Prop} {K : Value → Prop} (h : b ≠ 0) : takeW P S (binS .rem t ox oy (.int q a) (.int q b)) K w = K (.int q (a.tmod b)) := takeW_pure fun w => run_of_eq fun k => w_rem h
theorem t_not {S : World → Prop} {K : Value → Prop} {x : Bool} : takeW P S (Op.unary .not (.bool x)) K w = K (.bool (!x)) := takeW_pure fun w => run_of_eq fun k => w_not
theorem t_neg {S : World → Prop} {K : Value → Prop} : takeW P S (Op.unary .neg (.int q a)) K w = K (.int q (q.wrap (-a))) := takeW_pure fun w => run_of_eq fun k => w_neg
theorem t_min {S : World → Prop} {K : Value → Prop} : takeW P S (Builtin.min_ #[t, t] t #[.int q a, .int q b]) K w = K (.int q (if b < a then b else a)) := takeW_pure fun w => run_of_eq fun k => w_min
theorem t_max {S : World → Prop} {K : Value → Prop} : takeW P S (Builtin.max_ #[t, t] t #[.int q a, .int q b]) K w = K (.int q (if b > a then b else a)) := takeW_pure fun w => run_of_eq fun k => w_max
end
theorem run_binS_shift {op : BinOp} {t : TypeId} {ox oy : Operand} {q r : IntKind} {a b : Int} (h : op = .shl ∨ op = .shr) : (binS op t ox oy (.int q a) (.int r b)).run P w = (Op.shift op q a r b).run P w := by
  unfold binS eqGuard
  rcases h with rfl | rfl <;> simp [Sem.run_bind, Result.andThen, binOp]
theorem w_shr {t : TypeId} {ox oy : Operand} {q r : IntKind} {a b : Int} (h : 0 ≤ b) : opW P (binS .shr t ox oy (.int q a) (.int r b)) k w = k (.int q (a.fdiv (2 ^ (min b.toNat q.bits)))) w :=
  opW_ok (by rw [run_binS_shift (.inr rfl)]; simp [Op.shift, show ¬ b < 0 by omega])
theorem w_shl {t : TypeId} {ox oy : Operand} {q r : IntKind} {a b : Int} (h : 0 ≤ b) : opW P (binS .shl t ox oy (.int q a) (.int r b)) k w = k (.int q (q.wrap (a * 2 ^ (min b.toNat q.bits)))) w :=
  opW_ok (by rw [run_binS_shift (.inl rfl)]; simp [Op.shift, show ¬ b < 0 by omega])
theorem t_shr {t : TypeId} {ox oy : Operand} {q r : IntKind} {a b : Int} {S : World → Prop} {K : Value → Prop} (h : 0 ≤ b) : takeW P S (binS .shr t ox oy (.int q a) (.int r b)) K w = K (.int q (a.fdiv (2 ^ (min b.toNat q.bits)))) := takeW_pure fun w => run_of_eq fun k => w_shr h
theorem t_shl {t : TypeId} {ox oy : Operand} {q r : IntKind} {a b : Int} {S : World → Prop} {K : Value → Prop} (h : 0 ≤ b) : takeW P S (binS .shl t ox oy (.int q a) (.int r b)) K w = K (.int q (q.wrap (a * 2 ^ (min b.toNat q.bits)))) := takeW_pure fun w => run_of_eq fun k => w_shl h
def intT (P : Program) (t : TypeId) : Option IntKind := match P.underlying t with | some (.int q) => some q | _ => none
theorem w_conv {s d : TypeId} {q r : IntKind} {x : Int} (hs : (P.underlying s).isSome = true) (h : intT P d = some q) : opW P (convert s d (.int r x)) k w = k (.int q (q.wrap x)) w :=
  opW_ok (by
    unfold intT at h
    split at h
    · rename_i q' hu
      cases h
      cases hsu : P.underlying s with
      | none => rw [hsu] at hs; cases hs
      | some ds => simp [convert, Sem.run_bind, run_underlying' hsu, run_underlying' hu, Result.andThen, Conv.intToInt]
    · cases h)
theorem wrap_id {n : Int} (h : -9223372036854775808 ≤ n ∧ n ≤ 9223372036854775807) : IntKind.i64.wrap n = n := IntWalk.i64_in n h

/-! ### slices' lengths, addresses, loads -/
theorem run_underlying {t : TypeId} {d : TypeDesc} (h : P.underlying t = some d) : (underlying t).run P w = .ok d w := by
  simp [underlying, program, Sem.run_bind, Sem.run, Result.andThen, h]
theorem run_typeInfo {t : TypeId} {d : TypeInfo} (h : P.info? t = some d) : (typeInfo t).run P w = .ok d w := by
  simp [typeInfo, program, Sem.run_bind, Sem.run, Result.andThen, h]
theorem run_sizeOf {t : TypeId} (h : known P t = true) : (sizeOf t).run P w = .ok (sizeT P t) w := by
  simp only [known, Bool.and_eq_true] at h
  cases hi : P.info? t with
  | none => rw [hi] at h; simp at h
  | some i => simp [sizeOf, Sem.run_bind, Result.andThen, run_typeInfo hi, sizeT, hi]
theorem slice_desc {t : TypeId} (h : isSliceT P t = true) : P.underlying t = some (.slice (elemT P t)) := by
  unfold isSliceT at h
  unfold elemT
  split at h
  · rename_i e he; rw [he]
  · cases h
theorem w_len {t ty : TypeId} {a : Option Addr} {n c : Nat} (h : isSliceT P t = true) : opW P (Builtin.len_ #[t] ty #[.slice a n c]) k w = k (.int .i64 n) w :=
  opW_ok (by simp [Builtin.len_, Sem.run_bind, Result.andThen, run_underlying (slice_desc h), goInt])
theorem w_index {t : TypeId} {a : Addr} {n c : Nat} {q : IntKind} {i : Int} (h : isSliceT P t = true) (he : known P (elemT P t) = true) (h0 : 0 ≤ i) (h1 : i < n) :
    opW P (Instr.indexAt t (.slice (some a) n c) (.int q i)) k w = k (.pointer (some (a.add (i.toNat * sizeT P (elemT P t))))) w :=
  opW_ok (by simp [Instr.indexAt, Sem.run_bind, Result.andThen, run_underlying (slice_desc h), asIntOf, h0, h1, run_sizeOf he])
theorem w_load {t : TypeId} {a : Addr} {v : Value} (h : isAggT P t = false) (hk : known P t = true) (hc : w.cell? a = some v) : opW P (Instr.loadAt t (.pointer (some a))) k w = k v w :=
  opW_ok (by
    simp only [known, Bool.and_eq_true] at hk
    cases hu : P.underlying t with
    | none => rw [hu] at hk; simp at hk
    | some d =>
      have : (isAgg t).run P w = .ok false w := by
        simp only [isAgg, Sem.run_bind, Result.andThen, run_underlying hu]
        unfold isAggT at h
        rw [hu] at h
        cases d <;> first | rfl | (simp at h)
      simp [Instr.loadAt, Instr.sureAddr, loadVar, Sem.run_bind, Result.andThen, this, load, Sem.run, hc])
/-- the cells from (b, o) on hold vs -/
def Cells (w : World) (b o : Nat) (vs : List Value) : Prop := ∀ j v, vs[j]? = some v → w.cell? ⟨b, o + j, none⟩ = some v
theorem add_none (b o n : Nat) : (⟨b, o, none⟩ : Addr).add n = ⟨b, o + n, none⟩ := by unfold Addr.add; split <;> simp_all
theorem run_loadCellsFrom {b o : Nat} : ∀ (vs : List Value) (i : Nat) (acc : Array Value), Cells w b (o + i) vs → (loadCellsFrom ⟨b, o, none⟩ i vs.length acc).run P w = .ok (acc ++ vs.toArray) w
  | [], i, acc, _ => by simp [loadCellsFrom]
  | v :: r, i, acc, h => by
    have h0 : w.cell? ⟨b, o + i, none⟩ = some v := by simpa using h 0 v (by simp)
    have hr : Cells w b (o + (i + 1)) r := fun j u hu => by
      have := h (j + 1) u (by simpa using hu)
      rw [show o + i + (j + 1) = o + (i + 1) + j by omega] at this; exact this
    simp only [List.length_cons, loadCellsFrom, Sem.run_bind, add_none, load, Sem.run, h0, Result.andThen]
    rw [run_loadCellsFrom r (i + 1) _ hr]
    simp
theorem w_loadAgg {t : TypeId} {b o : Nat} {vs : List Value} (h : isAggT P t = true) (hk : known P t = true) (hs : sizeT P t = vs.length) (hc : Cells w b o vs) :
    opW P (Instr.loadAt t (.pointer (some ⟨b, o, none⟩))) k w = k (.agg vs.toArray) w :=
  opW_ok (by
    have hk' := hk
    simp only [known, Bool.and_eq_true] at hk
    cases hu : P.underlying t with
    | none => rw [hu] at hk; simp at hk
    | some d =>
      have : (isAgg t).run P w = .ok true w := by
        simp only [isAgg, Sem.run_bind, Result.andThen, run_underlying hu]
        unfold isAggT at h
        rw [hu] at h
        cases d <;> first | rfl | (simp at h)
      have hl := run_loadCellsFrom (P := P) (w := w) (b := b) (o := o) vs 0 #[] (by simpa using hc)
      simp [Instr.loadAt, Instr.sureAddr, loadVar, Sem.run_bind, Result.andThen, this, loadCells, run_sizeOf hk', hs, hl])
theorem w_field {t : TypeId} {f o x : Nat} {b : Nat} (h : fieldOff P t f = some x) : opW P (Instr.fieldAt t (.pointer (some ⟨b, o, none⟩)) f) k w = k (.pointer (some ⟨b, o + x, none⟩)) w :=
  opW_ok (by
    unfold fieldOff at h
    split at h
    · rename_i fs hu
      split at h
      · rename_i g hg
        split at h
        · rename_i i hi
          split at h
          · cases h
          · rename_i hz
            cases h
            have hs : (sizeOf g.type).run P w = .ok i.size w := by simp [sizeOf, Sem.run_bind, Result.andThen, run_typeInfo hi]
            simp [Instr.fieldAt, Sem.run_bind, Result.andThen, run_underlying hu, hg, Instr.sureAddr, fieldPlace, hs, hz, add_none]
        · cases h
      · cases h
    · cases h)

/-! ### stores, new memory -/
theorem one_cells {v : Value} (h : v.oneCell' = true) : v.cells = #[v] := by cases v <;> first | rfl | cases h
theorem run_store1 {a : Addr} {v old : Value} (hv : v.oneCell' = true) (hc : w.cell? a = some old) (hf : w.frozen? a = false) : (store a v).run P w = .ok () (w.setCell a v) := by
  cases v <;> first | (simp only [store, Sem.run, hc, hf]; rfl) | cases hv
theorem w_store {t : TypeId} {a : Addr} {v old : Value} (hv : v.oneCell' = true) (hs : sizeT P t = 1) (hk : known P t = true) (hc : w.cell? a = some old) (hf : w.frozen? a = false) :
    opU P (Instr.storeAt t (.pointer (some a)) v) k w = k undef (w.setCell a v) :=
  opU_ok (u := ()) (by
    have h1 := run_store1 (P := P) hv hc hf
    have ha : a.add 0 = a := by simp [Addr.add]
    simp [Instr.storeAt, Instr.sureAddr, storeVar, Sem.run_bind, Result.andThen, one_cells hv, run_sizeOf hk, hs, storeCells, ha, h1])
/-- several cells stored, one behind the other -/
def setCells (w : World) (b : Nat) : Nat → List Value → World
  | _, [] => w
  | o, v :: r => setCells (w.setCell ⟨b, o, none⟩ v) b (o + 1) r
theorem run_storeCells {b o : Nat} : ∀ (vs : List Value) (i : Nat) (w : World), (∀ v ∈ vs, v.oneCell' = true) → (∀ j, j < vs.length → ∃ old, w.cell? ⟨b, o + i + j, none⟩ = some old) → (∀ j, j < vs.length → w.frozen? ⟨b, o + i + j, none⟩ = false) →
    (storeCells ⟨b, o, none⟩ vs i).run P w = .ok () (setCells w b (o + i) vs)
  | [], i, w, _, _, _ => by simp [storeCells, setCells]
  | v :: r, i, w, hv, hc, hf => by
    obtain ⟨old, h0⟩ := hc 0 (by simp)
    have f0 := hf 0 (by simp)
    simp only [Nat.add_zero] at h0 f0
    simp only [storeCells, Sem.run_bind, add_none, run_store1 (hv v (by simp)) h0 f0, Result.andThen, setCells]
    have ih := run_storeCells r (i + 1) (w.setCell ⟨b, o + i, none⟩ v) (fun u hu => hv u (by simp [hu]))
      (fun j hj => by
        obtain ⟨u, hu⟩ := hc (j + 1) (by simp; omega)
        refine ⟨u, ?_⟩
        have hne : (⟨b, o + i, none⟩ : Addr) ≠ ⟨b, o + i + (j + 1), none⟩ := by simp
        rw [show o + (i + 1) + j = o + i + (j + 1) by omega, World.cell?_setCell_other (h := hne)]; exact hu)
      (fun j hj => by rw [World.frozen?_setCell, show o + (i + 1) + j = o + i + (j + 1) by omega]; exact hf (j + 1) (by simp; omega))
    rw [ih, show o + (i + 1) = o + i + 1 by omega]
theorem w_storeAgg {t : TypeId} {b o : Nat} {vs : List Value} (hv : ∀ v ∈ vs, v.oneCell' = true) (hs : sizeT P t = vs.length) (hk : known P t = true)
    (hc : ∀ j, j < vs.length → ∃ old, w.cell? ⟨b, o + j, none⟩ = some old) (hf : ∀ j, j < vs.length → w.frozen? ⟨b, o + j, none⟩ = false) :
    opU P (Instr.storeAt t (.pointer (some ⟨b, o, none⟩)) (.agg vs.toArray)) k w = k undef (setCells w b o vs) :=
  opU_ok (u := ()) (by
    have h1 := run_storeCells (P := P) (b := b) (o := o) vs 0 w hv (by simpa using hc) (by simpa using hf)
    simp [Instr.storeAt, Instr.sureAddr, storeVar, Sem.run_bind, Result.andThen, run_sizeOf hk, hs, Value.cells, h1])
theorem w_box {t : TypeId} {v : Value} : opW P (Instr.box t v) k w = k (.pointer (some ⟨w.heap.size, 0, none⟩)) (w.alloc (.cells v.cells t (0, 0))) :=
  opW_ok (by simp [Instr.box, newVar, newRow])
theorem w_alloc {t : TypeId} (h : hasZero P t = true) : opW P (Instr.alloc t true (.tuple #[])) k w = k (.pointer (some ⟨w.heap.size, 0, none⟩)) (w.alloc (.cells (zeroT P t).cells t (0, 0))) :=
  opW_ok (by
    unfold hasZero at h
    split at h
    · rename_i i hi
      cases hz : i.zero with
      | none => rw [hz] at h; cases h
      | some z =>
        have : (zeroValue t).run P w = .ok z w := by simp [zeroValue, Sem.run_bind, Result.andThen, run_typeInfo hi, hz]
        simp [Instr.alloc, Sem.run_bind, Result.andThen, this, newVar, newRow, zeroT, hi, hz]
    · cases h)
theorem w_makeFunc {fn : Fn} {a b : Array Value} : opW P (Instr.makeFunc fn a b) k w = k (.func fn a b) w := opW_ok (by simp [Instr.makeFunc])
theorem w_extract {vs : Array Value} {i : Nat} {v : Value} (h : vs[i]? = some v) : opW P (Instr.extract (.tuple vs) i) k w = k v w := opW_ok (by simp [Instr.extract, h])
/-- a slice type: its elements' type, their cells, bytes and zero -/
structure STy (P : Program) (t e : TypeId) (size bytes : Nat) (z : Value) : Prop where
  u : P.underlying t = some (.slice e)
  i : (P.info? e).map (fun i => (i.zero, i.size, i.bytes)) = some (some z, size, bytes)
  zs : z.cells.size = size
  pos : 0 < size
theorem STy.info {t e : TypeId} {size bytes : Nat} {z : Value} (h : STy P t e size bytes z) : ∃ i, P.info? e = some i ∧ i.zero = some z ∧ i.size = size ∧ i.bytes = bytes := by
  have := h.i
  cases hi : P.info? e with
  | none => rw [hi] at this; cases this
  | some i => rw [hi] at this; simp at this; exact ⟨i, rfl, this.1, this.2.1, this.2.2⟩
theorem STy.isSlice {t e : TypeId} {size bytes : Nat} {z : Value} (h : STy P t e size bytes z) : isSliceT P t = true := by simp [isSliceT, h.u]
theorem STy.elem {t e : TypeId} {size bytes : Nat} {z : Value} (h : STy P t e size bytes z) : elemT P t = e := by simp [elemT, h.u]
theorem STy.sizeE {t e : TypeId} {size bytes : Nat} {z : Value} (h : STy P t e size bytes z) : sizeT P e = size := by
  obtain ⟨i, hi, _, hs, _⟩ := h.info; simp [sizeT, hi, hs]
theorem w_make {t e : TypeId} {size bytes n base : Nat} {z : Value} {q r : IntKind} (h : STy P t e size bytes z) (hb : bytes * n ≤ 281474976710656) (hn : n ≤ maxLen) (hbase : base ≤ w.heap.size)
    (hk : ∀ w', w'.ownsRow base e size (.slice (some ⟨w.heap.size, 0, none⟩) n n) n (madeCells z.cells (n * size)).toList → w.grownBy w' none → k (.slice (some ⟨w.heap.size, 0, none⟩) n n) w') :
    opW P (Instr.makeSlice t (.int q n) (.int r n)) k w := by
  obtain ⟨i, hi, hz, hs, hby⟩ := h.info
  obtain ⟨w', hr, ho, hg⟩ := run_make_full (P := P) w base t e i z size h.u hi hz hs q r n (by rw [hby]; exact hb) hn hbase
  rw [opW_ok hr]
  exact hk w' ho hg
theorem w_append {t ty e : TypeId} {size bytes base : Nat} {z : Value} (h : STy P t e size bytes z) {v : Value} {n : Nat} {xs : List Value} (hown : w.ownsRow base e size v n xs)
    {a : Addr} {m c : Nat} {news : List Value} (hl : news.length = m * size) (hnews : ∀ j u, news[j]? = some u → w.cell? (a.add j) = some u) (h1 : ∀ u ∈ news, u.oneCell' = true)
    (h63 : n + m ≤ maxLen) (hbytes : (n + m) * bytes ≤ 140737488355328) (hbase : base ≤ w.heap.size)
    (hk : ∀ v' w', w'.ownsRow base e size v' (n + m) (xs ++ news) → w.grownBy w' v.ownBlock → k v' w') :
    opW P (Builtin.append_ #[t, t] ty #[v, .slice (some a) m c]) k w := by
  obtain ⟨i, hi, hz, hs, hby⟩ := h.info
  obtain ⟨v', w', hr, ho, hg, _⟩ := run_append_own (P := P) w (ty := ty) base t e i z size bytes h.u hi hz hs hby h.zs h.pos v n xs hown a m c news hl hnews h1 h63 hbytes hbase
  rw [opW_ok hr]
  exact hk v' w' ho hg
theorem w_append_nil {t ty e : TypeId} {size bytes base : Nat} {z : Value} (h : STy P t e size bytes z) {v : Value} {n : Nat} {xs : List Value} (hown : w.ownsRow base e size v n xs) :
    opW P (Builtin.append_ #[t, t] ty #[v, .slice none 0 0]) k w = k v w := by
  obtain ⟨i, hi, hz, hs, hby⟩ := h.info
  exact opW_ok (run_append_owned_none (P := P) w base t ty e i size h.u hi v n xs hown)
theorem foldl_set : ∀ (l : List Value) (k : Nat) (cs : List Value), k + l.length ≤ cs.length → (l.zipIdx k).foldl (fun (cs : Array Value) (p : Value × Nat) => cs.setIfInBounds p.2 p.1) cs.toArray = (cs.take k ++ l ++ cs.drop (k + l.length)).toArray
  | [], k, cs, _ => by simp
  | v :: r, k, cs, h => by
    simp only [List.length_cons] at h
    simp only [List.zipIdx_cons, List.foldl_cons, List.setIfInBounds_toArray]
    rw [foldl_set r (k + 1) (cs.set k v) (by simp; omega)]
    congr 1
    apply List.ext_getElem?
    intro j
    simp only [List.append_assoc, List.getElem?_append, List.getElem?_take, List.getElem?_drop, List.length_take, List.length_set, List.length_cons, List.getElem?_set, List.getElem?_cons]
    by_cases h1 : j < k
    · have : min k cs.length = k := by omega
      have h2 : min (k + 1) cs.length = k + 1 := by omega
      simp [this, h2, h1, show j < k + 1 by omega, show ¬ k = j by omega]
    · have : min k cs.length = k := by omega
      have h2 : min (k + 1) cs.length = k + 1 := by omega
      simp only [this, h2, h1, if_false]
      by_cases h3 : j = k
      · subst h3; simp; omega
      · have h4 : ¬ j < k + 1 := by omega
        simp only [h4, if_false]
        have h5 : ¬ j - k = 0 := by omega
        by_cases h6 : j - (k + 1) < r.length
        · simp [h6, h5, show j - k - 1 = j - (k + 1) by omega, show j - k < r.length + 1 by omega]
        · simp [h6, show ¬ j - k < r.length + 1 by omega, show ¬ k = k + 1 + r.length + (j - (k + 1) - r.length) by omega, show k + 1 + r.length + (j - (k + 1) - r.length) = k + (r.length + 1) + (j - k - (r.length + 1)) by omega]
          intro hh; omega
/-- a slice of one element, made on the spot -/
theorem w_one {t e : TypeId} {size bytes : Nat} {z v : Value} (h : STy P t e size bytes z) (hv : v.cells.size = size) (hsm : size ≤ 16777216) :
    opW P (Instr.buildSlice t 1 #[(0, v)]) k w = k (.slice (some ⟨w.heap.size, 0, none⟩) 1 1) (w.alloc (.cells v.cells e (0, 0))) := by
  obtain ⟨i, hi, hz, hs, hby⟩ := h.info
  refine opW_ok (run_buildSlice (P := P) w t e 1 _ v.cells i z h.u hi hz (by rw [hs]; omega) (by rw [hs]; have := h.pos; omega) ?_)
  have hsz := h.zs
  have hpos := h.pos
  have hsize : (Array.map (fun x => z.cells[x % z.cells.size]!) (Array.range (1 * i.size))).size = size := by simp [hs]
  simp only [Instr.fill, Nat.zero_mul, hs, hv, Nat.zero_add]
  rw [if_neg (by simp [hs])]
  congr 1
  have hf := foldl_set v.cells.toList 0 (Array.map (fun x => z.cells[x % z.cells.size]!) (Array.range (1 * size))).toList (by simp [hv])
  rw [← Array.foldl_toList, Array.toList_zipIdx]
  have e1 : ((Array.map (fun x => z.cells[x % z.cells.size]!) (Array.range (1 * size))).toList).toArray = Array.map (fun x => z.cells[x % z.cells.size]!) (Array.range (1 * size)) := rfl
  rw [e1] at hf
  refine Eq.trans hf ?_
  have e2 : (Array.map (fun x => z.cells[x % z.cells.size]!) (Array.range (1 * size))).toList.length = size := by simp
  rw [List.take_zero, List.nil_append, List.drop_of_length_le (by rw [e2]; simp [hv]), List.append_nil]
end
end Go.V
