/- Part 5 of the proof of journalMatchesReference: lemmas for it; no condition beyond the statement. -/
import Derived.Test.YtbojglaimdjagaaGreatDoorMr3
import Derived.WalkKit
import Derived.LaidEql
import Derived.Stop.Asserts
import Derived.RowKitTokens
import Derived.Defers
import Derived.Recover
/- errors.Is of an error and itself; the deferred call of open. -/
set_option linter.unusedSimpArgs false
set_option linter.unusedVariables false
set_option maxRecDepth 4000
namespace Go.Proofs.YtbojglaimdjagaaGreatDoor
open Go Go.V Go.RowKit Go.Extern.Stop Go.Stop Go.Extern
theorem isTypeOf (v : Value) (w : World) : (Extern.ReflectliteType.typeOf #[.iface 222 v]).run Tryz.prog w = .ok (.iface 171 (.agg #[.pointer (some ⟨5, 222, none⟩)])) w := by kernel_rfl
theorem isComparable (w : World) : ((Extern.ReflectliteType.method fun t => do Extern.Rtype.noPackHeld "Comparable" t; (fun a => Value.bool a.comparable) <$> typeInfo t) #[.agg #[.pointer (some ⟨5, 222, none⟩)]]).run Tryz.prog w = .ok (.bool true) w := by kernel_rfl
theorem isMethodComparable (v : Value) (w : World) : (Go.method 355 171 v "Comparable").run Tryz.prog w = .ok (171, v) w := by kernel_rfl
theorem isComp : (Tryz.prog.info? 222).map (·.comparable) = some true := by kernel_rfl
theorem isSize : (Tryz.prog.info? 244).map (·.size) = some 1 := by kernel_rfl
theorem is_same (a : Addr) (w : World) :
    Calls Tryz.prog 77 #[.iface 222 (.pointer (some a)), .iface 222 (.pointer (some a))] w fun e w' => e = .returned (.bool true) ∧ w' = w := by
  obtain ⟨i, hi, hcmp⟩ := Option.map_eq_some_iff.1 isComp
  obtain ⟨j, hj, hjs⟩ := Option.map_eq_some_iff.1 isSize
  have h8 := @run_callFunc_extern Tryz.prog 98 _ Extern.ReflectliteType.typeOf Tryz.func98 (by kernel_rfl) (by kernel_rfl) (by kernel_rfl) (by kernel_rfl)
  have h32 := @run_callFunc_extern Tryz.prog 171 _ (Extern.ReflectliteType.method fun t => do Extern.Rtype.noPackHeld "Comparable" t; pure (.bool (← typeInfo t).comparable)) Tryz.func171 (by kernel_rfl) (by kernel_rfl) (by kernel_rfl) (by kernel_rfl)
  have tT := isTypeOf
  have cT := isComparable
  have mR := isMethodComparable
  have heq := run_eql_iface_ptr_same (P := Tryz.prog) w a Tryz.underlying80 Tryz.underlying222 hi hcmp hj
  go_enter Tryz.func77, Tryz.ntmps77
  go_wp2
  refine wp_loop_rounds 1 ?_
  rw [rounds_succ]
  go_wp2
  go_ret
  exact ⟨rfl, rfl⟩
end Go.Proofs.YtbojglaimdjagaaGreatDoor
/- The deferred call of open. -/
set_option linter.unusedSimpArgs false
set_option linter.unusedVariables false
set_option maxRecDepth 4000
namespace Go.Proofs.YtbojglaimdjagaaGreatDoor
open Go Go.V Go.RowKit Go.Extern.Stop Go.Stop Go.Extern
theorem isErr (v : Value) (w : World) : (Instr.typeAssert (.iface 222 v) 20 80 true).run Tryz.prog w = .ok (.tuple #[.iface 222 v, .bool true]) w := run_typeAssert_hasB Tryz.underlying80 (by kernel_rfl) v 20 w
theorem isNil (w : World) : (Instr.typeAssert .nilIface 20 80 true).run Tryz.prog w = .ok (.tuple #[.nilIface, .bool false]) w := by kernel_rfl
theorem arr15 (a b c d e f g h i : Value) : #[a, b] ++ (((((((Array.replicate 13 undef).setIfInBounds 3 c).setIfInBounds 4 d).setIfInBounds 2 e).setIfInBounds 5 f).setIfInBounds 6 g).setIfInBounds 0 h).setIfInBounds 1 i = #[a, b, h, i, e, c, d, f, g, undef, undef, undef, undef, undef, undef] := by kernel_rfl
theorem catch_panicking (bp bq : Nat) (x y : Value) (e : Addr) (older : List PanicEntry) (w : World) (hp : w.cell? ⟨bp, 0, none⟩ = some x) (hq : w.cell? ⟨bq, 0, none⟩ = some y) (fp : w.frozen? ⟨bp, 0, none⟩ = false) (fq : w.frozen? ⟨bq, 0, none⟩ = false) (hpq : bp ≠ bq)
    (hg : w.cell? ⟨0, 0, none⟩ = some (.iface 222 (.pointer (some e)))) :
    CallsD Tryz.prog 76 #[.pointer (some ⟨bp, 0, none⟩), .pointer (some ⟨bq, 0, none⟩)] (.panicking ({ v := .iface 222 (.pointer (some e)), recovered := false } :: older)) w fun r u' w' =>
      r = .returned (.tuple #[]) ∧ u' = .panicking ({ v := .iface 222 (.pointer (some e)), recovered := true } :: older) ∧ w' = (w.setCell ⟨bp, 0, none⟩ (.pointer none)).setCell ⟨bq, 0, none⟩ (I 342) := by
  refine callsD_of_wpS Tryz.func76 rfl fun c₀ cs hu => ?_
  have t1 := isErr
  have hq2 : (w.setCell ⟨bp, 0, none⟩ (.pointer none)).cell? ⟨bq, 0, none⟩ = some y := by
    have h9 : (⟨bp, 0, none⟩ : Addr) ≠ ⟨bq, 0, none⟩ := fun h => hpq (congrArg Addr.block h)
    rw [World.cell?_setCell_other _ _ _ _ h9]; exact hq
  have fq2 : (w.setCell ⟨bp, 0, none⟩ (.pointer none)).frozen? ⟨bq, 0, none⟩ = false := by
    rw [World.frozen?_setCell]; exact fq
  apply wpS_seq
  apply wpS_region
  simp [wpOpsS, go_sem, recoverD, hu, Tryz.ntmps76, Exit.thenS, t1]
  rw [arr15]
  refine wpS_of_wp ?_
  go_wp2_with (go_at_call 77; refine (is_same _ _).mono ?_; rintro e' w' ⟨rfl, rfl⟩)
  cases c₀
  simp_all [bodyPostS, results, Tryz.results76]
theorem catch_idle (p q : Addr) (w : World) :
    CallsD Tryz.prog 76 #[.pointer (some p), .pointer (some q)] .returning w fun e u' w' => e = .returned (.tuple #[]) ∧ u' = .returning ∧ w' = w := by
  refine callsD_of_wpS Tryz.func76 rfl fun c₀ cs hu => ?_
  have t1 := isNil
  apply wpS_seq
  apply wpS_region
  simp [wpOpsS, go_sem, recoverD, hu, Tryz.ntmps76, Exit.thenS, t1]
  rw [arr15]
  refine wpS_of_wp ?_
  go_wp2
  cases c₀
  simp_all [bodyPostS, results, Tryz.results76]
end Go.Proofs.YtbojglaimdjagaaGreatDoor
/- open. -/
set_option linter.unusedSimpArgs false
set_option linter.unusedVariables false
set_option maxRecDepth 4000
namespace Go.Proofs.YtbojglaimdjagaaGreatDoor
open Go Go.V Go.RowKit Go.Extern.Stop Go.Stop Go.Extern
theorem run_zeros (w : World) : ∃ w', (Instr.makeSlice 39 (I 32) (I 32)).run Tryz.prog w = .ok (.slice (some ⟨w.heap.size, 0, none⟩) 32 32) w' ∧ Below w.heap.size w w' ∧ Mine fB 5 w' w.heap.size (.slice (some ⟨w.heap.size, 0, none⟩) 32 32) (List.replicate 32 0) := by
  have h := (w_zerosM (n := 32) (w := w) (k := fun v w' => v = .slice (some ⟨w.heap.size, 0, none⟩) 32 32 ∧ Below w.heap.size w w' ∧ Mine fB 5 w' w.heap.size (.slice (some ⟨w.heap.size, 0, none⟩) 32 32) (List.replicate 32 0)) (by decide) fun w' a b => ⟨rfl, a, b⟩).out
  split at h
  · rename_i v w' hr
    obtain ⟨rfl, h1, h2⟩ := h
    exact ⟨w', hr, h1, h2⟩
  · exact h.elim
def loadPost (w : World) (s : ByteArray) (B b T : Nat) (rest : List Value) (rv : Value) (t : TP) (r : Ending) (w' : World) : Prop :=
  (r = .returned (.tuple #[]) ∧ ∃ rv' t', ldF (s.size + 1) t s = some t' ∧ TapeR B w' b T rest rv' t' ∧ Off (fun x => x = b ∨ isOf rv x) w w' ∧ Below B w w' ∧ t'.size ≤ s.size ∧ t'.head.size = 32 ∧ t'.recs.length ≤ t'.size) ∨
  (∃ e, r = .panicked [{ v := .iface 222 (.pointer (some e)), recovered := false }] ∧ ldF (s.size + 1) t s = none ∧ w'.cell? ⟨0, 0, none⟩ = some (.iface 222 (.pointer (some e))) ∧ Below B w w')
theorem load_calls {w : World} {B b T : Nat} {rest : List Value} {rv : Value} {t : TP} {s : ByteArray} (hg : Gl w) (h : TapeR B w b T rest rv t) (hB : 3 < B) (hh : t.head.size = 32) (hs : s.size ≤ 1000000) (ht : t.size ≤ s.size) (hn : t.recs.length ≤ t.size) :
    Calls Tryz.prog 78 #[.pointer (some ⟨b, 0, none⟩), .string s] w (loadPost w s B b T rest rv t) := by
  have h1 := (c78 (k := fun v w' => loadPost w s B b T rest rv t (.returned v) w') (kp := fun ch w' => loadPost w s B b T rest rv t (.panicked ch) w') hg h hB hh hs ht hn
    (fun w' rv' t' a1 a2 a3 a4 a5 a6 a7 a8 => .inl ⟨rfl, rv', t', a1, a2, a3, a4, a6, a7, a8⟩) (fun w' e a1 a2 a3 a4 => .inr ⟨e, rfl, a1, a2, a4⟩)).out
  have h2 : Calls Tryz.prog 78 #[.pointer (some ⟨b, 0, none⟩), .string s] w (retPP (fun v w' => loadPost w s B b T rest rv t (.returned v) w') (fun ch w' => loadPost w s B b T rest rv t (.panicked ch) w')) := h1
  refine h2.mono ?_
  intro e w' he
  cases e <;> first | exact he | exact he.elim
theorem TapeR.lower {B B' b T : Nat} {w : World} {rest : List Value} {rv : Value} {t : TP} (h : TapeR B w b T rest rv t) (hb : B' ≤ B) : TapeR B' w b T rest rv t :=
  ⟨h.row, Nat.le_trans hb h.base, h.ne, h.recs.base hb⟩
def openPost (w : World) (db : Nat) (s : ByteArray) (r : Ending) (w' : World) : Prop :=
  (∃ t jb rv, ldF (s.size + 1) tp0 s = some t ∧ r = .returned (.tuple #[.pointer (some ⟨jb, 0, none⟩), I 0]) ∧ Below w.heap.size w w' ∧ TapeR w.heap.size w' jb 74 [.pointer (some ⟨db, 0, none⟩), .bool false] rv t ∧ t.size ≤ s.size ∧ t.head.size = 32 ∧ t.recs.length ≤ t.size) ∨
  (ldF (s.size + 1) tp0 s = none ∧ r = .returned (.tuple #[.pointer none, I 342]) ∧ Below w.heap.size w w')
set_option maxHeartbeats 1600000 in
theorem open_calls (db : Nat) (s : ByteArray) (w : World) (hg : Gl w) (hs : s.size ≤ 1000000) :
    Calls Tryz.prog 54 #[.pointer (some ⟨db, 0, none⟩), .string s] w (openPost w db s) := by
  have hmf : ∀ (fn : Fn) (first cap : Array Value) (w : World), (Instr.makeFunc fn first cap).run Tryz.prog w = .ok (.func fn first cap) w := fun _ _ _ _ => rfl
  obtain ⟨w3, hz, hb3, hm3⟩ := run_zeros ((w.alloc (.cells #[.pointer none] 28)).alloc (.cells #[.int .i64 0] 33))
  have hsA : ((w.alloc (.cells #[.pointer none] 28)).alloc (.cells #[.int .i64 0] 33)).heap.size = w.heap.size + 1 + 1 := by simp
  have hcv : (convert 39 9 (.slice (some ⟨w.heap.size + 1 + 1, 0, none⟩) 32 32)).run Tryz.prog w3 = .ok (.string z32) w3 := by
    rw [← hsA]
    exact run_of_eq fun k => w_toStr (e := 5) (by kernel_rfl) (by kernel_rfl) (by kernel_rfl) hm3.sl (by simp)
  have hs3 : w.heap.size + 1 + 1 ≤ w3.heap.size := by rw [← hsA]; exact hb3.size
  have hj3 : w3.cell? ⟨w.heap.size, 0, none⟩ = some (.pointer none) := by
    rw [World.cell?_of_block (hb3.block _ (by rw [hsA]; show w.heap.size < _; omega))]
    simp
  have fj3 : w3.frozen? ⟨w.heap.size, 0, none⟩ = false := by
    rw [World.frozen?_of_block (hb3.block _ (by rw [hsA]; show w.heap.size < _; omega))]
    simp
  have hj4 : (w3.alloc (.cells #[nS, .string z32, I 0, .pointer (some ⟨db, 0, none⟩), .bool false] 74)).cell? ⟨w.heap.size, 0, none⟩ = some (.pointer none) := by
    rw [World.cell?_alloc_past _ _ _ (show w.heap.size < w3.heap.size by omega)]; exact hj3
  have fj4 : (w3.alloc (.cells #[nS, .string z32, I 0, .pointer (some ⟨db, 0, none⟩), .bool false] 74)).frozen? ⟨w.heap.size, 0, none⟩ = false := by
    rw [World.frozen?_alloc_old _ _ _ (show w.heap.size ≠ w3.heap.size by omega)]; exact fj3
  have hb04 : Below w.heap.size w ((w3.alloc (.cells #[nS, .string z32, I 0, .pointer (some ⟨db, 0, none⟩), .bool false] 74)).setCell ⟨w.heap.size, 0, none⟩ (.pointer (some ⟨w3.heap.size, 0, none⟩))) :=
    (((((Below.refl _ _).alloc (Nat.le_refl _) _).alloc (by simp) _).trans (hb3.mono (by rw [hsA]; omega))).alloc (by omega) _).setCell (Nat.le_refl _) _
  have hr4 : RowAt ((w3.alloc (.cells #[nS, .string z32, I 0, .pointer (some ⟨db, 0, none⟩), .bool false] 74)).setCell ⟨w.heap.size, 0, none⟩ (.pointer (some ⟨w3.heap.size, 0, none⟩))) w3.heap.size 74 [nS, .string z32, I 0, .pointer (some ⟨db, 0, none⟩), .bool false] :=
    (RowAt.new w3 74 #[nS, .string z32, I 0, .pointer (some ⟨db, 0, none⟩), .bool false]).off (Off.set (p := fun x => x = w.heap.size) rfl) (by show ¬ w3.heap.size = w.heap.size; omega)
  have hq : ∀ w5, Below w3.heap.size ((w3.alloc (.cells #[nS, .string z32, I 0, .pointer (some ⟨db, 0, none⟩), .bool false] 74)).setCell ⟨w.heap.size, 0, none⟩ (.pointer (some ⟨w3.heap.size, 0, none⟩))) w5 →
      w5.cell? ⟨w.heap.size, 0, none⟩ = some (.pointer (some ⟨w3.heap.size, 0, none⟩)) ∧ w5.frozen? ⟨w.heap.size, 0, none⟩ = false ∧ w5.cell? ⟨w.heap.size + 1, 0, none⟩ = some (I 0) ∧ w5.frozen? ⟨w.heap.size + 1, 0, none⟩ = false ∧
      ∀ v : Value, (w5.setCell ⟨w.heap.size, 0, none⟩ v).cell? ⟨w.heap.size + 1, 0, none⟩ = some (I 0) := fun w5 hb5 => by
    have n1 : (⟨w.heap.size, 0, none⟩ : Addr) ≠ ⟨w.heap.size + 1, 0, none⟩ := fun h => by have := congrArg Addr.block h; simp at this
    have h1 : w5.cell? ⟨w.heap.size, 0, none⟩ = some (.pointer (some ⟨w3.heap.size, 0, none⟩)) := by
      rw [World.cell?_of_block (hb5.block _ (show w.heap.size < w3.heap.size by omega))]
      exact World.cell?_setCell_same _ _ _ hj4
    have h3 : w5.cell? ⟨w.heap.size + 1, 0, none⟩ = some (I 0) := by
      rw [World.cell?_of_block (hb5.block _ (show w.heap.size + 1 < w3.heap.size by omega)), World.cell?_setCell_other _ _ _ _ n1, World.cell?_alloc_past _ _ _ (show w.heap.size + 1 < w3.heap.size by omega), World.cell?_of_block (hb3.block _ (by rw [hsA]; show w.heap.size + 1 < _; omega))]
      simp
    refine ⟨h1, ?_, h3, ?_, fun v => ?_⟩
    · rw [World.frozen?_of_block (hb5.block _ (show w.heap.size < w3.heap.size by omega)), World.frozen?_setCell]; exact fj4
    · rw [World.frozen?_of_block (hb5.block _ (show w.heap.size + 1 < w3.heap.size by omega)), World.frozen?_setCell, World.frozen?_alloc_old _ _ _ (show w.heap.size + 1 ≠ w3.heap.size by omega), World.frozen?_of_block (hb3.block _ (by rw [hsA]; show w.heap.size + 1 < _; omega))]
      simp
    · rw [World.cell?_setCell_other _ _ _ _ n1]; exact h3
  have hl := load_calls (B := w3.heap.size) (t := tp0) (gl_below hg hb04) ⟨hr4, Nat.le_refl _, by decide, Mine.nil _ _⟩ (by have := hg.2.1; omega) (by decide) hs (Nat.zero_le _) (Nat.le_refl _)
  have hb72 : ∀ (x : ByteArray) w, (Instr.build 72 #[(1, .string x)]).run Tryz.prog w = .ok (.agg #[nS, .string x, I 0]) w := fun x w => by kernel_rfl
  have hb74 : ∀ (x : ByteArray) (d : Option Addr) w, (Instr.build 74 #[(1, .pointer d), (0, .agg #[nS, .string x, I 0])]).run Tryz.prog w = .ok (.agg #[nS, .string x, I 0, .pointer d, .bool false]) w := fun x d w => by kernel_rfl
  go_enter_defers Tryz.func54, Tryz.ntmps54
  go_wp2_with (go_at_call 78; refine hl.mono ?_; clear hl; intro e w5 he; rcases he with ⟨rfl, rv5, t5, p1, p2, p3, p4, p5, p6, p7⟩ | ⟨e0, rfl, p1, p2, p3⟩; all_goals (obtain ⟨q1, q2, q3, q4, q5⟩ := hq w5 (by assumption)))
  · refine leaves_cons (f := 76) (args := #[.pointer (some ⟨w.heap.size, 0, none⟩), .pointer (some ⟨w.heap.size + 1, 0, none⟩)]) (by simp) (by simp [go_sem]) ?_
    refine (catch_idle _ _ _).mono ?_
    rintro e u' w'' ⟨rfl, rfl, rfl⟩
    have r1 : (w5.setCell ⟨w.heap.size, 0, none⟩ (.pointer (some ⟨w3.heap.size, 0, none⟩))).cell? ⟨w.heap.size, 0, none⟩ = some (.pointer (some ⟨w3.heap.size, 0, none⟩)) := World.cell?_setCell_same _ _ _ q1
    simp [Leaves, settle, results, Tryz.results54, go_sem, r1, q5]
    refine .inl ⟨t5, w3.heap.size, rv5, p1, rfl, ?_, ?_, p5, p6, p7⟩
    · exact ((hb04.trans (p4.mono (by omega))).setCell (Nat.le_refl _) _).setCell (by show w.heap.size ≤ w.heap.size + 1; omega) _
    · refine (p2.lower (by omega)).off (p := fun x => x = w.heap.size ∨ x = w.heap.size + 1) ((Off.set (.inl rfl)).trans (Off.set (.inr rfl))) ?_
      intro x hx
      rcases hx with rfl | hx
      · omega
      · have := (p2.recs.ge hx).1
        omega
  · refine leaves_cons (f := 76) (args := #[.pointer (some ⟨w.heap.size, 0, none⟩), .pointer (some ⟨w.heap.size + 1, 0, none⟩)]) (by simp) (by simp [go_sem]) ?_
    refine (catch_panicking w.heap.size (w.heap.size + 1) _ _ e0 [] w5 q1 q3 q2 q4 (by omega) p2).mono ?_
    rintro e u' w'' ⟨rfl, rfl, rfl⟩
    have r1 : (w5.setCell ⟨w.heap.size, 0, none⟩ (.pointer none)).cell? ⟨w.heap.size, 0, none⟩ = some (.pointer none) := World.cell?_setCell_same _ _ _ q1
    simp [Leaves, settle, results, Tryz.results54, go_sem, r1, q5]
    refine .inr ⟨p1, rfl, ?_⟩
    exact ((hb04.trans (p3.mono (by omega))).setCell (Nat.le_refl _) _).setCell (by show w.heap.size ≤ w.heap.size + 1; omega) _
end Go.Proofs.YtbojglaimdjagaaGreatDoor
/- The journal: Open. -/
set_option linter.unusedSimpArgs false
set_option linter.unusedVariables false
set_option maxRecDepth 4000
namespace Go.Proofs.YtbojglaimdjagaaGreatDoor
open Go Go.V Go.RowKit
def zeroB (n : Nat) : ByteArray := ⟨(List.replicate n 0).toArray⟩
theorem zeroB_size (n : Nat) : (zeroB n).size = n := by show Array.size _ = _; simp
/-- what Open does: the answer, the disk, the tape -/
def opJ (n : Nat) (D : DK) : Int × DK × Option TP :=
  if D.off = true then (331, D, none)
  else match ldF (n + 1) tp0 ⟨D.vis.toArray⟩ with
    | none => (342, D, none)
    | some t => if ∀ x ∈ D.vis.drop t.size, x = 0 then (0, D, some t)
      else if (ap2 D t.size (zeroB (n - t.size))).1 = 0 then (0, (ap2 D t.size (zeroB (n - t.size))).2, some t) else ((ap2 D t.size (zeroB (n - t.size))).1, (ap2 D t.size (zeroB (n - t.size))).2, none)
theorem trim_nil (l : List UInt8) : Lib.trimB l 0 = [] ↔ ∀ x ∈ l, x = 0 := by
  have h1 : ∀ l : List UInt8, l.dropWhile (· == 0) = [] ↔ ∀ x ∈ l, x = 0 := fun l => by
    induction l with
    | nil => simp
    | cons a l ih =>
      by_cases h : a = 0
      · subst h; simp [ih]
      · simp [List.dropWhile_cons, h]
  unfold Lib.trimB Lib.trimLeftB Lib.trimRightB
  rw [h1]
  constructor
  · intro h
    have h2 : l.reverse.dropWhile (· == 0) = [] := by
      cases hd : l.reverse.dropWhile (· == 0) with
      | nil => rfl
      | cons a r =>
        exfalso
        rw [hd] at h
        have ha := h a (by simp)
        subst ha
        have hne : l.reverse.dropWhile (· == 0) ≠ [] := by rw [hd]; simp
        have := List.head_dropWhile_not (p := (· == (0 : UInt8))) (l := l.reverse) hne
        simp only [hd, List.head_cons] at this
        simp at this
    rw [h1] at h2
    intro x hx
    exact h2 x (by simpa using hx)
  · intro h
    have h2 : l.reverse.dropWhile (· == 0) = [] := by
      rw [h1]; intro x hx; exact h x (by simpa using hx)
    rw [h2]; simp
section
variable {k : Value → World → Prop} {w : World}
theorem c54 {db : Nat} {s : ByteArray} (hg : Gl w) (hs : s.size ≤ 1000000) (hk : ∀ v w', openPost w db s (.returned v) w' → k v w') : callW Tryz.prog (.func (.func 54) #[] #[]) #[.pointer (some ⟨db, 0, none⟩), .string s] k w := by
  refine callW_calls ok54 (Calls.mono (open_calls db s w hg hs) ?_)
  intro e w' he
  rcases id he with ⟨_, _, _, _, rfl, _⟩ | ⟨_, rfl, _⟩
  · exact hk _ _ he
  · exact hk _ _ he
theorem c55 {s : ByteArray} (hs : s.size ≤ 1000000) (hk : ∀ w', Below w.heap.size w w' → k (.string ⟨(Lib.trimB s.data.toList 0).toArray⟩) w') : callW Tryz.prog (.func (.func 55) #[] #[]) #[.string s, .string ⟨#[0]⟩] k w := by
  refine callW_calls ok55 (Calls.mono (Tryz.strings_Trim_one s 0 (by decide) w (by omega)) ?_)
  rintro e w' ⟨rfl, rfl | rfl⟩
  · exact hk _ (Below.refl _ _)
  · exact hk _ (below_drew w)
theorem c25 {B b n : Nat} {D : DK} {dv vv pv : Value} (hg : Gl w) (hBw : B ≤ w.heap.size) (hd : DiskR B w b D dv vv pv) (hok : DOk n D) (hpl : D.pend.length ≤ 100000)
    (hk : ∀ w' r, StR B w w' b (opJ n D).2.1 dv vv pv → (match (opJ n D).2.2 with
      | none => r = .tuple #[.pointer none, I (opJ n D).1] ∧ (opJ n D).1 ≠ 0
      | some t => (opJ n D).1 = 0 ∧ TOk n t ∧ ∃ jb rv, r = .tuple #[.pointer (some ⟨jb, 0, none⟩), I 0] ∧ TapeR w.heap.size w' jb 74 [.pointer (some ⟨b, 0, none⟩), .bool false] rv t) → k r w') :
    callW Tryz.prog (.func (.func 25) #[] #[]) #[.pointer (some ⟨b, 0, none⟩)] k w := C25 _ _ _ (by
  unfold S25
  rw [eqP27, condW_false]
  refine c51 hd ?_
  refine c52 hd hok.ne fun e he1 he2 => ?_
  cases hoff : D.off with
  | true =>
    rw [he1 hoff, ex0, ex1, w_neq]
    simp only [show decide ((331 : Int) = 0) = false from rfl, Bool.not_false]
    rw [condW_true]
    refine hk w _ ?_ ?_
    · unfold opJ; rw [if_pos hoff]; exact StR.refl hd
    · unfold opJ; rw [if_pos hoff]; exact ⟨rfl, fun h => by cases h⟩
  | false =>
  obtain ⟨s, hs⟩ : ∃ s : ByteArray, (⟨D.vis.toArray⟩ : ByteArray) = s := ⟨_, rfl⟩
  have hsz : s.size = n := by rw [← hs]; show Array.size _ = _; simp [hok.vis]
  have hsl : s.data.toList = D.vis := by rw [← hs]
  have hn2 := hok.n2
  rw [he2 hoff, ex0, ex1, w_neq]
  simp only [decide_true, Bool.not_true]
  rw [condW_false, hs]
  refine c54 hg (by omega) fun v w1 hp => ?_
  rcases hp with ⟨t, jb, rv, hld, hv, hb1, ht1, hts, hth, htr⟩ | ⟨hld, hv, hb1⟩
  case' inr =>
    cases hv
    rw [ex0, ex1, w_neq]
    simp only [show decide ((342 : Int) = 0) = false from rfl, Bool.not_false]
    rw [condW_true]
    have e1 : opJ n D = (342, D, none) := by
      unfold opJ; rw [if_neg (by rw [hoff]; simp), hs, ← hsz, hld]
    refine hk w1 _ ?_ ?_
    · rw [e1]; exact StR.step (Off.refl _ _) (Below.refl _ _) (fun _ h => .inl h) (hd.below hb1) (Off.below hb1) (hb1.mono hBw) fun _ h => .inl h
    · rw [e1]; exact ⟨rfl, fun h => by cases h⟩
  cases hv
  rw [ex0, ex1, w_neq]
  simp only [decide_true, Bool.not_true]
  rw [condW_false]
  have e0 : opJ n D = if ∀ x ∈ D.vis.drop t.size, x = 0 then (0, D, some t)
      else if (ap2 D t.size (zeroB (n - t.size))).1 = 0 then (0, (ap2 D t.size (zeroB (n - t.size))).2, some t) else ((ap2 D t.size (zeroB (n - t.size))).1, (ap2 D t.size (zeroB (n - t.size))).2, none) := by
    unfold opJ; rw [if_neg (by rw [hoff]; simp), hs, ← hsz, hld]
  have hB0 := hb1.mono hBw
  refine joinW_use1 (fun v w' => v = I (opJ n D).1 ∧ StR B w w' b (opJ n D).2.1 dv vv pv ∧ TapeR w.heap.size w' jb 74 [.pointer (some ⟨b, 0, none⟩), .bool false] rv t ∧ ((opJ n D).1 = 0 → (opJ n D).2.2 = some t) ∧ ((opJ n D).1 ≠ 0 → (opJ n D).2.2 = none)) ?_ ?_
  · rintro _ w2 ⟨rfl, hst, ht2, hz, hnz⟩
    rw [w_neq]
    by_cases he : (opJ n D).1 = 0
    · rw [decide_eq_true he, Bool.not_true, condW_false]
      refine hk _ _ hst ?_
      rw [hz he]
      exact ⟨he, ⟨hth, by omega, htr⟩, jb, rv, rfl, ht2⟩
    · rw [decide_eq_false he, Bool.not_false, condW_true]
      refine hk _ _ hst ?_
      rw [hnz he]
      exact ⟨rfl, he⟩
  intro J hJ
  simp only [nilW_ptr]
  rw [fl74_0, fl72_2, ld3 (ht1.row.cell (i := 0 + 2) rfl), w_tailStr (by kernel_rfl) (by omega) (by omega), Int.toNat_natCast]
  refine c55 (by rw [ByteArray.size_extract]; omega) fun w2 hb2 => ?_
  have hex : (s.extract t.size s.size).data.toList = D.vis.drop t.size := by
    rw [ext_list, hsl, List.take_of_length_le (by rw [List.length_drop, hok.vis, hsz]; omega)]
  have hb02 := below_trans hb1 hb2
  have ht2 := ht1.below hb2
  have hd2 := hd.below hb02
  rw [hex, w_neqStr (by kernel_rfl)]
  by_cases hz : ∀ x ∈ D.vis.drop t.size, x = 0
  · rw [decide_eq_true (by rw [(trim_nil _).2 hz]), Bool.not_true, condW_false]
    rw [if_pos hz] at e0
    refine hJ _ _ ?_
    rw [e0]
    exact ⟨rfl, StR.step (Off.refl _ _) (Below.refl _ _) (fun _ h => .inl h) hd2 (Off.below hb02) (hb02.mono hBw) fun _ h => .inl h, ht2, fun _ => rfl, fun h => absurd rfl h⟩
  rw [if_neg hz] at e0
  have hzz : Lib.trimB (D.vis.drop t.size) 0 ≠ [] := fun h => hz ((trim_nil _).1 h)
  rw [decide_eq_false (by
    intro h
    have := congrArg (fun x : ByteArray => x.data.toList) h
    exact hzz this), Bool.not_false, condW_true, drewW_eq]
  have hb03 := below_trans hb02 (below_drew w2)
  have ht3 := ht2.below (below_drew w2)
  clear ht2 hd2
  generalize w2.drew = w3 at *
  have hd3 := hd.below hb03
  have ho3 : Off (dBl b dv vv pv) w3 w3 := Off.refl _ _
  have nj : ¬ dBl b dv vv pv jb := fun hx => by
    obtain ⟨t', h1, h2⟩ := hd3.apart (t := 74) (by decide) jb hx
    exact h2 (Tag.uniq h1 ht3.row.tag)
  refine ⟨Off (dBl b dv vv pv) w3, ho3, ?_⟩
  simp only [nilT_ptr]
  have hlt : t.size < n := by
    rcases Nat.lt_or_ge t.size n with h | h
    · exact h
    · exfalso; apply hz
      rw [List.drop_of_length_le (by rw [hok.vis]; exact h)]
      simp
  rw [tfl74_0, tfl72_2, r_loadO agg3 known3 (ht3.row.cell (i := 0 + 2) rfl) nj ho3, t_lenStr (by kernel_rfl), tfl74_0, tfl72_2, r_loadO agg3 known3 (ht3.row.cell (i := 0 + 2) rfl) nj ho3, t_sub, wrap_id (by omega), t_mf]
  rw [show ((s.size : Int) - (t.size : Int)) = ((n - t.size : Nat) : Int) by omega]
  refine w_zerosM (by omega) fun w4 hb4 hm4 => ?_
  rw [keepS_eq]
  refine ⟨Off.below hb4, ?_⟩
  rw [takeW_same (run_of_eq fun k => w_toStr (e := 5) (by kernel_rfl) (by kernel_rfl) (by kernel_rfl) hm4.sl (fun h => by have := congrArg List.length h; simp at this; omega))]
  rw [show (⟨(List.replicate (n - t.size) (0 : UInt8)).toArray⟩ : ByteArray) = zeroB (n - t.size) from rfl]
  refine c41 rfl fun ja a sb w5 hb5 hja ha hsb r1 r2 r3 => ?_
  have hb35 := below_trans hb4 hb5
  rw [keepS_eq]
  refine ⟨Off.below hb35, ?_⟩
  refine w_parts (F := fFn) (l := [fnW ja a sb, fnS b]) sty127 rfl (by decide) (by decide) (by kernel_rfl) rfl fun w6 hb6 _ hm6 => ?_
  have hb36 := below_trans hb35 hb6
  rw [keepS_eq]
  refine ⟨Off.below hb36, ?_⟩
  have hb06 := below_trans hb03 hb36
  have hd6 := hd.below hb06
  have ht6 := ht3.below hb36
  refine first2 hd6 hok (by rw [zeroB_size]; omega) hpl (Nat.le_trans hBw hb06.size) ht6.row ⟨r1.below hb6, r2.below hb6, r3.below hb6⟩ hm6 fun w7 hst => ?_
  have hjr7 := StR.row hd6 hst ht6.row (by decide)
  have hjm7 := StR.mine hd6 hst ht6.recs (by decide)
  obtain ⟨pv7, hd7, ho7, hb7, hu7⟩ := hst
  rw [keepS_eq]
  refine ⟨(Off.below hb36).trans ho7, ?_⟩
  have hst2 : StR B w w7 b (ap2 D t.size (zeroB (n - t.size))).2 dv vv pv := StR.step (Off.below hb06) (hb06.mono hBw) (fun _ h => .inl h) hd7 ho7 hb7 hu7
  refine hJ _ _ ?_
  by_cases he : (ap2 D t.size (zeroB (n - t.size))).1 = 0
  · rw [if_pos he] at e0
    rw [e0, he]
    exact ⟨rfl, hst2, ⟨hjr7, ht6.base, by decide, hjm7⟩, fun _ => rfl, fun h => absurd rfl h⟩
  · rw [if_neg he] at e0
    rw [e0]
    exact ⟨rfl, hst2, ⟨hjr7, ht6.base, by decide, hjm7⟩, fun h => absurd h he, fun _ => rfl⟩)
end
end Go.Proofs.YtbojglaimdjagaaGreatDoor
/- The journal, plain: a journal in order on its disk. -/
set_option linter.unusedSimpArgs false
set_option linter.unusedVariables false
set_option maxRecDepth 4000
namespace Go.Proofs.YtbojglaimdjagaaGreatDoor
open Go Go.V Go.RowKit
/-- the tape of some records -/
def tpOf (l : List ByteArray) : TP := l.foldl addT tp0
theorem tpOf_recs (l : List ByteArray) : (tpOf l).recs = l := by unfold tpOf; rw [(foldl_addT l tp0).1]; rfl
theorem tpOf_size (l : List ByteArray) : (tpOf l).size = (stL z32 l).length := by unfold tpOf; rw [(foldl_addT l tp0).2]; show 0 + _ = _; rw [Nat.zero_add]; rfl
theorem tpOf_head (l : List ByteArray) : (tpOf l).head = l.foldl chainF z32 := foldl_head l tp0
theorem tpOf_append (l m : List ByteArray) : tpOf (l ++ m) = m.foldl addT (tpOf l) := by unfold tpOf; rw [List.foldl_append]
theorem tpOf_ok (l : List ByteArray) {n : Nat} (h : (tpOf l).size ≤ n) : TOk n (tpOf l) := by
  obtain ⟨a, b⟩ := foldl_ok l tp0 (by decide) (Nat.le_refl _)
  exact ⟨a, h, b⟩
theorem stL_tpOf (l m : List ByteArray) : stL z32 (l ++ m) = stL z32 l ++ (grpB (tpOf l) m).data.toList := by
  rw [stL_append]
  unfold grpB
  rw [tpOf_head]
/-- the content of a disk of n bytes that holds some records -/
def cont (n : Nat) (l : List ByteArray) : List UInt8 := stL z32 l ++ List.replicate (n - (stL z32 l).length) 0
/-- records that can be read again -/
structure Fits (n : Nat) (l : List ByteArray) : Prop where
  small : ∀ r ∈ l, r.size ≤ 65536
  room : (stL z32 l).length ≤ n
theorem ldF_cont {n : Nat} {l : List ByteArray} {s : ByteArray} {tail : List UInt8} (hf : ∀ r ∈ l, r.size ≤ 65536) (hs : s.size = n) (hc : s.data.toList = stL z32 l ++ tail) (h0 : tail.getD 0 0 = 0) : ldF (n + 1) tp0 s = some (tpOf l) :=
  ldF_st l (n + 1) tp0 s tail hf (by show s.data.toList.drop 0 = _; rw [List.drop_zero, hc]; rfl) h0 (Nat.zero_le _) (by show s.size - 0 < _; omega)
theorem getD_zeros (m : Nat) : (List.replicate m (0 : UInt8)).getD 0 0 = 0 := by cases m <;> rfl
/-- a disk at rest, with power for ever -/
structure Rest (n : Nat) (D : DK) : Prop where
  ok : DOk n D
  on : D.off = false
  left : D.left = 0
  pend : D.pend = []
  same : D.dur = D.vis
/-- .. which holds these records -/
structure Gd (n : Nat) (D : DK) (l : List ByteArray) : Prop where
  rest : Rest n D
  fits : Fits n l
  vis : D.vis = cont n l
theorem rest_new {n : Nat} (h1 : 1 ≤ n) (h2 : n ≤ 1000000) : Rest n (newD n) := ⟨⟨h1, h2, by simp [newD], by simp [newD], by simp [newD]⟩, rfl, rfl, rfl, rfl⟩
theorem gd_new {n : Nat} (h1 : 1 ≤ n) (h2 : n ≤ 1000000) : Gd n (newD n) [] := ⟨rest_new h1 h2, ⟨by simp, by simp [stL]⟩, by simp [newD, cont, stL]⟩
theorem vis_size {n : Nat} {D : DK} (h : DOk n D) : (⟨D.vis.toArray⟩ : ByteArray).size = n := by show Array.size _ = _; simp [h.vis]
theorem gd_open {n : Nat} {D : DK} {l : List ByteArray} (h : Gd n D l) : opJ n D = (0, D, some (tpOf l)) := by
  unfold opJ
  rw [if_neg (by rw [h.rest.on]; simp), ldF_cont (n := n) (l := l) (tail := List.replicate (n - (stL z32 l).length) 0) h.fits.small (vis_size h.rest.ok) (by show D.vis = _; rw [h.vis]; rfl) (getD_zeros _)]
  simp only
  rw [if_pos]
  rw [h.vis, tpOf_size]
  unfold cont
  rw [List.drop_left]
  intro x hx
  exact List.eq_of_mem_replicate hx
theorem usedD_zero {D : DK} (h : D.left = 0) : usedD D = D := by unfold usedD; rw [if_pos h]
theorem wrD_zero {D : DK} {o : Nat} {s : ByteArray} (h : D.left = 0) : wrD D o s = { D with vis := ontoL D.vis o s, pend := D.pend ++ [((o : Int), s)] } := by
  unfold wrD; exact usedD_zero h
/-- a write, at rest, and a sync -/
theorem ap2_rest {n : Nat} {D : DK} (h : Rest n D) {o : Nat} {s : ByteArray} (ho : o + s.size ≤ n) : (ap2 D o s).1 = 0 ∧ Rest n (ap2 D o s).2 ∧ (ap2 D o s).2.vis = ontoL D.vis o s := by
  have e1 : (wrD D o s).off = false := by rw [wrD_zero h.left]; exact h.on
  unfold ap2
  rw [if_neg (by rw [h.on]; simp), if_neg (by rw [e1]; simp)]
  refine ⟨rfl, ⟨(h.ok.wr ho).sync, e1, ?_, rfl, rfl⟩, wr_vis⟩
  show (wrD D o s).left = 0
  rw [wrD_zero h.left]; exact h.left
theorem ap4_rest {n : Nat} {D : DK} (h : Rest n D) {o p : Nat} {s y : ByteArray} (ho : o + s.size ≤ n) (hp : p + y.size ≤ n) : (ap4 D o s p y).1 = 0 ∧ Rest n (ap4 D o s p y).2 ∧ (ap4 D o s p y).2.vis = ontoL (ontoL D.vis o s) p y := by
  have e1 : (wrD D o s).off = false := by rw [wrD_zero h.left]; exact h.on
  have h2 : Rest n (syncD (wrD D o s)) := by
    refine ⟨(h.ok.wr ho).sync, e1, ?_, rfl, rfl⟩
    show (wrD D o s).left = 0
    rw [wrD_zero h.left]; exact h.left
  unfold ap4
  rw [if_neg (by rw [h.on]; simp), if_neg (by rw [e1]; simp)]
  obtain ⟨a, b, c⟩ := ap2_rest h2 hp
  refine ⟨a, b, ?_⟩
  rw [c]
  show ontoL (wrD D o s).vis p y = _
  rw [wr_vis]
/-- a group laid behind what is stored: first all but its first byte, then that -/
theorem onto_group {A : List UInt8} {m : Nat} {g : ByteArray} (h1 : 1 ≤ g.size) (h2 : g.size ≤ m) : ontoL (ontoL (A ++ List.replicate m 0) (A.length + 1) (g.extract 1 g.size)) A.length (g.extract 0 1) = A ++ (g.data.toList ++ List.replicate (m - g.size) 0) := by
  have e1 : (g.extract 1 g.size).data.toList = g.data.toList.drop 1 := by
    rw [ext_list, List.take_of_length_le (by rw [List.length_drop, ba_len]; omega)]
  have e2 : (g.extract 0 1).data.toList = g.data.toList.take 1 := by rw [ext_list]; rfl
  have s1 : (g.extract 1 g.size).size = g.size - 1 := by rw [ByteArray.size_extract]; omega
  have s2 : (g.extract 0 1).size = 1 := by rw [ByteArray.size_extract]; omega
  unfold ontoL
  rw [e1, e2, s1, s2]
  have hm : m = 1 + (m - 1) := by omega
  have t1 : (A ++ List.replicate m (0 : UInt8)).take (A.length + 1) = A ++ [0] := by
    rw [List.take_append, List.take_of_length_le (by omega), show A.length + 1 - A.length = 1 by omega, hm, Nat.add_comm 1, List.replicate_succ]; rfl
  have t2 : (A ++ List.replicate m (0 : UInt8)).drop (A.length + 1 + (g.size - 1)) = List.replicate (m - g.size) 0 := by
    rw [List.drop_append, List.drop_of_length_le (by omega), List.nil_append, List.drop_replicate]
    congr 1; omega
  rw [t1, t2]
  have t3 : (A ++ [0] ++ g.data.toList.drop 1 ++ List.replicate (m - g.size) 0).take A.length = A := by
    rw [List.append_assoc, List.append_assoc, List.take_left]
  have t4 : (A ++ [0] ++ g.data.toList.drop 1 ++ List.replicate (m - g.size) 0).drop (A.length + 1) = g.data.toList.drop 1 ++ List.replicate (m - g.size) 0 := by
    rw [List.append_assoc, show A.length + 1 = (A ++ [0]).length by simp, List.drop_left]
  rw [t3, t4, List.append_assoc]
  congr 1
  rw [← List.append_assoc, List.take_append_drop]
theorem grpB_pos {t : TP} {l : List ByteArray} (h : l ≠ []) : 33 ≤ (grpB t l).size := by
  rw [grpB_size]
  obtain ⟨r, l', rfl⟩ := List.exists_cons_of_ne_nil h
  simp only [stL, List.length_append, ba_len, recB_size]
  omega
theorem grp_size (l m : List ByteArray) : (stL z32 (l ++ m)).length = (tpOf l).size + (grpB (tpOf l) m).size := by
  rw [stL_tpOf, List.length_append, ba_len, tpOf_size]
/-- what a group takes -/
theorem gd_append {n : Nat} {D : DK} {l m : List ByteArray} (h : Gd n D l) (hs : ∀ r ∈ m, r.size ≤ 65536) (hr : (stL z32 (l ++ m)).length ≤ n) :
    (apJ n D (tpOf l) false m).1 = 0 ∧ Gd n (apJ n D (tpOf l) false m).2.1 (l ++ m) ∧ (apJ n D (tpOf l) false m).2.2.1 = tpOf (l ++ m) ∧ (apJ n D (tpOf l) false m).2.2.2 = false := by
  have hnl : ¬ (false = true ∨ ∃ s ∈ m, 65536 < s.size) := fun h => h.elim (fun h => by cases h) fun ⟨s, h1, h2⟩ => by have := hs s h1; omega
  have hsz := grp_size l m
  unfold apJ
  rw [if_neg hnl, if_neg (by omega)]
  by_cases hm : m = []
  · subst hm
    rw [if_pos rfl, List.append_nil]
    exact ⟨rfl, h, rfl, rfl⟩
  have hp := grpB_pos (t := tpOf l) hm
  have hts := tpOf_size l
  rw [if_neg hm]
  have s1 : ((grpB (tpOf l) m).extract 1 (grpB (tpOf l) m).size).size = (grpB (tpOf l) m).size - 1 := by rw [ByteArray.size_extract]; omega
  have s2 : ((grpB (tpOf l) m).extract 0 1).size = 1 := by rw [ByteArray.size_extract]; omega
  obtain ⟨a, b, c⟩ := ap4_rest h.rest (o := (tpOf l).size + 1) (p := (tpOf l).size) (s := (grpB (tpOf l) m).extract 1 (grpB (tpOf l) m).size) (y := (grpB (tpOf l) m).extract 0 1) (by omega) (by omega)
  rw [if_pos a]
  refine ⟨rfl, ⟨b, ⟨?_, hr⟩, ?_⟩, (tpOf_append l m).symm, rfl⟩
  · intro r hr'
    rcases List.mem_append.1 hr' with h1 | h1
    · exact h.fits.small r h1
    · exact hs r h1
  · rw [c, h.vis]
    unfold cont
    rw [hts, onto_group (by omega) (by omega), stL_tpOf, List.length_append, ba_len, ← List.append_assoc]
    congr 2; omega
theorem apJ_full {n : Nat} {D : DK} {l m : List ByteArray} (hs : ∀ r ∈ m, r.size ≤ 65536) (hr : n < (stL z32 (l ++ m)).length) : apJ n D (tpOf l) false m = (341, D, tpOf l, false) := by
  have hnl : ¬ (false = true ∨ ∃ s ∈ m, 65536 < s.size) := fun h => h.elim (fun h => by cases h) fun ⟨s, h1, h2⟩ => by have := hs s h1; omega
  have hsz := grp_size l m
  unfold apJ
  rw [if_neg hnl, if_pos (by omega)]
end Go.Proofs.YtbojglaimdjagaaGreatDoor
/- The journal's functions, with frames by tags. -/
set_option linter.unusedSimpArgs false
set_option linter.unusedVariables false
set_option maxRecDepth 4000
namespace Go.Proofs.YtbojglaimdjagaaGreatDoor
open Go Go.V Go.RowKit
/-- blocks at or above B of some types -/
def tgP (ts : List Nat) (B : Nat) (w : World) (x : Nat) : Prop := B ≤ x ∧ ∃ t, Tag w x t ∧ t ∈ ts
/-- of the old blocks only those of some types, at or above B, may differ -/
def OffG (ts : List Nat) (B : Nat) (w w' : World) : Prop := Off (tgP ts B w) w w'
abbrev dT : List Nat := [97, 5, 92]
abbrev jT : List Nat := [97, 5, 92, 74]
theorem OffG.refl (ts : List Nat) (B : Nat) (w : World) : OffG ts B w w := Off.refl _ _
theorem OffG.below {ts : List Nat} {B : Nat} {w w' : World} (h : Below w.heap.size w w') : OffG ts B w w' := Off.below h
theorem OffG.trans {ts : List Nat} {B : Nat} {a b c : World} (h : OffG ts B a b) (h' : OffG ts B b c) : OffG ts B a c := by
  refine ⟨Nat.le_trans h.size h'.size, fun x hx hn => ?_⟩
  have h1 := h.block x hx hn
  rw [← h1]
  refine h'.block x (Nat.lt_of_lt_of_le hx h.size) ?_
  rintro ⟨hB, t, ⟨cur, ht⟩, hm⟩
  exact hn ⟨hB, t, ⟨cur, by rw [← h1]; exact ht⟩, hm⟩
theorem OffG.mono {ts us : List Nat} {B : Nat} {a b : World} (h : OffG ts B a b) (hs : ∀ t ∈ ts, t ∈ us) : OffG us B a b :=
  Off.mono h fun x _ ⟨h1, t, h2, h3⟩ => ⟨h1, t, h2, hs t h3⟩
theorem OffG.row {ts : List Nat} {B r T : Nat} {w w' : World} {vs : List Value} (ho : OffG ts B w w') (h : RowAt w r T vs) (ht : T ∉ ts) : RowAt w' r T vs :=
  h.off ho fun ⟨_, t, h1, h2⟩ => ht (Tag.uniq h.tag h1 ▸ h2)
theorem OffG.mine {α : Type} {F : Fl α} {ts : List Nat} {B B' e : Nat} {w w' : World} {v : Value} {l : List α} (ho : OffG ts B w w') (h : Mine F e w B' v l) (ht : e ∉ ts) : Mine F e w' B' v l :=
  Go.V.Mine.off h ho fun x hx ⟨_, t, h1, h2⟩ => ht (Tag.uniq (Mine.tag h hx) h1 ▸ h2)
/-- a disk -/
def DJ (B : Nat) (w : World) (b : Nat) (D : DK) (dv vv : Value) : Prop := ∃ pv, DiskR B w b D dv vv pv
/-- a journal -/
def TJ (B : Nat) (w : World) (jb b : Nat) (br : Bool) (t : TP) : Prop := ∃ rv, TapeR B w jb 74 [.pointer (some ⟨b, 0, none⟩), .bool br] rv t
theorem DJ.below {B b : Nat} {w w' : World} {D : DK} {dv vv : Value} (h : DJ B w b D dv vv) (hb : Below w.heap.size w w') : DJ B w' b D dv vv := by
  obtain ⟨pv, h⟩ := h; exact ⟨pv, h.below hb⟩
theorem TJ.below {B b jb : Nat} {w w' : World} {br : Bool} {t : TP} (h : TJ B w jb b br t) (hb : Below w.heap.size w w') : TJ B w' jb b br t := by
  obtain ⟨rv, h⟩ := h; exact ⟨rv, h.below hb⟩
theorem TJ.lower {B B' b jb : Nat} {w : World} {br : Bool} {t : TP} (h : TJ B w jb b br t) (hb : B' ≤ B) : TJ B' w jb b br t := by
  obtain ⟨rv, h⟩ := h; exact ⟨rv, h.lower hb⟩
theorem TJ.off {B B' b jb : Nat} {w w' : World} {br : Bool} {t : TP} (h : TJ B w jb b br t) (ho : OffG dT B' w w') : TJ B w' jb b br t := by
  obtain ⟨rv, h⟩ := h
  exact ⟨rv, ho.row h.row (by decide), h.base, h.ne, ho.mine h.recs (by decide)⟩
theorem offG_disk {B b : Nat} {w w' : World} {D : DK} {dv vv pv : Value} (hd : DiskR B w b D dv vv pv) (ho : Off (dBl b dv vv pv) w w') : OffG dT B w w' :=
  ho.mono fun x _ hx => ⟨(hd.lt hx).1, by
    rcases hx with rfl | hx | hx | hx
    · exact ⟨97, hd.row.tag, by decide⟩
    · exact ⟨5, Mine.tag hd.dur hx, by decide⟩
    · exact ⟨5, Mine.tag hd.vis hx, by decide⟩
    · exact ⟨92, Mine.tag hd.pend hx, by decide⟩⟩
theorem offG_jour {B b jb : Nat} {w w' : World} {D : DK} {dv vv pv rv : Value} {rest : List Value} {t : TP} (hd : DiskR B w b D dv vv pv) (hj : TapeR B w jb 74 rest rv t) (ho : Off (fun x => dBl b dv vv pv x ∨ x = jb) w w') : OffG jT B w w' :=
  ho.mono fun x _ hx => by
    rcases hx with hx | rfl
    · refine ⟨(hd.lt hx).1, ?_⟩
      rcases hx with rfl | hx | hx | hx
      · exact ⟨97, hd.row.tag, by decide⟩
      · exact ⟨5, Mine.tag hd.dur hx, by decide⟩
      · exact ⟨5, Mine.tag hd.vis hx, by decide⟩
      · exact ⟨92, Mine.tag hd.pend hx, by decide⟩
    · exact ⟨hj.base, 74, hj.row.tag, by decide⟩
section
variable {k : Value → World → Prop} {w : World} {B b jb n : Nat} {D : DK} {dv vv : Value}
theorem c24d {n : Nat} (h1 : 1 ≤ n) (h2 : n ≤ 100000) (hk : ∀ b dv vv w', Below w.heap.size w w' → DJ w.heap.size w' b (newD n) dv vv → k (.tuple #[.pointer (some ⟨b, 0, none⟩), I 0]) w') : callW Tryz.prog (.func (.func 24) #[] #[]) #[I n] k w :=
  c24 h1 h2 fun b dv vv w' hb hd => hk b dv vv w' hb ⟨_, hd⟩
theorem c25d (hg : Gl w) (hBw : B ≤ w.heap.size) (hd : DJ B w b D dv vv) (hok : DOk n D) (hpl : D.pend.length ≤ 100000)
    (hk : ∀ w' r, DJ B w' b (opJ n D).2.1 dv vv → OffG dT B w w' → Below B w w' → (match (opJ n D).2.2 with
      | none => r = .tuple #[.pointer none, I (opJ n D).1] ∧ (opJ n D).1 ≠ 0
      | some t => (opJ n D).1 = 0 ∧ TOk n t ∧ ∃ jb, r = .tuple #[.pointer (some ⟨jb, 0, none⟩), I 0] ∧ TJ w.heap.size w' jb b false t) → k r w') :
    callW Tryz.prog (.func (.func 25) #[] #[]) #[.pointer (some ⟨b, 0, none⟩)] k w := by
  obtain ⟨pv, hd⟩ := hd
  refine c25 hg hBw hd hok hpl fun w' r ⟨pv', h', ho, hb, _⟩ hm => hk w' r ⟨pv', h'⟩ (offG_disk hd ho) hb ?_
  cases ho : (opJ n D).2.2 with
  | none => rw [ho] at hm; exact hm
  | some t =>
    rw [ho] at hm
    obtain ⟨h1, h2, jb, rv, h3, h4⟩ := hm
    exact ⟨h1, h2, jb, h3, rv, h4⟩
theorem c25g {l : List ByteArray} (hg : Gl w) (hBw : B ≤ w.heap.size) (hd : DJ B w b D dv vv) (hG : Gd n D l)
    (hk : ∀ w' jb, DJ B w' b D dv vv → OffG dT B w w' → Below B w w' → TJ w.heap.size w' jb b false (tpOf l) → k (.tuple #[.pointer (some ⟨jb, 0, none⟩), I 0]) w') :
    callW Tryz.prog (.func (.func 25) #[] #[]) #[.pointer (some ⟨b, 0, none⟩)] k w := by
  refine c25d hg hBw hd hG.rest.ok (by rw [hG.rest.pend]; exact Nat.zero_le _) fun w' r h1 h2 h3 hm => ?_
  rw [gd_open hG] at h1 hm
  obtain ⟨_, _, jb, rfl, h5⟩ := hm
  exact hk w' jb h1 h2 h3 h5
theorem eqP27n {ox oy : Operand} : opW Tryz.prog (binS .eql 27 ox oy (.pointer none) (.pointer none)) k w = k (.bool true) w := opW_ok (by kernel_rfl)
theorem c25n (hk : k (.tuple #[.pointer none, I 1]) w) : callW Tryz.prog (.func (.func 25) #[] #[]) #[.pointer none] k w := C25 _ _ _ (by
  unfold S25
  rw [eqP27n, condW_true]
  exact hk)
theorem c10d {lv : Value} {t : TP} {br : Bool} {l : List ByteArray} (hg : Gl w) (hB : 3 < B) (hBw : B ≤ w.heap.size) (hd : DJ B w b D dv vv) (hok : DOk n D) (hpl : D.pend.length ≤ 100000)
    (hj : TJ B w jb b br t) (ht : TOk n t) (hl : IsSl fT w lv l) (hll : l.length ≤ 100)
    (hk : ∀ w', DJ B w' b (apJ n D t br l).2.1 dv vv → TJ B w' jb b (apJ n D t br l).2.2.2 (apJ n D t br l).2.2.1 → OffG jT B w w' → Below B w w' → k (I (apJ n D t br l).1) w') : callW Tryz.prog (.func (.func 10) #[] #[]) #[.pointer (some ⟨jb, 0, none⟩), lv] k w := by
  obtain ⟨pv, hd⟩ := hd
  obtain ⟨rv, hj⟩ := hj
  refine c10 hg hB hBw hd hok hpl hj ht hl hll fun w' ⟨pv', rv', h1, h2, h3, h4, _, _⟩ => ?_
  exact hk w' ⟨pv', h1⟩ ⟨rv', h2⟩ (offG_jour hd hj h3) h4
theorem c10g {lv : Value} {l m : List ByteArray} (hg : Gl w) (hB : 3 < B) (hBw : B ≤ w.heap.size) (hd : DJ B w b D dv vv) (hG : Gd n D l) (hj : TJ B w jb b false (tpOf l)) (hl : IsSl fT w lv m) (hll : m.length ≤ 100) (hs : ∀ r ∈ m, r.size ≤ 65536) (hr : (stL z32 (l ++ m)).length ≤ n)
    (hk : ∀ w' D', Gd n D' (l ++ m) → DJ B w' b D' dv vv → TJ B w' jb b false (tpOf (l ++ m)) → OffG jT B w w' → Below B w w' → k (I 0) w') : callW Tryz.prog (.func (.func 10) #[] #[]) #[.pointer (some ⟨jb, 0, none⟩), lv] k w := by
  refine c10d hg hB hBw hd hG.rest.ok (by rw [hG.rest.pend]; exact Nat.zero_le _) hj (tpOf_ok l (by rw [tpOf_size]; exact hG.fits.room)) hl hll fun w' h1 h2 h3 h4 => ?_
  obtain ⟨a, b, c, d⟩ := gd_append hG hs hr
  rw [c, d] at h2
  rw [a]
  exact hk w' _ b h1 h2 h3 h4
theorem c10f {lv : Value} {l m : List ByteArray} (hg : Gl w) (hB : 3 < B) (hBw : B ≤ w.heap.size) (hd : DJ B w b D dv vv) (hG : Gd n D l) (hj : TJ B w jb b false (tpOf l)) (hl : IsSl fT w lv m) (hll : m.length ≤ 100) (hs : ∀ r ∈ m, r.size ≤ 65536) (hr : n < (stL z32 (l ++ m)).length)
    (hk : ∀ w', DJ B w' b D dv vv → TJ B w' jb b false (tpOf l) → OffG jT B w w' → Below B w w' → k (I 341) w') : callW Tryz.prog (.func (.func 10) #[] #[]) #[.pointer (some ⟨jb, 0, none⟩), lv] k w := by
  refine c10d hg hB hBw hd hG.rest.ok (by rw [hG.rest.pend]; exact Nat.zero_le _) hj (tpOf_ok l (by rw [tpOf_size]; exact hG.fits.room)) hl hll fun w' h1 h2 h3 h4 => ?_
  rw [apJ_full hs hr] at h1 h2 ⊢
  exact hk w' h1 h2 h3 h4
theorem c19d {t : TP} {br : Bool} (h : TJ B w jb b br t) (hl : t.recs.length ≤ 1000000) (hk : ∀ v' w', Below w.heap.size w w' → Mine fT 9 w' w.heap.size v' t.recs → k v' w') : callW Tryz.prog (.func (.func 19) #[] #[]) #[.pointer (some ⟨jb, 0, none⟩)] k w := by
  obtain ⟨rv, h⟩ := h
  exact c19 h hl hk
theorem c20d {t : TP} {br : Bool} (hd : DJ B w b D dv vv) (hok : DOk n D) (h : TJ B w jb b br t) (hs : t.size ≤ 1000000) (hk : ∀ w', Below w.heap.size w w' → k (I ((n : Int) - t.size)) w') : callW Tryz.prog (.func (.func 20) #[] #[]) #[.pointer (some ⟨jb, 0, none⟩)] k w := by
  obtain ⟨rv, h⟩ := h
  obtain ⟨pv, hd⟩ := hd
  exact c20 hd hok.dur hok.n2 h hs hk
theorem c13d {o : Nat} {s : ByteArray} (hBw : B ≤ w.heap.size) (hd : DJ B w b D dv vv) (hok : DOk n D) (hon : D.off = false) (hin : o + s.size ≤ n) (hpl : D.pend.length ≤ 100000)
    (hk : ∀ w', DJ B w' b (wrD D o s) dv vv → OffG dT B w w' → Below B w w' → k (I 0) w') : callW Tryz.prog (.func (.func 13) #[] #[]) #[.pointer (some ⟨b, 0, none⟩), I o, .string s] k w := by
  obtain ⟨pv, hd⟩ := hd
  exact c13 hd hok.ne hon (by rw [hok.dur]; exact hin) (by rw [hok.dur]; exact hok.n2) hok.left hpl hBw fun w' pv' h1 h2 h3 _ => hk w' ⟨pv', h1⟩ (offG_disk hd h2) h3
theorem c22d (hd : DJ B w b D dv vv) (hok : DOk n D) (hon : D.off = false) (hk : k (.string ⟨D.vis.toArray⟩) w) : callW Tryz.prog (.func (.func 22) #[] #[]) #[.pointer (some ⟨b, 0, none⟩)] k w := C22 _ _ _ (by
  obtain ⟨pv, hd⟩ := hd
  unfold S22
  refine c51 hd ?_
  refine c52 hd hok.ne fun e h1 h2 => ?_
  rw [h2 hon, ex0, ex1]
  exact hk)
end
end Go.Proofs.YtbojglaimdjagaaGreatDoor
/- The laws' fixed examples. -/
set_option linter.unusedSimpArgs false
set_option linter.unusedVariables false
set_option maxRecDepth 4000
namespace Go.Proofs.YtbojglaimdjagaaGreatDoor
open Go Go.V Go.RowKit
def sAB : ByteArray := ⟨#[97, 98]⟩
def sE : ByteArray := ⟨#[]⟩
theorem vb4 : (vb 4).length = 1 := by rw [vb_lt (by decide)]; rfl
theorem vb0 : (vb 0).length = 1 := by rw [vb_lt (by decide)]; rfl
theorem vb190 : (vb 190).length = 2 := by rw [vb_ge (by decide), vb_lt (by decide)]; rfl
theorem vb192 : (vb 192).length = 2 := by rw [vb_ge (by decide), vb_lt (by decide)]; rfl
theorem st_two : (stL z32 [sAB, sE]).length = 70 := by
  simp only [stL, List.length_append, ba_len, recB_size, List.length_nil]
  have h1 : sAB.size = 2 := rfl
  have h2 : sE.size = 0 := rfl
  rw [h1, h2]
  have := vb4
  have := vb0
  show 33 + (vb 4).length + 2 + (33 + (vb 0).length + 0 + 0) = 70
  omega
theorem st_three {m c : Nat} (h : (vb (2 * m)).length = c) : (stL z32 ([sAB, sE] ++ [zeroB m])).length = 70 + (33 + c + m) := by
  rw [stL_append, List.length_append, st_two]
  simp only [stL, List.length_append, ba_len, recB_size, List.length_nil, zeroB_size]
  omega
theorem ldF_bad {n : Nat} {t : TP} {s : ByteArray} {c : UInt8} (h : s.data.toList.getD t.size 0 = c) (h0 : c ≠ 0) (h1 : c ≠ 1) (hs : t.size < s.size) : ldF (n + 1) t s = none := by
  unfold ldF
  rw [h, if_pos ⟨hs, h0⟩, if_neg h1]
section
variable {k : Value → World → Prop} {w : World}
/-- a string of zeros, made -/
theorem w_zstr {m : Nat} (h1 : 1 ≤ m) (h2 : m ≤ 1000000) (hk : ∀ w', Below w.heap.size w w' → k (.string (zeroB m)) w') : opW Tryz.prog (Instr.makeSlice 39 (I m) (I m)) (fun v w => opW Tryz.prog (convert 39 9 v) k w) w := by
  refine w_zerosM h2 fun w' hb hm => ?_
  rw [w_toStr (e := 5) (by kernel_rfl) (by kernel_rfl) (by kernel_rfl) hm.sl (fun h => by have := congrArg List.length h; simp at this; omega)]
  exact hk _ hb
set_option maxHeartbeats 1000000 in
theorem c8 (hg : Gl w) (hk : ∀ w', Below w.heap.size w w' → k (.bool true) w') : callW Tryz.prog (.func (.func 8) #[] #[]) #[] k w := C8 _ _ (by
  unfold S8
  have hB : 3 < w.heap.size := hg.2.1
  refine c24d (n := 200) (by decide) (by decide) fun b dv vv w1 hb1 hd1 => ?_
  rw [ex0, ex1]
  have hs1 := hb1.size
  refine c25g (hg.below hb1 hB) hs1 hd1 (gd_new (by decide) (by decide)) fun w2 jb hd2 ho2 hb2 hj2 => ?_
  replace hj2 := hj2.lower hs1
  replace hb2 := hb1.trans hb2
  rw [ex0, ex1, eqP28]
  simp only [guardW_ff, pickW_false]
  rw [w_neq]
  simp only [decide_true, Bool.not_true, guardW_ff, pickW_false]
  refine c19d hj2 (by decide) fun v3 w3 hb3 hm3 => ?_
  have e0 : (tpOf []).recs = [] := rfl
  rw [e0] at hm3
  rw [len22 hm3.sl, w_neq, decide_eq_true (show ((([] : List ByteArray).length : Nat) : Int) = 0 from rfl), Bool.not_true]
  simp only [guardW_ff, pickW_false]
  replace hd2 := hd2.below hb3
  replace hj2 := hj2.below hb3
  replace hb2 := hb2.trans (hb3.mono hb2.size)
  have hG0 := gd_new (n := 200) (by decide) (by decide)
  refine c20d hd2 hG0.rest.ok hj2 (by decide) fun w4 hb4 => ?_
  rw [show ((200 : Nat) : Int) - ((tpOf []).size : Int) = 200 from rfl, w_neq]
  simp only [decide_true, Bool.not_true, pickW_false]
  rw [condW_false]
  replace hd2 := hd2.below hb4
  replace hj2 := hj2.below hb4
  replace hb2 := hb2.trans (hb4.mono hb2.size)
  clear ho2 hm3
  refine w_parts (F := fT) (l := [sAB, sE]) sty22 rfl (by decide) (by decide) (by kernel_rfl) rfl fun w5 hb5 _ hm5 => ?_
  replace hd2 := hd2.below hb5
  replace hj2 := hj2.below hb5
  replace hb2 := hb2.trans (hb5.mono hb2.size)
  refine c10g (l := []) (m := [sAB, sE]) (hg.below hb2 hB) hB hb2.size hd2 hG0 hj2 hm5.sl (by decide) (by decide) (by rw [List.nil_append, st_two]; decide) fun w6 D6 hG6 hd6 hj6 ho6 hb6 => ?_
  rw [List.nil_append] at hG6 hj6
  replace hb6 := hb2.trans hb6
  refine w_zstr (m := 96) (by decide) (by decide) fun w7 hb7 => ?_
  replace hd6 := hd6.below hb7
  replace hj6 := hj6.below hb7
  replace hb6 := hb6.trans (hb7.mono hb6.size)
  refine w_parts (F := fT) (l := [zeroB 96]) sty22 rfl (by decide) (by decide) (by kernel_rfl) rfl fun w8 hb8 _ hm8 => ?_
  replace hd6 := hd6.below hb8
  replace hj6 := hj6.below hb8
  replace hb6 := hb6.trans (hb8.mono hb6.size)
  have hz : ∀ m, m ≤ 65536 → ∀ r ∈ [zeroB m], r.size ≤ 65536 := fun m hm r hr => by
    simp only [List.mem_singleton] at hr
    subst hr
    rw [zeroB_size]; exact hm
  refine c10f (l := [sAB, sE]) (m := [zeroB 96]) (hg.below hb6 hB) hB hb6.size hd6 hG6 hj6 hm8.sl (by simp) (hz 96 (by decide)) (by rw [st_three vb192]; decide) fun w9 hd9 hj9 ho9 hb9 => ?_
  replace hb9 := hb6.trans hb9
  have hts : (tpOf [sAB, sE]).size = 70 := by rw [tpOf_size, st_two]
  refine c20d hd9 hG6.rest.ok hj9 (by rw [hts]; decide) fun w10 hb10 => ?_
  rw [hts]
  replace hd9 := hd9.below hb10
  replace hj9 := hj9.below hb10
  replace hb9 := hb9.trans (hb10.mono hb9.size)
  refine w_zstr (m := 95) (by decide) (by decide) fun w11 hb11 => ?_
  replace hd9 := hd9.below hb11
  replace hj9 := hj9.below hb11
  replace hb9 := hb9.trans (hb11.mono hb9.size)
  refine w_parts (F := fT) (l := [zeroB 95]) sty22 rfl (by decide) (by decide) (by kernel_rfl) rfl fun w12 hb12 _ hm12 => ?_
  replace hd9 := hd9.below hb12
  replace hj9 := hj9.below hb12
  replace hb9 := hb9.trans (hb12.mono hb9.size)
  refine c10g (l := [sAB, sE]) (m := [zeroB 95]) (hg.below hb9 hB) hB hb9.size hd9 hG6 hj9 hm12.sl (by simp) (hz 95 (by decide)) (by rw [st_three vb190]; decide) fun w13 D13 hG13 hd13 hj13 ho13 hb13 => ?_
  replace hb13 := hb9.trans hb13
  refine c25g (hg.below hb13 hB) hb13.size hd13 hG13 fun w14 jb2 hd14 ho14 hb14 hk14 => ?_
  replace hj13 := hj13.off ho14
  replace hk14 := hk14.lower hb13.size
  replace hb14 := hb13.trans hb14
  rw [ex0, ex1, eqP28, condW_false]
  refine c13d (o := 0) (s := ⟨#[2]⟩) hb14.size hd14 hG13.rest.ok hG13.rest.on (by decide) (by rw [hG13.rest.pend]; decide) fun w15 hd15 ho15 hb15 => ?_
  replace hj13 := hj13.off ho15
  replace hk14 := hk14.off ho15
  replace hb15 := hb14.trans hb15
  have hok15 : DOk 200 (wrD D13 0 ⟨#[2]⟩) := hG13.rest.ok.wr (by decide)
  have hv15 : (wrD D13 0 ⟨#[2]⟩).vis.getD 0 0 = 2 := by
    rw [wr_vis]; unfold ontoL; rfl
  have hop : opJ 200 (wrD D13 0 ⟨#[2]⟩) = (342, wrD D13 0 ⟨#[2]⟩, none) := by
    unfold opJ
    have e1 : (wrD D13 0 ⟨#[2]⟩).off = false := by rw [wrD_zero hG13.rest.left]; exact hG13.rest.on
    rw [if_neg (by rw [e1]; simp)]
    have e2 : ldF (200 + 1) tp0 ⟨(wrD D13 0 ⟨#[2]⟩).vis.toArray⟩ = none := ldF_bad (c := 2) hv15 (by decide) (by decide) (by rw [vis_size hok15]; decide)
    rw [e2]
  refine c25d (hg.below hb15 hB) hb15.size hd15 hok15 (by rw [wr_pend, hG13.rest.pend]; decide) fun w16 r16 hd16 ho16 hb16 hm16 => ?_
  rw [hop] at hm16
  obtain ⟨rfl, _⟩ := hm16
  replace hj13 := hj13.off ho16
  replace hk14 := hk14.off ho16
  replace hb16 := hb15.trans hb16
  rw [hop] at hd16
  rw [ex0, ex1]
  refine c25n ?_
  rw [ex0, ex1, w_eql]
  simp only [decide_true, guardW_tt, pickW_true]
  rw [w_eql]
  simp only [decide_true, guardW_tt, pickW_true]
  rw [w_eql, decide_eq_true (by decide)]
  simp only [guardW_tt, pickW_true]
  rw [w_eql]
  simp only [decide_true, guardW_tt, pickW_true]
  have hts3 : (tpOf ([sAB, sE] ++ [zeroB 95])).size = 200 := by rw [tpOf_size, st_three vb190]
  refine c20d hd16 hok15 hj13 (by rw [hts3]; decide) fun w17 hb17 => ?_
  replace hk14 := hk14.below hb17
  replace hb16 := hb16.trans (hb17.mono hb16.size)
  rw [hts3, w_eql, decide_eq_true (by decide)]
  simp only [guardW_tt, pickW_true]
  rw [w_eql]
  simp only [decide_true, guardW_tt, pickW_true]
  have hrec : (tpOf ([sAB, sE] ++ [zeroB 95])).recs = [sAB, sE, zeroB 95] := tpOf_recs _
  refine c19d hk14 (by rw [hrec]; simp) fun v18 w18 hb18 hm18 => ?_
  replace hk14 := hk14.below hb18
  replace hb16 := hb16.trans (hb18.mono hb16.size)
  rw [hrec] at hm18
  rw [len22 hm18.sl, w_eql, decide_eq_true (by rfl)]
  simp only [guardW_tt, pickW_true]
  refine c19d hk14 (by rw [hrec]; simp) fun v19 w19 hb19 hm19 => ?_
  replace hb16 := hb16.trans (hb19.mono hb16.size)
  rw [hrec] at hm19
  refine ix22 (i := 0) hm19.sl rfl (by decide) (x := sAB) rfl fun b0 o0 hc0 => ?_
  rw [ld9 (show w19.cell? ⟨b0, o0, none⟩ = some (.string sAB) from hc0 0 _ rfl), w_eqlStr (by kernel_rfl), decide_eq_true (show sAB = ⟨#[97, 98]⟩ from rfl)]
  simp only [guardW_tt, pickW_true]
  rw [w_eql]
  simp only [decide_true, guardW_tt, pickW_true]
  rw [w_eql]
  simp only [decide_true, guardW_tt, pickW_true]
  exact hk _ hb16)
end
end Go.Proofs.YtbojglaimdjagaaGreatDoor
/- The journal, plain: what a changed byte does. -/
set_option linter.unusedSimpArgs false
set_option linter.unusedVariables false
set_option maxRecDepth 4000
namespace Go.Proofs.YtbojglaimdjagaaGreatDoor
open Go Go.V Go.RowKit
theorem ldF_succ (n : Nat) (t : TP) (s : ByteArray) : ldF (n + 1) t s = if t.size < s.size ∧ s.data.toList.getD t.size 0 ≠ 0 then
      if s.data.toList.getD t.size 0 = 1 then
        match rdS s (t.size + 1) with
        | none => none
        | some (m, p) => if p + m + 32 ≤ s.size ∧ recB t.head (s.extract p (p + m)) = s.extract t.size (p + m + 32) then ldF n (addT t (s.extract p (p + m))) s else none
      else none
    else some t := rfl
theorem ldF_more : ∀ (n : Nat) (t t' : TP) (s : ByteArray), ldF n t s = some t' → ∃ l : List ByteArray, t' = l.foldl addT t ∧ ∀ r ∈ l, r.size ≤ 65536
  | 0, t, t', s, h => by cases h; exact ⟨[], rfl, by simp⟩
  | n + 1, t, t', s, h => by
    rw [ldF_succ] at h
    split at h
    · rename_i hx
      split at h
      · split at h
        · cases h
        · rename_i m p hr
          split at h
          · obtain ⟨l, hl, hs⟩ := ldF_more n _ _ _ h
            obtain ⟨a1, a2, a3⟩ := rdS_le (by omega) hr
            refine ⟨s.extract p (p + m) :: l, hl, fun r hr => ?_⟩
            rcases List.mem_cons.1 hr with rfl | hr
            · rw [ByteArray.size_extract]; omega
            · exact hs r hr
          · cases h
      · cases h
    · cases h; exact ⟨[], rfl, by simp⟩
theorem vb_two {z : Nat} (h : z < 16384) : (vb z).length ≤ 2 := by
  rcases Nat.lt_or_ge z 128 with h1 | h1
  · rw [vb_lt h1]; simp
  · rw [vb_ge h1, vb_lt (by omega)]; simp
theorem stL_small : ∀ (l : List ByteArray) (h : ByteArray), (∀ s ∈ l, s.size ≤ 100) → (stL h l).length ≤ l.length * 135
  | [], _, _ => by simp [stL]
  | r :: l, h, hs => by
    have h1 := stL_small l (chainF h r) fun s hs' => hs s (by simp [hs'])
    have h2 := hs r (by simp)
    have h3 := vb_two (z := 2 * r.size) (by omega)
    simp only [stL, List.length_append, ba_len, recB_size, List.length_cons]
    omega
end Go.Proofs.YtbojglaimdjagaaGreatDoor
/- Small functions of the law of damage: heads, sized. -/
set_option linter.unusedSimpArgs false
set_option linter.unusedVariables false
set_option maxRecDepth 4000
namespace Go.Proofs.YtbojglaimdjagaaGreatDoor
open Go Go.V Go.RowKit
section
variable {k : Value → World → Prop} {w : World}
theorem getT22 {v : Value} {l : List ByteArray} {i : Nat} {s : ByteArray} {q : IntKind} (hs : IsSl fT w v l) (hx : l[i]? = some s) : opW Tryz.prog (Instr.indexAt 22 v (.int q (i : Int))) (fun p w => opW Tryz.prog (Instr.loadAt 9 p) k w) w = k (.string s) w := by
  obtain ⟨b, o, c, rfl, hlt, hcl⟩ := hs.at (i := (i : Int)) (by omega) (by simpa using hx)
  have hsz : sizeT Tryz.prog (elemT Tryz.prog 22) = 1 := by kernel_rfl
  have := hcl 0 (.string s) rfl
  rw [opW_ok (run_index (by kernel_rfl) (by kernel_rfl) (by omega) hlt w), hsz, ld9 (v := .string s)]
  simpa [fT] using this
theorem headF_size (l : List ByteArray) : ∀ h : ByteArray, h.size = 32 → (l.foldl chainF h).size = 32 := by
  induction l with
  | nil => intro h hh; exact hh
  | cons r l ih => intro h _; exact ih _ (chain_size _ _)
theorem c43 {v : Value} {l : List ByteArray} (hs : IsSl fT w v l) (hl : l.length ≤ 100000000) (hsm : ∀ r ∈ l, r.size ≤ 65536) (hk : ∀ w', Below w.heap.size w w' → k (.string (l.foldl chainF z32)) w') : callW Tryz.prog (.func (.func 43) #[] #[]) #[v] k w := C43 _ _ _ (by
  unfold S43
  have hml : 100000000 ≤ maxLen := by decide
  refine w_zstr (m := 32) (by decide) (by decide) fun w0 hb0 => ?_
  refine Loop2.intro (fun m x y w' => ∃ i : Nat, y = I i ∧ x = .string ((l.take i).foldl chainF z32) ∧ m = l.length - i ∧ i ≤ l.length ∧ Below w.heap.size w w') _ ⟨0, rfl, rfl, rfl, Nat.zero_le _, hb0⟩ ?_
  rintro m _ _ w1 ⟨i, rfl, rfl, rfl, hi, hb1⟩
  have hs1 := hs.below hb1
  rw [len22 hs1, w_lss]
  by_cases hlt : i < l.length
  case' neg =>
    rw [decide_eq_false (by omega), condW_false]
    rw [List.take_of_length_le (by omega)]
    exact hk w1 hb1
  have hx : l[i]? = some l[i] := List.getElem?_eq_getElem hlt
  have hr := hsm _ (List.getElem_mem hlt)
  rw [decide_eq_true (by omega), condW_true, getT22 hs1 hx]
  refine c57 (by rw [headF_size _ z32 rfl]; omega) fun w2 hb2 => ?_
  rw [w_add, wrap_id (by omega), loopK_self]
  refine ⟨l.length - (i + 1), by omega, i + 1, by simp [I], ?_, rfl, by omega, below_trans hb1 hb2⟩
  rw [List.take_add_one, hx, Option.toList_some, List.foldl_append]; rfl)
end
end Go.Proofs.YtbojglaimdjagaaGreatDoor
/- The walk of JournalDamaged. -/
set_option linter.unusedSimpArgs false
set_option linter.unusedVariables false
set_option maxRecDepth 4000
namespace Go.Proofs.YtbojglaimdjagaaGreatDoor
open Go Go.V Go.RowKit
theorem opJ_none {n : Nat} {D : DK} (h1 : D.off = false) (h3 : ldF (n + 1) tp0 ⟨D.vis.toArray⟩ = none) : opJ n D = (342, D, none) := by
  unfold opJ
  rw [if_neg (by rw [h1]; simp), h3]
section
variable {k : Value → World → Prop} {w : World}
end
end Go.Proofs.YtbojglaimdjagaaGreatDoor
