/- Part 5 of the proof of journalDamaged: lemmas for it; no condition beyond the statement. -/
import Derived.Test.YtbojglaimdjagaaGreatDoorJd3
import Derived.WalkKit
import Derived.LaidEql
import Derived.Stop.Asserts
import Derived.RowKitTokens
import Derived.Defers
import Derived.Recover
/- errors.Is of an error and itself; the deferred call of open. -/
set_option linter.unusedSimpArgs false
set_option linter.unusedVariables false
set_option maxRecDepth 4000
namespace Go.Proofs.YtbojglaimdjagaaGreatDoor
open Go Go.V Go.RowKit Go.Extern.Stop Go.Stop Go.Extern
theorem isTypeOf (v : Value) (w : World) : (Extern.ReflectliteType.typeOf #[.iface 222 v]).run Tryz.prog w = .ok (.iface 171 (.agg #[.pointer (some ⟨5, 222, none⟩)])) w := by kernel_rfl
theorem isComparable (w : World) : ((Extern.ReflectliteType.method fun t => do Extern.Rtype.noPackHeld "Comparable" t; (fun a => Value.bool a.comparable) <$> typeInfo t) #[.agg #[.pointer (some ⟨5, 222, none⟩)]]).run Tryz.prog w = .ok (.bool true) w := by kernel_rfl
theorem isMethodComparable (v : Value) (w : World) : (Go.method 355 171 v "Comparable").run Tryz.prog w = .ok (171, v) w := by kernel_rfl
theorem isComp : (Tryz.prog.info? 222).map (·.comparable) = some true := by kernel_rfl
theorem isSize : (Tryz.prog.info? 244).map (·.size) = some 1 := by kernel_rfl
theorem is_same (a : Addr) (w : World) :
    Calls Tryz.prog 77 #[.iface 222 (.pointer (some a)), .iface 222 (.pointer (some a))] w fun e w' => e = .returned (.bool true) ∧ w' = w := by
  obtain ⟨i, hi, hcmp⟩ := Option.map_eq_some_iff.1 isComp
  obtain ⟨j, hj, hjs⟩ := Option.map_eq_some_iff.1 isSize
  have h8 := @run_callFunc_extern Tryz.prog 98 _ Extern.ReflectliteType.typeOf Tryz.func98 (by kernel_rfl) (by kernel_rfl) (by kernel_rfl) (by kernel_rfl)
  have h32 := @run_callFunc_extern Tryz.prog 171 _ (Extern.ReflectliteType.method fun t => do Extern.Rtype.noPackHeld "Comparable" t; pure (.bool (← typeInfo t).comparable)) Tryz.func171 (by kernel_rfl) (by kernel_rfl) (by kernel_rfl) (by kernel_rfl)
  have tT := isTypeOf
  have cT := isComparable
  have mR := isMethodComparable
  have heq := run_eql_iface_ptr_same (P := Tryz.prog) w a Tryz.underlying80 Tryz.underlying222 hi hcmp hj
  go_enter Tryz.func77, Tryz.ntmps77
  go_wp2
  refine wp_loop_rounds 1 ?_
  rw [rounds_succ]
  go_wp2
  go_ret
  exact ⟨rfl, rfl⟩
end Go.Proofs.YtbojglaimdjagaaGreatDoor
/- The deferred call of open. -/
set_option linter.unusedSimpArgs false
set_option linter.unusedVariables false
set_option maxRecDepth 4000
namespace Go.Proofs.YtbojglaimdjagaaGreatDoor
open Go Go.V Go.RowKit Go.Extern.Stop Go.Stop Go.Extern
theorem isErr (v : Value) (w : World) : (Instr.typeAssert (.iface 222 v) 20 80 true).run Tryz.prog w = .ok (.tuple #[.iface 222 v, .bool true]) w := run_typeAssert_hasB Tryz.underlying80 (by kernel_rfl) v 20 w
theorem isNil (w : World) : (Instr.typeAssert .nilIface 20 80 true).run Tryz.prog w = .ok (.tuple #[.nilIface, .bool false]) w := by kernel_rfl
theorem arr15 (a b c d e f g h i : Value) : #[a, b] ++ (((((((Array.replicate 13 undef).setIfInBounds 3 c).setIfInBounds 4 d).setIfInBounds 2 e).setIfInBounds 5 f).setIfInBounds 6 g).setIfInBounds 0 h).setIfInBounds 1 i = #[a, b, h, i, e, c, d, f, g, undef, undef, undef, undef, undef, undef] := by kernel_rfl
theorem catch_panicking (bp bq : Nat) (x y : Value) (e : Addr) (older : List PanicEntry) (w : World) (hp : w.cell? ⟨bp, 0, none⟩ = some x) (hq : w.cell? ⟨bq, 0, none⟩ = some y) (fp : w.frozen? ⟨bp, 0, none⟩ = false) (fq : w.frozen? ⟨bq, 0, none⟩ = false) (hpq : bp ≠ bq)
    (hg : w.cell? ⟨0, 0, none⟩ = some (.iface 222 (.pointer (some e)))) :
    CallsD Tryz.prog 76 #[.pointer (some ⟨bp, 0, none⟩), .pointer (some ⟨bq, 0, none⟩)] (.panicking ({ v := .iface 222 (.pointer (some e)), recovered := false } :: older)) w fun r u' w' =>
      r = .returned (.tuple #[]) ∧ u' = .panicking ({ v := .iface 222 (.pointer (some e)), recovered := true } :: older) ∧ w' = (w.setCell ⟨bp, 0, none⟩ (.pointer none)).setCell ⟨bq, 0, none⟩ (I 342) := by
  refine callsD_of_wpS Tryz.func76 rfl fun c₀ cs hu => ?_
  have t1 := isErr
  have hq2 : (w.setCell ⟨bp, 0, none⟩ (.pointer none)).cell? ⟨bq, 0, none⟩ = some y := by
    have h9 : (⟨bp, 0, none⟩ : Addr) ≠ ⟨bq, 0, none⟩ := fun h => hpq (congrArg Addr.block h)
    rw [World.cell?_setCell_other _ _ _ _ h9]; exact hq
  have fq2 : (w.setCell ⟨bp, 0, none⟩ (.pointer none)).frozen? ⟨bq, 0, none⟩ = false := by
    rw [World.frozen?_setCell]; exact fq
  apply wpS_seq
  apply wpS_region
  simp [wpOpsS, go_sem, recoverD, hu, Tryz.ntmps76, Exit.thenS, t1]
  rw [arr15]
  refine wpS_of_wp ?_
  go_wp2_with (go_at_call 77; refine (is_same _ _).mono ?_; rintro e' w' ⟨rfl, rfl⟩)
  cases c₀
  simp_all [bodyPostS, results, Tryz.results76]
theorem catch_idle (p q : Addr) (w : World) :
    CallsD Tryz.prog 76 #[.pointer (some p), .pointer (some q)] .returning w fun e u' w' => e = .returned (.tuple #[]) ∧ u' = .returning ∧ w' = w := by
  refine callsD_of_wpS Tryz.func76 rfl fun c₀ cs hu => ?_
  have t1 := isNil
  apply wpS_seq
  apply wpS_region
  simp [wpOpsS, go_sem, recoverD, hu, Tryz.ntmps76, Exit.thenS, t1]
  rw [arr15]
  refine wpS_of_wp ?_
  go_wp2
  cases c₀
  simp_all [bodyPostS, results, Tryz.results76]
end Go.Proofs.YtbojglaimdjagaaGreatDoor
/- open. -/
set_option linter.unusedSimpArgs false
set_option linter.unusedVariables false
set_option maxRecDepth 4000
namespace Go.Proofs.YtbojglaimdjagaaGreatDoor
open Go Go.V Go.RowKit Go.Extern.Stop Go.Stop Go.Extern
theorem run_zeros (w : World) : ∃ w', (Instr.makeSlice 39 (I 32) (I 32)).run Tryz.prog w = .ok (.slice (some ⟨w.heap.size, 0, none⟩) 32 32) w' ∧ Below w.heap.size w w' ∧ Mine fB 5 w' w.heap.size (.slice (some ⟨w.heap.size, 0, none⟩) 32 32) (List.replicate 32 0) := by
  have h := (w_zerosM (n := 32) (w := w) (k := fun v w' => v = .slice (some ⟨w.heap.size, 0, none⟩) 32 32 ∧ Below w.heap.size w w' ∧ Mine fB 5 w' w.heap.size (.slice (some ⟨w.heap.size, 0, none⟩) 32 32) (List.replicate 32 0)) (by decide) fun w' a b => ⟨rfl, a, b⟩).out
  split at h
  · rename_i v w' hr
    obtain ⟨rfl, h1, h2⟩ := h
    exact ⟨w', hr, h1, h2⟩
  · exact h.elim
def loadPost (w : World) (s : ByteArray) (B b T : Nat) (rest : List Value) (rv : Value) (t : TP) (r : Ending) (w' : World) : Prop :=
  (r = .returned (.tuple #[]) ∧ ∃ rv' t', ldF (s.size + 1) t s = some t' ∧ TapeR B w' b T rest rv' t' ∧ Off (fun x => x = b ∨ isOf rv x) w w' ∧ Below B w w' ∧ t'.size ≤ s.size ∧ t'.head.size = 32 ∧ t'.recs.length ≤ t'.size) ∨
  (∃ e, r = .panicked [{ v := .iface 222 (.pointer (some e)), recovered := false }] ∧ ldF (s.size + 1) t s = none ∧ w'.cell? ⟨0, 0, none⟩ = some (.iface 222 (.pointer (some e))) ∧ Below B w w')
theorem load_calls {w : World} {B b T : Nat} {rest : List Value} {rv : Value} {t : TP} {s : ByteArray} (hg : Gl w) (h : TapeR B w b T rest rv t) (hB : 3 < B) (hh : t.head.size = 32) (hs : s.size ≤ 1000000) (ht : t.size ≤ s.size) (hn : t.recs.length ≤ t.size) :
    Calls Tryz.prog 78 #[.pointer (some ⟨b, 0, none⟩), .string s] w (loadPost w s B b T rest rv t) := by
  have h1 := (c78 (k := fun v w' => loadPost w s B b T rest rv t (.returned v) w') (kp := fun ch w' => loadPost w s B b T rest rv t (.panicked ch) w') hg h hB hh hs ht hn
    (fun w' rv' t' a1 a2 a3 a4 a5 a6 a7 a8 => .inl ⟨rfl, rv', t', a1, a2, a3, a4, a6, a7, a8⟩) (fun w' e a1 a2 a3 a4 => .inr ⟨e, rfl, a1, a2, a4⟩)).out
  have h2 : Calls Tryz.prog 78 #[.pointer (some ⟨b, 0, none⟩), .string s] w (retPP (fun v w' => loadPost w s B b T rest rv t (.returned v) w') (fun ch w' => loadPost w s B b T rest rv t (.panicked ch) w')) := h1
  refine h2.mono ?_
  intro e w' he
  cases e <;> first | exact he | exact he.elim
theorem TapeR.lower {B B' b T : Nat} {w : World} {rest : List Value} {rv : Value} {t : TP} (h : TapeR B w b T rest rv t) (hb : B' ≤ B) : TapeR B' w b T rest rv t :=
  ⟨h.row, Nat.le_trans hb h.base, h.ne, h.recs.base hb⟩
def openPost (w : World) (db : Nat) (s : ByteArray) (r : Ending) (w' : World) : Prop :=
  (∃ t jb rv, ldF (s.size + 1) tp0 s = some t ∧ r = .returned (.tuple #[.pointer (some ⟨jb, 0, none⟩), I 0]) ∧ Below w.heap.size w w' ∧ TapeR w.heap.size w' jb 74 [.pointer (some ⟨db, 0, none⟩), .bool false] rv t ∧ t.size ≤ s.size ∧ t.head.size = 32 ∧ t.recs.length ≤ t.size) ∨
  (ldF (s.size + 1) tp0 s = none ∧ r = .returned (.tuple #[.pointer none, I 342]) ∧ Below w.heap.size w w')
set_option maxHeartbeats 1600000 in
theorem open_calls (db : Nat) (s : ByteArray) (w : World) (hg : Gl w) (hs : s.size ≤ 1000000) :
    Calls Tryz.prog 54 #[.pointer (some ⟨db, 0, none⟩), .string s] w (openPost w db s) := by
  have hmf : ∀ (fn : Fn) (first cap : Array Value) (w : World), (Instr.makeFunc fn first cap).run Tryz.prog w = .ok (.func fn first cap) w := fun _ _ _ _ => rfl
  obtain ⟨w3, hz, hb3, hm3⟩ := run_zeros ((w.alloc (.cells #[.pointer none] 28)).alloc (.cells #[.int .i64 0] 33))
  have hsA : ((w.alloc (.cells #[.pointer none] 28)).alloc (.cells #[.int .i64 0] 33)).heap.size = w.heap.size + 1 + 1 := by simp
  have hcv : (convert 39 9 (.slice (some ⟨w.heap.size + 1 + 1, 0, none⟩) 32 32)).run Tryz.prog w3 = .ok (.string z32) w3 := by
    rw [← hsA]
    exact run_of_eq fun k => w_toStr (e := 5) (by kernel_rfl) (by kernel_rfl) (by kernel_rfl) hm3.sl (by simp)
  have hs3 : w.heap.size + 1 + 1 ≤ w3.heap.size := by rw [← hsA]; exact hb3.size
  have hj3 : w3.cell? ⟨w.heap.size, 0, none⟩ = some (.pointer none) := by
    rw [World.cell?_of_block (hb3.block _ (by rw [hsA]; show w.heap.size < _; omega))]
    simp
  have fj3 : w3.frozen? ⟨w.heap.size, 0, none⟩ = false := by
    rw [World.frozen?_of_block (hb3.block _ (by rw [hsA]; show w.heap.size < _; omega))]
    simp
  have hj4 : (w3.alloc (.cells #[nS, .string z32, I 0, .pointer (some ⟨db, 0, none⟩), .bool false] 74)).cell? ⟨w.heap.size, 0, none⟩ = some (.pointer none) := by
    rw [World.cell?_alloc_past _ _ _ (show w.heap.size < w3.heap.size by omega)]; exact hj3
  have fj4 : (w3.alloc (.cells #[nS, .string z32, I 0, .pointer (some ⟨db, 0, none⟩), .bool false] 74)).frozen? ⟨w.heap.size, 0, none⟩ = false := by
    rw [World.frozen?_alloc_old _ _ _ (show w.heap.size ≠ w3.heap.size by omega)]; exact fj3
  have hb04 : Below w.heap.size w ((w3.alloc (.cells #[nS, .string z32, I 0, .pointer (some ⟨db, 0, none⟩), .bool false] 74)).setCell ⟨w.heap.size, 0, none⟩ (.pointer (some ⟨w3.heap.size, 0, none⟩))) :=
    (((((Below.refl _ _).alloc (Nat.le_refl _) _).alloc (by simp) _).trans (hb3.mono (by rw [hsA]; omega))).alloc (by omega) _).setCell (Nat.le_refl _) _
  have hr4 : RowAt ((w3.alloc (.cells #[nS, .string z32, I 0, .pointer (some ⟨db, 0, none⟩), .bool false] 74)).setCell ⟨w.heap.size, 0, none⟩ (.pointer (some ⟨w3.heap.size, 0, none⟩))) w3.heap.size 74 [nS, .string z32, I 0, .pointer (some ⟨db, 0, none⟩), .bool false] :=
    (RowAt.new w3 74 #[nS, .string z32, I 0, .pointer (some ⟨db, 0, none⟩), .bool false]).off (Off.set (p := fun x => x = w.heap.size) rfl) (by show ¬ w3.heap.size = w.heap.size; omega)
  have hq : ∀ w5, Below w3.heap.size ((w3.alloc (.cells #[nS, .string z32, I 0, .pointer (some ⟨db, 0, none⟩), .bool false] 74)).setCell ⟨w.heap.size, 0, none⟩ (.pointer (some ⟨w3.heap.size, 0, none⟩))) w5 →
      w5.cell? ⟨w.heap.size, 0, none⟩ = some (.pointer (some ⟨w3.heap.size, 0, none⟩)) ∧ w5.frozen? ⟨w.heap.size, 0, none⟩ = false ∧ w5.cell? ⟨w.heap.size + 1, 0, none⟩ = some (I 0) ∧ w5.frozen? ⟨w.heap.size + 1, 0, none⟩ = false ∧
      ∀ v : Value, (w5.setCell ⟨w.heap.size, 0, none⟩ v).cell? ⟨w.heap.size + 1, 0, none⟩ = some (I 0) := fun w5 hb5 => by
    have n1 : (⟨w.heap.size, 0, none⟩ : Addr) ≠ ⟨w.heap.size + 1, 0, none⟩ := fun h => by have := congrArg Addr.block h; simp at this
    have h1 : w5.cell? ⟨w.heap.size, 0, none⟩ = some (.pointer (some ⟨w3.heap.size, 0, none⟩)) := by
      rw [World.cell?_of_block (hb5.block _ (show w.heap.size < w3.heap.size by omega))]
      exact World.cell?_setCell_same _ _ _ hj4
    have h3 : w5.cell? ⟨w.heap.size + 1, 0, none⟩ = some (I 0) := by
      rw [World.cell?_of_block (hb5.block _ (show w.heap.size + 1 < w3.heap.size by omega)), World.cell?_setCell_other _ _ _ _ n1, World.cell?_alloc_past _ _ _ (show w.heap.size + 1 < w3.heap.size by omega), World.cell?_of_block (hb3.block _ (by rw [hsA]; show w.heap.size + 1 < _; omega))]
      simp
    refine ⟨h1, ?_, h3, ?_, fun v => ?_⟩
    · rw [World.frozen?_of_block (hb5.block _ (show w.heap.size < w3.heap.size by omega)), World.frozen?_setCell]; exact fj4
    · rw [World.frozen?_of_block (hb5.block _ (show w.heap.size + 1 < w3.heap.size by omega)), World.frozen?_setCell, World.frozen?_alloc_old _ _ _ (show w.heap.size + 1 ≠ w3.heap.size by omega), World.frozen?_of_block (hb3.block _ (by rw [hsA]; show w.heap.size + 1 < _; omega))]
      simp
    · rw [World.cell?_setCell_other _ _ _ _ n1]; exact h3
  have hl := load_calls (B := w3.heap.size) (t := tp0) (gl_below hg hb04) ⟨hr4, Nat.le_refl _, by decide, Mine.nil _ _⟩ (by have := hg.2.1; omega) (by decide) hs (Nat.zero_le _) (Nat.le_refl _)
  have hb72 : ∀ (x : ByteArray) w, (Instr.build 72 #[(1, .string x)]).run Tryz.prog w = .ok (.agg #[nS, .string x, I 0]) w := fun x w => by kernel_rfl
  have hb74 : ∀ (x : ByteArray) (d : Option Addr) w, (Instr.build 74 #[(1, .pointer d), (0, .agg #[nS, .string x, I 0])]).run Tryz.prog w = .ok (.agg #[nS, .string x, I 0, .pointer d, .bool false]) w := fun x d w => by kernel_rfl
  go_enter_defers Tryz.func54, Tryz.ntmps54
  go_wp2_with (go_at_call 78; refine hl.mono ?_; clear hl; intro e w5 he; rcases he with ⟨rfl, rv5, t5, p1, p2, p3, p4, p5, p6, p7⟩ | ⟨e0, rfl, p1, p2, p3⟩; all_goals (obtain ⟨q1, q2, q3, q4, q5⟩ := hq w5 (by assumption)))
  · refine leaves_cons (f := 76) (args := #[.pointer (some ⟨w.heap.size, 0, none⟩), .pointer (some ⟨w.heap.size + 1, 0, none⟩)]) (by simp) (by simp [go_sem]) ?_
    refine (catch_idle _ _ _).mono ?_
    rintro e u' w'' ⟨rfl, rfl, rfl⟩
    have r1 : (w5.setCell ⟨w.heap.size, 0, none⟩ (.pointer (some ⟨w3.heap.size, 0, none⟩))).cell? ⟨w.heap.size, 0, none⟩ = some (.pointer (some ⟨w3.heap.size, 0, none⟩)) := World.cell?_setCell_same _ _ _ q1
    simp [Leaves, settle, results, Tryz.results54, go_sem, r1, q5]
    refine .inl ⟨t5, w3.heap.size, rv5, p1, rfl, ?_, ?_, p5, p6, p7⟩
    · exact ((hb04.trans (p4.mono (by omega))).setCell (Nat.le_refl _) _).setCell (by show w.heap.size ≤ w.heap.size + 1; omega) _
    · refine (p2.lower (by omega)).off (p := fun x => x = w.heap.size ∨ x = w.heap.size + 1) ((Off.set (.inl rfl)).trans (Off.set (.inr rfl))) ?_
      intro x hx
      rcases hx with rfl | hx
      · omega
      · have := (p2.recs.ge hx).1
        omega
  · refine leaves_cons (f := 76) (args := #[.pointer (some ⟨w.heap.size, 0, none⟩), .pointer (some ⟨w.heap.size + 1, 0, none⟩)]) (by simp) (by simp [go_sem]) ?_
    refine (catch_panicking w.heap.size (w.heap.size + 1) _ _ e0 [] w5 q1 q3 q2 q4 (by omega) p2).mono ?_
    rintro e u' w'' ⟨rfl, rfl, rfl⟩
    have r1 : (w5.setCell ⟨w.heap.size, 0, none⟩ (.pointer none)).cell? ⟨w.heap.size, 0, none⟩ = some (.pointer none) := World.cell?_setCell_same _ _ _ q1
    simp [Leaves, settle, results, Tryz.results54, go_sem, r1, q5]
    refine .inr ⟨p1, rfl, ?_⟩
    exact ((hb04.trans (p3.mono (by omega))).setCell (Nat.le_refl _) _).setCell (by show w.heap.size ≤ w.heap.size + 1; omega) _
end Go.Proofs.YtbojglaimdjagaaGreatDoor
/- The journal: Open. -/
set_option linter.unusedSimpArgs false
set_option linter.unusedVariables false
set_option maxRecDepth 4000
namespace Go.Proofs.YtbojglaimdjagaaGreatDoor
open Go Go.V Go.RowKit
def zeroB (n : Nat) : ByteArray := ⟨(List.replicate n 0).toArray⟩
theorem zeroB_size (n : Nat) : (zeroB n).size = n := by show Array.size _ = _; simp
/-- what Open does: the answer, the disk, the tape -/
def opJ (n : Nat) (D : DK) : Int × DK × Option TP :=
  if D.off = true then (331, D, none)
  else match ldF (n + 1) tp0 ⟨D.vis.toArray⟩ with
    | none => (342, D, none)
    | some t => if ∀ x ∈ D.vis.drop t.size, x = 0 then (0, D, some t)
      else if (ap2 D t.size (zeroB (n - t.size))).1 = 0 then (0, (ap2 D t.size (zeroB (n - t.size))).2, some t) else ((ap2 D t.size (zeroB (n - t.size))).1, (ap2 D t.size (zeroB (n - t.size))).2, none)
theorem trim_nil (l : List UInt8) : Lib.trimB l 0 = [] ↔ ∀ x ∈ l, x = 0 := by
  have h1 : ∀ l : List UInt8, l.dropWhile (· == 0) = [] ↔ ∀ x ∈ l, x = 0 := fun l => by
    induction l with
    | nil => simp
    | cons a l ih =>
      by_cases h : a = 0
      · subst h; simp [ih]
      · simp [List.dropWhile_cons, h]
  unfold Lib.trimB Lib.trimLeftB Lib.trimRightB
  rw [h1]
  constructor
  · intro h
    have h2 : l.reverse.dropWhile (· == 0) = [] := by
      cases hd : l.reverse.dropWhile (· == 0) with
      | nil => rfl
      | cons a r =>
        exfalso
        rw [hd] at h
        have ha := h a (by simp)
        subst ha
        have hne : l.reverse.dropWhile (· == 0) ≠ [] := by rw [hd]; simp
        have := List.head_dropWhile_not (p := (· == (0 : UInt8))) (l := l.reverse) hne
        simp only [hd, List.head_cons] at this
        simp at this
    rw [h1] at h2
    intro x hx
    exact h2 x (by simpa using hx)
  · intro h
    have h2 : l.reverse.dropWhile (· == 0) = [] := by
      rw [h1]; intro x hx; exact h x (by simpa using hx)
    rw [h2]; simp
section
variable {k : Value → World → Prop} {w : World}
theorem c54 {db : Nat} {s : ByteArray} (hg : Gl w) (hs : s.size ≤ 1000000) (hk : ∀ v w', openPost w db s (.returned v) w' → k v w') : callW Tryz.prog (.func (.func 54) #[] #[]) #[.pointer (some ⟨db, 0, none⟩), .string s] k w := by
  refine callW_calls ok54 (Calls.mono (open_calls db s w hg hs) ?_)
  intro e w' he
  rcases id he with ⟨_, _, _, _, rfl, _⟩ | ⟨_, rfl, _⟩
  · exact hk _ _ he
  · exact hk _ _ he
theorem c55 {s : ByteArray} (hs : s.size ≤ 1000000) (hk : ∀ w', Below w.heap.size w w' → k (.string ⟨(Lib.trimB s.data.toList 0).toArray⟩) w') : callW Tryz.prog (.func (.func 55) #[] #[]) #[.string s, .string ⟨#[0]⟩] k w := by
  refine callW_calls ok55 (Calls.mono (Tryz.strings_Trim_one s 0 (by decide) w (by omega)) ?_)
  rintro e w' ⟨rfl, rfl | rfl⟩
  · exact hk _ (Below.refl _ _)
  · exact hk _ (below_drew w)
theorem c25 {B b n : Nat} {D : DK} {dv vv pv : Value} (hg : Gl w) (hBw : B ≤ w.heap.size) (hd : DiskR B w b D dv vv pv) (hok : DOk n D) (hpl : D.pend.length ≤ 100000)
    (hk : ∀ w' r, StR B w w' b (opJ n D).2.1 dv vv pv → (match (opJ n D).2.2 with
      | none => r = .tuple #[.pointer none, I (opJ n D).1] ∧ (opJ n D).1 ≠ 0
      | some t => (opJ n D).1 = 0 ∧ TOk n t ∧ ∃ jb rv, r = .tuple #[.pointer (some ⟨jb, 0, none⟩), I 0] ∧ TapeR w.heap.size w' jb 74 [.pointer (some ⟨b, 0, none⟩), .bool false] rv t) → k r w') :
    callW Tryz.prog (.func (.func 25) #[] #[]) #[.pointer (some ⟨b, 0, none⟩)] k w := C25 _ _ _ (by
  unfold S25
  rw [eqP27, condW_false]
  refine c51 hd ?_
  refine c52 hd hok.ne fun e he1 he2 => ?_
  cases hoff : D.off with
  | true =>
    rw [he1 hoff, ex0, ex1, w_neq]
    simp only [show decide ((331 : Int) = 0) = false from rfl, Bool.not_false]
    rw [condW_true]
    refine hk w _ ?_ ?_
    · unfold opJ; rw [if_pos hoff]; exact StR.refl hd
    · unfold opJ; rw [if_pos hoff]; exact ⟨rfl, fun h => by cases h⟩
  | false =>
  obtain ⟨s, hs⟩ : ∃ s : ByteArray, (⟨D.vis.toArray⟩ : ByteArray) = s := ⟨_, rfl⟩
  have hsz : s.size = n := by rw [← hs]; show Array.size _ = _; simp [hok.vis]
  have hsl : s.data.toList = D.vis := by rw [← hs]
  have hn2 := hok.n2
  rw [he2 hoff, ex0, ex1, w_neq]
  simp only [decide_true, Bool.not_true]
  rw [condW_false, hs]
  refine c54 hg (by omega) fun v w1 hp => ?_
  rcases hp with ⟨t, jb, rv, hld, hv, hb1, ht1, hts, hth, htr⟩ | ⟨hld, hv, hb1⟩
  case' inr =>
    cases hv
    rw [ex0, ex1, w_neq]
    simp only [show decide ((342 : Int) = 0) = false from rfl, Bool.not_false]
    rw [condW_true]
    have e1 : opJ n D = (342, D, none) := by
      unfold opJ; rw [if_neg (by rw [hoff]; simp), hs, ← hsz, hld]
    refine hk w1 _ ?_ ?_
    · rw [e1]; exact StR.step (Off.refl _ _) (Below.refl _ _) (fun _ h => .inl h) (hd.below hb1) (Off.below hb1) (hb1.mono hBw) fun _ h => .inl h
    · rw [e1]; exact ⟨rfl, fun h => by cases h⟩
  cases hv
  rw [ex0, ex1, w_neq]
  simp only [decide_true, Bool.not_true]
  rw [condW_false]
  have e0 : opJ n D = if ∀ x ∈ D.vis.drop t.size, x = 0 then (0, D, some t)
      else if (ap2 D t.size (zeroB (n - t.size))).1 = 0 then (0, (ap2 D t.size (zeroB (n - t.size))).2, some t) else ((ap2 D t.size (zeroB (n - t.size))).1, (ap2 D t.size (zeroB (n - t.size))).2, none) := by
    unfold opJ; rw [if_neg (by rw [hoff]; simp), hs, ← hsz, hld]
  have hB0 := hb1.mono hBw
  refine joinW_use1 (fun v w' => v = I (opJ n D).1 ∧ StR B w w' b (opJ n D).2.1 dv vv pv ∧ TapeR w.heap.size w' jb 74 [.pointer (some ⟨b, 0, none⟩), .bool false] rv t ∧ ((opJ n D).1 = 0 → (opJ n D).2.2 = some t) ∧ ((opJ n D).1 ≠ 0 → (opJ n D).2.2 = none)) ?_ ?_
  · rintro _ w2 ⟨rfl, hst, ht2, hz, hnz⟩
    rw [w_neq]
    by_cases he : (opJ n D).1 = 0
    · rw [decide_eq_true he, Bool.not_true, condW_false]
      refine hk _ _ hst ?_
      rw [hz he]
      exact ⟨he, ⟨hth, by omega, htr⟩, jb, rv, rfl, ht2⟩
    · rw [decide_eq_false he, Bool.not_false, condW_true]
      refine hk _ _ hst ?_
      rw [hnz he]
      exact ⟨rfl, he⟩
  intro J hJ
  simp only [nilW_ptr]
  rw [fl74_0, fl72_2, ld3 (ht1.row.cell (i := 0 + 2) rfl), w_tailStr (by kernel_rfl) (by omega) (by omega), Int.toNat_natCast]
  refine c55 (by rw [ByteArray.size_extract]; omega) fun w2 hb2 => ?_
  have hex : (s.extract t.size s.size).data.toList = D.vis.drop t.size := by
    rw [ext_list, hsl, List.take_of_length_le (by rw [List.length_drop, hok.vis, hsz]; omega)]
  have hb02 := below_trans hb1 hb2
  have ht2 := ht1.below hb2
  have hd2 := hd.below hb02
  rw [hex, w_neqStr (by kernel_rfl)]
  by_cases hz : ∀ x ∈ D.vis.drop t.size, x = 0
  · rw [decide_eq_true (by rw [(trim_nil _).2 hz]), Bool.not_true, condW_false]
    rw [if_pos hz] at e0
    refine hJ _ _ ?_
    rw [e0]
    exact ⟨rfl, StR.step (Off.refl _ _) (Below.refl _ _) (fun _ h => .inl h) hd2 (Off.below hb02) (hb02.mono hBw) fun _ h => .inl h, ht2, fun _ => rfl, fun h => absurd rfl h⟩
  rw [if_neg hz] at e0
  have hzz : Lib.trimB (D.vis.drop t.size) 0 ≠ [] := fun h => hz ((trim_nil _).1 h)
  rw [decide_eq_false (by
    intro h
    have := congrArg (fun x : ByteArray => x.data.toList) h
    exact hzz this), Bool.not_false, condW_true, drewW_eq]
  have hb03 := below_trans hb02 (below_drew w2)
  have ht3 := ht2.below (below_drew w2)
  clear ht2 hd2
  generalize w2.drew = w3 at *
  have hd3 := hd.below hb03
  have ho3 : Off (dBl b dv vv pv) w3 w3 := Off.refl _ _
  have nj : ¬ dBl b dv vv pv jb := fun hx => by
    obtain ⟨t', h1, h2⟩ := hd3.apart (t := 74) (by decide) jb hx
    exact h2 (Tag.uniq h1 ht3.row.tag)
  refine ⟨Off (dBl b dv vv pv) w3, ho3, ?_⟩
  simp only [nilT_ptr]
  have hlt : t.size < n := by
    rcases Nat.lt_or_ge t.size n with h | h
    · exact h
    · exfalso; apply hz
      rw [List.drop_of_length_le (by rw [hok.vis]; exact h)]
      simp
  rw [tfl74_0, tfl72_2, r_loadO agg3 known3 (ht3.row.cell (i := 0 + 2) rfl) nj ho3, t_lenStr (by kernel_rfl), tfl74_0, tfl72_2, r_loadO agg3 known3 (ht3.row.cell (i := 0 + 2) rfl) nj ho3, t_sub, wrap_id (by omega), t_mf]
  rw [show ((s.size : Int) - (t.size : Int)) = ((n - t.size : Nat) : Int) by omega]
  refine w_zerosM (by omega) fun w4 hb4 hm4 => ?_
  rw [keepS_eq]
  refine ⟨Off.below hb4, ?_⟩
  rw [takeW_same (run_of_eq fun k => w_toStr (e := 5) (by kernel_rfl) (by kernel_rfl) (by kernel_rfl) hm4.sl (fun h => by have := congrArg List.length h; simp at this; omega))]
  rw [show (⟨(List.replicate (n - t.size) (0 : UInt8)).toArray⟩ : ByteArray) = zeroB (n - t.size) from rfl]
  refine c41 rfl fun ja a sb w5 hb5 hja ha hsb r1 r2 r3 => ?_
  have hb35 := below_trans hb4 hb5
  rw [keepS_eq]
  refine ⟨Off.below hb35, ?_⟩
  refine w_parts (F := fFn) (l := [fnW ja a sb, fnS b]) sty127 rfl (by decide) (by decide) (by kernel_rfl) rfl fun w6 hb6 _ hm6 => ?_
  have hb36 := below_trans hb35 hb6
  rw [keepS_eq]
  refine ⟨Off.below hb36, ?_⟩
  have hb06 := below_trans hb03 hb36
  have hd6 := hd.below hb06
  have ht6 := ht3.below hb36
  refine first2 hd6 hok (by rw [zeroB_size]; omega) hpl (Nat.le_trans hBw hb06.size) ht6.row ⟨r1.below hb6, r2.below hb6, r3.below hb6⟩ hm6 fun w7 hst => ?_
  have hjr7 := StR.row hd6 hst ht6.row (by decide)
  have hjm7 := StR.mine hd6 hst ht6.recs (by decide)
  obtain ⟨pv7, hd7, ho7, hb7, hu7⟩ := hst
  rw [keepS_eq]
  refine ⟨(Off.below hb36).trans ho7, ?_⟩
  have hst2 : StR B w w7 b (ap2 D t.size (zeroB (n - t.size))).2 dv vv pv := StR.step (Off.below hb06) (hb06.mono hBw) (fun _ h => .inl h) hd7 ho7 hb7 hu7
  refine hJ _ _ ?_
  by_cases he : (ap2 D t.size (zeroB (n - t.size))).1 = 0
  · rw [if_pos he] at e0
    rw [e0, he]
    exact ⟨rfl, hst2, ⟨hjr7, ht6.base, by decide, hjm7⟩, fun _ => rfl, fun h => absurd rfl h⟩
  · rw [if_neg he] at e0
    rw [e0]
    exact ⟨rfl, hst2, ⟨hjr7, ht6.base, by decide, hjm7⟩, fun h => absurd h he, fun _ => rfl⟩)
end
end Go.Proofs.YtbojglaimdjagaaGreatDoor
/- The journal, plain: a journal in order on its disk. -/
set_option linter.unusedSimpArgs false
set_option linter.unusedVariables false
set_option maxRecDepth 4000
namespace Go.Proofs.YtbojglaimdjagaaGreatDoor
open Go Go.V Go.RowKit
/-- the tape of some records -/
def tpOf (l : List ByteArray) : TP := l.foldl addT tp0
theorem tpOf_recs (l : List ByteArray) : (tpOf l).recs = l := by unfold tpOf; rw [(foldl_addT l tp0).1]; rfl
theorem tpOf_size (l : List ByteArray) : (tpOf l).size = (stL z32 l).length := by unfold tpOf; rw [(foldl_addT l tp0).2]; show 0 + _ = _; rw [Nat.zero_add]; rfl
theorem tpOf_head (l : List ByteArray) : (tpOf l).head = l.foldl chainF z32 := foldl_head l tp0
theorem tpOf_append (l m : List ByteArray) : tpOf (l ++ m) = m.foldl addT (tpOf l) := by unfold tpOf; rw [List.foldl_append]
theorem tpOf_ok (l : List ByteArray) {n : Nat} (h : (tpOf l).size ≤ n) : TOk n (tpOf l) := by
  obtain ⟨a, b⟩ := foldl_ok l tp0 (by decide) (Nat.le_refl _)
  exact ⟨a, h, b⟩
theorem stL_tpOf (l m : List ByteArray) : stL z32 (l ++ m) = stL z32 l ++ (grpB (tpOf l) m).data.toList := by
  rw [stL_append]
  unfold grpB
  rw [tpOf_head]
/-- the content of a disk of n bytes that holds some records -/
def cont (n : Nat) (l : List ByteArray) : List UInt8 := stL z32 l ++ List.replicate (n - (stL z32 l).length) 0
/-- records that can be read again -/
structure Fits (n : Nat) (l : List ByteArray) : Prop where
  small : ∀ r ∈ l, r.size ≤ 65536
  room : (stL z32 l).length ≤ n
theorem ldF_cont {n : Nat} {l : List ByteArray} {s : ByteArray} {tail : List UInt8} (hf : ∀ r ∈ l, r.size ≤ 65536) (hs : s.size = n) (hc : s.data.toList = stL z32 l ++ tail) (h0 : tail.getD 0 0 = 0) : ldF (n + 1) tp0 s = some (tpOf l) :=
  ldF_st l (n + 1) tp0 s tail hf (by show s.data.toList.drop 0 = _; rw [List.drop_zero, hc]; rfl) h0 (Nat.zero_le _) (by show s.size - 0 < _; omega)
theorem getD_zeros (m : Nat) : (List.replicate m (0 : UInt8)).getD 0 0 = 0 := by cases m <;> rfl
/-- a disk at rest, with power for ever -/
structure Rest (n : Nat) (D : DK) : Prop where
  ok : DOk n D
  on : D.off = false
  left : D.left = 0
  pend : D.pend = []
  same : D.dur = D.vis
/-- .. which holds these records -/
structure Gd (n : Nat) (D : DK) (l : List ByteArray) : Prop where
  rest : Rest n D
  fits : Fits n l
  vis : D.vis = cont n l
theorem rest_new {n : Nat} (h1 : 1 ≤ n) (h2 : n ≤ 1000000) : Rest n (newD n) := ⟨⟨h1, h2, by simp [newD], by simp [newD], by simp [newD]⟩, rfl, rfl, rfl, rfl⟩
theorem gd_new {n : Nat} (h1 : 1 ≤ n) (h2 : n ≤ 1000000) : Gd n (newD n) [] := ⟨rest_new h1 h2, ⟨by simp, by simp [stL]⟩, by simp [newD, cont, stL]⟩
theorem vis_size {n : Nat} {D : DK} (h : DOk n D) : (⟨D.vis.toArray⟩ : ByteArray).size = n := by show Array.size _ = _; simp [h.vis]
theorem gd_open {n : Nat} {D : DK} {l : List ByteArray} (h : Gd n D l) : opJ n D = (0, D, some (tpOf l)) := by
  unfold opJ
  rw [if_neg (by rw [h.rest.on]; simp), ldF_cont (n := n) (l := l) (tail := List.replicate (n - (stL z32 l).length) 0) h.fits.small (vis_size h.rest.ok) (by show D.vis = _; rw [h.vis]; rfl) (getD_zeros _)]
  simp only
  rw [if_pos]
  rw [h.vis, tpOf_size]
  unfold cont
  rw [List.drop_left]
  intro x hx
  exact List.eq_of_mem_replicate hx
theorem usedD_zero {D : DK} (h : D.left = 0) : usedD D = D := by unfold usedD; rw [if_pos h]
theorem wrD_zero {D : DK} {o : Nat} {s : ByteArray} (h : D.left = 0) : wrD D o s = { D with vis := ontoL D.vis o s, pend := D.pend ++ [((o : Int), s)] } := by
  unfold wrD; exact usedD_zero h
/-- a write, at rest, and a sync -/
theorem ap2_rest {n : Nat} {D : DK} (h : Rest n D) {o : Nat} {s : ByteArray} (ho : o + s.size ≤ n) : (ap2 D o s).1 = 0 ∧ Rest n (ap2 D o s).2 ∧ (ap2 D o s).2.vis = ontoL D.vis o s := by
  have e1 : (wrD D o s).off = false := by rw [wrD_zero h.left]; exact h.on
  unfold ap2
  rw [if_neg (by rw [h.on]; simp), if_neg (by rw [e1]; simp)]
  refine ⟨rfl, ⟨(h.ok.wr ho).sync, e1, ?_, rfl, rfl⟩, wr_vis⟩
  show (wrD D o s).left = 0
  rw [wrD_zero h.left]; exact h.left
theorem ap4_rest {n : Nat} {D : DK} (h : Rest n D) {o p : Nat} {s y : ByteArray} (ho : o + s.size ≤ n) (hp : p + y.size ≤ n) : (ap4 D o s p y).1 = 0 ∧ Rest n (ap4 D o s p y).2 ∧ (ap4 D o s p y).2.vis = ontoL (ontoL D.vis o s) p y := by
  have e1 : (wrD D o s).off = false := by rw [wrD_zero h.left]; exact h.on
  have h2 : Rest n (syncD (wrD D o s)) := by
    refine ⟨(h.ok.wr ho).sync, e1, ?_, rfl, rfl⟩
    show (wrD D o s).left = 0
    rw [wrD_zero h.left]; exact h.left
  unfold ap4
  rw [if_neg (by rw [h.on]; simp), if_neg (by rw [e1]; simp)]
  obtain ⟨a, b, c⟩ := ap2_rest h2 hp
  refine ⟨a, b, ?_⟩
  rw [c]
  show ontoL (wrD D o s).vis p y = _
  rw [wr_vis]
/-- a group laid behind what is stored: first all but its first byte, then that -/
theorem onto_group {A : List UInt8} {m : Nat} {g : ByteArray} (h1 : 1 ≤ g.size) (h2 : g.size ≤ m) : ontoL (ontoL (A ++ List.replicate m 0) (A.length + 1) (g.extract 1 g.size)) A.length (g.extract 0 1) = A ++ (g.data.toList ++ List.replicate (m - g.size) 0) := by
  have e1 : (g.extract 1 g.size).data.toList = g.data.toList.drop 1 := by
    rw [ext_list, List.take_of_length_le (by rw [List.length_drop, ba_len]; omega)]
  have e2 : (g.extract 0 1).data.toList = g.data.toList.take 1 := by rw [ext_list]; rfl
  have s1 : (g.extract 1 g.size).size = g.size - 1 := by rw [ByteArray.size_extract]; omega
  have s2 : (g.extract 0 1).size = 1 := by rw [ByteArray.size_extract]; omega
  unfold ontoL
  rw [e1, e2, s1, s2]
  have hm : m = 1 + (m - 1) := by omega
  have t1 : (A ++ List.replicate m (0 : UInt8)).take (A.length + 1) = A ++ [0] := by
    rw [List.take_append, List.take_of_length_le (by omega), show A.length + 1 - A.length = 1 by omega, hm, Nat.add_comm 1, List.replicate_succ]; rfl
  have t2 : (A ++ List.replicate m (0 : UInt8)).drop (A.length + 1 + (g.size - 1)) = List.replicate (m - g.size) 0 := by
    rw [List.drop_append, List.drop_of_length_le (by omega), List.nil_append, List.drop_replicate]
    congr 1; omega
  rw [t1, t2]
  have t3 : (A ++ [0] ++ g.data.toList.drop 1 ++ List.replicate (m - g.size) 0).take A.length = A := by
    rw [List.append_assoc, List.append_assoc, List.take_left]
  have t4 : (A ++ [0] ++ g.data.toList.drop 1 ++ List.replicate (m - g.size) 0).drop (A.length + 1) = g.data.toList.drop 1 ++ List.replicate (m - g.size) 0 := by
    rw [List.append_assoc, show A.length + 1 = (A ++ [0]).length by simp, List.drop_left]
  rw [t3, t4, List.append_assoc]
  congr 1
  rw [← List.append_assoc, List.take_append_drop]
theorem grpB_pos {t : TP} {l : List ByteArray} (h : l ≠ []) : 33 ≤ (grpB t l).size := by
  rw [grpB_size]
  obtain ⟨r, l', rfl⟩ := List.exists_cons_of_ne_nil h
  simp only [stL, List.length_append, ba_len, recB_size]
  omega
theorem grp_size (l m : List ByteArray) : (stL z32 (l ++ m)).length = (tpOf l).size + (grpB (tpOf l) m).size := by
  rw [stL_tpOf, List.length_append, ba_len, tpOf_size]
/-- what a group takes -/
theorem gd_append {n : Nat} {D : DK} {l m : List ByteArray} (h : Gd n D l) (hs : ∀ r ∈ m, r.size ≤ 65536) (hr : (stL z32 (l ++ m)).length ≤ n) :
    (apJ n D (tpOf l) false m).1 = 0 ∧ Gd n (apJ n D (tpOf l) false m).2.1 (l ++ m) ∧ (apJ n D (tpOf l) false m).2.2.1 = tpOf (l ++ m) ∧ (apJ n D (tpOf l) false m).2.2.2 = false := by
  have hnl : ¬ (false = true ∨ ∃ s ∈ m, 65536 < s.size) := fun h => h.elim (fun h => by cases h) fun ⟨s, h1, h2⟩ => by have := hs s h1; omega
  have hsz := grp_size l m
  unfold apJ
  rw [if_neg hnl, if_neg (by omega)]
  by_cases hm : m = []
  · subst hm
    rw [if_pos rfl, List.append_nil]
    exact ⟨rfl, h, rfl, rfl⟩
  have hp := grpB_pos (t := tpOf l) hm
  have hts := tpOf_size l
  rw [if_neg hm]
  have s1 : ((grpB (tpOf l) m).extract 1 (grpB (tpOf l) m).size).size = (grpB (tpOf l) m).size - 1 := by rw [ByteArray.size_extract]; omega
  have s2 : ((grpB (tpOf l) m).extract 0 1).size = 1 := by rw [ByteArray.size_extract]; omega
  obtain ⟨a, b, c⟩ := ap4_rest h.rest (o := (tpOf l).size + 1) (p := (tpOf l).size) (s := (grpB (tpOf l) m).extract 1 (grpB (tpOf l) m).size) (y := (grpB (tpOf l) m).extract 0 1) (by omega) (by omega)
  rw [if_pos a]
  refine ⟨rfl, ⟨b, ⟨?_, hr⟩, ?_⟩, (tpOf_append l m).symm, rfl⟩
  · intro r hr'
    rcases List.mem_append.1 hr' with h1 | h1
    · exact h.fits.small r h1
    · exact hs r h1
  · rw [c, h.vis]
    unfold cont
    rw [hts, onto_group (by omega) (by omega), stL_tpOf, List.length_append, ba_len, ← List.append_assoc]
    congr 2; omega
theorem apJ_full {n : Nat} {D : DK} {l m : List ByteArray} (hs : ∀ r ∈ m, r.size ≤ 65536) (hr : n < (stL z32 (l ++ m)).length) : apJ n D (tpOf l) false m = (341, D, tpOf l, false) := by
  have hnl : ¬ (false = true ∨ ∃ s ∈ m, 65536 < s.size) := fun h => h.elim (fun h => by cases h) fun ⟨s, h1, h2⟩ => by have := hs s h1; omega
  have hsz := grp_size l m
  unfold apJ
  rw [if_neg hnl, if_pos (by omega)]
end Go.Proofs.YtbojglaimdjagaaGreatDoor
/- The journal's functions, with frames by tags. -/
set_option linter.unusedSimpArgs false
set_option linter.unusedVariables false
set_option maxRecDepth 4000
namespace Go.Proofs.YtbojglaimdjagaaGreatDoor
open Go Go.V Go.RowKit
/-- blocks at or above B of some types -/
def tgP (ts : List Nat) (B : Nat) (w : World) (x : Nat) : Prop := B ≤ x ∧ ∃ t, Tag w x t ∧ t ∈ ts
/-- of the old blocks only those of some types, at or above B, may differ -/
def OffG (ts : List Nat) (B : Nat) (w w' : World) : Prop := Off (tgP ts B w) w w'
abbrev dT : List Nat := [97, 5, 92]
abbrev jT : List Nat := [97, 5, 92, 74]
theorem OffG.row {ts : List Nat} {B r T : Nat} {w w' : World} {vs : List Value} (ho : OffG ts B w w') (h : RowAt w r T vs) (ht : T ∉ ts) : RowAt w' r T vs :=
  h.off ho fun ⟨_, t, h1, h2⟩ => ht (Tag.uniq h.tag h1 ▸ h2)
theorem OffG.mine {α : Type} {F : Fl α} {ts : List Nat} {B B' e : Nat} {w w' : World} {v : Value} {l : List α} (ho : OffG ts B w w') (h : Mine F e w B' v l) (ht : e ∉ ts) : Mine F e w' B' v l :=
  Go.V.Mine.off h ho fun x hx ⟨_, t, h1, h2⟩ => ht (Tag.uniq (Mine.tag h hx) h1 ▸ h2)
/-- a disk -/
def DJ (B : Nat) (w : World) (b : Nat) (D : DK) (dv vv : Value) : Prop := ∃ pv, DiskR B w b D dv vv pv
/-- a journal -/
def TJ (B : Nat) (w : World) (jb b : Nat) (br : Bool) (t : TP) : Prop := ∃ rv, TapeR B w jb 74 [.pointer (some ⟨b, 0, none⟩), .bool br] rv t
theorem DJ.below {B b : Nat} {w w' : World} {D : DK} {dv vv : Value} (h : DJ B w b D dv vv) (hb : Below w.heap.size w w') : DJ B w' b D dv vv := by
  obtain ⟨pv, h⟩ := h; exact ⟨pv, h.below hb⟩
theorem TJ.below {B b jb : Nat} {w w' : World} {br : Bool} {t : TP} (h : TJ B w jb b br t) (hb : Below w.heap.size w w') : TJ B w' jb b br t := by
  obtain ⟨rv, h⟩ := h; exact ⟨rv, h.below hb⟩
theorem TJ.lower {B B' b jb : Nat} {w : World} {br : Bool} {t : TP} (h : TJ B w jb b br t) (hb : B' ≤ B) : TJ B' w jb b br t := by
  obtain ⟨rv, h⟩ := h; exact ⟨rv, h.lower hb⟩
theorem TJ.off {B B' b jb : Nat} {w w' : World} {br : Bool} {t : TP} (h : TJ B w jb b br t) (ho : OffG dT B' w w') : TJ B w' jb b br t := by
  obtain ⟨rv, h⟩ := h
  exact ⟨rv, ho.row h.row (by decide), h.base, h.ne, ho.mine h.recs (by decide)⟩
theorem offG_disk {B b : Nat} {w w' : World} {D : DK} {dv vv pv : Value} (hd : DiskR B w b D dv vv pv) (ho : Off (dBl b dv vv pv) w w') : OffG dT B w w' :=
  ho.mono fun x _ hx => ⟨(hd.lt hx).1, by
    rcases hx with rfl | hx | hx | hx
    · exact ⟨97, hd.row.tag, by decide⟩
    · exact ⟨5, Mine.tag hd.dur hx, by decide⟩
    · exact ⟨5, Mine.tag hd.vis hx, by decide⟩
    · exact ⟨92, Mine.tag hd.pend hx, by decide⟩⟩
theorem offG_jour {B b jb : Nat} {w w' : World} {D : DK} {dv vv pv rv : Value} {rest : List Value} {t : TP} (hd : DiskR B w b D dv vv pv) (hj : TapeR B w jb 74 rest rv t) (ho : Off (fun x => dBl b dv vv pv x ∨ x = jb) w w') : OffG jT B w w' :=
  ho.mono fun x _ hx => by
    rcases hx with hx | rfl
    · refine ⟨(hd.lt hx).1, ?_⟩
      rcases hx with rfl | hx | hx | hx
      · exact ⟨97, hd.row.tag, by decide⟩
      · exact ⟨5, Mine.tag hd.dur hx, by decide⟩
      · exact ⟨5, Mine.tag hd.vis hx, by decide⟩
      · exact ⟨92, Mine.tag hd.pend hx, by decide⟩
    · exact ⟨hj.base, 74, hj.row.tag, by decide⟩
section
variable {k : Value → World → Prop} {w : World} {B b jb n : Nat} {D : DK} {dv vv : Value}
theorem c24d {n : Nat} (h1 : 1 ≤ n) (h2 : n ≤ 100000) (hk : ∀ b dv vv w', Below w.heap.size w w' → DJ w.heap.size w' b (newD n) dv vv → k (.tuple #[.pointer (some ⟨b, 0, none⟩), I 0]) w') : callW Tryz.prog (.func (.func 24) #[] #[]) #[I n] k w :=
  c24 h1 h2 fun b dv vv w' hb hd => hk b dv vv w' hb ⟨_, hd⟩
theorem c25d (hg : Gl w) (hBw : B ≤ w.heap.size) (hd : DJ B w b D dv vv) (hok : DOk n D) (hpl : D.pend.length ≤ 100000)
    (hk : ∀ w' r, DJ B w' b (opJ n D).2.1 dv vv → OffG dT B w w' → Below B w w' → (match (opJ n D).2.2 with
      | none => r = .tuple #[.pointer none, I (opJ n D).1] ∧ (opJ n D).1 ≠ 0
      | some t => (opJ n D).1 = 0 ∧ TOk n t ∧ ∃ jb, r = .tuple #[.pointer (some ⟨jb, 0, none⟩), I 0] ∧ TJ w.heap.size w' jb b false t) → k r w') :
    callW Tryz.prog (.func (.func 25) #[] #[]) #[.pointer (some ⟨b, 0, none⟩)] k w := by
  obtain ⟨pv, hd⟩ := hd
  refine c25 hg hBw hd hok hpl fun w' r ⟨pv', h', ho, hb, _⟩ hm => hk w' r ⟨pv', h'⟩ (offG_disk hd ho) hb ?_
  cases ho : (opJ n D).2.2 with
  | none => rw [ho] at hm; exact hm
  | some t =>
    rw [ho] at hm
    obtain ⟨h1, h2, jb, rv, h3, h4⟩ := hm
    exact ⟨h1, h2, jb, h3, rv, h4⟩
theorem c25g {l : List ByteArray} (hg : Gl w) (hBw : B ≤ w.heap.size) (hd : DJ B w b D dv vv) (hG : Gd n D l)
    (hk : ∀ w' jb, DJ B w' b D dv vv → OffG dT B w w' → Below B w w' → TJ w.heap.size w' jb b false (tpOf l) → k (.tuple #[.pointer (some ⟨jb, 0, none⟩), I 0]) w') :
    callW Tryz.prog (.func (.func 25) #[] #[]) #[.pointer (some ⟨b, 0, none⟩)] k w := by
  refine c25d hg hBw hd hG.rest.ok (by rw [hG.rest.pend]; exact Nat.zero_le _) fun w' r h1 h2 h3 hm => ?_
  rw [gd_open hG] at h1 hm
  obtain ⟨_, _, jb, rfl, h5⟩ := hm
  exact hk w' jb h1 h2 h3 h5
theorem eqP27n {ox oy : Operand} : opW Tryz.prog (binS .eql 27 ox oy (.pointer none) (.pointer none)) k w = k (.bool true) w := opW_ok (by kernel_rfl)
theorem c25n (hk : k (.tuple #[.pointer none, I 1]) w) : callW Tryz.prog (.func (.func 25) #[] #[]) #[.pointer none] k w := C25 _ _ _ (by
  unfold S25
  rw [eqP27n, condW_true]
  exact hk)
theorem c10d {lv : Value} {t : TP} {br : Bool} {l : List ByteArray} (hg : Gl w) (hB : 3 < B) (hBw : B ≤ w.heap.size) (hd : DJ B w b D dv vv) (hok : DOk n D) (hpl : D.pend.length ≤ 100000)
    (hj : TJ B w jb b br t) (ht : TOk n t) (hl : IsSl fT w lv l) (hll : l.length ≤ 100)
    (hk : ∀ w', DJ B w' b (apJ n D t br l).2.1 dv vv → TJ B w' jb b (apJ n D t br l).2.2.2 (apJ n D t br l).2.2.1 → OffG jT B w w' → Below B w w' → k (I (apJ n D t br l).1) w') : callW Tryz.prog (.func (.func 10) #[] #[]) #[.pointer (some ⟨jb, 0, none⟩), lv] k w := by
  obtain ⟨pv, hd⟩ := hd
  obtain ⟨rv, hj⟩ := hj
  refine c10 hg hB hBw hd hok hpl hj ht hl hll fun w' ⟨pv', rv', h1, h2, h3, h4, _, _⟩ => ?_
  exact hk w' ⟨pv', h1⟩ ⟨rv', h2⟩ (offG_jour hd hj h3) h4
theorem c10g {lv : Value} {l m : List ByteArray} (hg : Gl w) (hB : 3 < B) (hBw : B ≤ w.heap.size) (hd : DJ B w b D dv vv) (hG : Gd n D l) (hj : TJ B w jb b false (tpOf l)) (hl : IsSl fT w lv m) (hll : m.length ≤ 100) (hs : ∀ r ∈ m, r.size ≤ 65536) (hr : (stL z32 (l ++ m)).length ≤ n)
    (hk : ∀ w' D', Gd n D' (l ++ m) → DJ B w' b D' dv vv → TJ B w' jb b false (tpOf (l ++ m)) → OffG jT B w w' → Below B w w' → k (I 0) w') : callW Tryz.prog (.func (.func 10) #[] #[]) #[.pointer (some ⟨jb, 0, none⟩), lv] k w := by
  refine c10d hg hB hBw hd hG.rest.ok (by rw [hG.rest.pend]; exact Nat.zero_le _) hj (tpOf_ok l (by rw [tpOf_size]; exact hG.fits.room)) hl hll fun w' h1 h2 h3 h4 => ?_
  obtain ⟨a, b, c, d⟩ := gd_append hG hs hr
  rw [c, d] at h2
  rw [a]
  exact hk w' _ b h1 h2 h3 h4
theorem c10f {lv : Value} {l m : List ByteArray} (hg : Gl w) (hB : 3 < B) (hBw : B ≤ w.heap.size) (hd : DJ B w b D dv vv) (hG : Gd n D l) (hj : TJ B w jb b false (tpOf l)) (hl : IsSl fT w lv m) (hll : m.length ≤ 100) (hs : ∀ r ∈ m, r.size ≤ 65536) (hr : n < (stL z32 (l ++ m)).length)
    (hk : ∀ w', DJ B w' b D dv vv → TJ B w' jb b false (tpOf l) → OffG jT B w w' → Below B w w' → k (I 341) w') : callW Tryz.prog (.func (.func 10) #[] #[]) #[.pointer (some ⟨jb, 0, none⟩), lv] k w := by
  refine c10d hg hB hBw hd hG.rest.ok (by rw [hG.rest.pend]; exact Nat.zero_le _) hj (tpOf_ok l (by rw [tpOf_size]; exact hG.fits.room)) hl hll fun w' h1 h2 h3 h4 => ?_
  rw [apJ_full hs hr] at h1 h2 ⊢
  exact hk w' h1 h2 h3 h4
theorem c19d {t : TP} {br : Bool} (h : TJ B w jb b br t) (hl : t.recs.length ≤ 1000000) (hk : ∀ v' w', Below w.heap.size w w' → Mine fT 9 w' w.heap.size v' t.recs → k v' w') : callW Tryz.prog (.func (.func 19) #[] #[]) #[.pointer (some ⟨jb, 0, none⟩)] k w := by
  obtain ⟨rv, h⟩ := h
  exact c19 h hl hk
theorem c20d {t : TP} {br : Bool} (hd : DJ B w b D dv vv) (hok : DOk n D) (h : TJ B w jb b br t) (hs : t.size ≤ 1000000) (hk : ∀ w', Below w.heap.size w w' → k (I ((n : Int) - t.size)) w') : callW Tryz.prog (.func (.func 20) #[] #[]) #[.pointer (some ⟨jb, 0, none⟩)] k w := by
  obtain ⟨rv, h⟩ := h
  obtain ⟨pv, hd⟩ := hd
  exact c20 hd hok.dur hok.n2 h hs hk
theorem c13d {o : Nat} {s : ByteArray} (hBw : B ≤ w.heap.size) (hd : DJ B w b D dv vv) (hok : DOk n D) (hon : D.off = false) (hin : o + s.size ≤ n) (hpl : D.pend.length ≤ 100000)
    (hk : ∀ w', DJ B w' b (wrD D o s) dv vv → OffG dT B w w' → Below B w w' → k (I 0) w') : callW Tryz.prog (.func (.func 13) #[] #[]) #[.pointer (some ⟨b, 0, none⟩), I o, .string s] k w := by
  obtain ⟨pv, hd⟩ := hd
  exact c13 hd hok.ne hon (by rw [hok.dur]; exact hin) (by rw [hok.dur]; exact hok.n2) hok.left hpl hBw fun w' pv' h1 h2 h3 _ => hk w' ⟨pv', h1⟩ (offG_disk hd h2) h3
theorem c22d (hd : DJ B w b D dv vv) (hok : DOk n D) (hon : D.off = false) (hk : k (.string ⟨D.vis.toArray⟩) w) : callW Tryz.prog (.func (.func 22) #[] #[]) #[.pointer (some ⟨b, 0, none⟩)] k w := C22 _ _ _ (by
  obtain ⟨pv, hd⟩ := hd
  unfold S22
  refine c51 hd ?_
  refine c52 hd hok.ne fun e h1 h2 => ?_
  rw [h2 hon, ex0, ex1]
  exact hk)
end
end Go.Proofs.YtbojglaimdjagaaGreatDoor
/- The laws' fixed examples. -/
set_option linter.unusedSimpArgs false
set_option linter.unusedVariables false
set_option maxRecDepth 4000
namespace Go.Proofs.YtbojglaimdjagaaGreatDoor
open Go Go.V Go.RowKit
def sAB : ByteArray := ⟨#[97, 98]⟩
def sE : ByteArray := ⟨#[]⟩
theorem vb4 : (vb 4).length = 1 := by rw [vb_lt (by decide)]; rfl
theorem vb0 : (vb 0).length = 1 := by rw [vb_lt (by decide)]; rfl
theorem vb190 : (vb 190).length = 2 := by rw [vb_ge (by decide), vb_lt (by decide)]; rfl
theorem vb192 : (vb 192).length = 2 := by rw [vb_ge (by decide), vb_lt (by decide)]; rfl
theorem st_two : (stL z32 [sAB, sE]).length = 70 := by
  simp only [stL, List.length_append, ba_len, recB_size, List.length_nil]
  have h1 : sAB.size = 2 := rfl
  have h2 : sE.size = 0 := rfl
  rw [h1, h2]
  have := vb4
  have := vb0
  show 33 + (vb 4).length + 2 + (33 + (vb 0).length + 0 + 0) = 70
  omega
theorem st_three {m c : Nat} (h : (vb (2 * m)).length = c) : (stL z32 ([sAB, sE] ++ [zeroB m])).length = 70 + (33 + c + m) := by
  rw [stL_append, List.length_append, st_two]
  simp only [stL, List.length_append, ba_len, recB_size, List.length_nil, zeroB_size]
  omega
theorem ldF_bad {n : Nat} {t : TP} {s : ByteArray} {c : UInt8} (h : s.data.toList.getD t.size 0 = c) (h0 : c ≠ 0) (h1 : c ≠ 1) (hs : t.size < s.size) : ldF (n + 1) t s = none := by
  unfold ldF
  rw [h, if_pos ⟨hs, h0⟩, if_neg h1]
section
variable {k : Value → World → Prop} {w : World}
/-- a string of zeros, made -/
theorem w_zstr {m : Nat} (h1 : 1 ≤ m) (h2 : m ≤ 1000000) (hk : ∀ w', Below w.heap.size w w' → k (.string (zeroB m)) w') : opW Tryz.prog (Instr.makeSlice 39 (I m) (I m)) (fun v w => opW Tryz.prog (convert 39 9 v) k w) w := by
  refine w_zerosM h2 fun w' hb hm => ?_
  rw [w_toStr (e := 5) (by kernel_rfl) (by kernel_rfl) (by kernel_rfl) hm.sl (fun h => by have := congrArg List.length h; simp at this; omega)]
  exact hk _ hb
set_option maxHeartbeats 1000000 in
theorem c8 (hg : Gl w) (hk : ∀ w', Below w.heap.size w w' → k (.bool true) w') : callW Tryz.prog (.func (.func 8) #[] #[]) #[] k w := C8 _ _ (by
  unfold S8
  have hB : 3 < w.heap.size := hg.2.1
  refine c24d (n := 200) (by decide) (by decide) fun b dv vv w1 hb1 hd1 => ?_
  rw [ex0, ex1]
  have hs1 := hb1.size
  refine c25g (hg.below hb1 hB) hs1 hd1 (gd_new (by decide) (by decide)) fun w2 jb hd2 ho2 hb2 hj2 => ?_
  replace hj2 := hj2.lower hs1
  replace hb2 := hb1.trans hb2
  rw [ex0, ex1, eqP28]
  simp only [guardW_ff, pickW_false]
  rw [w_neq]
  simp only [decide_true, Bool.not_true, guardW_ff, pickW_false]
  refine c19d hj2 (by decide) fun v3 w3 hb3 hm3 => ?_
  have e0 : (tpOf []).recs = [] := rfl
  rw [e0] at hm3
  rw [len22 hm3.sl, w_neq, decide_eq_true (show ((([] : List ByteArray).length : Nat) : Int) = 0 from rfl), Bool.not_true]
  simp only [guardW_ff, pickW_false]
  replace hd2 := hd2.below hb3
  replace hj2 := hj2.below hb3
  replace hb2 := hb2.trans (hb3.mono hb2.size)
  have hG0 := gd_new (n := 200) (by decide) (by decide)
  refine c20d hd2 hG0.rest.ok hj2 (by decide) fun w4 hb4 => ?_
  rw [show ((200 : Nat) : Int) - ((tpOf []).size : Int) = 200 from rfl, w_neq]
  simp only [decide_true, Bool.not_true, pickW_false]
  rw [condW_false]
  replace hd2 := hd2.below hb4
  replace hj2 := hj2.below hb4
  replace hb2 := hb2.trans (hb4.mono hb2.size)
  clear ho2 hm3
  refine w_parts (F := fT) (l := [sAB, sE]) sty22 rfl (by decide) (by decide) (by kernel_rfl) rfl fun w5 hb5 _ hm5 => ?_
  replace hd2 := hd2.below hb5
  replace hj2 := hj2.below hb5
  replace hb2 := hb2.trans (hb5.mono hb2.size)
  refine c10g (l := []) (m := [sAB, sE]) (hg.below hb2 hB) hB hb2.size hd2 hG0 hj2 hm5.sl (by decide) (by decide) (by rw [List.nil_append, st_two]; decide) fun w6 D6 hG6 hd6 hj6 ho6 hb6 => ?_
  rw [List.nil_append] at hG6 hj6
  replace hb6 := hb2.trans hb6
  refine w_zstr (m := 96) (by decide) (by decide) fun w7 hb7 => ?_
  replace hd6 := hd6.below hb7
  replace hj6 := hj6.below hb7
  replace hb6 := hb6.trans (hb7.mono hb6.size)
  refine w_parts (F := fT) (l := [zeroB 96]) sty22 rfl (by decide) (by decide) (by kernel_rfl) rfl fun w8 hb8 _ hm8 => ?_
  replace hd6 := hd6.below hb8
  replace hj6 := hj6.below hb8
  replace hb6 := hb6.trans (hb8.mono hb6.size)
  have hz : ∀ m, m ≤ 65536 → ∀ r ∈ [zeroB m], r.size ≤ 65536 := fun m hm r hr => by
    simp only [List.mem_singleton] at hr
    subst hr
    rw [zeroB_size]; exact hm
  refine c10f (l := [sAB, sE]) (m := [zeroB 96]) (hg.below hb6 hB) hB hb6.size hd6 hG6 hj6 hm8.sl (by simp) (hz 96 (by decide)) (by rw [st_three vb192]; decide) fun w9 hd9 hj9 ho9 hb9 => ?_
  replace hb9 := hb6.trans hb9
  have hts : (tpOf [sAB, sE]).size = 70 := by rw [tpOf_size, st_two]
  refine c20d hd9 hG6.rest.ok hj9 (by rw [hts]; decide) fun w10 hb10 => ?_
  rw [hts]
  replace hd9 := hd9.below hb10
  replace hj9 := hj9.below hb10
  replace hb9 := hb9.trans (hb10.mono hb9.size)
  refine w_zstr (m := 95) (by decide) (by decide) fun w11 hb11 => ?_
  replace hd9 := hd9.below hb11
  replace hj9 := hj9.below hb11
  replace hb9 := hb9.trans (hb11.mono hb9.size)
  refine w_parts (F := fT) (l := [zeroB 95]) sty22 rfl (by decide) (by decide) (by kernel_rfl) rfl fun w12 hb12 _ hm12 => ?_
  replace hd9 := hd9.below hb12
  replace hj9 := hj9.below hb12
  replace hb9 := hb9.trans (hb12.mono hb9.size)
  refine c10g (l := [sAB, sE]) (m := [zeroB 95]) (hg.below hb9 hB) hB hb9.size hd9 hG6 hj9 hm12.sl (by simp) (hz 95 (by decide)) (by rw [st_three vb190]; decide) fun w13 D13 hG13 hd13 hj13 ho13 hb13 => ?_
  replace hb13 := hb9.trans hb13
  refine c25g (hg.below hb13 hB) hb13.size hd13 hG13 fun w14 jb2 hd14 ho14 hb14 hk14 => ?_
  replace hj13 := hj13.off ho14
  replace hk14 := hk14.lower hb13.size
  replace hb14 := hb13.trans hb14
  rw [ex0, ex1, eqP28, condW_false]
  refine c13d (o := 0) (s := ⟨#[2]⟩) hb14.size hd14 hG13.rest.ok hG13.rest.on (by decide) (by rw [hG13.rest.pend]; decide) fun w15 hd15 ho15 hb15 => ?_
  replace hj13 := hj13.off ho15
  replace hk14 := hk14.off ho15
  replace hb15 := hb14.trans hb15
  have hok15 : DOk 200 (wrD D13 0 ⟨#[2]⟩) := hG13.rest.ok.wr (by decide)
  have hv15 : (wrD D13 0 ⟨#[2]⟩).vis.getD 0 0 = 2 := by
    rw [wr_vis]; unfold ontoL; rfl
  have hop : opJ 200 (wrD D13 0 ⟨#[2]⟩) = (342, wrD D13 0 ⟨#[2]⟩, none) := by
    unfold opJ
    have e1 : (wrD D13 0 ⟨#[2]⟩).off = false := by rw [wrD_zero hG13.rest.left]; exact hG13.rest.on
    rw [if_neg (by rw [e1]; simp)]
    have e2 : ldF (200 + 1) tp0 ⟨(wrD D13 0 ⟨#[2]⟩).vis.toArray⟩ = none := ldF_bad (c := 2) hv15 (by decide) (by decide) (by rw [vis_size hok15]; decide)
    rw [e2]
  refine c25d (hg.below hb15 hB) hb15.size hd15 hok15 (by rw [wr_pend, hG13.rest.pend]; decide) fun w16 r16 hd16 ho16 hb16 hm16 => ?_
  rw [hop] at hm16
  obtain ⟨rfl, _⟩ := hm16
  replace hj13 := hj13.off ho16
  replace hk14 := hk14.off ho16
  replace hb16 := hb15.trans hb16
  rw [hop] at hd16
  rw [ex0, ex1]
  refine c25n ?_
  rw [ex0, ex1, w_eql]
  simp only [decide_true, guardW_tt, pickW_true]
  rw [w_eql]
  simp only [decide_true, guardW_tt, pickW_true]
  rw [w_eql, decide_eq_true (by decide)]
  simp only [guardW_tt, pickW_true]
  rw [w_eql]
  simp only [decide_true, guardW_tt, pickW_true]
  have hts3 : (tpOf ([sAB, sE] ++ [zeroB 95])).size = 200 := by rw [tpOf_size, st_three vb190]
  refine c20d hd16 hok15 hj13 (by rw [hts3]; decide) fun w17 hb17 => ?_
  replace hk14 := hk14.below hb17
  replace hb16 := hb16.trans (hb17.mono hb16.size)
  rw [hts3, w_eql, decide_eq_true (by decide)]
  simp only [guardW_tt, pickW_true]
  rw [w_eql]
  simp only [decide_true, guardW_tt, pickW_true]
  have hrec : (tpOf ([sAB, sE] ++ [zeroB 95])).recs = [sAB, sE, zeroB 95] := tpOf_recs _
  refine c19d hk14 (by rw [hrec]; simp) fun v18 w18 hb18 hm18 => ?_
  replace hk14 := hk14.below hb18
  replace hb16 := hb16.trans (hb18.mono hb16.size)
  rw [hrec] at hm18
  rw [len22 hm18.sl, w_eql, decide_eq_true (by rfl)]
  simp only [guardW_tt, pickW_true]
  refine c19d hk14 (by rw [hrec]; simp) fun v19 w19 hb19 hm19 => ?_
  replace hb16 := hb16.trans (hb19.mono hb16.size)
  rw [hrec] at hm19
  refine ix22 (i := 0) hm19.sl rfl (by decide) (x := sAB) rfl fun b0 o0 hc0 => ?_
  rw [ld9 (show w19.cell? ⟨b0, o0, none⟩ = some (.string sAB) from hc0 0 _ rfl), w_eqlStr (by kernel_rfl), decide_eq_true (show sAB = ⟨#[97, 98]⟩ from rfl)]
  simp only [guardW_tt, pickW_true]
  rw [w_eql]
  simp only [decide_true, guardW_tt, pickW_true]
  rw [w_eql]
  simp only [decide_true, guardW_tt, pickW_true]
  exact hk _ hb16)
end
end Go.Proofs.YtbojglaimdjagaaGreatDoor
/- The journal, plain: what a changed byte does. -/
set_option linter.unusedSimpArgs false
set_option linter.unusedVariables false
set_option maxRecDepth 4000
namespace Go.Proofs.YtbojglaimdjagaaGreatDoor
open Go Go.V Go.RowKit
theorem ldF_succ (n : Nat) (t : TP) (s : ByteArray) : ldF (n + 1) t s = if t.size < s.size ∧ s.data.toList.getD t.size 0 ≠ 0 then
      if s.data.toList.getD t.size 0 = 1 then
        match rdS s (t.size + 1) with
        | none => none
        | some (m, p) => if p + m + 32 ≤ s.size ∧ recB t.head (s.extract p (p + m)) = s.extract t.size (p + m + 32) then ldF n (addT t (s.extract p (p + m))) s else none
      else none
    else some t := rfl
/-- one record read: its bytes, and the 32 behind them -/
theorem ldF_rec {n : Nat} {t : TP} {s x : ByteArray} {hd X : List UInt8} (hx : x.size ≤ 65536) (hh : hd.length = 32) (h : s.data.toList.drop t.size = 1 :: (vb (2 * x.size) ++ (x.data.toList ++ (hd ++ X)))) :
    ldF (n + 1) t s = if (chainF t.head x).data.toList = hd then ldF n (addT t x) s else none := by
  have hl := congrArg List.length h
  simp only [List.length_drop, List.length_cons, List.length_append, ba_len, hh] at hl
  have h1 : s.data.toList.getD t.size 0 = 1 := by
    have := congrArg (fun x => List.getD x 0 0) h
    simp only [List.getD_eq_getElem?_getD, List.getElem?_drop, Nat.add_zero] at this
    rw [List.getD_eq_getElem?_getD, this]; rfl
  have hd2 : s.data.toList.drop (t.size + 1) = vb (2 * x.size) ++ (x.data.toList ++ (hd ++ X)) := by
    rw [← List.drop_drop, h]; rfl
  obtain ⟨e1, e2⟩ := rdS_rec hx (by omega) hd2
  rw [ldF_succ, if_pos ⟨by omega, by rw [h1]; decide⟩, if_pos h1, e1]
  simp only
  rw [e2]
  have e3 : (s.extract t.size (t.size + 1 + (vb (2 * x.size)).length + x.size + 32)).data.toList = 1 :: (vb (2 * x.size) ++ (x.data.toList ++ hd)) := by
    rw [ext_list, h, show t.size + 1 + (vb (2 * x.size)).length + x.size + 32 - t.size = (1 :: (vb (2 * x.size) ++ (x.data.toList ++ hd))).length by simp only [List.length_cons, List.length_append, ba_len, hh]; omega]
    rw [show 1 :: (vb (2 * x.size) ++ (x.data.toList ++ (hd ++ X))) = (1 :: (vb (2 * x.size) ++ (x.data.toList ++ hd))) ++ X by simp]
    rw [List.take_left]
  by_cases hc : (chainF t.head x).data.toList = hd
  · rw [if_pos hc, if_pos ⟨by omega, ba_ext (by rw [e3, recB_list, hc])⟩]
  · rw [if_neg hc, if_neg]
    rintro ⟨_, hr⟩
    have := congrArg (fun b => b.data.toList) hr
    simp only [e3, recB_list, List.cons.injEq, List.append_cancel_left_eq, true_and] at this
    exact hc this
theorem ldF_more : ∀ (n : Nat) (t t' : TP) (s : ByteArray), ldF n t s = some t' → ∃ l : List ByteArray, t' = l.foldl addT t ∧ ∀ r ∈ l, r.size ≤ 65536
  | 0, t, t', s, h => by cases h; exact ⟨[], rfl, by simp⟩
  | n + 1, t, t', s, h => by
    rw [ldF_succ] at h
    split at h
    · rename_i hx
      split at h
      · split at h
        · cases h
        · rename_i m p hr
          split at h
          · obtain ⟨l, hl, hs⟩ := ldF_more n _ _ _ h
            obtain ⟨a1, a2, a3⟩ := rdS_le (by omega) hr
            refine ⟨s.extract p (p + m) :: l, hl, fun r hr => ?_⟩
            rcases List.mem_cons.1 hr with rfl | hr
            · rw [ByteArray.size_extract]; omega
            · exact hs r hr
          · cases h
      · cases h
    · cases h; exact ⟨[], rfl, by simp⟩
/-- is a byte of the stored records one of the length of a record? -/
def szdF : List ByteArray → Int → Bool
  | [], _ => false
  | r :: l, a => if 1 ≤ a ∧ a ≤ (vb (2 * r.size)).length then true else szdF l (a - (33 + ((vb (2 * r.size)).length : Int) + (r.size : Int)))
theorem set_getD {l : List UInt8} {i : Nat} {c : UInt8} (hi : i < l.length) (hc : l.getD i 0 ≠ c) : l.set i c ≠ l := fun h => by
  have := congrArg (fun x => List.getD x i 0) h
  simp only [List.getD_eq_getElem?_getD, List.getElem?_set_self hi, Option.getD_some] at this
  rw [List.getD_eq_getElem?_getD] at hc
  exact hc this.symm
theorem damage : ∀ (l : List ByteArray) (n i : Nat) (c : UInt8) (t : TP) (s : ByteArray) (Z : List UInt8), (∀ r ∈ l, r.size ≤ 65536) → s.data.toList.drop t.size = (stL t.head l ++ Z).set i c → i < (stL t.head l).length → (stL t.head l ++ Z).getD i 0 ≠ c → szdF l i = false → t.size ≤ s.size → s.size - t.size < n →
    ldF n t s = none ∨ (c = 0 ∧ ∃ m, m < l.length ∧ ldF n t s = some ((l.take m).foldl addT t)) ∨
      (∃ m r r' more, l[m]? = some r ∧ r' ≠ r ∧ chainF ((l.take m).foldl chainF t.head) r' = chainF ((l.take m).foldl chainF t.head) r ∧ ldF n t s = some ((l.take m ++ r' :: more).foldl addT t))
  | [], n, i, c, t, s, Z, _, _, hi, _, _, _, _ => by simp [stL] at hi
  | r :: l, n, i, c, t, s, Z, hsm, hd, hi, hne, hz, hts, hn => by
    obtain ⟨n, rfl⟩ : ∃ m, n = m + 1 := ⟨n - 1, by omega⟩
    have hr := hsm r (by simp)
    have hR := recB_size t.head r
    have hRl : (recB t.head r).data.toList.length = (recB t.head r).size := ba_len _
    simp only [stL, List.append_assoc] at hd hne hi
    rw [List.length_append, hRl] at hi
    have hlen := congrArg List.length hd
    rw [List.length_set, List.length_drop, ba_len, List.length_append, List.length_append, hRl] at hlen
    simp only [szdF] at hz
    split at hz
    · cases hz
    rename_i hnz
    rcases Nat.lt_or_ge i (recB t.head r).size with hlt | hge
    · -- in this record
      rw [List.set_append_left _ _ (by rw [hRl]; exact hlt)] at hd
      rw [List.getD_eq_getElem?_getD, List.getElem?_append_left (by rw [hRl]; exact hlt), ← List.getD_eq_getElem?_getD] at hne
      rw [recB_list] at hd hne
      rcases Nat.eq_zero_or_pos i with rfl | hpos
      · -- its first byte
        have hb : s.data.toList.getD t.size 0 = c := by
          have := congrArg (fun x => List.getD x 0 0) hd
          simp only [List.getD_eq_getElem?_getD, List.getElem?_drop, Nat.add_zero] at this
          rw [List.getD_eq_getElem?_getD, this]; rfl
        have hc1 : c ≠ 1 := fun h => hne (by rw [h]; rfl)
        by_cases hc0 : c = 0
        · refine .inr (.inl ⟨hc0, 0, by simp, ?_⟩)
          rw [ldF_succ, if_neg (fun hh => hh.2 (by rw [hb]; exact hc0))]
          rfl
        · exact .inl (ldF_bad hb hc0 hc1 (by omega))
      obtain ⟨i, rfl⟩ : ∃ j, i = j + 1 := ⟨i - 1, by omega⟩
      rw [List.set_cons_succ] at hd
      rw [List.getD_cons_succ] at hne
      have hv : (vb (2 * r.size)).length ≤ i := by
        rcases Nat.lt_or_ge i (vb (2 * r.size)).length with h | h
        · exact absurd ⟨by omega, by omega⟩ hnz
        · exact h
      rw [List.set_append_right _ _ hv] at hd
      rw [List.getD_eq_getElem?_getD, List.getElem?_append_right hv, ← List.getD_eq_getElem?_getD] at hne
      obtain ⟨j, hj⟩ : ∃ j, i - (vb (2 * r.size)).length = j := ⟨_, rfl⟩
      rw [hj] at hd hne
      have hcl : (chainF t.head r).data.toList.length = 32 := by rw [ba_len, chain_size]
      rcases Nat.lt_or_ge j r.size with hjr | hjr
      · -- in its text
        rw [List.set_append_left _ _ (by rw [ba_len]; exact hjr)] at hd
        rw [List.getD_eq_getElem?_getD, List.getElem?_append_left (by rw [ba_len]; exact hjr), ← List.getD_eq_getElem?_getD] at hne
        obtain ⟨r', hr'⟩ : ∃ r' : ByteArray, r'.data.toList = r.data.toList.set j c := ⟨⟨(r.data.toList.set j c).toArray⟩, rfl⟩
        have hs' : r'.size = r.size := by rw [← ba_len, hr', List.length_set, ba_len]
        rw [← hr'] at hd
        have hrec := ldF_rec (n := n) (t := t) (s := s) (x := r') (hd := (chainF t.head r).data.toList) (X := stL (chainF t.head r) l ++ Z) (by omega) hcl (by rw [hd, hs']; simp [List.append_assoc])
        by_cases hc : (chainF t.head r').data.toList = (chainF t.head r).data.toList
        · rw [if_pos hc] at hrec
          cases hl : ldF n (addT t r') s with
          | none => rw [hl] at hrec; exact .inl hrec
          | some t' =>
            obtain ⟨more, hm, _⟩ := ldF_more _ _ _ _ hl
            rw [hl, hm] at hrec
            refine .inr (.inr ⟨0, r, r', more, rfl, fun hh => ?_, ba_ext hc, hrec⟩)
            have h9 := congrArg (fun b : ByteArray => b.data.toList) hh
            simp only [hr'] at h9
            exact set_getD (by rw [ba_len]; exact hjr) hne h9
        · rw [if_neg hc] at hrec
          exact .inl hrec
      · -- in its digest
        rw [List.set_append_right _ _ (by rw [ba_len]; exact hjr)] at hd
        rw [List.getD_eq_getElem?_getD, List.getElem?_append_right (by rw [ba_len]; exact hjr), ← List.getD_eq_getElem?_getD, ba_len] at hne
        rw [ba_len] at hd
        have hrec := ldF_rec (n := n) (t := t) (s := s) (x := r) (hd := (chainF t.head r).data.toList.set (j - r.size) c) (X := stL (chainF t.head r) l ++ Z) hr (by rw [List.length_set]; exact hcl) (by rw [hd]; simp [List.append_assoc])
        rw [if_neg (fun hh => set_getD (by rw [hcl]; omega) hne hh.symm)] at hrec
        exact .inl hrec
    · -- behind it
      rw [List.set_append_right _ _ (by rw [hRl]; exact hge), hRl] at hd
      rw [List.getD_eq_getElem?_getD, List.getElem?_append_right (by rw [hRl]; exact hge), ← List.getD_eq_getElem?_getD, hRl] at hne
      have hrec := ldF_rec (n := n) (t := t) (s := s) (x := r) (hd := (chainF t.head r).data.toList) (X := (stL (chainF t.head r) l ++ Z).set (i - (recB t.head r).size) c) hr (by rw [ba_len, chain_size]) (by rw [hd, recB_list]; simp [List.append_assoc])
      rw [if_pos rfl] at hrec
      have hts2 : (addT t r).size = t.size + (recB t.head r).size := rfl
      have ih := damage l n (i - (recB t.head r).size) c (addT t r) s Z (fun x hx => hsm x (by simp [hx])) (by
        rw [hts2, ← List.drop_drop, hd, ← hRl, List.drop_left]
        rfl) (by show _ < (stL (chainF t.head r) l).length; omega) hne (by rw [← hz]; congr 1; omega) (by omega) (by omega)
      rw [hrec]
      rcases ih with h | ⟨h0, m, hm, h⟩ | ⟨m, x, x', more, h1, h2, h3, h4⟩
      · exact .inl h
      · exact .inr (.inl ⟨h0, m + 1, by simp only [List.length_cons]; omega, h⟩)
      · exact .inr (.inr ⟨m + 1, x, x', more, h1, h2, h3, h4⟩)
/-- the strings of which the heads are computed -/
def headsF (h : ByteArray) : List ByteArray → List ByteArray
  | [] => []
  | r :: l => ((⟨#[2]⟩ : ByteArray) ++ h ++ r) :: headsF (chainF h r) l
theorem headsF_len : ∀ (l : List ByteArray) (h : ByteArray), (headsF h l).length = l.length
  | [], _ => rfl
  | r :: l, h => by simp [headsF, headsF_len l]
theorem headsF_get : ∀ (l : List ByteArray) (h : ByteArray) (m : Nat) (r : ByteArray), l[m]? = some r → (headsF h l)[m]? = some ((⟨#[2]⟩ : ByteArray) ++ (l.take m).foldl chainF h ++ r)
  | [], _, _, _, h => by simp at h
  | x :: l, h, 0, r, hm => by cases hm; rfl
  | x :: l, h, m + 1, r, hm => by
    have := headsF_get l (chainF h x) m r hm
    simp only [headsF, List.getElem?_cons_succ, List.take_succ_cons, List.foldl_cons]
    exact this
theorem heads_clash {l more : List ByteArray} {m : Nat} {r r' : ByteArray} {h : ByteArray} (h1 : l[m]? = some r) (h2 : r' ≠ r) (h3 : chainF ((l.take m).foldl chainF h) r' = chainF ((l.take m).foldl chainF h) r) :
    ∃ x y, (headsF h l)[m]? = some x ∧ (headsF h (l.take m ++ r' :: more))[m]? = some y ∧ x ≠ y ∧ shaF x = shaF y := by
  have hm := (List.getElem?_eq_some_iff.1 h1).1
  have hl : (l.take m).length = m := by rw [List.length_take]; omega
  refine ⟨_, _, headsF_get l h m r h1, headsF_get (l.take m ++ r' :: more) h m r' ?_, ?_, ?_⟩
  · rw [List.getElem?_append_right (by omega), hl, Nat.sub_self]; rfl
  · rw [List.take_append, hl, Nat.sub_self, List.take_zero, List.append_nil, List.take_of_length_le (Nat.le_of_eq hl)]
    intro hh
    have := congrArg (fun b : ByteArray => b.data.toList) hh
    simp only [ba_append, List.append_cancel_left_eq] at this
    exact h2 (ba_ext this).symm
  · rw [List.take_append, hl, Nat.sub_self, List.take_zero, List.append_nil, List.take_of_length_le (Nat.le_of_eq hl)]
    exact h3.symm
theorem vb_two {z : Nat} (h : z < 16384) : (vb z).length ≤ 2 := by
  rcases Nat.lt_or_ge z 128 with h1 | h1
  · rw [vb_lt h1]; simp
  · rw [vb_ge h1, vb_lt (by omega)]; simp
theorem stL_small : ∀ (l : List ByteArray) (h : ByteArray), (∀ s ∈ l, s.size ≤ 100) → (stL h l).length ≤ l.length * 135
  | [], _, _ => by simp [stL]
  | r :: l, h, hs => by
    have h1 := stL_small l (chainF h r) fun s hs' => hs s (by simp [hs'])
    have h2 := hs r (by simp)
    have h3 := vb_two (z := 2 * r.size) (by omega)
    simp only [stL, List.length_append, ba_len, recB_size, List.length_cons]
    omega
end Go.Proofs.YtbojglaimdjagaaGreatDoor
/- Small functions of the law of damage: heads, sized. -/
set_option linter.unusedSimpArgs false
set_option linter.unusedVariables false
set_option maxRecDepth 4000
namespace Go.Proofs.YtbojglaimdjagaaGreatDoor
open Go Go.V Go.RowKit
section
variable {k : Value → World → Prop} {w : World}
theorem getT22 {v : Value} {l : List ByteArray} {i : Nat} {s : ByteArray} {q : IntKind} (hs : IsSl fT w v l) (hx : l[i]? = some s) : opW Tryz.prog (Instr.indexAt 22 v (.int q (i : Int))) (fun p w => opW Tryz.prog (Instr.loadAt 9 p) k w) w = k (.string s) w := by
  obtain ⟨b, o, c, rfl, hlt, hcl⟩ := hs.at (i := (i : Int)) (by omega) (by simpa using hx)
  have hsz : sizeT Tryz.prog (elemT Tryz.prog 22) = 1 := by kernel_rfl
  have := hcl 0 (.string s) rfl
  rw [opW_ok (run_index (by kernel_rfl) (by kernel_rfl) (by omega) hlt w), hsz, ld9 (v := .string s)]
  simpa [fT] using this
theorem c26 {v : Value} {l : List ByteArray} {a : Int} (hs : IsSl fT w v l) (hl : l.length ≤ 1000) (hsm : ∀ r ∈ l, r.size ≤ 65536) (ha : -1000000000 ≤ a ∧ a ≤ 1000000000) (hk : ∀ w', Below w.heap.size w w' → k (.bool (szdF l a)) w') : callW Tryz.prog (.func (.func 26) #[] #[]) #[v, I a] k w := C26 _ _ _ _ (by
  unfold S26
  refine Loop2.intro (fun m x y w' => ∃ (i : Nat) (a' : Int), y = I i ∧ x = I a' ∧ m = l.length - i ∧ i ≤ l.length ∧ Below w.heap.size w w' ∧ szdF (l.drop i) a' = szdF l a ∧ -1000000000 - (i : Int) * 1000000 ≤ a' ∧ a' ≤ 1000000000) _ ⟨0, a, rfl, rfl, rfl, Nat.zero_le _, Below.refl _ _, rfl, by omega, ha.2⟩ ?_
  rintro m _ _ w1 ⟨i, a', rfl, rfl, rfl, hi, hb1, he, ha1, ha2⟩
  have hs1 := hs.below hb1
  rw [len22 hs1, w_lss]
  by_cases hlt : i < l.length
  case' neg =>
    rw [decide_eq_false (by omega), condW_false]
    rw [List.drop_of_length_le (by omega)] at he
    have := hk w1 hb1
    rw [← he] at this
    exact this
  have hx : l[i]? = some l[i] := List.getElem?_eq_getElem hlt
  have hr := hsm _ (List.getElem_mem hlt)
  have hv := (vb_len (2 * l[i].size)).2
  rw [List.drop_eq_getElem_cons hlt] at he
  simp only [szdF] at he
  rw [decide_eq_true (by omega), condW_true, getT22 hs1 hx, w_lenStr (by kernel_rfl)]
  refine c56 (by omega) fun w2 hb2 => ?_
  have hb02 := below_trans hb1 hb2
  have hs2 := hs.below hb02
  rw [ex0, ex1, w_geq]
  have hls := lenB_size l[i].size
  by_cases h1 : 1 ≤ a'
  · rw [decide_eq_true h1]
    simp only [guardW_tt, pickW_true]
    rw [w_lenStr (by kernel_rfl), w_leq]
    by_cases h2 : a' ≤ (vb (2 * l[i].size)).length
    · rw [decide_eq_true (by omega), condW_true]
      rw [if_pos ⟨h1, h2⟩] at he
      have := hk w2 hb02
      rw [← he] at this
      exact this
    · rw [decide_eq_false (by omega), condW_false]
      rw [if_neg (fun h => h2 h.2)] at he
      rw [w_lenStr (by kernel_rfl), w_add, wrap_id (by omega), getT22 hs2 hx, w_lenStr (by kernel_rfl), w_add, wrap_id (by omega), w_add, wrap_id (by omega), w_sub, wrap_id (by omega), w_add, wrap_id (by omega), loopK_self]
      refine ⟨l.length - (i + 1), by omega, i + 1, a' - (33 + ((vb (2 * l[i].size)).length : Int) + (l[i].size : Int)), by simp [I], by simp only [I]; congr 1; omega, rfl, by omega, hb02, he, by omega, by omega⟩
  · rw [decide_eq_false h1]
    simp only [guardW_ft, guardW_u, pickW_false]
    rw [condW_false]
    rw [if_neg (fun h => h1 h.1)] at he
    rw [w_lenStr (by kernel_rfl), w_add, wrap_id (by omega), getT22 hs2 hx, w_lenStr (by kernel_rfl), w_add, wrap_id (by omega), w_add, wrap_id (by omega), w_sub, wrap_id (by omega), w_add, wrap_id (by omega), loopK_self]
    refine ⟨l.length - (i + 1), by omega, i + 1, a' - (33 + ((vb (2 * l[i].size)).length : Int) + (l[i].size : Int)), by simp [I], by simp only [I]; congr 1; omega, rfl, by omega, hb02, he, by omega, by omega⟩)
theorem headF_size (l : List ByteArray) : ∀ h : ByteArray, h.size = 32 → (l.foldl chainF h).size = 32 := by
  induction l with
  | nil => intro h hh; exact hh
  | cons r l ih => intro h _; exact ih _ (chain_size _ _)
theorem c43 {v : Value} {l : List ByteArray} (hs : IsSl fT w v l) (hl : l.length ≤ 100000000) (hsm : ∀ r ∈ l, r.size ≤ 65536) (hk : ∀ w', Below w.heap.size w w' → k (.string (l.foldl chainF z32)) w') : callW Tryz.prog (.func (.func 43) #[] #[]) #[v] k w := C43 _ _ _ (by
  unfold S43
  have hml : 100000000 ≤ maxLen := by decide
  refine w_zstr (m := 32) (by decide) (by decide) fun w0 hb0 => ?_
  refine Loop2.intro (fun m x y w' => ∃ i : Nat, y = I i ∧ x = .string ((l.take i).foldl chainF z32) ∧ m = l.length - i ∧ i ≤ l.length ∧ Below w.heap.size w w') _ ⟨0, rfl, rfl, rfl, Nat.zero_le _, hb0⟩ ?_
  rintro m _ _ w1 ⟨i, rfl, rfl, rfl, hi, hb1⟩
  have hs1 := hs.below hb1
  rw [len22 hs1, w_lss]
  by_cases hlt : i < l.length
  case' neg =>
    rw [decide_eq_false (by omega), condW_false]
    rw [List.take_of_length_le (by omega)]
    exact hk w1 hb1
  have hx : l[i]? = some l[i] := List.getElem?_eq_getElem hlt
  have hr := hsm _ (List.getElem_mem hlt)
  rw [decide_eq_true (by omega), condW_true, getT22 hs1 hx]
  refine c57 (by rw [headF_size _ z32 rfl]; omega) fun w2 hb2 => ?_
  rw [w_add, wrap_id (by omega), loopK_self]
  refine ⟨l.length - (i + 1), by omega, i + 1, by simp [I], ?_, rfl, by omega, below_trans hb1 hb2⟩
  rw [List.take_add_one, hx, Option.toList_some, List.foldl_append]; rfl)
theorem headsF_snoc : ∀ (l : List ByteArray) (h r : ByteArray), headsF h (l ++ [r]) = headsF h l ++ [(⟨#[2]⟩ : ByteArray) ++ l.foldl chainF h ++ r]
  | [], h, r => rfl
  | x :: l, h, r => by simp only [List.cons_append, headsF, List.foldl_cons]; rw [headsF_snoc l]
theorem c27 {v : Value} {l : List ByteArray} (hs : IsSl fT w v l) (hl : l.length ≤ 1000000) (hsm : ∀ r ∈ l, r.size ≤ 65536) (hk : ∀ v' w', Below w.heap.size w w' → Mine fT 9 w' w.heap.size v' (headsF z32 l) → k v' w') : callW Tryz.prog (.func (.func 27) #[] #[]) #[v] k w := C27 _ _ _ (by
  unfold S27
  have hml : 100000000 ≤ maxLen := by decide
  refine c43 (l := []) (Mine.nil (e := 9) w 0).sl (by decide) (by simp) fun w0 hb0 => ?_
  refine Loop3.intro (fun m o x y w' => ∃ i : Nat, y = I i ∧ x = .string ((l.take i).foldl chainF z32) ∧ m = l.length - i ∧ i ≤ l.length ∧ Below w.heap.size w w' ∧ Mine fT 9 w' w.heap.size o (headsF z32 (l.take i))) _ ⟨0, rfl, rfl, rfl, Nat.zero_le _, hb0, Mine.nil _ _⟩ ?_
  rintro m o _ _ w1 ⟨i, rfl, rfl, rfl, hi, hb1, hm1⟩
  have hs1 := hs.below hb1
  rw [len22 hs1, w_lss]
  by_cases hlt : i < l.length
  case' neg =>
    rw [decide_eq_false (by omega), condW_false]
    rw [List.take_of_length_le (by omega)] at hm1
    exact hk o w1 hb1 hm1
  have hx : l[i]? = some l[i] := List.getElem?_eq_getElem hlt
  have hr := hsm _ (List.getElem_mem hlt)
  have hh := headF_size (l.take i) z32 rfl
  have h2 : (⟨#[2]⟩ : ByteArray).size = 1 := rfl
  rw [decide_eq_true (by omega), condW_true, w_addStr (by omega), getT22 hs1 hx, w_addStr (by rw [ByteArray.size_append]; omega)]
  have hll : (headsF z32 (l.take i)).length = i := by rw [headsF_len, List.length_take]; omega
  refine Mine.push (F := fT) (x := (⟨#[2]⟩ : ByteArray) ++ (l.take i).foldl chainF z32 ++ l[i]) sty22 (fun u hu => by simp [fT] at hu; subst hu; rfl) rfl (by decide) hm1 hb1.size (by omega) (by omega) fun o2 w2 hm2 hb2 ho2 _ => ?_
  have hb02 := hb1.trans hb2
  have hs2 := hs.below hb02
  rw [getT22 hs2 hx]
  refine c57 (by omega) fun w3 hb3 => ?_
  rw [w_add, wrap_id (by omega), loopK_self]
  refine ⟨l.length - (i + 1), by omega, i + 1, by simp [I], ?_, rfl, by omega, below_trans hb02 hb3, ?_⟩
  · rw [List.take_add_one, hx, Option.toList_some, List.foldl_append]; rfl
  · rw [List.take_add_one, hx, Option.toList_some, headsF_snoc]
    exact hm2.below hb3)
end
end Go.Proofs.YtbojglaimdjagaaGreatDoor
/- The walk of JournalDamaged. -/
set_option linter.unusedSimpArgs false
set_option linter.unusedVariables false
set_option maxRecDepth 4000
namespace Go.Proofs.YtbojglaimdjagaaGreatDoor
open Go Go.V Go.RowKit
/-- groups of strings, as they came in -/
structure Gr (w : World) (v : Value) (vs : List Value) (gs : List (List ByteArray)) : Prop where
  sl : IsSl fFn w v vs
  len : vs.length = gs.length
  each : ∀ (i : Nat) (x : Value) (g : List ByteArray), vs[i]? = some x → gs[i]? = some g → IsSl fT w x g
theorem Gr.below {w w' : World} {v : Value} {vs : List Value} {gs : List (List ByteArray)} (h : Gr w v vs gs) (hb : Below w.heap.size w w') : Gr w' v vs gs :=
  ⟨h.sl.below hb, h.len, fun i x g h1 h2 => (h.each i x g h1 h2).below hb⟩
theorem opJ_some {n : Nat} {D : DK} {t : TP} (h1 : D.off = false) (h2 : D.left = 0) (h3 : ldF (n + 1) tp0 ⟨D.vis.toArray⟩ = some t) : (opJ n D).1 = 0 ∧ (opJ n D).2.2 = some t := by
  unfold opJ
  rw [if_neg (by rw [h1]; simp), h3]
  simp only
  split
  · exact ⟨rfl, rfl⟩
  · have e1 : (wrD D t.size (zeroB (n - t.size))).off = false := by rw [wrD_zero h2]; exact h1
    have : (ap2 D t.size (zeroB (n - t.size))).1 = 0 := by
      unfold ap2
      rw [if_neg (by rw [h1]; simp), if_neg (by rw [e1]; simp)]
    rw [if_pos this]
    exact ⟨rfl, rfl⟩
theorem opJ_none {n : Nat} {D : DK} (h1 : D.off = false) (h3 : ldF (n + 1) tp0 ⟨D.vis.toArray⟩ = none) : opJ n D = (342, D, none) := by
  unfold opJ
  rw [if_neg (by rw [h1]; simp), h3]
theorem onto_one {l : List UInt8} {i : Nat} {c : UInt8} (hi : i < l.length) : ontoL l i ⟨[c].toArray⟩ = l.set i c := by
  unfold ontoL
  rw [List.set_eq_take_append_cons_drop, if_pos hi]
  rw [List.append_assoc]; rfl
theorem heads_size : ∀ (l : List ByteArray) (h : ByteArray), h.size = 32 → (∀ r ∈ l, r.size ≤ 65536) → ∀ x ∈ headsF h l, x.size ≤ 70000
  | [], _, _, _, x, hx => by simp [headsF] at hx
  | r :: l, h, hh, hs, x, hx => by
    simp only [headsF, List.mem_cons] at hx
    rcases hx with rfl | hx
    · have := hs r (by simp)
      have h2 : (⟨#[2]⟩ : ByteArray).size = 1 := rfl
      rw [ByteArray.size_append, ByteArray.size_append]; omega
    · exact heads_size l _ (chain_size _ _) (fun r hr => hs r (by simp [hr])) x hx
section
variable {k : Value → World → Prop} {w : World}
theorem w_upto {v : Value} {l : List ByteArray} {q : IntKind} {hi : Nat} (hs : IsSl fT w v l) (h2 : hi ≤ l.length) (hk : ∀ v', IsSl fT w v' (l.take hi) → k v' w) : opW Tryz.prog (Instr.sliceAt 22 v none (some (.int q (hi : Int))) none) k w := by
  have hs0 := hs
  obtain ⟨a, c, rfl, hc, _⟩ := hs
  have ht : Tryz.prog.underlying 22 = some (.slice (Tryz.prog.elem 22)) := by kernel_rfl
  have hkn : known Tryz.prog (Tryz.prog.elem 22) = true := by kernel_rfl
  have hz : sizeT Tryz.prog (Tryz.prog.elem 22) = fT.sz := by kernel_rfl
  rw [opW_ok (show (Instr.sliceAt 22 (.slice a l.length c) none (some (.int q (hi : Int))) none).run Tryz.prog w = .ok (sliced a 0 hi c (sizeT Tryz.prog (Tryz.prog.elem 22))) w by
    rw [run_sliceAt_slice _ _ _ _ _ _ ht, run_slice_h w 22 _ _ c ht q hi (by omega) (by omega), Go.V.run_sizeOf hkn]
    simp [Result.andThen])]
  rw [hz]
  have := hs0.slicedTo (lo := 0) (hi := hi) (mx := c) (Nat.zero_le _) h2 (by omega)
  rw [List.drop_zero, Nat.sub_zero] at this
  exact hk _ this
set_option maxHeartbeats 1000000 in
theorem c4 {gv : Value} {vs : List Value} {gs : List (List ByteArray)} {a : Int} {c : UInt8} (hg : Gl w) (hgr : Gr w gv vs gs) (hgl : gs.length ≤ maxLen) (hgm : ∀ g ∈ gs, g.length ≤ maxLen) (ha : in64 a) (hk : ∀ w', Below w.heap.size w w' → k (.bool true) w') :
    S4 gv (I a) (.int .u8 (c.toNat : Int)) k w := by
  unfold S4
  have hml : maxLen ≤ 9223372036854775807 := by decide
  have hB : 3 < w.heap.size := hg.2.1
  refine c8 hg fun w1 hb1 => ?_
  have hs1 := hb1.size
  refine c24d (n := 6000) (by decide) (by decide) fun b dv vv w2 hb2 hd2 => ?_
  obtain ⟨pv2, hd2⟩ := hd2
  replace hd2 : DJ w.heap.size w2 b (newD 6000) dv vv := ⟨pv2, hd2.lower hs1⟩
  have hb02 := below_trans hb1 hb2
  rw [ex0, ex1]
  have hG0 := gd_new (n := 6000) (by decide) (by decide)
  refine c25g (hg.below hb02 hB) hb02.size hd2 hG0 fun w3 jb hd3 ho3 hb3 hj3 => ?_
  replace hj3 := hj3.lower hb02.size
  replace hb3 := hb02.trans hb3
  rw [ex0, ex1, w_neq]
  simp only [decide_true, Bool.not_true]
  rw [condW_false]
  refine Loop1.intro (fun m x w' => ∃ (i : Nat) (D : DK) (acc : List ByteArray), x = I i ∧ m = 6 - i ∧ i ≤ 6 ∧ i ≤ gs.length ∧ Gd 6000 D acc ∧ DJ w.heap.size w' b D dv vv ∧ TJ w.heap.size w' jb b false (tpOf acc) ∧ Below w.heap.size w w' ∧ acc.length ≤ 6 * i ∧ ∀ r ∈ acc, r.size ≤ 100) _ ⟨0, _, [], rfl, rfl, by omega, Nat.zero_le _, hG0, hd3, hj3, hb3, Nat.le_refl _, by simp⟩ ?_
  rintro m _ w4 ⟨i, D, acc, rfl, rfl, hi6, hig, hG, hd4, hj4, hb4, hal, hasm⟩
  have hgr4 := hgr.below hb4
  rw [w_lenS (by kernel_rfl) hgr4.sl, hgr.len, w_lss]
  by_cases h1 : i < gs.length
  case' neg =>
    rw [decide_eq_false (by omega)]
    simp only [guardW_ft, guardW_u, pickW_false]
  case' pos =>
    rw [decide_eq_true (by omega)]
    simp only [guardW_tt, pickW_true]
    rw [w_lss]
    by_cases h2 : i < 6
    case' pos =>
      rw [decide_eq_true (by omega), condW_true]
      have hvi : i < vs.length := by rw [hgr.len]; exact h1
      have hx : vs[((i : Int)).toNat]? = some vs[i] := by rw [Int.toNat_natCast]; exact List.getElem?_eq_getElem hvi
      refine ix48 hgr4.sl rfl (by omega) hx fun b0 o0 hc0 => ?_
      rw [ld22 (show w4.cell? ⟨b0, o0, none⟩ = some vs[i] from hc0 0 _ rfl)]
      have hgi := hgr4.each i _ _ (List.getElem?_eq_getElem hvi) (List.getElem?_eq_getElem h1)
      refine c11 hgi (hgm _ (List.getElem_mem h1)) fun v5 w5 hb5 hm5 => ?_
      obtain ⟨f1, f2⟩ := fewL_ok (l := gs[i])
      have hb05 : Below w.heap.size w w5 := hb4.trans (hb5.mono hb4.size)
      have hall : ∀ r ∈ acc ++ fewL gs[i], r.size ≤ 100 := fun r hr => by
        rcases List.mem_append.1 hr with h | h
        · exact hasm r h
        · exact f2 r h
      have hlen := stL_small (acc ++ fewL gs[i]) z32 hall
      rw [List.length_append] at hlen
      refine c10g (hg.below hb05 hB) hB hb05.size (hd4.below hb5) hG (hj4.below hb5) hm5.sl (by omega) (fun r hr => by have := f2 r hr; omega) (by omega) fun w6 D6 hG6 hd6 hj6 _ hb6 => ?_
      rw [w_neq]
      simp only [decide_true, Bool.not_true]
      rw [condW_false, w_add, wrap_id (by omega), loopK_self]
      exact ⟨6 - (i + 1), by omega, i + 1, D6, acc ++ fewL gs[i], by simp [I], rfl, by omega, by omega, hG6, hd6, hj6, hb05.trans hb6, by rw [List.length_append]; omega, hall⟩
    case' neg =>
      rw [decide_eq_false (by omega)]
  all_goals
    rw [condW_false]
    clear h1
    have hts := tpOf_size acc
    have hroom := hG.fits.room
    have hsm : ∀ r ∈ acc, r.size ≤ 65536 := hG.fits.small
    refine c19d hj4 (by rw [tpOf_recs]; omega) fun was w5 hb5 hm5 => ?_
    rw [tpOf_recs] at hm5
    replace hd4 := hd4.below hb5
    replace hj4 := hj4.below hb5
    replace hb4 := hb4.trans (hb5.mono hb4.size)
    refine c20d hd4 hG.rest.ok hj4 (by omega) fun w6 hb6 => ?_
    replace hd4 := hd4.below hb6
    replace hj4 := hj4.below hb6
    replace hb4 := hb4.trans (hb6.mono hb4.size)
    replace hm5 := hm5.below hb6
    rw [w_sub, wrap_id (by omega), show (6000 : Int) - (((6000 : Nat) : Int) - ((tpOf acc).size : Int)) = ((tpOf acc).size : Int) by omega, w_leq]
    by_cases hz : (tpOf acc).size = 0
    · rw [hz, decide_eq_true (by decide)]
      simp only [guardW_tf, guardW_u, pickW_true]
      rw [condW_true]
      try simp only [guardW_tt, pickW_true]
      rw [w_eql, decide_eq_true (by decide)]
      simp only [guardW_tt, pickW_true]
      have hnil : acc = [] := by
        cases acc with
        | nil => rfl
        | cons r l =>
          rw [hts] at hz
          simp only [stL, List.length_append, ba_len, recB_size] at hz
          omega
      subst hnil
      rw [len22 hm5.sl, w_eql, decide_eq_true (by rfl)]
      exact hk _ hb4
    rw [decide_eq_false (by omega)]
    simp only [guardW_ff, pickW_false]
    rw [w_gtr, decide_eq_false (by omega)]
    rw [condW_false]
    refine c14 ha (by omega) ?_
    have hpk := pkN_in (c := a) (n := ((tpOf acc).size : Int)) (by omega)
    obtain ⟨kk, hkk⟩ : ∃ kk : Nat, pkN a ((tpOf acc).size : Int) = (kk : Int) := ⟨(pkN a ((tpOf acc).size : Int)).toNat, by omega⟩
    rw [hkk] at hpk ⊢
    refine c26 hm5.sl (by omega) hsm (by omega) fun w7 hb7 => ?_
    replace hd4 := hd4.below hb7
    replace hb4 := hb4.trans (hb7.mono hb4.size)
    replace hm5 := hm5.below hb7
    cases hsz : szdF acc (kk : Int) with
    | true =>
      rw [condW_true]
      exact hk _ hb4
    | false =>
    rw [condW_false]
    refine c22d hd4 hG.rest.ok hG.rest.on ?_
    have hvs := vis_size hG.rest.ok
    rw [w_lenStr (by kernel_rfl), hvs, w_neq, decide_eq_true (by decide), Bool.not_true]
    simp only [guardW_ff, pickW_false]
    have hkl : kk < D.vis.length := by rw [hG.rest.ok.vis]; omega
    rw [w_indexStr (by kernel_rfl) (by omega) (by rw [Int.toNat_natCast]; exact ba_get (by rw [hvs]; omega)), w_eql]
    have hgd : (⟨D.vis.toArray⟩ : ByteArray).data.toList.getD kk 0 = D.vis.getD kk 0 := rfl
    rw [hgd]
    by_cases hold : D.vis.getD kk 0 = c
    · rw [hold, decide_eq_true rfl, condW_true]
      try simp only [guardW_tt, pickW_true]
      rw [w_lenStr (by kernel_rfl), hvs, w_eql, decide_eq_true (by decide)]
      exact hk _ hb4
    have hold2 : (D.vis.getD kk 0).toNat ≠ c.toNat := fun h => hold (by
      have h1 := UInt8.ofNat_toNat (x := D.vis.getD kk 0)
      have h2 := UInt8.ofNat_toNat (x := c)
      rw [← h1, ← h2, h])
    rw [decide_eq_false (by omega), condW_false]
    refine w_parts (F := fB) (l := [c]) sty39 rfl (by decide) (by decide) (by kernel_rfl) rfl fun w8 hb8 _ hm8 => ?_
    rw [w_toStr (e := 5) (by kernel_rfl) (by kernel_rfl) (by kernel_rfl) hm8.sl (by simp)]
    replace hd4 := hd4.below hb8
    replace hb4 := hb4.trans (hb8.mono hb4.size)
    replace hm5 := hm5.below hb8
    have h1s : (⟨[c].toArray⟩ : ByteArray).size = 1 := rfl
    refine c13d (o := kk) (s := ⟨[c].toArray⟩) hb4.size hd4 hG.rest.ok hG.rest.on (by omega) (by rw [hG.rest.pend]; exact Nat.zero_le _) fun w9 hd9 ho9 hb9 => ?_
    replace hm5 := ho9.mine hm5 (by decide)
    replace hb4 := hb4.trans hb9
    have hok9 : DOk 6000 (wrD D kk ⟨[c].toArray⟩) := hG.rest.ok.wr (by omega)
    have hv9 : (wrD D kk ⟨[c].toArray⟩).vis = (cont 6000 acc).set kk c := by rw [wr_vis, onto_one hkl, hG.vis]
    have hon9 : (wrD D kk ⟨[c].toArray⟩).off = false := by rw [wrD_zero hG.rest.left]; exact hG.rest.on
    have hle9 : (wrD D kk ⟨[c].toArray⟩).left = 0 := by rw [wrD_zero hG.rest.left]; exact hG.rest.left
    have hpe9 : (wrD D kk ⟨[c].toArray⟩).pend.length ≤ 100000 := by rw [wr_pend, hG.rest.pend]; simp
    have hdam := damage acc (6000 + 1) kk c tp0 ⟨(wrD D kk ⟨[c].toArray⟩).vis.toArray⟩ (List.replicate (6000 - (stL z32 acc).length) 0) hsm (by
      show (wrD D kk ⟨[c].toArray⟩).vis.drop 0 = _
      rw [List.drop_zero, hv9]; rfl) (by show kk < (stL z32 acc).length; omega) (by
      show (cont 6000 acc).getD kk 0 ≠ c
      rw [← hG.vis]; exact hold) hsz (Nat.zero_le _) (by rw [vis_size hok9]; decide)
    generalize wrD D kk ⟨[c].toArray⟩ = D9 at *
    refine c25d (hg.below hb4 hB) hb4.size hd9 hok9 hpe9 fun w10 r10 hd10 ho10 hb10 hm10 => ?_
    replace hm5 := ho10.mine hm5 (by decide)
    have hb4' := hb4.trans hb10
    cases hld : ldF (6000 + 1) tp0 ⟨D9.vis.toArray⟩ with
    | none =>
      rw [opJ_none hon9 hld] at hm10
      obtain ⟨rfl, _⟩ := hm10
      rw [ex0, ex1, w_eql]
      simp only [decide_true]
      rw [condW_true]
      exact hk _ hb4'
    | some t' =>
    obtain ⟨hj1, hj2⟩ := opJ_some hon9 hle9 hld
    rw [hj2] at hm10
    obtain ⟨_, htok, jb2, rfl, hj10⟩ := hm10
    obtain ⟨iss, hiss, hism⟩ := ldF_more _ _ _ _ hld
    have hti : t' = tpOf iss := hiss
    have hrec : t'.recs = iss := by rw [hti, tpOf_recs]
    have hisl : iss.length ≤ 6000 := by
      have h1 := htok.recs
      have h2 := htok.size
      rw [hrec] at h1; omega
    rw [ex0, ex1, w_eql]
    simp only [show decide ((0 : Int) = 342) = false from rfl]
    rw [condW_false, w_neq]
    simp only [decide_true, Bool.not_true, guardW_ff, pickW_false]
    rw [eqP28, condW_false]
    refine c19d hj10 (by rw [hrec]; omega) fun is w11 hb11 hm11 => ?_
    rw [hrec] at hm11
    replace hm5 := hm5.below hb11
    replace hb4' := hb4'.trans (hb11.mono hb4'.size)
    rw [w_eql]
    have key : ∀ w12, Below w.heap.size w w12 → Mine fT 9 w12 w5.heap.size was acc ∨ True → True := fun _ _ _ => trivial
    by_cases hc0 : c = 0
    case' neg =>
      have hc1 : c.toNat ≠ 0 := fun h => hc0 (by
        have := UInt8.ofNat_toNat (x := c)
        rw [h] at this; exact this.symm)
      rw [decide_eq_false (by omega)]
      simp only [guardW_ft, guardW_u, pickW_false]
      have hrest : ∃ m r r' more, acc[m]? = some r ∧ r' ≠ r ∧ chainF ((acc.take m).foldl chainF z32) r' = chainF ((acc.take m).foldl chainF z32) r ∧ iss = acc.take m ++ r' :: more := by
        rcases hdam with h | ⟨h0, _⟩ | ⟨m, r, r', more, q1, q2, q3, q4⟩
        · rw [hld] at h; cases h
        · exact absurd h0 hc0
        · refine ⟨m, r, r', more, q1, q2, q3, ?_⟩
          rw [hld, hti] at q4
          have := congrArg (fun t : Option TP => (t.getD tp0).recs) q4
          simp only [Option.getD_some] at this
          rw [tpOf_recs] at this
          rw [this]; exact tpOf_recs _
      have hm12 := hm5
      have hn12 := hm11
      have hb12 := hb4'
    case' pos =>
      rw [hc0, decide_eq_true (by rfl)]
      simp only [guardW_tt, pickW_true]
      rw [len22 hm11.sl, len22 hm5.sl, w_lss]
      by_cases hll : iss.length < acc.length
      case' neg =>
        rw [decide_eq_false (by omega)]
        simp only [guardW_ft, guardW_u, pickW_false]
      case' pos =>
        rw [decide_eq_true (by omega)]
        simp only [guardW_tt, pickW_true]
        rw [len22 hm11.sl]
        refine w_upto hm5.sl (by omega) fun v12 hs12 => ?_
        refine c18 hm11.sl hs12 (by have h6 : 6000 ≤ maxLen := by decide
                                    omega) fun w13 hb13 => ?_
        replace hm5 := hm5.below hb13
        replace hm11 := hm11.below hb13
        replace hb4' := hb4'.trans (hb13.mono hb4'.size)
        by_cases heq : iss = acc.take iss.length
        case' pos =>
          rw [decide_eq_true heq, condW_true]
          exact hk _ hb4'
        case' neg =>
          rw [decide_eq_false heq]
      all_goals
        have hrest : ∃ m r r' more, acc[m]? = some r ∧ r' ≠ r ∧ chainF ((acc.take m).foldl chainF z32) r' = chainF ((acc.take m).foldl chainF z32) r ∧ iss = acc.take m ++ r' :: more := by
          rcases hdam with h | ⟨h0, m, hm, h⟩ | ⟨m, r, r', more, q1, q2, q3, q4⟩
          · rw [hld] at h; cases h
          · exfalso
            rw [hld, hti] at h
            have h9 := congrArg (fun t : Option TP => (t.getD tp0).recs) h
            simp only [Option.getD_some] at h9
            rw [tpOf_recs] at h9
            have h10 : iss = acc.take m := by rw [h9]; exact tpOf_recs _
            have h11 : iss.length = m := by rw [h10, List.length_take]; omega
            first
              | exact heq (by rw [h11]; exact h10)
              | exact hll (by omega)
          · refine ⟨m, r, r', more, q1, q2, q3, ?_⟩
            rw [hld, hti] at q4
            have := congrArg (fun t : Option TP => (t.getD tp0).recs) q4
            simp only [Option.getD_some] at this
            rw [tpOf_recs] at this
            rw [this]; exact tpOf_recs _
        have hm12 := hm5
        have hn12 := hm11
        have hb12 := hb4'
    all_goals
      rw [condW_false]
      clear hm5 hm11 hb4' hdam
      obtain ⟨m, r, r', more, q1, q2, q3, q4⟩ := hrest
      obtain ⟨x, y, x1, x2, x3, x4⟩ := heads_clash (more := more) q1 q2 q3
      rw [← q4] at x2
      refine c27 hm12.sl (by omega) hsm fun av w14 hb14 hma => ?_
      replace hn12 := hn12.below hb14
      replace hb12 := hb12.trans (hb14.mono hb12.size)
      refine c27 hn12.sl (by omega) hism fun bv w15 hb15 hmb => ?_
      replace hma := hma.below hb15
      replace hb12 := hb12.trans (hb15.mono hb12.size)
      have la := headsF_len acc z32
      have lb := headsF_len iss z32
      have ma := (List.getElem?_eq_some_iff.1 x1).1
      have mb := (List.getElem?_eq_some_iff.1 x2).1
      have sa := heads_size acc z32 rfl hsm
      have sb := heads_size iss z32 rfl hism
      refine Loop1.intro (fun mm z w' => ∃ i : Nat, z = I i ∧ mm = m - i ∧ i ≤ m ∧ Below w15.heap.size w15 w') _ ⟨0, rfl, rfl, Nat.zero_le _, Below.refl _ _⟩ ?_
      rintro mm _ w16 ⟨i, rfl, rfl, him, hb16⟩
      have hma6 := hma.below hb16
      have hmb6 := hmb.below hb16
      rw [len22 hma6.sl, w_lss, decide_eq_true (by omega)]
      simp only [guardW_tt, pickW_true]
      rw [len22 hmb6.sl, w_lss, decide_eq_true (by omega), condW_true, drewW_eq]
      replace hb16 := below_trans hb16 (below_drew w16)
      replace hma6 := hma6.below (below_drew w16)
      replace hmb6 := hmb6.below (below_drew w16)
      generalize w16.drew = w17 at *
      have ho : Off (fun _ => False) w17 w17 := Off.refl _ _
      refine ⟨Off (fun _ => False) w17, ho, ?_⟩
      obtain ⟨x', hx'⟩ : ∃ x', (headsF z32 acc)[i]? = some x' := ⟨_, List.getElem?_eq_getElem (by omega)⟩
      obtain ⟨y', hy'⟩ : ∃ y', (headsF z32 iss)[i]? = some y' := ⟨_, List.getElem?_eq_getElem (by omega)⟩
      have sx := sa x' (List.mem_of_getElem? hx')
      have sy := sb y' (List.mem_of_getElem? hy')
      rw [ro22 hma6.sl hx' (fun _ _ h => h) ho, ro22 hmb6.sl hy' (fun _ _ h => h) ho, takeW_pure fun w => run_neqStr (by kernel_rfl) w]
      by_cases hxy : x' = y'
      · rw [decide_eq_true hxy, Bool.not_true]
        simp only [guardT_ft, guardT_u, guardW_ft, guardW_u, pickT_false, keepS_eq]
        refine ⟨ho, ho, ?_⟩
        rw [condW_false]
        have hne : i ≠ m := fun h => by
          subst h
          rw [x1] at hx'; rw [x2] at hy'
          cases hx'; cases hy'
          exact x3 hxy
        rw [w_add, wrap_id (by omega), loopK_self]
        exact ⟨m - (i + 1), by omega, i + 1, by simp [I], rfl, by omega, hb16⟩
      · rw [decide_eq_false hxy, Bool.not_false]
        simp only [guardT_tt, guardW_tt]
        rw [ro22 hma6.sl hx' (fun _ _ h => h) ho, ro22 hmb6.sl hy' (fun _ _ h => h) ho]
        refine c28 (by omega) fun w18 hb18 => ?_
        rw [keepS_eq]
        refine ⟨Off.below hb18, ?_⟩
        refine c28 (by omega) fun w19 hb19 => ?_
        rw [keepS_eq]
        have hb79 := below_trans hb18 hb19
        refine ⟨Off.below hb79, ?_⟩
        rw [t_eqlStr (by kernel_rfl)]
        simp only [pickT_true]
        by_cases hs : shaF x' = shaF y'
        · rw [decide_eq_true hs, condW_true]
          exact hk _ (hb12.trans ((below_trans hb16 hb79).mono hb12.size))
        · rw [decide_eq_false hs, condW_false]
          have hne : i ≠ m := fun h => by
            subst h
            rw [x1] at hx'; rw [x2] at hy'
            cases hx'; cases hy'
            exact hs x4
          rw [w_add, wrap_id (by omega), loopK_self]
          exact ⟨m - (i + 1), by omega, i + 1, by simp [I], rfl, by omega, below_trans hb16 hb79⟩
end
end Go.Proofs.YtbojglaimdjagaaGreatDoor
