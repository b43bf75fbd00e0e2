/- Part 2 of the proof of journalDamaged: lemmas for it; no condition beyond the statement. -/
import Derived.Test.YtbojglaimdjagaaGreatDoorJd0
import Derived.Laws.IdiomStrings
import Derived.Laws.IdiomCopy
import Derived.Lib.SliceRun
import Derived.Test.YtbojglaimdjagaaGreatDoorRows
/- Laws of whatever program, gathered. -/
set_option linter.unusedSimpArgs false
set_option linter.unusedVariables false
namespace Go.V
open Go Go.RowKit
def fB : Fl UInt8 := ⟨1, fun b => [.int .u8 b.toNat], fun _ => rfl⟩
def bV (x : UInt8) : Value := .int .u8 x.toNat
theorem wrap8 (n : Int) : IntKind.u8.wrap n = n % 256 := by simp [IntKind.wrap, IntKind.signed, IntKind.bits]
def bI (x : Int) : UInt8 := UInt8.ofNat (x % 256).toNat
theorem conv_bI {x : Int} : Value.int .u8 (IntKind.u8.wrap x) = bV (bI x) := by
  unfold bV bI
  rw [wrap8, UInt8.toNat_ofNat', Nat.mod_eq_of_lt (by omega)]
  congr 1; omega
section
variable {P : Program} {k : Value → World → Prop} {w w0 : World} {α : Type} {F : Fl α} {t e ty : Nat}
end
section
theorem w_indexStr {P : Program} {k : Value → World → Prop} {w : World} {t : TypeId} {s : ByteArray} {q : IntKind} {i : Int} {b : UInt8} (h : P.underlying t = some .string) (h0 : 0 ≤ i) (hb : s[i.toNat]? = some b) : opW P (Instr.index t (.string s) (.int q i)) k w = k (.int .u8 b.toNat) w :=
  opW_ok (by simp [Instr.index, Sem.run_bind, Result.andThen, run_underlying h, asIntOf, h0, hb])
end
section
end
section
end
section
end
section
section
variable {P : Program} {k : Value → World → Prop} {K : Value → Prop} {S : World → Prop} {w w0 : World} {t e ft : TypeId} {b n : Nat} {q : IntKind} {i : Nat} {u : Value} {ox oy : Operand}
theorem t_addStr {x y : ByteArray} (h : x.size + y.size ≤ 9223372036854775807) : takeW P S (binS .add t ox oy (.string x) (.string y)) K w = K (.string (x ++ y)) := takeW_pure fun w => run_of_eq fun k => w_addStr h
theorem t_sliceStr {s : ByteArray} {q q' : IntKind} {i j : Int} (h : P.underlying t = some .string) (h0 : 0 ≤ i) (h1 : i ≤ j) (h2 : j ≤ s.size) : takeW P S (Instr.sliceAt t (.string s) (some (.int q i)) (some (.int q' j)) none) K w = K (.string (s.extract i.toNat j.toNat)) := takeW_pure fun w => run_of_eq fun k => w_sliceStr h h0 h1 h2
end
end
section
section
variable {P : Program} {k : Value → World → Prop} {w : World} {t e d : TypeId}
end
end
section
end
section
end
section
section
variable {P : Program} {k : Value → World → Prop} {K : Value → Prop} {w w0 : World} {α : Type} {F : Fl α} {v u : Value} {l : List α} {t at' e ft : TypeId} {n : Nat} {q q' : IntKind} {i j : Nat} {m : Int} {a : α}
end
end
section
end
section
end
section
theorem w_headX {P : Program} {k : Value → World → Prop} {w : World} {t : TypeId} {α : Type} {F : Fl α} {v : Value} {l : List α} {q : IntKind} {x : Int} {m : Nat} (hx : x = m) (ht : P.underlying t = some (.slice (P.elem t))) (hkn : known P (P.elem t) = true) (hz : sizeT P (P.elem t) = F.sz) (hs : IsSl F w v l) (hm : m ≤ l.length)
    (hk : ∀ v', (∀ w1, IsSl F w1 v l → IsSl F w1 v' (l.take m)) → k v' w) : opW P (Instr.sliceAt t v none (some (.int q x)) none) k w := by
  subst hx
  obtain ⟨a, c, rfl, hc, _⟩ := hs
  rw [opW_ok (show (Instr.sliceAt t (.slice a l.length c) none (some (.int q m)) none).run P w = .ok (sliced a 0 m c (sizeT P (P.elem t))) w by
    rw [run_sliceAt_slice _ _ _ _ _ _ ht, run_slice_h w t _ _ c ht q m (by omega) (by omega), run_sizeOf hkn]
    simp [Result.andThen])]
  rw [hz]
  exact hk _ fun w1 h1 => by simpa using h1.slicedTo (lo := 0) (hi := m) (mx := c) (by omega) hm (by omega)
end
section
variable {P : Program} {k : Value → World → Prop} {w : World} {t d e : TypeId}
theorem w_toStr {v : Value} {l : List UInt8} (hs : P.underlying t = some (.slice e)) (he : P.underlying e = some (.int .u8)) (hd : P.underlying d = some .string) (hv : IsSl fB w v l) (hne : l ≠ []) : opW P (convert t d v) k w = k (.string ⟨l.toArray⟩) w := by
  obtain ⟨a, c, rfl, hc, hx⟩ := hv
  cases a with
  | none =>
    obtain ⟨x, r, rfl⟩ := List.exists_cons_of_ne_nil hne
    obtain ⟨b, o, h, _⟩ := hx 0 x rfl
    cases h
  | some ad =>
    refine opW_ok (run_convert_bytes_back w t d e ad c l hs he hd fun j hj => ?_)
    obtain ⟨b, o, h, hcl⟩ := hx j _ (List.getElem?_eq_getElem hj)
    cases h
    have := hcl 0 _ rfl
    rw [add_none]
    simpa [fB] using this
end
theorem slAlloc {α : Type} {F : Fl α} {e : Nat} {l : List α} {w : World} {cs : Array Value} (h : cs.toList = flat F l) (hl : l.length ≤ maxLen) : Mine F e (w.alloc (.cells cs e (0, 0))) w.heap.size (.slice (some ⟨w.heap.size, 0, none⟩) l.length l.length) l := by
  have hsz : cs.size = l.length * F.sz := by rw [← flat_length, ← h]; simp
  exact ⟨flat_length l, .inr ⟨w.heap.size, l.length, cs, rfl, Nat.le_refl _, World.alloc_heap_new _ _, Nat.le_refl _, hl, hsz, by rw [← flat_length l, ← h]; exact List.take_length⟩⟩
theorem w_parts {P : Program} {k : Value → World → Prop} {w : World} {t e n bytes : Nat} {z : Value} {α : Type} {F : Fl α} {l : List α} {cs : Array Value} {parts : Array (Nat × Value)} (h : STy P t e F.sz bytes z) (hn : l.length = n) (h0 : 0 < n) (hsm : n * F.sz ≤ 16777216)
    (hf : Instr.fill (fun i => some (i * F.sz, F.sz)) ((Array.range (n * F.sz)).map (z.cells[· % z.cells.size]!)) parts.toList = some cs) (hc : cs.toList = flat F l)
    (hk : ∀ w', Below w.heap.size w w' → w'.heap.size = w.heap.size + 1 → Mine F e w' w.heap.size (.slice (some ⟨w.heap.size, 0, none⟩) n n) l → k (.slice (some ⟨w.heap.size, 0, none⟩) n n) w') : opW P (Instr.buildSlice t n parts) k w := by
  obtain ⟨i, hi, hz, hs, hby⟩ := h.info
  have hpos := h.pos
  rw [opW_ok (run_buildSlice (P := P) w t e n parts cs i z h.u hi hz (by rw [hs]; omega) (by rw [hs]; have := Nat.mul_pos h0 hpos; omega) (by rw [hs]; exact hf))]
  have hm := slAlloc (F := F) (e := e) (w := w) hc (by unfold maxLen; have := Nat.mul_le_mul (Nat.le_refl n) (show 1 ≤ F.sz by omega); omega)
  rw [hn] at hm
  exact hk _ ((Below.refl _ _).alloc (Nat.le_refl _) _) (by simp) hm
theorem setCells_eq (b : Nat) : ∀ (vs : List Value) (o : Nat) (w : World), w.setCells b o vs = setCells w b o vs
  | [], _, _ => rfl
  | v :: r, o, w => by rw [World.setCells, setCells_eq b r, setCells]
theorem row_store {w : World} {b t : Nat} {vs old : List Value} (hr : RowAt w b t old) (hl : vs.length = old.length) : RowAt (setCells w b 0 vs) b t vs := by
  have := rowAt_setMid vs [] old [] w (by simpa using hr) hl
  simpa using this
theorem below_setCells {B b : Nat} (h : B ≤ b) : ∀ (vs : List Value) (o : Nat) (w : World), Below B w (setCells w b o vs)
  | [], _, w => Below.refl _ _
  | v :: r, o, w => ((Below.refl B w).setCell (p := ⟨b, o, none⟩) h v).trans (below_setCells h r (o + 1) _)
theorem rowCells {w : World} {b t n : Nat} {vs : List Value} (hr : RowAt w b t vs) (hl : vs.length = n) : ∀ j, j < n → ∃ old, w.cell? ⟨b, 0 + j, none⟩ = some old := fun j hj => ⟨_, hr.cells _ _ (List.getElem?_eq_getElem (by omega))⟩
theorem below_drew (w : World) : Below w.heap.size w w.drew := (Below.refl _ w).drew
end Go.V
/- Clearing a slice's tail; bits of small numbers. -/
set_option linter.unusedSimpArgs false
set_option linter.unusedVariables false
namespace Go.V
open Go Go.RowKit
theorem run_zeroOf {P : Program} {t e : TypeId} {size bytes : Nat} {z : Value} (h : STy P t e size bytes z) (w : World) : (zeroValue e).run P w = .ok z w := by
  obtain ⟨i, hi, hz, hs, hby⟩ := h.info
  simp [zeroValue, run_typeInfo hi, hz, Sem.run_bind, Result.andThen]
theorem ofInt_small (n : Nat) : BitVec.ofInt 64 (n : Int) = BitVec.ofNat 64 n := BitVec.ofInt_natCast 64 n
section
variable {P : Program} {k : Value → World → Prop} {K : Value → Prop} {S : World → Prop} {w : World} {t : TypeId} {ox oy : Operand}
theorem shr_nat (n r : Nat) : (n : Int).fdiv (2 ^ r) = ((n / 2 ^ r : Nat) : Int) := by
  rw [Int.fdiv_eq_ediv_of_nonneg _ (by exact_mod_cast Nat.zero_le (2 ^ r))]
  exact_mod_cast rfl
end

section
variable {P : Program} {k : Value → World → Prop} {K : Value → Prop} {S : World → Prop} {w : World} {t : TypeId} {ox oy : Operand}
end
end Go.V
namespace Go.V
open Go Go.RowKit
end Go.V
namespace Go.V
open Go Go.RowKit
end Go.V
/- The laws of single operations at this program's types, printed by program. -/
set_option linter.unusedVariables false
namespace Go.Proofs.YtbojglaimdjagaaGreatDoor
open Go Go.V Go.RowKit
section
variable {k : Value → World → Prop} {w : World} {S : World → Prop} {K : Value → Prop}
theorem hz193 : hasZero Tryz.prog 193 = true := by kernel_rfl
theorem zc193 : (zeroT Tryz.prog 193).cells.toList = [(Value.int IntKind.u32 0), (Value.int IntKind.u32 0), (Value.int IntKind.u32 0), (Value.int IntKind.u32 0), (Value.int IntKind.u32 0), (Value.int IntKind.u32 0), (Value.int IntKind.u32 0), (Value.int IntKind.u32 0)] := by kernel_rfl
theorem al193 (hk : ∀ w', Below w.heap.size w w' → w'.heap.size = w.heap.size + 1 → RowAt w' w.heap.size 193 [(Value.int IntKind.u32 0), (Value.int IntKind.u32 0), (Value.int IntKind.u32 0), (Value.int IntKind.u32 0), (Value.int IntKind.u32 0), (Value.int IntKind.u32 0), (Value.int IntKind.u32 0), (Value.int IntKind.u32 0)] → k (.pointer (some ⟨w.heap.size, 0, none⟩)) w') : opW Tryz.prog (Instr.alloc 193 true (.tuple #[])) k w := w_allocN hz193 (by rw [zc193]; exact hk)
theorem hz214 : hasZero Tryz.prog 214 = true := by kernel_rfl
theorem zc214 : (zeroT Tryz.prog 214).cells.toList = [(Value.int IntKind.u32 0), (Value.int IntKind.u32 0), (Value.int IntKind.u32 0), (Value.int IntKind.u32 0), (Value.int IntKind.u32 0), (Value.int IntKind.u32 0), (Value.int IntKind.u32 0), (Value.int IntKind.u32 0), (Value.int IntKind.u32 0), (Value.int IntKind.u32 0), (Value.int IntKind.u32 0), (Value.int IntKind.u32 0), (Value.int IntKind.u32 0), (Value.int IntKind.u32 0), (Value.int IntKind.u32 0), (Value.int IntKind.u32 0), (Value.int IntKind.u32 0), (Value.int IntKind.u32 0), (Value.int IntKind.u32 0), (Value.int IntKind.u32 0), (Value.int IntKind.u32 0), (Value.int IntKind.u32 0), (Value.int IntKind.u32 0), (Value.int IntKind.u32 0), (Value.int IntKind.u32 0), (Value.int IntKind.u32 0), (Value.int IntKind.u32 0), (Value.int IntKind.u32 0), (Value.int IntKind.u32 0), (Value.int IntKind.u32 0), (Value.int IntKind.u32 0), (Value.int IntKind.u32 0), (Value.int IntKind.u32 0), (Value.int IntKind.u32 0), (Value.int IntKind.u32 0), (Value.int IntKind.u32 0), (Value.int IntKind.u32 0), (Value.int IntKind.u32 0), (Value.int IntKind.u32 0), (Value.int IntKind.u32 0), (Value.int IntKind.u32 0), (Value.int IntKind.u32 0), (Value.int IntKind.u32 0), (Value.int IntKind.u32 0), (Value.int IntKind.u32 0), (Value.int IntKind.u32 0), (Value.int IntKind.u32 0), (Value.int IntKind.u32 0), (Value.int IntKind.u32 0), (Value.int IntKind.u32 0), (Value.int IntKind.u32 0), (Value.int IntKind.u32 0), (Value.int IntKind.u32 0), (Value.int IntKind.u32 0), (Value.int IntKind.u32 0), (Value.int IntKind.u32 0), (Value.int IntKind.u32 0), (Value.int IntKind.u32 0), (Value.int IntKind.u32 0), (Value.int IntKind.u32 0), (Value.int IntKind.u32 0), (Value.int IntKind.u32 0), (Value.int IntKind.u32 0), (Value.int IntKind.u32 0)] := by kernel_rfl
theorem al214 (hk : ∀ w', Below w.heap.size w w' → w'.heap.size = w.heap.size + 1 → RowAt w' w.heap.size 214 [(Value.int IntKind.u32 0), (Value.int IntKind.u32 0), (Value.int IntKind.u32 0), (Value.int IntKind.u32 0), (Value.int IntKind.u32 0), (Value.int IntKind.u32 0), (Value.int IntKind.u32 0), (Value.int IntKind.u32 0), (Value.int IntKind.u32 0), (Value.int IntKind.u32 0), (Value.int IntKind.u32 0), (Value.int IntKind.u32 0), (Value.int IntKind.u32 0), (Value.int IntKind.u32 0), (Value.int IntKind.u32 0), (Value.int IntKind.u32 0), (Value.int IntKind.u32 0), (Value.int IntKind.u32 0), (Value.int IntKind.u32 0), (Value.int IntKind.u32 0), (Value.int IntKind.u32 0), (Value.int IntKind.u32 0), (Value.int IntKind.u32 0), (Value.int IntKind.u32 0), (Value.int IntKind.u32 0), (Value.int IntKind.u32 0), (Value.int IntKind.u32 0), (Value.int IntKind.u32 0), (Value.int IntKind.u32 0), (Value.int IntKind.u32 0), (Value.int IntKind.u32 0), (Value.int IntKind.u32 0), (Value.int IntKind.u32 0), (Value.int IntKind.u32 0), (Value.int IntKind.u32 0), (Value.int IntKind.u32 0), (Value.int IntKind.u32 0), (Value.int IntKind.u32 0), (Value.int IntKind.u32 0), (Value.int IntKind.u32 0), (Value.int IntKind.u32 0), (Value.int IntKind.u32 0), (Value.int IntKind.u32 0), (Value.int IntKind.u32 0), (Value.int IntKind.u32 0), (Value.int IntKind.u32 0), (Value.int IntKind.u32 0), (Value.int IntKind.u32 0), (Value.int IntKind.u32 0), (Value.int IntKind.u32 0), (Value.int IntKind.u32 0), (Value.int IntKind.u32 0), (Value.int IntKind.u32 0), (Value.int IntKind.u32 0), (Value.int IntKind.u32 0), (Value.int IntKind.u32 0), (Value.int IntKind.u32 0), (Value.int IntKind.u32 0), (Value.int IntKind.u32 0), (Value.int IntKind.u32 0), (Value.int IntKind.u32 0), (Value.int IntKind.u32 0), (Value.int IntKind.u32 0), (Value.int IntKind.u32 0)] → k (.pointer (some ⟨w.heap.size, 0, none⟩)) w') : opW Tryz.prog (Instr.alloc 214 true (.tuple #[])) k w := w_allocN hz214 (by rw [zc214]; exact hk)
theorem hz217 : hasZero Tryz.prog 217 = true := by kernel_rfl
theorem zc217 : (zeroT Tryz.prog 217).cells.toList = [(Value.int IntKind.u8 0), (Value.int IntKind.u8 0), (Value.int IntKind.u8 0), (Value.int IntKind.u8 0), (Value.int IntKind.u8 0), (Value.int IntKind.u8 0), (Value.int IntKind.u8 0), (Value.int IntKind.u8 0), (Value.int IntKind.u8 0), (Value.int IntKind.u8 0), (Value.int IntKind.u8 0), (Value.int IntKind.u8 0), (Value.int IntKind.u8 0), (Value.int IntKind.u8 0), (Value.int IntKind.u8 0), (Value.int IntKind.u8 0), (Value.int IntKind.u8 0), (Value.int IntKind.u8 0), (Value.int IntKind.u8 0), (Value.int IntKind.u8 0), (Value.int IntKind.u8 0), (Value.int IntKind.u8 0), (Value.int IntKind.u8 0), (Value.int IntKind.u8 0), (Value.int IntKind.u8 0), (Value.int IntKind.u8 0), (Value.int IntKind.u8 0), (Value.int IntKind.u8 0), (Value.int IntKind.u8 0), (Value.int IntKind.u8 0), (Value.int IntKind.u8 0), (Value.int IntKind.u8 0)] := by kernel_rfl
theorem al217 (hk : ∀ w', Below w.heap.size w w' → w'.heap.size = w.heap.size + 1 → RowAt w' w.heap.size 217 [(Value.int IntKind.u8 0), (Value.int IntKind.u8 0), (Value.int IntKind.u8 0), (Value.int IntKind.u8 0), (Value.int IntKind.u8 0), (Value.int IntKind.u8 0), (Value.int IntKind.u8 0), (Value.int IntKind.u8 0), (Value.int IntKind.u8 0), (Value.int IntKind.u8 0), (Value.int IntKind.u8 0), (Value.int IntKind.u8 0), (Value.int IntKind.u8 0), (Value.int IntKind.u8 0), (Value.int IntKind.u8 0), (Value.int IntKind.u8 0), (Value.int IntKind.u8 0), (Value.int IntKind.u8 0), (Value.int IntKind.u8 0), (Value.int IntKind.u8 0), (Value.int IntKind.u8 0), (Value.int IntKind.u8 0), (Value.int IntKind.u8 0), (Value.int IntKind.u8 0), (Value.int IntKind.u8 0), (Value.int IntKind.u8 0), (Value.int IntKind.u8 0), (Value.int IntKind.u8 0), (Value.int IntKind.u8 0), (Value.int IntKind.u8 0), (Value.int IntKind.u8 0), (Value.int IntKind.u8 0)] → k (.pointer (some ⟨w.heap.size, 0, none⟩)) w') : opW Tryz.prog (Instr.alloc 217 true (.tuple #[])) k w := w_allocN hz217 (by rw [zc217]; exact hk)
theorem hz39 : hasZero Tryz.prog 39 = true := by kernel_rfl
theorem zc39 : (zeroT Tryz.prog 39).cells.toList = [(Value.slice none 0 0)] := by kernel_rfl
theorem al39 (hk : ∀ w', Below w.heap.size w w' → w'.heap.size = w.heap.size + 1 → RowAt w' w.heap.size 39 [(Value.slice none 0 0)] → k (.pointer (some ⟨w.heap.size, 0, none⟩)) w') : opW Tryz.prog (Instr.alloc 39 true (.tuple #[])) k w := w_allocN hz39 (by rw [zc39]; exact hk)
theorem hz72 : hasZero Tryz.prog 72 = true := by kernel_rfl
theorem zc72 : (zeroT Tryz.prog 72).cells.toList = [(Value.slice none 0 0), (Value.string ⟨#[]⟩), (Value.int IntKind.i64 0)] := by kernel_rfl
theorem al72 (hk : ∀ w', Below w.heap.size w w' → w'.heap.size = w.heap.size + 1 → RowAt w' w.heap.size 72 [(Value.slice none 0 0), (Value.string ⟨#[]⟩), (Value.int IntKind.i64 0)] → k (.pointer (some ⟨w.heap.size, 0, none⟩)) w') : opW Tryz.prog (Instr.alloc 72 true (.tuple #[])) k w := w_allocN hz72 (by rw [zc72]; exact hk)
theorem hz78 : hasZero Tryz.prog 78 = true := by kernel_rfl
theorem zc78 : (zeroT Tryz.prog 78).cells.toList = [(Value.pointer none), (Value.slice none 0 0)] := by kernel_rfl
theorem al78 (hk : ∀ w', Below w.heap.size w w' → w'.heap.size = w.heap.size + 1 → RowAt w' w.heap.size 78 [(Value.pointer none), (Value.slice none 0 0)] → k (.pointer (some ⟨w.heap.size, 0, none⟩)) w') : opW Tryz.prog (Instr.alloc 78 true (.tuple #[])) k w := w_allocN hz78 (by rw [zc78]; exact hk)
theorem hz92 : hasZero Tryz.prog 92 = true := by kernel_rfl
theorem zc92 : (zeroT Tryz.prog 92).cells.toList = [(Value.int IntKind.i64 0), (Value.string ⟨#[]⟩)] := by kernel_rfl
theorem al92 (hk : ∀ w', Below w.heap.size w w' → w'.heap.size = w.heap.size + 1 → RowAt w' w.heap.size 92 [(Value.int IntKind.i64 0), (Value.string ⟨#[]⟩)] → k (.pointer (some ⟨w.heap.size, 0, none⟩)) w') : opW Tryz.prog (Instr.alloc 92 true (.tuple #[])) k w := w_allocN hz92 (by rw [zc92]; exact hk)
theorem sty110 : STy Tryz.prog 110 109 1 4 (Value.int IntKind.u32 0) := ⟨by kernel_rfl, by kernel_rfl, by kernel_rfl, by decide⟩
theorem sty127 : STy Tryz.prog 127 85 1 8 Value.nilFunc := ⟨by kernel_rfl, by kernel_rfl, by kernel_rfl, by decide⟩
theorem sty22 : STy Tryz.prog 22 9 1 16 (Value.string ⟨#[]⟩) := ⟨by kernel_rfl, by kernel_rfl, by kernel_rfl, by decide⟩
theorem sty39 : STy Tryz.prog 39 5 1 1 (Value.int IntKind.u8 0) := ⟨by kernel_rfl, by kernel_rfl, by kernel_rfl, by decide⟩
theorem sty56 : STy Tryz.prog 56 3 1 8 (Value.int IntKind.i64 0) := ⟨by kernel_rfl, by kernel_rfl, by kernel_rfl, by decide⟩
theorem sty93 : STy Tryz.prog 93 92 2 24 (Value.agg #[(Value.int IntKind.i64 0), (Value.string ⟨#[]⟩)]) := ⟨by kernel_rfl, by kernel_rfl, by kernel_rfl, by decide⟩
theorem fo72_0 : fieldOff Tryz.prog 72 0 = some 0 := by kernel_rfl
theorem fl72_0 {b o : Nat} : opW Tryz.prog (Instr.fieldAt 72 (.pointer (some ⟨b, o, none⟩)) 0) k w = k (.pointer (some ⟨b, o, none⟩)) w := w_field fo72_0
theorem fo72_1 : fieldOff Tryz.prog 72 1 = some 1 := by kernel_rfl
theorem fl72_1 {b o : Nat} : opW Tryz.prog (Instr.fieldAt 72 (.pointer (some ⟨b, o, none⟩)) 1) k w = k (.pointer (some ⟨b, o + 1, none⟩)) w := w_field fo72_1
theorem tfl72_1 {b o : Nat} : takeW Tryz.prog S (Instr.fieldAt 72 (.pointer (some ⟨b, o, none⟩)) 1) K w = K (.pointer (some ⟨b, o + 1, none⟩)) := t_field fo72_1
theorem fo72_2 : fieldOff Tryz.prog 72 2 = some 2 := by kernel_rfl
theorem fl72_2 {b o : Nat} : opW Tryz.prog (Instr.fieldAt 72 (.pointer (some ⟨b, o, none⟩)) 2) k w = k (.pointer (some ⟨b, o + 2, none⟩)) w := w_field fo72_2
theorem tfl72_2 {b o : Nat} : takeW Tryz.prog S (Instr.fieldAt 72 (.pointer (some ⟨b, o, none⟩)) 2) K w = K (.pointer (some ⟨b, o + 2, none⟩)) := t_field fo72_2
theorem fo74_0 : fieldOff Tryz.prog 74 0 = some 0 := by kernel_rfl
theorem fl74_0 {b o : Nat} : opW Tryz.prog (Instr.fieldAt 74 (.pointer (some ⟨b, o, none⟩)) 0) k w = k (.pointer (some ⟨b, o, none⟩)) w := w_field fo74_0
theorem tfl74_0 {b o : Nat} : takeW Tryz.prog S (Instr.fieldAt 74 (.pointer (some ⟨b, o, none⟩)) 0) K w = K (.pointer (some ⟨b, o, none⟩)) := t_field fo74_0
theorem fo74_1 : fieldOff Tryz.prog 74 1 = some 3 := by kernel_rfl
theorem tfl74_1 {b o : Nat} : takeW Tryz.prog S (Instr.fieldAt 74 (.pointer (some ⟨b, o, none⟩)) 1) K w = K (.pointer (some ⟨b, o + 3, none⟩)) := t_field fo74_1
theorem fo74_2 : fieldOff Tryz.prog 74 2 = some 4 := by kernel_rfl
theorem fl74_2 {b o : Nat} : opW Tryz.prog (Instr.fieldAt 74 (.pointer (some ⟨b, o, none⟩)) 2) k w = k (.pointer (some ⟨b, o + 4, none⟩)) w := w_field fo74_2
theorem fo95_0 : fieldOff Tryz.prog 95 0 = some 0 := by kernel_rfl
theorem fl95_0 {b o : Nat} : opW Tryz.prog (Instr.fieldAt 95 (.pointer (some ⟨b, o, none⟩)) 0) k w = k (.pointer (some ⟨b, o, none⟩)) w := w_field fo95_0
theorem fo95_1 : fieldOff Tryz.prog 95 1 = some 1 := by kernel_rfl
theorem fl95_1 {b o : Nat} : opW Tryz.prog (Instr.fieldAt 95 (.pointer (some ⟨b, o, none⟩)) 1) k w = k (.pointer (some ⟨b, o + 1, none⟩)) w := w_field fo95_1
theorem fo97_0 : fieldOff Tryz.prog 97 0 = some 0 := by kernel_rfl
theorem fl97_0 {b o : Nat} : opW Tryz.prog (Instr.fieldAt 97 (.pointer (some ⟨b, o, none⟩)) 0) k w = k (.pointer (some ⟨b, o, none⟩)) w := w_field fo97_0
theorem fo97_3 : fieldOff Tryz.prog 97 3 = some 4 := by kernel_rfl
theorem fl97_3 {b o : Nat} : opW Tryz.prog (Instr.fieldAt 97 (.pointer (some ⟨b, o, none⟩)) 3) k w = k (.pointer (some ⟨b, o + 4, none⟩)) w := w_field fo97_3
theorem tfl97_3 {b o : Nat} : takeW Tryz.prog S (Instr.fieldAt 97 (.pointer (some ⟨b, o, none⟩)) 3) K w = K (.pointer (some ⟨b, o + 4, none⟩)) := t_field fo97_3
theorem isl110 : isSliceT Tryz.prog 110 = true := by kernel_rfl
theorem el110 : elemT Tryz.prog 110 = 109 := by kernel_rfl
theorem known109 : known Tryz.prog 109 = true := by kernel_rfl
theorem size109 : sizeT Tryz.prog 109 = 1 := by kernel_rfl
theorem isl127 : isSliceT Tryz.prog 127 = true := by kernel_rfl
theorem el127 : elemT Tryz.prog 127 = 85 := by kernel_rfl
theorem known85 : known Tryz.prog 85 = true := by kernel_rfl
theorem size85 : sizeT Tryz.prog 85 = 1 := by kernel_rfl
theorem ix127 {α : Type} {F : Fl α} {v : Value} {l : List α} {q : IntKind} {i : Int} {x : α} (hs : IsSl F w v l) (hz : F.sz = 1) (h0 : 0 ≤ i) (hx : l[i.toNat]? = some x) (hk : ∀ b o, Cells w b o (F.e x) → k (.pointer (some ⟨b, o, none⟩)) w) : opW Tryz.prog (Instr.indexAt 127 v (.int q i)) k w :=
  w_indexS isl127 (by rw [el127]; exact known85) (by rw [el127, size85, hz]) hs h0 hx hk
theorem isl22 : isSliceT Tryz.prog 22 = true := by kernel_rfl
theorem el22 : elemT Tryz.prog 22 = 9 := by kernel_rfl
theorem known9 : known Tryz.prog 9 = true := by kernel_rfl
theorem size9 : sizeT Tryz.prog 9 = 1 := by kernel_rfl
theorem ix22 {α : Type} {F : Fl α} {v : Value} {l : List α} {q : IntKind} {i : Int} {x : α} (hs : IsSl F w v l) (hz : F.sz = 1) (h0 : 0 ≤ i) (hx : l[i.toNat]? = some x) (hk : ∀ b o, Cells w b o (F.e x) → k (.pointer (some ⟨b, o, none⟩)) w) : opW Tryz.prog (Instr.indexAt 22 v (.int q i)) k w :=
  w_indexS isl22 (by rw [el22]; exact known9) (by rw [el22, size9, hz]) hs h0 hx hk
theorem isl39 : isSliceT Tryz.prog 39 = true := by kernel_rfl
theorem el39 : elemT Tryz.prog 39 = 5 := by kernel_rfl
theorem known5 : known Tryz.prog 5 = true := by kernel_rfl
theorem size5 : sizeT Tryz.prog 5 = 1 := by kernel_rfl
theorem isl48 : isSliceT Tryz.prog 48 = true := by kernel_rfl
theorem el48 : elemT Tryz.prog 48 = 22 := by kernel_rfl
theorem known22 : known Tryz.prog 22 = true := by kernel_rfl
theorem size22 : sizeT Tryz.prog 22 = 1 := by kernel_rfl
theorem ix48 {α : Type} {F : Fl α} {v : Value} {l : List α} {q : IntKind} {i : Int} {x : α} (hs : IsSl F w v l) (hz : F.sz = 1) (h0 : 0 ≤ i) (hx : l[i.toNat]? = some x) (hk : ∀ b o, Cells w b o (F.e x) → k (.pointer (some ⟨b, o, none⟩)) w) : opW Tryz.prog (Instr.indexAt 48 v (.int q i)) k w :=
  w_indexS isl48 (by rw [el48]; exact known22) (by rw [el48, size22, hz]) hs h0 hx hk
theorem isl56 : isSliceT Tryz.prog 56 = true := by kernel_rfl
theorem known3 : known Tryz.prog 3 = true := by kernel_rfl
theorem size3 : sizeT Tryz.prog 3 = 1 := by kernel_rfl
theorem known92 : known Tryz.prog 92 = true := by kernel_rfl
theorem size92 : sizeT Tryz.prog 92 = 2 := by kernel_rfl
theorem agg109 : isAggT Tryz.prog 109 = false := by kernel_rfl
theorem ld109 {a : Addr} {v : Value} (hc : w.cell? a = some v) : opW Tryz.prog (Instr.loadAt 109 (.pointer (some a))) k w = k v w := w_load agg109 known109 hc
theorem xld109 {a : Addr} {v : Value} (hc : w.cell? a = some v) : takeW Tryz.prog (sameW w) (Instr.loadAt 109 (.pointer (some a))) K w = K v := x_load agg109 known109 hc
theorem agg193 : isAggT Tryz.prog 193 = true := by kernel_rfl
theorem known193 : known Tryz.prog 193 = true := by kernel_rfl
theorem size193 : sizeT Tryz.prog 193 = 8 := by kernel_rfl
theorem ld193 {b o : Nat} {vs : List Value} (hl : vs.length = 8) (hc : Cells w b o vs) : opW Tryz.prog (Instr.loadAt 193 (.pointer (some ⟨b, o, none⟩))) k w = k (.agg vs.toArray) w := w_loadAgg agg193 known193 (by rw [size193, hl]) hc
theorem agg214 : isAggT Tryz.prog 214 = true := by kernel_rfl
theorem known214 : known Tryz.prog 214 = true := by kernel_rfl
theorem size214 : sizeT Tryz.prog 214 = 64 := by kernel_rfl
theorem ld214 {b o : Nat} {vs : List Value} (hl : vs.length = 64) (hc : Cells w b o vs) : opW Tryz.prog (Instr.loadAt 214 (.pointer (some ⟨b, o, none⟩))) k w = k (.agg vs.toArray) w := w_loadAgg agg214 known214 (by rw [size214, hl]) hc
theorem agg22 : isAggT Tryz.prog 22 = false := by kernel_rfl
theorem ld22 {a : Addr} {v : Value} (hc : w.cell? a = some v) : opW Tryz.prog (Instr.loadAt 22 (.pointer (some a))) k w = k v w := w_load agg22 known22 hc
theorem agg27 : isAggT Tryz.prog 27 = false := by kernel_rfl
theorem known27 : known Tryz.prog 27 = true := by kernel_rfl
theorem agg28 : isAggT Tryz.prog 28 = false := by kernel_rfl
theorem known28 : known Tryz.prog 28 = true := by kernel_rfl
theorem agg3 : isAggT Tryz.prog 3 = false := by kernel_rfl
theorem ld3 {a : Addr} {v : Value} (hc : w.cell? a = some v) : opW Tryz.prog (Instr.loadAt 3 (.pointer (some a))) k w = k v w := w_load agg3 known3 hc
theorem xld3 {a : Addr} {v : Value} (hc : w.cell? a = some v) : takeW Tryz.prog (sameW w) (Instr.loadAt 3 (.pointer (some a))) K w = K v := x_load agg3 known3 hc
theorem agg39 : isAggT Tryz.prog 39 = false := by kernel_rfl
theorem known39 : known Tryz.prog 39 = true := by kernel_rfl
theorem ld39 {a : Addr} {v : Value} (hc : w.cell? a = some v) : opW Tryz.prog (Instr.loadAt 39 (.pointer (some a))) k w = k v w := w_load agg39 known39 hc
theorem xld39 {a : Addr} {v : Value} (hc : w.cell? a = some v) : takeW Tryz.prog (sameW w) (Instr.loadAt 39 (.pointer (some a))) K w = K v := x_load agg39 known39 hc
theorem agg4 : isAggT Tryz.prog 4 = false := by kernel_rfl
theorem known4 : known Tryz.prog 4 = true := by kernel_rfl
theorem ld4 {a : Addr} {v : Value} (hc : w.cell? a = some v) : opW Tryz.prog (Instr.loadAt 4 (.pointer (some a))) k w = k v w := w_load agg4 known4 hc
theorem agg72 : isAggT Tryz.prog 72 = true := by kernel_rfl
theorem known72 : known Tryz.prog 72 = true := by kernel_rfl
theorem size72 : sizeT Tryz.prog 72 = 3 := by kernel_rfl
theorem ld72 {b o : Nat} {vs : List Value} (hl : vs.length = 3) (hc : Cells w b o vs) : opW Tryz.prog (Instr.loadAt 72 (.pointer (some ⟨b, o, none⟩))) k w = k (.agg vs.toArray) w := w_loadAgg agg72 known72 (by rw [size72, hl]) hc
theorem agg85 : isAggT Tryz.prog 85 = false := by kernel_rfl
theorem ld85 {a : Addr} {v : Value} (hc : w.cell? a = some v) : opW Tryz.prog (Instr.loadAt 85 (.pointer (some a))) k w = k v w := w_load agg85 known85 hc
theorem agg9 : isAggT Tryz.prog 9 = false := by kernel_rfl
theorem ld9 {a : Addr} {v : Value} (hc : w.cell? a = some v) : opW Tryz.prog (Instr.loadAt 9 (.pointer (some a))) k w = k v w := w_load agg9 known9 hc
theorem agg92 : isAggT Tryz.prog 92 = true := by kernel_rfl
theorem xld92 {b o : Nat} {vs : List Value} (hl : vs.length = 2) (hc : Cells w b o vs) : takeW Tryz.prog (sameW w) (Instr.loadAt 92 (.pointer (some ⟨b, o, none⟩))) K w = K (.agg vs.toArray) := x_loadAgg agg92 known92 (by rw [size92, hl]) hc
theorem known93 : known Tryz.prog 93 = true := by kernel_rfl
theorem st109 {a : Addr} {v old : Value} (hv : v.oneCell' = true) (hc : w.cell? a = some old) (hf : w.frozen? a = false) : opU Tryz.prog (Instr.storeAt 109 (.pointer (some a)) v) k w = k undef (w.setCell a v) := w_store hv size109 known109 hc hf
theorem sta193 {b o : Nat} {vs : List Value} (hl : vs.length = 8) (hv : ∀ v ∈ vs, v.oneCell' = true) (hc : ∀ j, j < 8 → ∃ old, w.cell? ⟨b, o + j, none⟩ = some old) (hf : ∀ j, j < 8 → w.frozen? ⟨b, o + j, none⟩ = false) : opU Tryz.prog (Instr.storeAt 193 (.pointer (some ⟨b, o, none⟩)) (.agg vs.toArray)) k w = k undef (setCells w b o vs) := w_storeAgg hv (by rw [size193, hl]) known193 (by rw [hl]; exact hc) (by rw [hl]; exact hf)
theorem sta214 {b o : Nat} {vs : List Value} (hl : vs.length = 64) (hv : ∀ v ∈ vs, v.oneCell' = true) (hc : ∀ j, j < 64 → ∃ old, w.cell? ⟨b, o + j, none⟩ = some old) (hf : ∀ j, j < 64 → w.frozen? ⟨b, o + j, none⟩ = false) : opU Tryz.prog (Instr.storeAt 214 (.pointer (some ⟨b, o, none⟩)) (.agg vs.toArray)) k w = k undef (setCells w b o vs) := w_storeAgg hv (by rw [size214, hl]) known214 (by rw [hl]; exact hc) (by rw [hl]; exact hf)
theorem st22 {a : Addr} {v old : Value} (hv : v.oneCell' = true) (hc : w.cell? a = some old) (hf : w.frozen? a = false) : opU Tryz.prog (Instr.storeAt 22 (.pointer (some a)) v) k w = k undef (w.setCell a v) := w_store hv size22 known22 hc hf
theorem st3 {a : Addr} {v old : Value} (hv : v.oneCell' = true) (hc : w.cell? a = some old) (hf : w.frozen? a = false) : opU Tryz.prog (Instr.storeAt 3 (.pointer (some a)) v) k w = k undef (w.setCell a v) := w_store hv size3 known3 hc hf
theorem size39 : sizeT Tryz.prog 39 = 1 := by kernel_rfl
theorem st39 {a : Addr} {v old : Value} (hv : v.oneCell' = true) (hc : w.cell? a = some old) (hf : w.frozen? a = false) : opU Tryz.prog (Instr.storeAt 39 (.pointer (some a)) v) k w = k undef (w.setCell a v) := w_store hv size39 known39 hc hf
theorem size4 : sizeT Tryz.prog 4 = 1 := by kernel_rfl
theorem st4 {a : Addr} {v old : Value} (hv : v.oneCell' = true) (hc : w.cell? a = some old) (hf : w.frozen? a = false) : opU Tryz.prog (Instr.storeAt 4 (.pointer (some a)) v) k w = k undef (w.setCell a v) := w_store hv size4 known4 hc hf
theorem st5 {a : Addr} {v old : Value} (hv : v.oneCell' = true) (hc : w.cell? a = some old) (hf : w.frozen? a = false) : opU Tryz.prog (Instr.storeAt 5 (.pointer (some a)) v) k w = k undef (w.setCell a v) := w_store hv size5 known5 hc hf
theorem st9 {a : Addr} {v old : Value} (hv : v.oneCell' = true) (hc : w.cell? a = some old) (hf : w.frozen? a = false) : opU Tryz.prog (Instr.storeAt 9 (.pointer (some a)) v) k w = k undef (w.setCell a v) := w_store hv size9 known9 hc hf
theorem size93 : sizeT Tryz.prog 93 = 1 := by kernel_rfl
theorem st93 {a : Addr} {v old : Value} (hv : v.oneCell' = true) (hc : w.cell? a = some old) (hf : w.frozen? a = false) : opU Tryz.prog (Instr.storeAt 93 (.pointer (some a)) v) k w = k undef (w.setCell a v) := w_store hv size93 known93 hc hf
theorem len22 {α : Type} {F : Fl α} {v : Value} {l : List α} (hs : IsSl F w v l) : opW Tryz.prog (Builtin.len_ #[22] 3 #[v]) k w = k (.int .i64 l.length) w := w_lenS isl22 hs
theorem len39 {α : Type} {F : Fl α} {v : Value} {l : List α} (hs : IsSl F w v l) : opW Tryz.prog (Builtin.len_ #[39] 3 #[v]) k w = k (.int .i64 l.length) w := w_lenS isl39 hs
theorem leno39 {a : Option Addr} {n c : Nat} : opW Tryz.prog (Builtin.len_ #[39] 3 #[.slice a n c]) k w = k (.int .i64 n) w := w_len isl39
theorem tleno39 {a : Option Addr} {n c : Nat} : takeW Tryz.prog S (Builtin.len_ #[39] 3 #[.slice a n c]) K w = K (.int .i64 n) := takeW_pure fun w => run_of_eq fun k => leno39
theorem len56 {α : Type} {F : Fl α} {v : Value} {l : List α} (hs : IsSl F w v l) : opW Tryz.prog (Builtin.len_ #[56] 3 #[v]) k w = k (.int .i64 l.length) w := w_lenS isl56 hs
theorem ok8 : callOk Tryz.prog 8 = true := by kernel_rfl
theorem ok10 : callOk Tryz.prog 10 = true := by kernel_rfl
theorem ok11 : callOk Tryz.prog 11 = true := by kernel_rfl
theorem ok13 : callOk Tryz.prog 13 = true := by kernel_rfl
theorem ok14 : callOk Tryz.prog 14 = true := by kernel_rfl
theorem ok18 : callOk Tryz.prog 18 = true := by kernel_rfl
theorem ok19 : callOk Tryz.prog 19 = true := by kernel_rfl
theorem ok20 : callOk Tryz.prog 20 = true := by kernel_rfl
theorem ok22 : callOk Tryz.prog 22 = true := by kernel_rfl
theorem ok24 : callOk Tryz.prog 24 = true := by kernel_rfl
theorem ok25 : callOk Tryz.prog 25 = true := by kernel_rfl
theorem ok26 : callOk Tryz.prog 26 = true := by kernel_rfl
theorem ok27 : callOk Tryz.prog 27 = true := by kernel_rfl
theorem ok28 : callOk Tryz.prog 28 = true := by kernel_rfl
theorem ok34 : callOk Tryz.prog 34 = true := by kernel_rfl
theorem ok35 : callOk Tryz.prog 35 = true := by kernel_rfl
theorem ok36 : callOk Tryz.prog 36 = true := by kernel_rfl
theorem ok37 : callOk Tryz.prog 37 = true := by kernel_rfl
theorem ok38 : callOk Tryz.prog 38 = true := by kernel_rfl
theorem ok39 : callOk Tryz.prog 39 = true := by kernel_rfl
theorem ok40 : callOk Tryz.prog 40 = true := by kernel_rfl
theorem ok41 : callOk Tryz.prog 41 = true := by kernel_rfl
theorem ok42 : callOk Tryz.prog 42 = true := by kernel_rfl
theorem ok43 : callOk Tryz.prog 43 = true := by kernel_rfl
theorem ok46 : callOk Tryz.prog 46 = true := by kernel_rfl
theorem ok47 : callOk Tryz.prog 47 = true := by kernel_rfl
theorem ok48 : callOk Tryz.prog 48 = true := by kernel_rfl
theorem ok49 : callOk Tryz.prog 49 = true := by kernel_rfl
theorem ok51 : callOk Tryz.prog 51 = true := by kernel_rfl
theorem ok52 : callOk Tryz.prog 52 = true := by kernel_rfl
theorem ok54 : callOk Tryz.prog 54 = true := by kernel_rfl
theorem ok55 : callOk Tryz.prog 55 = true := by kernel_rfl
theorem ok56 : callOk Tryz.prog 56 = true := by kernel_rfl
theorem ok57 : callOk Tryz.prog 57 = true := by kernel_rfl
theorem ok58 : callOk Tryz.prog 58 = true := by kernel_rfl
theorem ok59 : callOk Tryz.prog 59 = true := by kernel_rfl
theorem ok65 : callOk Tryz.prog 65 = true := by kernel_rfl
theorem ok68 : callOk Tryz.prog 68 = true := by kernel_rfl
theorem ok70 : callOk Tryz.prog 70 = true := by kernel_rfl
theorem ok71 : callOk Tryz.prog 71 = true := by kernel_rfl
theorem ok72 : callOk Tryz.prog 72 = true := by kernel_rfl
theorem ok78 : callOk Tryz.prog 78 = true := by kernel_rfl
theorem ok86 : callOk Tryz.prog 86 = true := by kernel_rfl
theorem ok87 : callOk Tryz.prog 87 = true := by kernel_rfl
theorem ok88 : callOk Tryz.prog 88 = true := by kernel_rfl
theorem ok95 : callOk Tryz.prog 95 = true := by kernel_rfl
theorem ok96 : callOk Tryz.prog 96 = true := by kernel_rfl
theorem ok100 : callOk Tryz.prog 100 = true := by kernel_rfl
theorem ok101 : callOk Tryz.prog 101 = true := by kernel_rfl
theorem ok109 : callOk Tryz.prog 109 = true := by kernel_rfl
theorem ok110 : callOk Tryz.prog 110 = true := by kernel_rfl
theorem ok111 : callOk Tryz.prog 111 = true := by kernel_rfl
theorem ok112 : callOk Tryz.prog 112 = true := by kernel_rfl
theorem ok113 : callOk Tryz.prog 113 = true := by kernel_rfl
theorem ok128 : callOk Tryz.prog 128 = true := by kernel_rfl
theorem ok129 : callOk Tryz.prog 129 = true := by kernel_rfl
theorem ok130 : callOk Tryz.prog 130 = true := by kernel_rfl
theorem ok132 : callOk Tryz.prog 132 = true := by kernel_rfl
theorem ok143 : callOk Tryz.prog 143 = true := by kernel_rfl
theorem ok144 : callOk Tryz.prog 144 = true := by kernel_rfl
theorem ok145 : callOk Tryz.prog 145 = true := by kernel_rfl
theorem ok149 : callOk Tryz.prog 149 = true := by kernel_rfl
end
end Go.Proofs.YtbojglaimdjagaaGreatDoor
/- The conditions of the functions, printed by program out of the loaded code, each with the contract that follows from it. -/
set_option linter.unusedVariables false
set_option maxRecDepth 100000
namespace Go.Proofs.YtbojglaimdjagaaGreatDoor
open Go Go.V
noncomputable section

/-! newswire/newswirelaw34.JournalDamaged -/
def ann4 : Ann := [(253, Note.keep [1, 2, 7, 8, 10]), (506, Note.loop [12] [0, 1, 2, 7, 8, 10]), (4050, Note.keep [0, 1, 2, 7, 8, 10, 12]), (33554429, Note.keep []), (67108858, Note.loop [23] [7, 21, 22]), (536870866, Note.keep [7, 21, 22, 23]), (2147483464, Note.plan (Plan.takeP 0 (Plan.takeP 1 (Plan.takeP 2 (Plan.takeU 3 (Plan.takeP 4 (Plan.takeP 5 (Plan.takeP 6 (Plan.takeU 7 (Plan.takeP 8 (Plan.takeP 9 (Plan.takeP 10 (Plan.takeP 11 (Plan.takeP 12 (Plan.takeU 13 (Plan.takeP 15 (Plan.takeP 16 (Plan.takeP 17 (Plan.takeU 18 (Plan.run 14 (Plan.run 19 (Plan.takeP 20 (Plan.takeP 21 Plan.done)))))))))))))))))))))))]
def S4 (groups_1 at_2 c_3 : Value) (k : Value → World → Prop) (w : World) : Prop :=
   callW Tryz.prog (Value.func (Fn.func 8) #[] #[]) #[] (fun t24_4 w =>
   callW Tryz.prog (Value.func (Fn.func 24) #[] #[]) #[(Value.int IntKind.i64 6000)] (fun t26_5 w =>
   opW Tryz.prog (Instr.extract t26_5 0) (fun t27_6 w =>
   opW Tryz.prog (Instr.extract t26_5 1) (fun t28_7 w =>
   callW Tryz.prog (Value.func (Fn.func 25) #[] #[]) #[t27_6] (fun t31_8 w =>
   opW Tryz.prog (Instr.extract t31_8 0) (fun t32_9 w =>
   opW Tryz.prog (Instr.extract t31_8 1) (fun t33_10 w =>
   opW Tryz.prog (binS BinOp.neq 33 (Operand.tmp 34) (Operand.const (Value.int IntKind.i64 0)) t33_10 (Value.int IntKind.i64 0)) (fun t35_12 w =>
   condW t35_12
   (k (Value.bool false) w)
   (Loop1 (fun i_14 w K_15 =>
   opW Tryz.prog (Builtin.len_ #[48] 3 #[groups_1]) (fun t38_17 w =>
   opW Tryz.prog (binS BinOp.lss 3 (Operand.tmp 36) (Operand.tmp 38) i_14 t38_17) (fun t39_18 w =>
   guardW (some t39_18, true) (fun k w => k i_14 w) (fun t41_19 w =>
   guardW (some t39_18, true) (fun k w => opW Tryz.prog (binS BinOp.lss 3 (Operand.tmp 41) (Operand.const (Value.int IntKind.i64 6)) t41_19 (Value.int IntKind.i64 6)) k w) (fun t42_20 w =>
   pickW t39_18 t42_20 (Value.bool false) (fun t43_21 w =>
   condW t43_21
   (opW Tryz.prog (Instr.indexAt 48 groups_1 i_14) (fun t49_23 w =>
   opW Tryz.prog (Instr.loadAt 22 t49_23) (fun t50_24 w =>
   callW Tryz.prog (Value.func (Fn.func 11) #[] #[]) #[t50_24] (fun t51_25 w =>
   callW Tryz.prog (Value.func (Fn.func 10) #[] #[]) #[t32_9, t51_25] (fun t52_26 w =>
   opW Tryz.prog (binS BinOp.neq 33 (Operand.tmp 52) (Operand.const (Value.int IntKind.i64 0)) t52_26 (Value.int IntKind.i64 0)) (fun t53_27 w =>
   condW t53_27
   (k (Value.bool false) w)
   (opW Tryz.prog (binS BinOp.add 3 (Operand.tmp 44) (Operand.const (Value.int IntKind.i64 1)) i_14 (Value.int IntKind.i64 1)) (fun t45_28 w =>
   loopK [] [] [groups_1, at_2, c_3, t24_4, t27_6, t32_9] [groups_1, at_2, c_3, t24_4, t27_6, t32_9] (K_15 t45_28 w)) w)) w) w) w) w) w)
   (callW Tryz.prog (Value.func (Fn.func 19) #[] #[]) #[t32_9] (fun t55_29 w =>
   callW Tryz.prog (Value.func (Fn.func 20) #[] #[]) #[t32_9] (fun t57_30 w =>
   opW Tryz.prog (binS BinOp.sub 3 (Operand.const (Value.int IntKind.i64 6000)) (Operand.tmp 57) (Value.int IntKind.i64 6000) t57_30) (fun t58_31 w =>
   opW Tryz.prog (binS BinOp.leq 3 (Operand.tmp 59) (Operand.const (Value.int IntKind.i64 0)) t58_31 (Value.int IntKind.i64 0)) (fun t60_33 w =>
   guardW (some t60_33, false) (fun k w => k t58_31 w) (fun t62_34 w =>
   guardW (some t60_33, false) (fun k w => opW Tryz.prog (binS BinOp.gtr 3 (Operand.tmp 62) (Operand.const (Value.int IntKind.i64 6000)) t62_34 (Value.int IntKind.i64 6000)) k w) (fun t63_35 w =>
   pickW t60_33 (Value.bool true) t63_35 (fun t64_36 w =>
   condW t64_36
   (guardW (some t24_4, true) (fun k w => k t58_31 w) (fun t67_37 w =>
   guardW (some t24_4, true) (fun k w => opW Tryz.prog (binS BinOp.eql 3 (Operand.tmp 67) (Operand.const (Value.int IntKind.i64 0)) t67_37 (Value.int IntKind.i64 0)) k w) (fun t68_38 w =>
   pickW t24_4 t68_38 (Value.bool false) (fun t69_39 w =>
   guardW (some t69_39, true) (fun k w => k t55_29 w) (fun t71_40 w =>
   guardW (some t69_39, true) (fun k w => opW Tryz.prog (Builtin.len_ #[22] 3 #[t71_40]) k w) (fun t72_41 w =>
   guardW (some t69_39, true) (fun k w => opW Tryz.prog (binS BinOp.eql 3 (Operand.tmp 72) (Operand.const (Value.int IntKind.i64 0)) t72_41 (Value.int IntKind.i64 0)) k w) (fun t73_42 w =>
   pickW t69_39 t73_42 (Value.bool false) (fun t74_43 w =>
   k t74_43 w) w) w) w) w) w) w) w)
   (callW Tryz.prog (Value.func (Fn.func 14) #[] #[]) #[at_2, t58_31] (fun t77_44 w =>
   callW Tryz.prog (Value.func (Fn.func 26) #[] #[]) #[t55_29, t77_44] (fun t80_46 w =>
   condW t80_46
   (k t24_4 w)
   (callW Tryz.prog (Value.func (Fn.func 22) #[] #[]) #[t27_6] (fun t83_47 w =>
   opW Tryz.prog (Builtin.len_ #[9] 3 #[t83_47]) (fun t85_49 w =>
   opW Tryz.prog (binS BinOp.neq 3 (Operand.tmp 85) (Operand.const (Value.int IntKind.i64 6000)) t85_49 (Value.int IntKind.i64 6000)) (fun t86_50 w =>
   guardW (some t86_50, false) (fun k w => k t83_47 w) (fun t88_51 w =>
   guardW (some t86_50, false) (fun k w => k t77_44 w) (fun t89_52 w =>
   guardW (some t86_50, false) (fun k w => opW Tryz.prog (Instr.index 9 t88_51 t89_52) k w) (fun t90_53 w =>
   guardW (some t86_50, false) (fun k w => k c_3 w) (fun t91_54 w =>
   guardW (some t86_50, false) (fun k w => opW Tryz.prog (binS BinOp.eql 5 (Operand.tmp 90) (Operand.tmp 91) t90_53 t91_54) k w) (fun t92_55 w =>
   pickW t86_50 (Value.bool true) t92_55 (fun t93_56 w =>
   condW t93_56
   (guardW (some t24_4, true) (fun k w => k t83_47 w) (fun t96_57 w =>
   guardW (some t24_4, true) (fun k w => opW Tryz.prog (Builtin.len_ #[9] 3 #[t96_57]) k w) (fun t97_58 w =>
   guardW (some t24_4, true) (fun k w => opW Tryz.prog (binS BinOp.eql 3 (Operand.tmp 97) (Operand.const (Value.int IntKind.i64 6000)) t97_58 (Value.int IntKind.i64 6000)) k w) (fun t98_59 w =>
   pickW t24_4 t98_59 (Value.bool false) (fun t99_60 w =>
   k t99_60 w) w) w) w) w)
   (opW Tryz.prog (Instr.buildSlice 39 1 #[(0, c_3)]) (fun t103_61 w =>
   opW Tryz.prog (convert 39 9 t103_61) (fun t104_62 w =>
   callW Tryz.prog (Value.func (Fn.func 13) #[] #[]) #[t27_6, t77_44, t104_62] (fun t105_63 w =>
   callW Tryz.prog (Value.func (Fn.func 25) #[] #[]) #[t27_6] (fun t108_64 w =>
   opW Tryz.prog (Instr.extract t108_64 0) (fun t109_65 w =>
   opW Tryz.prog (Instr.extract t108_64 1) (fun t110_66 w =>
   opW Tryz.prog (binS BinOp.eql 33 (Operand.tmp 111) (Operand.const (Value.int IntKind.i64 342)) t110_66 (Value.int IntKind.i64 342)) (fun t112_68 w =>
   condW t112_68
   (k t24_4 w)
   (opW Tryz.prog (binS BinOp.neq 33 (Operand.tmp 114) (Operand.const (Value.int IntKind.i64 0)) t110_66 (Value.int IntKind.i64 0)) (fun t115_70 w =>
   guardW (some t115_70, false) (fun k w => k t109_65 w) (fun t117_71 w =>
   guardW (some t115_70, false) (fun k w => opW Tryz.prog (binS BinOp.eql 28 (Operand.tmp 117) (Operand.const (Value.pointer none)) t117_71 (Value.pointer none)) k w) (fun t118_72 w =>
   pickW t115_70 (Value.bool true) t118_72 (fun t119_73 w =>
   condW t119_73
   (k (Value.bool false) w)
   (callW Tryz.prog (Value.func (Fn.func 19) #[] #[]) #[t109_65] (fun t121_74 w =>
   opW Tryz.prog (binS BinOp.eql 5 (Operand.tmp 122) (Operand.const (Value.int IntKind.u8 0)) c_3 (Value.int IntKind.u8 0)) (fun t123_75 w =>
   guardW (some t123_75, true) (fun k w => k t121_74 w) (fun t125_76 w =>
   guardW (some t123_75, true) (fun k w => opW Tryz.prog (Builtin.len_ #[22] 3 #[t125_76]) k w) (fun t126_77 w =>
   guardW (some t123_75, true) (fun k w => k t55_29 w) (fun t127_78 w =>
   guardW (some t123_75, true) (fun k w => opW Tryz.prog (Builtin.len_ #[22] 3 #[t127_78]) k w) (fun t128_79 w =>
   guardW (some t123_75, true) (fun k w => opW Tryz.prog (binS BinOp.lss 3 (Operand.tmp 126) (Operand.tmp 128) t126_77 t128_79) k w) (fun t129_80 w =>
   pickW t123_75 t129_80 (Value.bool false) (fun t130_81 w =>
   guardW (some t130_81, true) (fun k w => k t121_74 w) (fun t132_82 w =>
   guardW (some t130_81, true) (fun k w => k t55_29 w) (fun t133_83 w =>
   guardW (some t130_81, true) (fun k w => k t121_74 w) (fun t134_84 w =>
   guardW (some t130_81, true) (fun k w => opW Tryz.prog (Builtin.len_ #[22] 3 #[t134_84]) k w) (fun t135_85 w =>
   guardW (some t130_81, true) (fun k w => opW Tryz.prog (Instr.sliceAt 22 t133_83 none (some t135_85) none) k w) (fun t136_86 w =>
   guardW (some t130_81, true) (fun k w => callW Tryz.prog (Value.func (Fn.func 18) #[] #[]) #[t132_82, t136_86] k w) (fun t137_87 w =>
   pickW t130_81 t137_87 (Value.bool false) (fun t138_88 w =>
   condW t138_88
   (k t24_4 w)
   (callW Tryz.prog (Value.func (Fn.func 27) #[] #[]) #[t55_29] (fun t142_90 w =>
   callW Tryz.prog (Value.func (Fn.func 27) #[] #[]) #[t121_74] (fun t144_91 w =>
   Loop1 (fun i_93 w K_94 =>
   opW Tryz.prog (Builtin.len_ #[22] 3 #[t142_90]) (fun t147_96 w =>
   opW Tryz.prog (binS BinOp.lss 3 (Operand.tmp 145) (Operand.tmp 147) i_93 t147_96) (fun t148_97 w =>
   guardW (some t148_97, true) (fun k w => k i_93 w) (fun t150_98 w =>
   guardW (some t148_97, true) (fun k w => k t144_91 w) (fun t151_99 w =>
   guardW (some t148_97, true) (fun k w => opW Tryz.prog (Builtin.len_ #[22] 3 #[t151_99]) k w) (fun t152_100 w =>
   guardW (some t148_97, true) (fun k w => opW Tryz.prog (binS BinOp.lss 3 (Operand.tmp 150) (Operand.tmp 152) t150_98 t152_100) k w) (fun t153_101 w =>
   pickW t148_97 t153_101 (Value.bool false) (fun t154_102 w =>
   condW t154_102
   (drewW w (fun w =>
   ∃ S : World → Prop, S w ∧
   takeW Tryz.prog anyW (Instr.indexAt 22 t142_90 i_93) (fun t159_105 =>
   takeW Tryz.prog S (Instr.loadAt 9 t159_105) (fun t160_106 =>
   takeW Tryz.prog anyW (Instr.indexAt 22 t144_91 i_93) (fun t163_107 =>
   takeW Tryz.prog S (Instr.loadAt 9 t163_107) (fun t164_108 =>
   takeW Tryz.prog anyW (binS BinOp.neq 9 (Operand.tmp 160) (Operand.tmp 164) t160_106 t164_108) (fun t165_109 =>
   guardT (some t165_109, true) (fun k => k t142_90) (fun t167_110 =>
   guardT (some t165_109, true) (fun k => k i_93) (fun t168_111 =>
   guardT (some t165_109, true) (fun k => takeW Tryz.prog anyW (Instr.indexAt 22 t167_110 t168_111) k w) (fun t169_112 =>
   guardT (some t165_109, true) (fun k => takeW Tryz.prog S (Instr.loadAt 9 t169_112) k w) (fun t170_113 =>
   guardT (some t165_109, true) (fun k => k t144_91) (fun t172_114 =>
   guardT (some t165_109, true) (fun k => k i_93) (fun t173_115 =>
   guardT (some t165_109, true) (fun k => takeW Tryz.prog anyW (Instr.indexAt 22 t172_114 t173_115) k w) (fun t174_116 =>
   guardT (some t165_109, true) (fun k => takeW Tryz.prog S (Instr.loadAt 9 t174_116) k w) (fun t175_117 =>
   guardW (some t165_109, true) (fun k w => callW Tryz.prog (Value.func (Fn.func 28) #[] #[]) #[t170_113] k w) (fun t171_118 w => keepS S (fun w =>
   guardW (some t165_109, true) (fun k w => callW Tryz.prog (Value.func (Fn.func 28) #[] #[]) #[t175_117] k w) (fun t176_119 w => keepS S (fun w =>
   guardT (some t165_109, true) (fun k => takeW Tryz.prog anyW (binS BinOp.eql 9 (Operand.tmp 171) (Operand.tmp 176) t171_118 t176_119) k w) (fun t177_120 =>
   pickT t165_109 t177_120 (Value.bool false) (fun t178_121 =>
   condW t178_121
   (k t24_4 w)
   (opW Tryz.prog (binS BinOp.add 3 (Operand.tmp 155) (Operand.const (Value.int IntKind.i64 1)) i_93 (Value.int IntKind.i64 1)) (fun t156_122 w =>
   loopK [] [] [t24_4, t142_90, t144_91] [t24_4, t142_90, t144_91] (K_94 t156_122 w)) w)))) w) w) w) w))))))))) w) w) w) w) w))
   (k (Value.bool false) w)) w) w) w) w) w) w) w) (Value.int IntKind.i64 0) w) w) w)) w) w) w) w) w) w) w) w) w) w) w) w) w) w) w)) w) w) w) w)) w) w) w) w) w) w) w)) w) w) w) w) w) w) w) w) w)) w) w)) w) w) w) w) w) w) w)) w) w) w) w) w) (Value.int IntKind.i64 0) w)) w) w) w) w) w) w) w) w
theorem S4_vc (groups_1 at_2 c_3 : Value) (k : Value → World → Prop) (w : World) : vc Tryz.prog Tryz.f4.ntmps ann4 none ((Tryz.f4.body).getD Code.skip) 1 (params 0 [groups_1, at_2, c_3]) [] (finQ Tryz.prog Tryz.f4.results.toList k) w = S4 groups_1 at_2 c_3 k w := by kernel_rfl
theorem S4_calls (groups_1 at_2 c_3 : Value) (k : Value → World → Prop) (w : World) (h : S4 groups_1 at_2 c_3 k w) : Calls Tryz.prog 4 #[groups_1, at_2, c_3] w (retP k) :=
  calls_of_vc (fn := Tryz.f4) (c := (Tryz.f4.body).getD Code.skip) ann4 Tryz.func4 (by kernel_rfl) [groups_1, at_2, c_3] w k (by kernel_rfl) ((S4_vc groups_1 at_2 c_3 k w).symm ▸ h)
/-! newswire/newswirelaw34.sane -/
def ann8 : Ann := []
def S8 (k : Value → World → Prop) (w : World) : Prop :=
   callW Tryz.prog (Value.func (Fn.func 24) #[] #[]) #[(Value.int IntKind.i64 200)] (fun t16_1 w =>
   opW Tryz.prog (Instr.extract t16_1 0) (fun t17_2 w =>
   opW Tryz.prog (Instr.extract t16_1 1) (fun t18_3 w =>
   callW Tryz.prog (Value.func (Fn.func 25) #[] #[]) #[t17_2] (fun t21_4 w =>
   opW Tryz.prog (Instr.extract t21_4 0) (fun t22_5 w =>
   opW Tryz.prog (Instr.extract t21_4 1) (fun t23_6 w =>
   opW Tryz.prog (binS BinOp.eql 28 (Operand.tmp 24) (Operand.const (Value.pointer none)) t22_5 (Value.pointer none)) (fun t25_8 w =>
   guardW (some t25_8, false) (fun k w => k t23_6 w) (fun t27_9 w =>
   guardW (some t25_8, false) (fun k w => opW Tryz.prog (binS BinOp.neq 33 (Operand.tmp 27) (Operand.const (Value.int IntKind.i64 0)) t27_9 (Value.int IntKind.i64 0)) k w) (fun t28_10 w =>
   pickW t25_8 (Value.bool true) t28_10 (fun t29_11 w =>
   guardW (some t29_11, false) (fun k w => k t22_5 w) (fun t31_12 w =>
   guardW (some t29_11, false) (fun k w => callW Tryz.prog (Value.func (Fn.func 19) #[] #[]) #[t31_12] k w) (fun t32_13 w =>
   guardW (some t29_11, false) (fun k w => opW Tryz.prog (Builtin.len_ #[22] 3 #[t32_13]) k w) (fun t33_14 w =>
   guardW (some t29_11, false) (fun k w => opW Tryz.prog (binS BinOp.neq 3 (Operand.tmp 33) (Operand.const (Value.int IntKind.i64 0)) t33_14 (Value.int IntKind.i64 0)) k w) (fun t34_15 w =>
   pickW t29_11 (Value.bool true) t34_15 (fun t35_16 w =>
   guardW (some t35_16, false) (fun k w => k t22_5 w) (fun t37_17 w =>
   guardW (some t35_16, false) (fun k w => callW Tryz.prog (Value.func (Fn.func 20) #[] #[]) #[t37_17] k w) (fun t38_18 w =>
   guardW (some t35_16, false) (fun k w => opW Tryz.prog (binS BinOp.neq 3 (Operand.tmp 38) (Operand.const (Value.int IntKind.i64 200)) t38_18 (Value.int IntKind.i64 200)) k w) (fun t39_19 w =>
   pickW t35_16 (Value.bool true) t39_19 (fun t40_20 w =>
   condW t40_20
   (k (Value.bool false) w)
   (opW Tryz.prog (Instr.buildSlice 22 2 #[(0, (Value.string { data := #[97, 98] })), (1, (Value.string { data := #[] }))]) (fun t42_21 w =>
   callW Tryz.prog (Value.func (Fn.func 10) #[] #[]) #[t22_5, t42_21] (fun t43_22 w =>
   opW Tryz.prog (Instr.makeSlice 39 (Value.int IntKind.i64 96) (Value.int IntKind.i64 96)) (fun t45_23 w =>
   opW Tryz.prog (convert 39 9 t45_23) (fun t46_24 w =>
   opW Tryz.prog (Instr.buildSlice 22 1 #[(0, t46_24)]) (fun t47_25 w =>
   callW Tryz.prog (Value.func (Fn.func 10) #[] #[]) #[t22_5, t47_25] (fun t48_26 w =>
   callW Tryz.prog (Value.func (Fn.func 20) #[] #[]) #[t22_5] (fun t50_27 w =>
   opW Tryz.prog (Instr.makeSlice 39 (Value.int IntKind.i64 95) (Value.int IntKind.i64 95)) (fun t52_28 w =>
   opW Tryz.prog (convert 39 9 t52_28) (fun t53_29 w =>
   opW Tryz.prog (Instr.buildSlice 22 1 #[(0, t53_29)]) (fun t54_30 w =>
   callW Tryz.prog (Value.func (Fn.func 10) #[] #[]) #[t22_5, t54_30] (fun t55_31 w =>
   callW Tryz.prog (Value.func (Fn.func 25) #[] #[]) #[t17_2] (fun t58_32 w =>
   opW Tryz.prog (Instr.extract t58_32 0) (fun t59_33 w =>
   opW Tryz.prog (Instr.extract t58_32 1) (fun t60_34 w =>
   opW Tryz.prog (binS BinOp.eql 28 (Operand.tmp 61) (Operand.const (Value.pointer none)) t59_33 (Value.pointer none)) (fun t62_36 w =>
   condW t62_36
   (k (Value.bool false) w)
   (callW Tryz.prog (Value.func (Fn.func 13) #[] #[]) #[t17_2, (Value.int IntKind.i64 0), (Value.string { data := #[2] })] (fun t64_37 w =>
   callW Tryz.prog (Value.func (Fn.func 25) #[] #[]) #[t17_2] (fun t67_38 w =>
   opW Tryz.prog (Instr.extract t67_38 0) (fun t68_39 w =>
   opW Tryz.prog (Instr.extract t67_38 1) (fun t69_40 w =>
   callW Tryz.prog (Value.func (Fn.func 25) #[] #[]) #[(Value.pointer none)] (fun t71_41 w =>
   opW Tryz.prog (Instr.extract t71_41 0) (fun t72_42 w =>
   opW Tryz.prog (Instr.extract t71_41 1) (fun t73_43 w =>
   opW Tryz.prog (binS BinOp.eql 33 (Operand.tmp 74) (Operand.const (Value.int IntKind.i64 0)) t43_22 (Value.int IntKind.i64 0)) (fun t75_44 w =>
   guardW (some t75_44, true) (fun k w => k t48_26 w) (fun t77_45 w =>
   guardW (some t75_44, true) (fun k w => opW Tryz.prog (binS BinOp.eql 33 (Operand.tmp 77) (Operand.const (Value.int IntKind.i64 341)) t77_45 (Value.int IntKind.i64 341)) k w) (fun t78_46 w =>
   pickW t75_44 t78_46 (Value.bool false) (fun t79_47 w =>
   guardW (some t79_47, true) (fun k w => k t50_27 w) (fun t81_48 w =>
   guardW (some t79_47, true) (fun k w => opW Tryz.prog (binS BinOp.eql 3 (Operand.tmp 81) (Operand.const (Value.int IntKind.i64 130)) t81_48 (Value.int IntKind.i64 130)) k w) (fun t82_49 w =>
   pickW t79_47 t82_49 (Value.bool false) (fun t83_50 w =>
   guardW (some t83_50, true) (fun k w => k t55_31 w) (fun t85_51 w =>
   guardW (some t83_50, true) (fun k w => opW Tryz.prog (binS BinOp.eql 33 (Operand.tmp 85) (Operand.const (Value.int IntKind.i64 0)) t85_51 (Value.int IntKind.i64 0)) k w) (fun t86_52 w =>
   pickW t83_50 t86_52 (Value.bool false) (fun t87_53 w =>
   guardW (some t87_53, true) (fun k w => k t22_5 w) (fun t89_54 w =>
   guardW (some t87_53, true) (fun k w => callW Tryz.prog (Value.func (Fn.func 20) #[] #[]) #[t89_54] k w) (fun t90_55 w =>
   guardW (some t87_53, true) (fun k w => opW Tryz.prog (binS BinOp.eql 3 (Operand.tmp 90) (Operand.const (Value.int IntKind.i64 0)) t90_55 (Value.int IntKind.i64 0)) k w) (fun t91_56 w =>
   pickW t87_53 t91_56 (Value.bool false) (fun t92_57 w =>
   guardW (some t92_57, true) (fun k w => k t60_34 w) (fun t94_58 w =>
   guardW (some t92_57, true) (fun k w => opW Tryz.prog (binS BinOp.eql 33 (Operand.tmp 94) (Operand.const (Value.int IntKind.i64 0)) t94_58 (Value.int IntKind.i64 0)) k w) (fun t95_59 w =>
   pickW t92_57 t95_59 (Value.bool false) (fun t96_60 w =>
   guardW (some t96_60, true) (fun k w => k t59_33 w) (fun t98_61 w =>
   guardW (some t96_60, true) (fun k w => callW Tryz.prog (Value.func (Fn.func 19) #[] #[]) #[t98_61] k w) (fun t99_62 w =>
   guardW (some t96_60, true) (fun k w => opW Tryz.prog (Builtin.len_ #[22] 3 #[t99_62]) k w) (fun t100_63 w =>
   guardW (some t96_60, true) (fun k w => opW Tryz.prog (binS BinOp.eql 3 (Operand.tmp 100) (Operand.const (Value.int IntKind.i64 3)) t100_63 (Value.int IntKind.i64 3)) k w) (fun t101_64 w =>
   pickW t96_60 t101_64 (Value.bool false) (fun t102_65 w =>
   guardW (some t102_65, true) (fun k w => k t59_33 w) (fun t104_66 w =>
   guardW (some t102_65, true) (fun k w => callW Tryz.prog (Value.func (Fn.func 19) #[] #[]) #[t104_66] k w) (fun t105_67 w =>
   guardW (some t102_65, true) (fun k w => opW Tryz.prog (Instr.indexAt 22 t105_67 (Value.int IntKind.i64 0)) k w) (fun t106_68 w =>
   guardW (some t102_65, true) (fun k w => opW Tryz.prog (Instr.loadAt 9 t106_68) k w) (fun t107_69 w =>
   guardW (some t102_65, true) (fun k w => opW Tryz.prog (binS BinOp.eql 9 (Operand.tmp 107) (Operand.const (Value.string { data := #[97, 98] })) t107_69 (Value.string { data := #[97, 98] })) k w) (fun t108_70 w =>
   pickW t102_65 t108_70 (Value.bool false) (fun t109_71 w =>
   guardW (some t109_71, true) (fun k w => k t69_40 w) (fun t111_72 w =>
   guardW (some t109_71, true) (fun k w => opW Tryz.prog (binS BinOp.eql 33 (Operand.tmp 111) (Operand.const (Value.int IntKind.i64 342)) t111_72 (Value.int IntKind.i64 342)) k w) (fun t112_73 w =>
   pickW t109_71 t112_73 (Value.bool false) (fun t113_74 w =>
   guardW (some t113_74, true) (fun k w => k t73_43 w) (fun t115_75 w =>
   guardW (some t113_74, true) (fun k w => opW Tryz.prog (binS BinOp.eql 33 (Operand.tmp 115) (Operand.const (Value.int IntKind.i64 1)) t115_75 (Value.int IntKind.i64 1)) k w) (fun t116_76 w =>
   pickW t113_74 t116_76 (Value.bool false) (fun t117_77 w =>
   k t117_77 w) w) w) w) w) w) w) w) w) w) w) w) w) w) w) w) w) w) w) w) w) w) w) w) w) w) w) w) w) w) w) w) w) w) w) w) w) w) w) w) w) w)) w) w) w) w) w) w) w) w) w) w) w) w) w) w) w)) w) w) w) w) w) w) w) w) w) w) w) w) w) w) w) w) w) w) w
theorem S8_vc (k : Value → World → Prop) (w : World) : vc Tryz.prog Tryz.f8.ntmps ann8 none ((Tryz.f8.body).getD Code.skip) 1 (params 0 []) [] (finQ Tryz.prog Tryz.f8.results.toList k) w = S8 k w := by kernel_rfl
theorem S8_calls (k : Value → World → Prop) (w : World) (h : S8 k w) : Calls Tryz.prog 8 #[] w (retP k) :=
  calls_of_vc (fn := Tryz.f8) (c := (Tryz.f8.body).getD Code.skip) ann8 Tryz.func8 (by kernel_rfl) [] w k (by kernel_rfl) ((S8_vc k w).symm ▸ h)
theorem C8 (k : Value → World → Prop) (w : World) (h : S8 k w) : callW Tryz.prog (.func (.func 8) #[] #[]) #[] k w :=
  callW_calls ok8 (by simpa using S8_calls k w h)

/-! (*newswire/journal.Journal).Append -/
def ann10 : Ann := [(1021, Note.keep [0, 6, 7]), (2042, Note.loop [33] [0, 6, 7, 31, 32]), (2046, Note.keep [0, 6, 10]), (8188, Note.plan (Plan.takeP 0 (Plan.takeP 1 (Plan.takeP 2 (Plan.takeP 3 (Plan.takeP 4 (Plan.takeU 5 (Plan.takeP 6 (Plan.takeP 7 (Plan.takeP 8 (Plan.takeP 10 (Plan.takeP 11 (Plan.takeP 12 (Plan.takeU 13 (Plan.takeP 14 (Plan.takeP 15 (Plan.takeP 16 (Plan.takeP 17 (Plan.takeP 18 (Plan.takeP 19 (Plan.takeU 20 (Plan.takeP 21 (Plan.takeP 22 (Plan.takeP 24 (Plan.takeP 25 (Plan.takeP 26 (Plan.takeU 27 (Plan.takeP 28 (Plan.run 9 (Plan.run 23 (Plan.run 29 (Plan.run 30 (Plan.takeP 31 Plan.done))))))))))))))))))))))))))))))))), (32678, Note.keep [0, 6, 7, 31, 32, 33])]
def S10 (j_1 l_2 : Value) (k : Value → World → Prop) (w : World) : Prop :=
   opW Tryz.prog (binS BinOp.eql 28 (Operand.tmp 12) (Operand.const (Value.pointer none)) j_1 (Value.pointer none)) (fun t13_4 w =>
   condW t13_4
   (k (Value.int IntKind.i64 1) w)
   (nilW j_1 (fun t15_6 w =>
   opW Tryz.prog (Instr.fieldAt 74 t15_6 2) (fun t16_7 w =>
   opW Tryz.prog (Instr.loadAt 4 t16_7) (fun t17_8 w =>
   guardW (some t17_8, false) (fun k w => k l_2 w) (fun t19_9 w =>
   guardW (some t17_8, false) (fun k w => k (Value.func (Fn.func 34) #[] #[]) w) (fun t20_10 w =>
   guardW (some t17_8, false) (fun k w => callW Tryz.prog (Value.func (Fn.func 35) #[] #[]) #[t19_9, t20_10] k w) (fun t21_11 w =>
   pickW t17_8 (Value.bool true) t21_11 (fun t22_12 w =>
   condW t22_12
   (k (Value.int IntKind.i64 340) w)
   (nilW j_1 (fun t24_13 w =>
   opW Tryz.prog (Instr.fieldAt 74 t24_13 0) (fun t25_14 w =>
   opW Tryz.prog (Instr.loadAt 72 t25_14) (fun t26_15 w =>
   opW Tryz.prog (Instr.alloc 72 true (Value.tuple #[])) (fun next_16 w =>
   opU Tryz.prog (Instr.storeAt 72 next_16 t26_15) (fun _ w =>
   opW Tryz.prog (Instr.fieldAt 72 next_16 0) (fun t27_17 w =>
   opW Tryz.prog (Instr.loadAt 22 t27_17) (fun t28_18 w =>
   callW Tryz.prog (Value.func (Fn.func 36) #[] #[]) #[t28_18] (fun t29_19 w =>
   opW Tryz.prog (Instr.fieldAt 72 next_16 0) (fun t30_20 w =>
   opU Tryz.prog (Instr.storeAt 22 t30_20 t29_19) (fun _ w =>
   opW Tryz.prog (Instr.alloc 78 true (Value.tuple #[])) (fun out_21 w =>
   opW Tryz.prog (Builtin.len_ #[22] 3 #[l_2]) (fun t32_22 w =>
   Loop1 (fun t33_24 w K_25 =>
   opW Tryz.prog (binS BinOp.lss 3 (Operand.tmp 33) (Operand.tmp 32) t33_24 t32_22) (fun t34_26 w =>
   condW t34_26
   (opW Tryz.prog (Instr.indexAt 22 l_2 t33_24) (fun t35_29 w =>
   opW Tryz.prog (Instr.loadAt 9 t35_29) (fun t36_30 w =>
   callW Tryz.prog (Value.func (Fn.func 38) #[] #[]) #[next_16, t36_30] (fun t38_31 w =>
   callW Tryz.prog (Value.func (Fn.func 37) #[] #[]) #[out_21, t38_31] (fun t39_32 w =>
   opW Tryz.prog (binS BinOp.add 3 (Operand.tmp 33) (Operand.const (Value.int IntKind.i64 1)) t33_24 (Value.int IntKind.i64 1)) (fun t40_33 w =>
   loopK [] [] [j_1, next_16, out_21, l_2, t32_22] [j_1, next_16, out_21, l_2, t32_22] (K_25 t40_33 w)) w) w) w) w) w)
   (callW Tryz.prog (Value.func (Fn.func 39) #[] #[]) #[out_21] (fun t41_34 w =>
   opW Tryz.prog (Builtin.len_ #[9] 3 #[t41_34]) (fun t44_36 w =>
   callW Tryz.prog (Value.func (Fn.func 20) #[] #[]) #[j_1] (fun t46_37 w =>
   opW Tryz.prog (binS BinOp.gtr 3 (Operand.tmp 44) (Operand.tmp 46) t44_36 t46_37) (fun t47_38 w =>
   condW t47_38
   (k (Value.int IntKind.i64 341) w)
   (opW Tryz.prog (binS BinOp.eql 9 (Operand.tmp 49) (Operand.const (Value.string { data := #[] })) t41_34 (Value.string { data := #[] })) (fun t50_39 w =>
   condW t50_39
   (k (Value.int IntKind.i64 0) w)
   (drewW w (fun w =>
   ∃ S : World → Prop, S w ∧
   nilT j_1 (fun t53_42 =>
   takeW Tryz.prog anyW (Instr.fieldAt 74 t53_42 0) (fun t54_43 =>
   takeW Tryz.prog anyW (Instr.fieldAt 72 t54_43 2) (fun t55_44 =>
   takeW Tryz.prog S (Instr.loadAt 3 t55_44) (fun t56_45 =>
   takeW Tryz.prog anyW (binS BinOp.add 3 (Operand.tmp 56) (Operand.const (Value.int IntKind.i64 1)) t56_45 (Value.int IntKind.i64 1)) (fun t57_46 =>
   takeW Tryz.prog anyW (Instr.sliceAt 9 t41_34 (some (Value.int IntKind.i64 1)) none none) (fun t59_47 =>
   nilT j_1 (fun t62_48 =>
   takeW Tryz.prog anyW (Instr.fieldAt 74 t62_48 1) (fun t63_49 =>
   takeW Tryz.prog S (Instr.loadAt 27 t63_49) (fun t64_50 =>
   takeW Tryz.prog anyW (Instr.makeFunc (Fn.func 42) #[t64_50] #[]) (fun t65_51 =>
   nilT j_1 (fun t68_52 =>
   takeW Tryz.prog anyW (Instr.fieldAt 74 t68_52 0) (fun t69_53 =>
   takeW Tryz.prog anyW (Instr.fieldAt 72 t69_53 2) (fun t70_54 =>
   takeW Tryz.prog S (Instr.loadAt 3 t70_54) (fun t71_55 =>
   takeW Tryz.prog anyW (Instr.sliceAt 9 t41_34 none (some (Value.int IntKind.i64 1)) none) (fun t73_56 =>
   nilT j_1 (fun t76_57 =>
   takeW Tryz.prog anyW (Instr.fieldAt 74 t76_57 1) (fun t77_58 =>
   takeW Tryz.prog S (Instr.loadAt 27 t77_58) (fun t78_59 =>
   takeW Tryz.prog anyW (Instr.makeFunc (Fn.func 42) #[t78_59] #[]) (fun t79_60 =>
   callW Tryz.prog (Value.func (Fn.func 41) #[] #[]) #[j_1, t57_46, t59_47] (fun t60_61 w => keepS S (fun w =>
   callW Tryz.prog (Value.func (Fn.func 41) #[] #[]) #[j_1, t71_55, t73_56] (fun t74_62 w => keepS S (fun w =>
   opW Tryz.prog (Instr.buildSlice 127 4 #[(0, t60_61), (1, t65_51), (2, t74_62), (3, t79_60)]) (fun t80_63 w => keepS S (fun w =>
   callW Tryz.prog (Value.func (Fn.func 40) #[] #[]) #[t80_63] (fun t81_64 w => keepS S (fun w =>
   opW Tryz.prog (binS BinOp.neq 33 (Operand.tmp 82) (Operand.const (Value.int IntKind.i64 0)) t81_64 (Value.int IntKind.i64 0)) (fun t83_65 w =>
   condW t83_65
   (nilW j_1 (fun t85_66 w =>
   opW Tryz.prog (Instr.fieldAt 74 t85_66 2) (fun t86_67 w =>
   opU Tryz.prog (Instr.storeAt 4 t86_67 (Value.bool true)) (fun _ w =>
   k t81_64 w) w) w) w)
   (opW Tryz.prog (Instr.loadAt 72 next_16) (fun t89_68 w =>
   nilW j_1 (fun t90_69 w =>
   opW Tryz.prog (Instr.fieldAt 74 t90_69 0) (fun t91_70 w =>
   opU Tryz.prog (Instr.storeAt 72 t91_70 t89_68) (fun _ w =>
   k (Value.int IntKind.i64 0) w) w) w) w) w)) w) w) w) w) w) w) w) w) w) w) w) w)) w) w) w) w)) w) w) w)) w) w) w) w) w)))) w)) w) w) w) w)) w) (Value.int IntKind.i64 0) w) w) w) w) w) w) w) w) w) w) w) w) w)) w) w) w) w) w) w) w)) w
theorem S10_vc (j_1 l_2 : Value) (k : Value → World → Prop) (w : World) : vc Tryz.prog Tryz.f10.ntmps ann10 none ((Tryz.f10.body).getD Code.skip) 1 (params 0 [j_1, l_2]) [] (finQ Tryz.prog Tryz.f10.results.toList k) w = S10 j_1 l_2 k w := by kernel_rfl
theorem S10_calls (j_1 l_2 : Value) (k : Value → World → Prop) (w : World) (h : S10 j_1 l_2 k w) : Calls Tryz.prog 10 #[j_1, l_2] w (retP k) :=
  calls_of_vc (fn := Tryz.f10) (c := (Tryz.f10.body).getD Code.skip) ann10 Tryz.func10 (by kernel_rfl) [j_1, l_2] w k (by kernel_rfl) ((S10_vc j_1 l_2 k w).symm ▸ h)
theorem C10 (j_1 l_2 : Value) (k : Value → World → Prop) (w : World) (h : S10 j_1 l_2 k w) : callW Tryz.prog (.func (.func 10) #[] #[]) #[j_1, l_2] k w :=
  callW_calls ok10 (by simpa using S10_calls j_1 l_2 k w h)

/-! newswire/newswirelaw34.few -/
def ann11 : Ann := [(29, Note.keep [3]), (58, Note.loop [3, 4] [0]), (466, Note.keep [0, 3, 4]), (932, Note.plan (Plan.takeP 0 (Plan.takeP 1 (Plan.takeP 2 (Plan.takeP 3 (Plan.takeU 4 (Plan.takeP 5 (Plan.takeP 6 (Plan.takeP 7 (Plan.takeU 8 (Plan.takeP 9 (Plan.takeP 10 (Plan.takeP 11 (Plan.run 12 (Plan.run 13 (Plan.takeP 14 Plan.done))))))))))))))))]
def S11 (l_1 : Value) (k : Value → World → Prop) (w : World) : Prop :=
   Loop2 (fun out_3 i_4 w K_5 =>
   opW Tryz.prog (Builtin.len_ #[22] 3 #[l_1]) (fun t7_7 w =>
   opW Tryz.prog (binS BinOp.lss 3 (Operand.tmp 5) (Operand.tmp 7) i_4 t7_7) (fun t8_8 w =>
   guardW (some t8_8, true) (fun k w => k i_4 w) (fun t10_9 w =>
   guardW (some t8_8, true) (fun k w => opW Tryz.prog (binS BinOp.lss 3 (Operand.tmp 10) (Operand.const (Value.int IntKind.i64 6)) t10_9 (Value.int IntKind.i64 6)) k w) (fun t11_10 w =>
   pickW t8_8 t11_10 (Value.bool false) (fun t12_11 w =>
   condW t12_11
   (drewW w (fun w =>
   ∃ S : World → Prop, S w ∧
   takeW Tryz.prog anyW (Instr.indexAt 22 l_1 i_4) (fun t18_14 =>
   takeW Tryz.prog S (Instr.loadAt 9 t18_14) (fun t19_15 =>
   takeW Tryz.prog anyW (Instr.indexAt 22 l_1 i_4) (fun t22_16 =>
   takeW Tryz.prog S (Instr.loadAt 9 t22_16) (fun t23_17 =>
   takeW Tryz.prog anyW (Builtin.len_ #[9] 3 #[t23_17]) (fun t24_18 =>
   takeW Tryz.prog anyW (Builtin.min_ #[3, 3] 3 #[t24_18, (Value.int IntKind.i64 100)]) (fun t25_19 =>
   takeW Tryz.prog anyW (Instr.sliceAt 9 t19_15 none (some t25_19) none) (fun t26_20 =>
   opW Tryz.prog (Instr.buildSlice 22 1 #[(0, t26_20)]) (fun t27_21 w => keepS S (fun w =>
   opW Tryz.prog (Builtin.append_ #[22, 22] 22 #[out_3, t27_21]) (fun t28_22 w => keepS S (fun w =>
   opW Tryz.prog (binS BinOp.add 3 (Operand.tmp 13) (Operand.const (Value.int IntKind.i64 1)) i_4 (Value.int IntKind.i64 1)) (fun t14_23 w =>
   loopK [] [] [l_1] [l_1] (K_5 t28_22 t14_23 w)) w) w) w) w) w) w) w) w) w) w) w) w))
   (k out_3 w)) w) w) w) w) w) (Value.slice none 0 0) (Value.int IntKind.i64 0) w
theorem S11_vc (l_1 : Value) (k : Value → World → Prop) (w : World) : vc Tryz.prog Tryz.f11.ntmps ann11 none ((Tryz.f11.body).getD Code.skip) 1 (params 0 [l_1]) [] (finQ Tryz.prog Tryz.f11.results.toList k) w = S11 l_1 k w := by kernel_rfl
theorem S11_calls (l_1 : Value) (k : Value → World → Prop) (w : World) (h : S11 l_1 k w) : Calls Tryz.prog 11 #[l_1] w (retP k) :=
  calls_of_vc (fn := Tryz.f11) (c := (Tryz.f11.body).getD Code.skip) ann11 Tryz.func11 (by kernel_rfl) [l_1] w k (by kernel_rfl) ((S11_vc l_1 k w).symm ▸ h)
theorem C11 (l_1 : Value) (k : Value → World → Prop) (w : World) (h : S11 l_1 k w) : callW Tryz.prog (.func (.func 11) #[] #[]) #[l_1] k w :=
  callW_calls ok11 (by simpa using S11_calls l_1 k w h)

/-! (*newswire/disk.Disk).Write -/
def ann13 : Ann := [(62, Note.plan (Plan.takeP 0 (Plan.takeP 1 (Plan.takeP 2 (Plan.takeP 3 (Plan.takeU 4 (Plan.takeU 5 (Plan.run 6 (Plan.run 7 (Plan.takeP 8 (Plan.takeP 9 (Plan.run 10 Plan.done)))))))))))), (126, Note.plan (Plan.takeX 0 (Plan.takeP 1 (Plan.takeP 2 (Plan.takeP 3 (Plan.takeX 4 (Plan.run 5 Plan.done)))))))]
def S13 (d_1 off_2 s_3 : Value) (k : Value → World → Prop) (w : World) : Prop :=
   callW Tryz.prog (Value.func (Fn.func 46) #[] #[]) #[d_1] (fun t10_5 w =>
   opW Tryz.prog (binS BinOp.neq 33 (Operand.tmp 11) (Operand.const (Value.int IntKind.i64 0)) t10_5 (Value.int IntKind.i64 0)) (fun t12_6 w =>
   condW t12_6
   (k t10_5 w)
   (opW Tryz.prog (Builtin.len_ #[9] 3 #[s_3]) (fun t17_8 w =>
   callW Tryz.prog (Value.func (Fn.func 47) #[] #[]) #[d_1, off_2, t17_8] (fun t18_9 w =>
   opW Tryz.prog (Op.unary UnOp.not t18_9) (fun t19_10 w =>
   condW t19_10
   (k (Value.int IntKind.i64 330) w)
   (opW Tryz.prog (Instr.build 92 #[(0, off_2), (1, s_3)]) (fun t22_11 w =>
   opW Tryz.prog (Instr.alloc 92 true (Value.tuple #[])) (fun w_12 w =>
   opU Tryz.prog (Instr.storeAt 92 w_12 t22_11) (fun _ w =>
   drewW w (fun w =>
   ∃ S : World → Prop, S w ∧
   nilT d_1 (fun t25_14 =>
   takeW Tryz.prog anyW (Instr.fieldAt 97 t25_14 3) (fun t26_15 =>
   takeW Tryz.prog S (Instr.loadAt 93 t26_15) (fun t27_16 =>
   takeW Tryz.prog S (Instr.loadAt 92 w_12) (fun t28_17 =>
   opW Tryz.prog (Instr.buildSlice 93 1 #[(0, t28_17)]) (fun t29_18 w => keepS S (fun w =>
   opW Tryz.prog (Builtin.append_ #[93, 93] 93 #[t27_16, t29_18]) (fun t30_19 w => keepS S (fun w =>
   nilT d_1 (fun t31_20 =>
   takeW Tryz.prog anyW (Instr.fieldAt 97 t31_20 3) (fun t32_21 =>
   opU Tryz.prog (Instr.storeAt 93 t32_21 t30_19) (fun _ w =>
   drewW w (fun w =>
   takeW Tryz.prog (sameW w) (Instr.loadAt 92 w_12) (fun t33_23 =>
   nilT d_1 (fun t35_24 =>
   takeW Tryz.prog anyW (Instr.fieldAt 97 t35_24 2) (fun t36_25 =>
   takeW Tryz.prog (sameW w) (Instr.loadAt 39 t36_25) (fun t37_26 =>
   callW Tryz.prog (Value.func (Fn.func 48) #[] #[]) #[t33_23, t37_26] (fun t38_27 w =>
   nilW d_1 (fun t40_28 w =>
   opW Tryz.prog (Instr.fieldAt 97 t40_28 0) (fun t41_29 w =>
   callW Tryz.prog (Value.func (Fn.func 49) #[] #[]) #[t41_29] (fun t42_30 w =>
   k (Value.int IntKind.i64 0) w) w) w) w) w) w) w)) w)) w) w)) w) w) w) w) w) w) w))) w) w) w)) w) w) w)) w) w
theorem S13_vc (d_1 off_2 s_3 : Value) (k : Value → World → Prop) (w : World) : vc Tryz.prog Tryz.f13.ntmps ann13 none ((Tryz.f13.body).getD Code.skip) 1 (params 0 [d_1, off_2, s_3]) [] (finQ Tryz.prog Tryz.f13.results.toList k) w = S13 d_1 off_2 s_3 k w := by kernel_rfl
theorem S13_calls (d_1 off_2 s_3 : Value) (k : Value → World → Prop) (w : World) (h : S13 d_1 off_2 s_3 k w) : Calls Tryz.prog 13 #[d_1, off_2, s_3] w (retP k) :=
  calls_of_vc (fn := Tryz.f13) (c := (Tryz.f13.body).getD Code.skip) ann13 Tryz.func13 (by kernel_rfl) [d_1, off_2, s_3] w k (by kernel_rfl) ((S13_vc d_1 off_2 s_3 k w).symm ▸ h)
theorem C13 (d_1 off_2 s_3 : Value) (k : Value → World → Prop) (w : World) (h : S13 d_1 off_2 s_3 k w) : callW Tryz.prog (.func (.func 13) #[] #[]) #[d_1, off_2, s_3] k w :=
  callW_calls ok13 (by simpa using S13_calls d_1 off_2 s_3 k w h)

/-! newswire/newswirelaw34.pick -/
def ann14 : Ann := []
def S14 (c_1 n_2 : Value) (k : Value → World → Prop) (w : World) : Prop :=
   joinW (fun c_7 w =>
   opW Tryz.prog (binS BinOp.rem 3 (Operand.tmp 10) (Operand.tmp 11) c_7 n_2) (fun t12_8 w =>
   k t12_8 w) w) (fun J_3 =>
   opW Tryz.prog (binS BinOp.lss 3 (Operand.tmp 5) (Operand.const (Value.int IntKind.i64 0)) c_1 (Value.int IntKind.i64 0)) (fun t6_4 w =>
   condW t6_4
   (opW Tryz.prog (binS BinOp.add 3 (Operand.tmp 7) (Operand.const (Value.int IntKind.i64 1)) c_1 (Value.int IntKind.i64 1)) (fun t8_5 w =>
   opW Tryz.prog (Op.unary UnOp.neg t8_5) (fun t9_6 w =>
   J_3 t9_6 w) w) w)
   (J_3 c_1 w)) w)
theorem S14_vc (c_1 n_2 : Value) (k : Value → World → Prop) (w : World) : vc Tryz.prog Tryz.f14.ntmps ann14 none ((Tryz.f14.body).getD Code.skip) 1 (params 0 [c_1, n_2]) [] (finQ Tryz.prog Tryz.f14.results.toList k) w = S14 c_1 n_2 k w := by kernel_rfl
theorem S14_calls (c_1 n_2 : Value) (k : Value → World → Prop) (w : World) (h : S14 c_1 n_2 k w) : Calls Tryz.prog 14 #[c_1, n_2] w (retP k) :=
  calls_of_vc (fn := Tryz.f14) (c := (Tryz.f14.body).getD Code.skip) ann14 Tryz.func14 (by kernel_rfl) [c_1, n_2] w k (by kernel_rfl) ((S14_vc c_1 n_2 k w).symm ▸ h)
theorem C14 (c_1 n_2 : Value) (k : Value → World → Prop) (w : World) (h : S14 c_1 n_2 k w) : callW Tryz.prog (.func (.func 14) #[] #[]) #[c_1, n_2] k w :=
  callW_calls ok14 (by simpa using S14_calls c_1 n_2 k w h)

/-! newswire/newswirelaw34.same -/
def ann18 : Ann := [(29, Note.keep []), (58, Note.loop [5] [0, 1]), (466, Note.keep [0, 1, 5]), (1864, Note.plan (Plan.takeP 0 (Plan.takeP 1 (Plan.takeP 2 (Plan.takeX 3 (Plan.takeP 4 (Plan.takeP 5 (Plan.takeP 6 (Plan.takeX 7 (Plan.takeP 8 Plan.done))))))))))]
def S18 (a_1 b_2 : Value) (k : Value → World → Prop) (w : World) : Prop :=
   opW Tryz.prog (Builtin.len_ #[22] 3 #[a_1]) (fun t7_4 w =>
   opW Tryz.prog (Builtin.len_ #[22] 3 #[b_2]) (fun t9_5 w =>
   opW Tryz.prog (binS BinOp.neq 3 (Operand.tmp 7) (Operand.tmp 9) t7_4 t9_5) (fun t10_6 w =>
   condW t10_6
   (k (Value.bool false) w)
   (Loop1 (fun i_8 w K_9 =>
   opW Tryz.prog (Builtin.len_ #[22] 3 #[a_1]) (fun t13_11 w =>
   opW Tryz.prog (binS BinOp.lss 3 (Operand.tmp 11) (Operand.tmp 13) i_8 t13_11) (fun t14_12 w =>
   condW t14_12
   (drewW w (fun w =>
   takeW Tryz.prog anyW (Instr.indexAt 22 a_1 i_8) (fun t19_15 =>
   takeW Tryz.prog (sameW w) (Instr.loadAt 9 t19_15) (fun t20_16 =>
   takeW Tryz.prog anyW (Instr.indexAt 22 b_2 i_8) (fun t23_17 =>
   takeW Tryz.prog (sameW w) (Instr.loadAt 9 t23_17) (fun t24_18 =>
   takeW Tryz.prog anyW (binS BinOp.neq 9 (Operand.tmp 20) (Operand.tmp 24) t20_16 t24_18) (fun t25_19 =>
   condW t25_19
   (k (Value.bool false) w)
   (opW Tryz.prog (binS BinOp.add 3 (Operand.tmp 15) (Operand.const (Value.int IntKind.i64 1)) i_8 (Value.int IntKind.i64 1)) (fun t16_20 w =>
   loopK [] [] [a_1, b_2] [a_1, b_2] (K_9 t16_20 w)) w)) w) w) w) w) w))
   (k (Value.bool true) w)) w) w) (Value.int IntKind.i64 0) w)) w) w) w
theorem S18_vc (a_1 b_2 : Value) (k : Value → World → Prop) (w : World) : vc Tryz.prog Tryz.f18.ntmps ann18 none ((Tryz.f18.body).getD Code.skip) 1 (params 0 [a_1, b_2]) [] (finQ Tryz.prog Tryz.f18.results.toList k) w = S18 a_1 b_2 k w := by kernel_rfl
theorem S18_calls (a_1 b_2 : Value) (k : Value → World → Prop) (w : World) (h : S18 a_1 b_2 k w) : Calls Tryz.prog 18 #[a_1, b_2] w (retP k) :=
  calls_of_vc (fn := Tryz.f18) (c := (Tryz.f18.body).getD Code.skip) ann18 Tryz.func18 (by kernel_rfl) [a_1, b_2] w k (by kernel_rfl) ((S18_vc a_1 b_2 k w).symm ▸ h)
theorem C18 (a_1 b_2 : Value) (k : Value → World → Prop) (w : World) (h : S18 a_1 b_2 k w) : callW Tryz.prog (.func (.func 18) #[] #[]) #[a_1, b_2] k w :=
  callW_calls ok18 (by simpa using S18_calls a_1 b_2 k w h)

/-! (*newswire/journal.Journal).Records -/
def ann19 : Ann := []
def S19 (j_1 : Value) (k : Value → World → Prop) (w : World) : Prop :=
   opW Tryz.prog (binS BinOp.eql 28 (Operand.tmp 3) (Operand.const (Value.pointer none)) j_1 (Value.pointer none)) (fun t4_3 w =>
   condW t4_3
   (k (Value.slice none 0 0) w)
   (nilW j_1 (fun t6_4 w =>
   opW Tryz.prog (Instr.fieldAt 74 t6_4 0) (fun t7_5 w =>
   opW Tryz.prog (Instr.fieldAt 72 t7_5 0) (fun t8_6 w =>
   opW Tryz.prog (Instr.loadAt 22 t8_6) (fun t9_7 w =>
   callW Tryz.prog (Value.func (Fn.func 36) #[] #[]) #[t9_7] (fun t10_8 w =>
   k t10_8 w) w) w) w) w) w)) w
theorem S19_vc (j_1 : Value) (k : Value → World → Prop) (w : World) : vc Tryz.prog Tryz.f19.ntmps ann19 none ((Tryz.f19.body).getD Code.skip) 1 (params 0 [j_1]) [] (finQ Tryz.prog Tryz.f19.results.toList k) w = S19 j_1 k w := by kernel_rfl
theorem S19_calls (j_1 : Value) (k : Value → World → Prop) (w : World) (h : S19 j_1 k w) : Calls Tryz.prog 19 #[j_1] w (retP k) :=
  calls_of_vc (fn := Tryz.f19) (c := (Tryz.f19.body).getD Code.skip) ann19 Tryz.func19 (by kernel_rfl) [j_1] w k (by kernel_rfl) ((S19_vc j_1 k w).symm ▸ h)
theorem C19 (j_1 : Value) (k : Value → World → Prop) (w : World) (h : S19 j_1 k w) : callW Tryz.prog (.func (.func 19) #[] #[]) #[j_1] k w :=
  callW_calls ok19 (by simpa using S19_calls j_1 k w h)

/-! (*newswire/journal.Journal).Room -/
def ann20 : Ann := [(14, Note.plan (Plan.takeP 0 (Plan.takeP 1 (Plan.takeP 2 (Plan.takeX 3 (Plan.takeP 5 (Plan.takeP 6 (Plan.takeP 7 (Plan.takeP 8 (Plan.takeU 9 (Plan.run 4 (Plan.takeP 10 (Plan.takeP 11 Plan.done)))))))))))))]
def S20 (j_1 : Value) (k : Value → World → Prop) (w : World) : Prop :=
   opW Tryz.prog (binS BinOp.eql 28 (Operand.tmp 3) (Operand.const (Value.pointer none)) j_1 (Value.pointer none)) (fun t4_3 w =>
   condW t4_3
   (k (Value.int IntKind.i64 0) w)
   (drewW w (fun w =>
   ∃ S : World → Prop, S w ∧
   nilT j_1 (fun t6_5 =>
   takeW Tryz.prog anyW (Instr.fieldAt 74 t6_5 1) (fun t7_6 =>
   takeW Tryz.prog (sameW w) (Instr.loadAt 27 t7_6) (fun t8_7 =>
   nilT j_1 (fun t11_8 =>
   takeW Tryz.prog anyW (Instr.fieldAt 74 t11_8 0) (fun t12_9 =>
   takeW Tryz.prog anyW (Instr.fieldAt 72 t12_9 2) (fun t13_10 =>
   takeW Tryz.prog S (Instr.loadAt 3 t13_10) (fun t14_11 =>
   callW Tryz.prog (Value.func (Fn.func 51) #[] #[]) #[t8_7] (fun t9_12 w => keepS S (fun w =>
   takeW Tryz.prog anyW (binS BinOp.sub 3 (Operand.tmp 9) (Operand.tmp 14) t9_12 t14_11) (fun t15_13 =>
   k t15_13 w) w) w) w) w) w) w)) w) w)))) w
theorem S20_vc (j_1 : Value) (k : Value → World → Prop) (w : World) : vc Tryz.prog Tryz.f20.ntmps ann20 none ((Tryz.f20.body).getD Code.skip) 1 (params 0 [j_1]) [] (finQ Tryz.prog Tryz.f20.results.toList k) w = S20 j_1 k w := by kernel_rfl
theorem S20_calls (j_1 : Value) (k : Value → World → Prop) (w : World) (h : S20 j_1 k w) : Calls Tryz.prog 20 #[j_1] w (retP k) :=
  calls_of_vc (fn := Tryz.f20) (c := (Tryz.f20.body).getD Code.skip) ann20 Tryz.func20 (by kernel_rfl) [j_1] w k (by kernel_rfl) ((S20_vc j_1 k w).symm ▸ h)
theorem C20 (j_1 : Value) (k : Value → World → Prop) (w : World) (h : S20 j_1 k w) : callW Tryz.prog (.func (.func 20) #[] #[]) #[j_1] k w :=
  callW_calls ok20 (by simpa using S20_calls j_1 k w h)

/-! newswire/newswirelaw34.content -/
def ann22 : Ann := []
def S22 (d_1 : Value) (k : Value → World → Prop) (w : World) : Prop :=
   callW Tryz.prog (Value.func (Fn.func 51) #[] #[]) #[d_1] (fun t8_2 w =>
   callW Tryz.prog (Value.func (Fn.func 52) #[] #[]) #[d_1, (Value.int IntKind.i64 0), t8_2] (fun t9_3 w =>
   opW Tryz.prog (Instr.extract t9_3 0) (fun t10_4 w =>
   opW Tryz.prog (Instr.extract t9_3 1) (fun t11_5 w =>
   k t10_4 w) w) w) w) w
theorem S22_vc (d_1 : Value) (k : Value → World → Prop) (w : World) : vc Tryz.prog Tryz.f22.ntmps ann22 none ((Tryz.f22.body).getD Code.skip) 1 (params 0 [d_1]) [] (finQ Tryz.prog Tryz.f22.results.toList k) w = S22 d_1 k w := by kernel_rfl
theorem S22_calls (d_1 : Value) (k : Value → World → Prop) (w : World) (h : S22 d_1 k w) : Calls Tryz.prog 22 #[d_1] w (retP k) :=
  calls_of_vc (fn := Tryz.f22) (c := (Tryz.f22.body).getD Code.skip) ann22 Tryz.func22 (by kernel_rfl) [d_1] w k (by kernel_rfl) ((S22_vc d_1 k w).symm ▸ h)
theorem C22 (d_1 : Value) (k : Value → World → Prop) (w : World) (h : S22 d_1 k w) : callW Tryz.prog (.func (.func 22) #[] #[]) #[d_1] k w :=
  callW_calls ok22 (by simpa using S22_calls d_1 k w h)

/-! newswire/disk.New -/
def ann24 : Ann := [(14, Note.plan (Plan.takeP 0 (Plan.takeP 2 (Plan.alt (Plan.run 1 (Plan.run 3 (Plan.run 4 (Plan.run 5 (Plan.takeP 6 (Plan.takeP 7 Plan.done)))))) (Plan.run 3 (Plan.run 1 (Plan.run 4 (Plan.run 5 (Plan.takeP 6 (Plan.takeP 7 Plan.done))))))))))]
def S24 (size_1 : Value) (k : Value → World → Prop) (w : World) : Prop :=
   opW Tryz.prog (binS BinOp.lss 3 (Operand.tmp 4) (Operand.const (Value.int IntKind.i64 1)) size_1 (Value.int IntKind.i64 1)) (fun t5_3 w =>
   guardW (some t5_3, false) (fun k w => k size_1 w) (fun t7_4 w =>
   guardW (some t5_3, false) (fun k w => opW Tryz.prog (binS BinOp.gtr 3 (Operand.tmp 7) (Operand.const (Value.int IntKind.i64 4194304)) t7_4 (Value.int IntKind.i64 4194304)) k w) (fun t8_5 w =>
   pickW t5_3 (Value.bool true) t8_5 (fun t9_6 w =>
   condW t9_6
   (k (Value.tuple #[(Value.pointer none), (Value.int IntKind.i64 2)]) w)
   (joinW (fun t2_16 w =>
   k (Value.tuple #[t2_16, (Value.int IntKind.i64 0)]) w) (fun J_7 =>
   drewW w (fun w =>
   (opW Tryz.prog (Instr.makeSlice 39 size_1 size_1) (fun t11_8 w =>
   opW Tryz.prog (Instr.makeSlice 39 size_1 size_1) (fun t13_9 w =>
   opW Tryz.prog (Instr.build 97 #[(1, t11_8), (2, t13_9)]) (fun t14_10 w =>
   opW Tryz.prog (Instr.box 97 t14_10) (fun t15_11 w =>
   J_7 t15_11 w) w) w) w) w) ∧ (opW Tryz.prog (Instr.makeSlice 39 size_1 size_1) (fun t13_12 w =>
   opW Tryz.prog (Instr.makeSlice 39 size_1 size_1) (fun t11_13 w =>
   opW Tryz.prog (Instr.build 97 #[(1, t11_13), (2, t13_12)]) (fun t14_14 w =>
   opW Tryz.prog (Instr.box 97 t14_14) (fun t15_15 w =>
   J_7 t15_15 w) w) w) w) w))))) w) w) w) w
theorem S24_vc (size_1 : Value) (k : Value → World → Prop) (w : World) : vc Tryz.prog Tryz.f24.ntmps ann24 none ((Tryz.f24.body).getD Code.skip) 1 (params 0 [size_1]) [] (finQ Tryz.prog Tryz.f24.results.toList k) w = S24 size_1 k w := by kernel_rfl
theorem S24_calls (size_1 : Value) (k : Value → World → Prop) (w : World) (h : S24 size_1 k w) : Calls Tryz.prog 24 #[size_1] w (retP k) :=
  calls_of_vc (fn := Tryz.f24) (c := (Tryz.f24.body).getD Code.skip) ann24 Tryz.func24 (by kernel_rfl) [size_1] w k (by kernel_rfl) ((S24_vc size_1 k w).symm ▸ h)
theorem C24 (size_1 : Value) (k : Value → World → Prop) (w : World) (h : S24 size_1 k w) : callW Tryz.prog (.func (.func 24) #[] #[]) #[size_1] k w :=
  callW_calls ok24 (by simpa using S24_calls size_1 k w h)

/-! newswire/journal.Open -/
def ann25 : Ann := [(1018, Note.plan (Plan.takeP 0 (Plan.takeP 1 (Plan.takeP 2 (Plan.takeP 3 (Plan.takeP 4 (Plan.takeU 5 (Plan.takeP 6 (Plan.takeP 7 (Plan.takeP 8 (Plan.takeP 9 (Plan.takeP 10 (Plan.takeP 11 (Plan.takeU 12 (Plan.takeP 13 (Plan.takeP 17 (Plan.takeP 18 (Plan.run 14 (Plan.takeX 15 (Plan.run 16 (Plan.run 19 (Plan.run 20 (Plan.takeP 21 Plan.done)))))))))))))))))))))))]
def S25 (d_1 : Value) (k : Value → World → Prop) (w : World) : Prop :=
   opW Tryz.prog (binS BinOp.eql 27 (Operand.tmp 7) (Operand.const (Value.pointer none)) d_1 (Value.pointer none)) (fun t8_3 w =>
   condW t8_3
   (k (Value.tuple #[(Value.pointer none), (Value.int IntKind.i64 1)]) w)
   (callW Tryz.prog (Value.func (Fn.func 51) #[] #[]) #[d_1] (fun t12_4 w =>
   callW Tryz.prog (Value.func (Fn.func 52) #[] #[]) #[d_1, (Value.int IntKind.i64 0), t12_4] (fun t13_5 w =>
   opW Tryz.prog (Instr.extract t13_5 0) (fun t14_6 w =>
   opW Tryz.prog (Instr.extract t13_5 1) (fun t15_7 w =>
   opW Tryz.prog (binS BinOp.neq 33 (Operand.tmp 16) (Operand.const (Value.int IntKind.i64 0)) t15_7 (Value.int IntKind.i64 0)) (fun t17_9 w =>
   condW t17_9
   (k (Value.tuple #[(Value.pointer none), t15_7]) w)
   (callW Tryz.prog (Value.func (Fn.func 54) #[] #[]) #[d_1, t14_6] (fun t22_10 w =>
   opW Tryz.prog (Instr.extract t22_10 0) (fun t23_11 w =>
   opW Tryz.prog (Instr.extract t22_10 1) (fun t24_12 w =>
   opW Tryz.prog (binS BinOp.neq 33 (Operand.tmp 25) (Operand.const (Value.int IntKind.i64 0)) t24_12 (Value.int IntKind.i64 0)) (fun t26_14 w =>
   condW t26_14
   (k (Value.tuple #[(Value.pointer none), t24_12]) w)
   (joinW (fun e_40 w =>
   opW Tryz.prog (binS BinOp.neq 33 (Operand.tmp 58) (Operand.const (Value.int IntKind.i64 0)) e_40 (Value.int IntKind.i64 0)) (fun t59_42 w =>
   condW t59_42
   (k (Value.tuple #[(Value.pointer none), e_40]) w)
   (k (Value.tuple #[t23_11, (Value.int IntKind.i64 0)]) w)) w) (fun J_15 =>
   nilW t23_11 (fun t30_16 w =>
   opW Tryz.prog (Instr.fieldAt 74 t30_16 0) (fun t31_17 w =>
   opW Tryz.prog (Instr.fieldAt 72 t31_17 2) (fun t32_18 w =>
   opW Tryz.prog (Instr.loadAt 3 t32_18) (fun t33_19 w =>
   opW Tryz.prog (Instr.sliceAt 9 t14_6 (some t33_19) none none) (fun t34_20 w =>
   callW Tryz.prog (Value.func (Fn.func 55) #[] #[]) #[t34_20, (Value.string { data := #[0] })] (fun t35_21 w =>
   opW Tryz.prog (binS BinOp.neq 9 (Operand.tmp 35) (Operand.const (Value.string { data := #[] })) t35_21 (Value.string { data := #[] })) (fun t36_22 w =>
   condW t36_22
   (drewW w (fun w =>
   ∃ S : World → Prop, S w ∧
   nilT t23_11 (fun t39_24 =>
   takeW Tryz.prog anyW (Instr.fieldAt 74 t39_24 0) (fun t40_25 =>
   takeW Tryz.prog anyW (Instr.fieldAt 72 t40_25 2) (fun t41_26 =>
   takeW Tryz.prog S (Instr.loadAt 3 t41_26) (fun t42_27 =>
   takeW Tryz.prog anyW (Builtin.len_ #[9] 3 #[t14_6]) (fun t44_28 =>
   nilT t23_11 (fun t46_29 =>
   takeW Tryz.prog anyW (Instr.fieldAt 74 t46_29 0) (fun t47_30 =>
   takeW Tryz.prog anyW (Instr.fieldAt 72 t47_30 2) (fun t48_31 =>
   takeW Tryz.prog S (Instr.loadAt 3 t48_31) (fun t49_32 =>
   takeW Tryz.prog anyW (binS BinOp.sub 3 (Operand.tmp 44) (Operand.tmp 49) t44_28 t49_32) (fun t50_33 =>
   takeW Tryz.prog anyW (Instr.makeFunc (Fn.func 42) #[d_1] #[]) (fun t55_34 =>
   opW Tryz.prog (Instr.makeSlice 39 t50_33 t50_33) (fun t51_35 w => keepS S (fun w =>
   takeW Tryz.prog (sameW w) (convert 39 9 t51_35) (fun t52_36 =>
   callW Tryz.prog (Value.func (Fn.func 41) #[] #[]) #[t23_11, t42_27, t52_36] (fun t53_37 w => keepS S (fun w =>
   opW Tryz.prog (Instr.buildSlice 127 2 #[(0, t53_37), (1, t55_34)]) (fun t56_38 w => keepS S (fun w =>
   callW Tryz.prog (Value.func (Fn.func 40) #[] #[]) #[t56_38] (fun t57_39 w => keepS S (fun w =>
   J_15 t57_39 w) w) w) w) w) w) w) w) w) w) w) w) w) w) w)) w) w) w) w)))
   (J_15 t24_12 w)) w) w) w) w) w) w) w))) w) w) w) w)) w) w) w) w) w)) w
theorem S25_vc (d_1 : Value) (k : Value → World → Prop) (w : World) : vc Tryz.prog Tryz.f25.ntmps ann25 none ((Tryz.f25.body).getD Code.skip) 1 (params 0 [d_1]) [] (finQ Tryz.prog Tryz.f25.results.toList k) w = S25 d_1 k w := by kernel_rfl
theorem S25_calls (d_1 : Value) (k : Value → World → Prop) (w : World) (h : S25 d_1 k w) : Calls Tryz.prog 25 #[d_1] w (retP k) :=
  calls_of_vc (fn := Tryz.f25) (c := (Tryz.f25.body).getD Code.skip) ann25 Tryz.func25 (by kernel_rfl) [d_1] w k (by kernel_rfl) ((S25_vc d_1 k w).symm ▸ h)
theorem C25 (d_1 : Value) (k : Value → World → Prop) (w : World) (h : S25 d_1 k w) : callW Tryz.prog (.func (.func 25) #[] #[]) #[d_1] k w :=
  callW_calls ok25 (by simpa using S25_calls d_1 k w h)

/-! newswire/newswirelaw34.sized -/
def ann26 : Ann := [(13, Note.keep []), (26, Note.loop [1, 5] [0]), (210, Note.keep [0, 1, 5])]
def S26 (l_1 at_2 : Value) (k : Value → World → Prop) (w : World) : Prop :=
   Loop2 (fun at_4 i_5 w K_6 =>
   opW Tryz.prog (Builtin.len_ #[22] 3 #[l_1]) (fun t10_8 w =>
   opW Tryz.prog (binS BinOp.lss 3 (Operand.tmp 8) (Operand.tmp 10) i_5 t10_8) (fun t11_9 w =>
   condW t11_9
   (opW Tryz.prog (Instr.indexAt 22 l_1 i_5) (fun t17_11 w =>
   opW Tryz.prog (Instr.loadAt 9 t17_11) (fun t18_12 w =>
   opW Tryz.prog (Builtin.len_ #[9] 3 #[t18_12]) (fun t19_13 w =>
   callW Tryz.prog (Value.func (Fn.func 56) #[] #[]) #[t19_13] (fun t20_14 w =>
   opW Tryz.prog (Instr.extract t20_14 0) (fun t21_15 w =>
   opW Tryz.prog (Instr.extract t20_14 1) (fun t22_16 w =>
   opW Tryz.prog (binS BinOp.geq 3 (Operand.tmp 23) (Operand.const (Value.int IntKind.i64 1)) at_4 (Value.int IntKind.i64 1)) (fun t24_18 w =>
   guardW (some t24_18, true) (fun k w => k at_4 w) (fun t26_19 w =>
   guardW (some t24_18, true) (fun k w => k t21_15 w) (fun t27_20 w =>
   guardW (some t24_18, true) (fun k w => opW Tryz.prog (Builtin.len_ #[9] 3 #[t27_20]) k w) (fun t28_21 w =>
   guardW (some t24_18, true) (fun k w => opW Tryz.prog (binS BinOp.leq 3 (Operand.tmp 26) (Operand.tmp 28) t26_19 t28_21) k w) (fun t29_22 w =>
   pickW t24_18 t29_22 (Value.bool false) (fun t30_23 w =>
   condW t30_23
   (k (Value.bool true) w)
   (opW Tryz.prog (Builtin.len_ #[9] 3 #[t21_15]) (fun t33_24 w =>
   opW Tryz.prog (binS BinOp.add 3 (Operand.const (Value.int IntKind.i64 1)) (Operand.tmp 33) (Value.int IntKind.i64 1) t33_24) (fun t34_25 w =>
   opW Tryz.prog (Instr.indexAt 22 l_1 i_5) (fun t37_26 w =>
   opW Tryz.prog (Instr.loadAt 9 t37_26) (fun t38_27 w =>
   opW Tryz.prog (Builtin.len_ #[9] 3 #[t38_27]) (fun t39_28 w =>
   opW Tryz.prog (binS BinOp.add 3 (Operand.tmp 34) (Operand.tmp 39) t34_25 t39_28) (fun t40_29 w =>
   opW Tryz.prog (binS BinOp.add 3 (Operand.tmp 40) (Operand.const (Value.int IntKind.i64 32)) t40_29 (Value.int IntKind.i64 32)) (fun t41_30 w =>
   opW Tryz.prog (binS BinOp.sub 3 (Operand.tmp 31) (Operand.tmp 41) at_4 t41_30) (fun t42_31 w =>
   opW Tryz.prog (binS BinOp.add 3 (Operand.tmp 12) (Operand.const (Value.int IntKind.i64 1)) i_5 (Value.int IntKind.i64 1)) (fun t13_32 w =>
   loopK [] [] [l_1] [l_1] (K_6 t42_31 t13_32 w)) w) w) w) w) w) w) w) w) w)) w) w) w) w) w) w) w) w) w) w) w) w)
   (k (Value.bool false) w)) w) w) at_2 (Value.int IntKind.i64 0) w
theorem S26_vc (l_1 at_2 : Value) (k : Value → World → Prop) (w : World) : vc Tryz.prog Tryz.f26.ntmps ann26 none ((Tryz.f26.body).getD Code.skip) 1 (params 0 [l_1, at_2]) [] (finQ Tryz.prog Tryz.f26.results.toList k) w = S26 l_1 at_2 k w := by kernel_rfl
theorem S26_calls (l_1 at_2 : Value) (k : Value → World → Prop) (w : World) (h : S26 l_1 at_2 k w) : Calls Tryz.prog 26 #[l_1, at_2] w (retP k) :=
  calls_of_vc (fn := Tryz.f26) (c := (Tryz.f26.body).getD Code.skip) ann26 Tryz.func26 (by kernel_rfl) [l_1, at_2] w k (by kernel_rfl) ((S26_vc l_1 at_2 k w).symm ▸ h)
theorem C26 (l_1 at_2 : Value) (k : Value → World → Prop) (w : World) (h : S26 l_1 at_2 k w) : callW Tryz.prog (.func (.func 26) #[] #[]) #[l_1, at_2] k w :=
  callW_calls ok26 (by simpa using S26_calls l_1 at_2 k w h)

/-! newswire/newswirelaw34.heads -/
def ann27 : Ann := [(61, Note.keep [3]), (122, Note.loop [3, 4, 5] [0]), (978, Note.keep [0, 3, 4, 5])]
def S27 (l_1 : Value) (k : Value → World → Prop) (w : World) : Prop :=
   callW Tryz.prog (Value.func (Fn.func 43) #[] #[]) #[(Value.slice none 0 0)] (fun t6_2 w =>
   Loop3 (fun out_4 head_5 i_6 w K_7 =>
   opW Tryz.prog (Builtin.len_ #[22] 3 #[l_1]) (fun t9_9 w =>
   opW Tryz.prog (binS BinOp.lss 3 (Operand.tmp 7) (Operand.tmp 9) i_6 t9_9) (fun t10_10 w =>
   condW t10_10
   (opW Tryz.prog (binS BinOp.add 9 (Operand.const (Value.string { data := #[2] })) (Operand.tmp 14) (Value.string { data := #[2] }) head_5) (fun t15_12 w =>
   opW Tryz.prog (Instr.indexAt 22 l_1 i_6) (fun t18_13 w =>
   opW Tryz.prog (Instr.loadAt 9 t18_13) (fun t19_14 w =>
   opW Tryz.prog (binS BinOp.add 9 (Operand.tmp 15) (Operand.tmp 19) t15_12 t19_14) (fun t20_15 w =>
   opW Tryz.prog (Instr.buildSlice 22 1 #[(0, t20_15)]) (fun t21_16 w =>
   opW Tryz.prog (Builtin.append_ #[22, 22] 22 #[out_4, t21_16]) (fun t22_17 w =>
   opW Tryz.prog (Instr.indexAt 22 l_1 i_6) (fun t26_18 w =>
   opW Tryz.prog (Instr.loadAt 9 t26_18) (fun t27_19 w =>
   callW Tryz.prog (Value.func (Fn.func 57) #[] #[]) #[head_5, t27_19] (fun t28_20 w =>
   opW Tryz.prog (binS BinOp.add 3 (Operand.tmp 11) (Operand.const (Value.int IntKind.i64 1)) i_6 (Value.int IntKind.i64 1)) (fun t12_21 w =>
   loopK [] [] [l_1] [l_1] (K_7 t22_17 t28_20 t12_21 w)) w) w) w) w) w) w) w) w) w) w)
   (k out_4 w)) w) w) (Value.slice none 0 0) t6_2 (Value.int IntKind.i64 0) w) w
theorem S27_vc (l_1 : Value) (k : Value → World → Prop) (w : World) : vc Tryz.prog Tryz.f27.ntmps ann27 none ((Tryz.f27.body).getD Code.skip) 1 (params 0 [l_1]) [] (finQ Tryz.prog Tryz.f27.results.toList k) w = S27 l_1 k w := by kernel_rfl
theorem S27_calls (l_1 : Value) (k : Value → World → Prop) (w : World) (h : S27 l_1 k w) : Calls Tryz.prog 27 #[l_1] w (retP k) :=
  calls_of_vc (fn := Tryz.f27) (c := (Tryz.f27.body).getD Code.skip) ann27 Tryz.func27 (by kernel_rfl) [l_1] w k (by kernel_rfl) ((S27_vc l_1 k w).symm ▸ h)
theorem C27 (l_1 : Value) (k : Value → World → Prop) (w : World) (h : S27 l_1 k w) : callW Tryz.prog (.func (.func 27) #[] #[]) #[l_1] k w :=
  callW_calls ok27 (by simpa using S27_calls l_1 k w h)

/-! newswire/newswireref02.Sum -/
def ann28 : Ann := [(61, Note.keep [3]), (122, Note.loop [3, 5] [4]), (253, Note.keep [6]), (506, Note.loop [6, 7] [3]), (978, Note.keep [3, 4, 5]), (4050, Note.keep [3, 6, 7]), (8100, Note.plan (Plan.takeP 0 (Plan.takeP 1 (Plan.takeP 2 (Plan.takeP 3 (Plan.takeU 4 (Plan.takeP 5 (Plan.takeU 6 (Plan.takeP 7 (Plan.takeP 8 (Plan.takeP 9 (Plan.takeU 10 (Plan.takeP 11 (Plan.takeU 12 (Plan.takeP 13 (Plan.takeP 14 (Plan.takeP 15 (Plan.takeU 16 (Plan.takeP 17 (Plan.takeU 18 (Plan.takeP 19 (Plan.takeP 20 (Plan.takeP 21 (Plan.takeU 22 (Plan.takeU 23 (Plan.run 24 (Plan.run 25 (Plan.takeP 26 Plan.done))))))))))))))))))))))))))))]
def S28 (s_1 : Value) (k : Value → World → Prop) (w : World) : Prop :=
   opW Tryz.prog (Instr.buildSlice 110 8 #[(0, (Value.int IntKind.u32 1779033703)), (1, (Value.int IntKind.u32 3144134277)), (2, (Value.int IntKind.u32 1013904242)), (3, (Value.int IntKind.u32 2773480762)), (4, (Value.int IntKind.u32 1359893119)), (5, (Value.int IntKind.u32 2600822924)), (6, (Value.int IntKind.u32 528734635)), (7, (Value.int IntKind.u32 1541459225))]) (fun t8_2 w =>
   callW Tryz.prog (Value.func (Fn.func 58) #[] #[]) #[s_1] (fun t10_3 w =>
   Loop2 (fun h_5 i_6 w K_7 =>
   opW Tryz.prog (Builtin.len_ #[39] 3 #[t10_3]) (fun t13_9 w =>
   opW Tryz.prog (binS BinOp.lss 3 (Operand.tmp 11) (Operand.tmp 13) i_6 t13_9) (fun t14_10 w =>
   condW t14_10
   (opW Tryz.prog (binS BinOp.add 3 (Operand.tmp 20) (Operand.const (Value.int IntKind.i64 64)) i_6 (Value.int IntKind.i64 64)) (fun t21_12 w =>
   opW Tryz.prog (Instr.sliceAt 39 t10_3 (some i_6) (some t21_12) none) (fun t22_13 w =>
   callW Tryz.prog (Value.func (Fn.func 59) #[] #[]) #[h_5, t22_13] (fun t23_14 w =>
   opW Tryz.prog (binS BinOp.add 3 (Operand.tmp 15) (Operand.const (Value.int IntKind.i64 64)) i_6 (Value.int IntKind.i64 64)) (fun t16_15 w =>
   loopK [] [] [t10_3] [t10_3] (K_7 t23_14 t16_15 w)) w) w) w) w)
   (Loop2 (fun out_17 i_18 w K_19 =>
   opW Tryz.prog (binS BinOp.lss 3 (Operand.tmp 24) (Operand.const (Value.int IntKind.i64 8)) i_18 (Value.int IntKind.i64 8)) (fun t25_21 w =>
   condW t25_21
   (drewW w (fun w =>
   ∃ S : World → Prop, S w ∧
   takeW Tryz.prog anyW (Instr.indexAt 110 h_5 i_18) (fun t31_24 =>
   takeW Tryz.prog S (Instr.loadAt 109 t31_24) (fun t32_25 =>
   takeW Tryz.prog anyW (binS BinOp.shr 109 (Operand.tmp 32) (Operand.const (Value.int IntKind.u64 24)) t32_25 (Value.int IntKind.u64 24)) (fun t33_26 =>
   takeW Tryz.prog S (convert 109 5 t33_26) (fun t34_27 =>
   takeW Tryz.prog anyW (Instr.indexAt 110 h_5 i_18) (fun t37_28 =>
   takeW Tryz.prog S (Instr.loadAt 109 t37_28) (fun t38_29 =>
   takeW Tryz.prog anyW (binS BinOp.shr 109 (Operand.tmp 38) (Operand.const (Value.int IntKind.u64 16)) t38_29 (Value.int IntKind.u64 16)) (fun t39_30 =>
   takeW Tryz.prog S (convert 109 5 t39_30) (fun t40_31 =>
   takeW Tryz.prog anyW (Instr.indexAt 110 h_5 i_18) (fun t43_32 =>
   takeW Tryz.prog S (Instr.loadAt 109 t43_32) (fun t44_33 =>
   takeW Tryz.prog anyW (binS BinOp.shr 109 (Operand.tmp 44) (Operand.const (Value.int IntKind.u64 8)) t44_33 (Value.int IntKind.u64 8)) (fun t45_34 =>
   takeW Tryz.prog S (convert 109 5 t45_34) (fun t46_35 =>
   takeW Tryz.prog anyW (Instr.indexAt 110 h_5 i_18) (fun t49_36 =>
   takeW Tryz.prog S (Instr.loadAt 109 t49_36) (fun t50_37 =>
   takeW Tryz.prog S (convert 109 5 t50_37) (fun t51_38 =>
   opW Tryz.prog (Instr.buildSlice 39 4 #[(0, t34_27), (1, t40_31), (2, t46_35), (3, t51_38)]) (fun t52_39 w => keepS S (fun w =>
   opW Tryz.prog (Builtin.append_ #[39, 39] 39 #[out_17, t52_39]) (fun t53_40 w => keepS S (fun w =>
   opW Tryz.prog (binS BinOp.add 3 (Operand.tmp 26) (Operand.const (Value.int IntKind.i64 1)) i_18 (Value.int IntKind.i64 1)) (fun t27_41 w =>
   loopK [] [] [h_5] [h_5] (K_19 t53_40 t27_41 w)) w) w) w) w) w) w) w) w) w) w) w) w) w) w) w) w) w) w) w) w))
   (opW Tryz.prog (convert 39 9 out_17) (fun t55_42 w =>
   k t55_42 w) w)) w) (Value.slice none 0 0) (Value.int IntKind.i64 0) w)) w) w) t8_2 (Value.int IntKind.i64 0) w) w) w
theorem S28_vc (s_1 : Value) (k : Value → World → Prop) (w : World) : vc Tryz.prog Tryz.f28.ntmps ann28 none ((Tryz.f28.body).getD Code.skip) 1 (params 0 [s_1]) [] (finQ Tryz.prog Tryz.f28.results.toList k) w = S28 s_1 k w := by kernel_rfl
theorem S28_calls (s_1 : Value) (k : Value → World → Prop) (w : World) (h : S28 s_1 k w) : Calls Tryz.prog 28 #[s_1] w (retP k) :=
  calls_of_vc (fn := Tryz.f28) (c := (Tryz.f28.body).getD Code.skip) ann28 Tryz.func28 (by kernel_rfl) [s_1] w k (by kernel_rfl) ((S28_vc s_1 k w).symm ▸ h)
theorem C28 (s_1 : Value) (k : Value → World → Prop) (w : World) (h : S28 s_1 k w) : callW Tryz.prog (.func (.func 28) #[] #[]) #[s_1] k w :=
  callW_calls ok28 (by simpa using S28_calls s_1 k w h)

/-! (*newswire/journal.Journal).Append$1 -/
def ann34 : Ann := []
def S34 (s_1 : Value) (k : Value → World → Prop) (w : World) : Prop :=
   opW Tryz.prog (Builtin.len_ #[9] 3 #[s_1]) (fun t4_2 w =>
   opW Tryz.prog (binS BinOp.gtr 3 (Operand.tmp 4) (Operand.const (Value.int IntKind.i64 65536)) t4_2 (Value.int IntKind.i64 65536)) (fun t5_3 w =>
   k t5_3 w) w) w
theorem S34_vc (s_1 : Value) (k : Value → World → Prop) (w : World) : vc Tryz.prog Tryz.f34.ntmps ann34 none ((Tryz.f34.body).getD Code.skip) 1 (params 0 [s_1]) [] (finQ Tryz.prog Tryz.f34.results.toList k) w = S34 s_1 k w := by kernel_rfl
theorem S34_calls (s_1 : Value) (k : Value → World → Prop) (w : World) (h : S34 s_1 k w) : Calls Tryz.prog 34 #[s_1] w (retP k) :=
  calls_of_vc (fn := Tryz.f34) (c := (Tryz.f34.body).getD Code.skip) ann34 Tryz.func34 (by kernel_rfl) [s_1] w k (by kernel_rfl) ((S34_vc s_1 k w).symm ▸ h)
theorem C34 (s_1 : Value) (k : Value → World → Prop) (w : World) (h : S34 s_1 k w) : callW Tryz.prog (.func (.func 34) #[] #[]) #[s_1] k w :=
  callW_calls ok34 (by simpa using S34_calls s_1 k w h)

/-! slices.ContainsFunc[[]string,string] -/
def ann35 : Ann := []
def S35 (s_1 f_2 : Value) (k : Value → World → Prop) (w : World) : Prop :=
   callW Tryz.prog (Value.func (Fn.func 68) #[] #[]) #[s_1, f_2] (fun t7_3 w =>
   opW Tryz.prog (binS BinOp.geq 3 (Operand.tmp 7) (Operand.const (Value.int IntKind.i64 0)) t7_3 (Value.int IntKind.i64 0)) (fun t8_4 w =>
   k t8_4 w) w) w
theorem S35_vc (s_1 f_2 : Value) (k : Value → World → Prop) (w : World) : vc Tryz.prog Tryz.f35.ntmps ann35 none ((Tryz.f35.body).getD Code.skip) 1 (params 0 [s_1, f_2]) [] (finQ Tryz.prog Tryz.f35.results.toList k) w = S35 s_1 f_2 k w := by kernel_rfl
theorem S35_calls (s_1 f_2 : Value) (k : Value → World → Prop) (w : World) (h : S35 s_1 f_2 k w) : Calls Tryz.prog 35 #[s_1, f_2] w (retP k) :=
  calls_of_vc (fn := Tryz.f35) (c := (Tryz.f35.body).getD Code.skip) ann35 Tryz.func35 (by kernel_rfl) [s_1, f_2] w k (by kernel_rfl) ((S35_vc s_1 f_2 k w).symm ▸ h)
theorem C35 (s_1 f_2 : Value) (k : Value → World → Prop) (w : World) (h : S35 s_1 f_2 k w) : callW Tryz.prog (.func (.func 35) #[] #[]) #[s_1, f_2] k w :=
  callW_calls ok35 (by simpa using S35_calls s_1 f_2 k w h)

/-! (*newswire/journal.tape).add -/
def ann38 : Ann := [(62, Note.plan (Plan.takeP 2 (Plan.takeP 4 (Plan.takeP 5 (Plan.takeP 6 (Plan.takeU 7 (Plan.run 0 (Plan.takeX 1 (Plan.takeP 3 (Plan.takeP 8 (Plan.takeP 9 Plan.done)))))))))))]
def S38 (t_1 record_2 : Value) (k : Value → World → Prop) (w : World) : Prop :=
   nilW t_1 (fun t10_3 w =>
   opW Tryz.prog (Instr.fieldAt 72 t10_3 1) (fun t11_4 w =>
   opW Tryz.prog (Instr.loadAt 9 t11_4) (fun t12_5 w =>
   callW Tryz.prog (Value.func (Fn.func 70) #[] #[]) #[t12_5, record_2] (fun t14_6 w =>
   nilW t_1 (fun t15_7 w =>
   opW Tryz.prog (Instr.fieldAt 72 t15_7 1) (fun t16_8 w =>
   opU Tryz.prog (Instr.storeAt 9 t16_8 t14_6) (fun _ w =>
   nilW t_1 (fun t19_9 w =>
   opW Tryz.prog (Instr.fieldAt 72 t19_9 0) (fun t20_10 w =>
   opW Tryz.prog (Instr.loadAt 22 t20_10) (fun t21_11 w =>
   opW Tryz.prog (Instr.buildSlice 22 1 #[(0, record_2)]) (fun t23_12 w =>
   opW Tryz.prog (Builtin.append_ #[22, 22] 22 #[t21_11, t23_12]) (fun t24_13 w =>
   nilW t_1 (fun t25_14 w =>
   opW Tryz.prog (Instr.fieldAt 72 t25_14 0) (fun t26_15 w =>
   opU Tryz.prog (Instr.storeAt 22 t26_15 t24_13) (fun _ w =>
   callW Tryz.prog (Value.func (Fn.func 71) #[] #[]) #[record_2] (fun t29_16 w =>
   opW Tryz.prog (Instr.extract t29_16 0) (fun t30_17 w =>
   opW Tryz.prog (Instr.extract t29_16 1) (fun t31_18 w =>
   drewW w (fun w =>
   ∃ S : World → Prop, S w ∧
   nilT t_1 (fun t37_20 =>
   takeW Tryz.prog anyW (Instr.fieldAt 72 t37_20 1) (fun t38_21 =>
   takeW Tryz.prog S (Instr.loadAt 9 t38_21) (fun t39_22 =>
   opW Tryz.prog (Instr.buildSlice 39 1 #[(0, (Value.int IntKind.u8 1))]) (fun t32_23 w => keepS S (fun w =>
   takeW Tryz.prog (sameW w) (convert 39 9 t32_23) (fun t33_24 =>
   takeW Tryz.prog anyW (binS BinOp.add 9 (Operand.tmp 33) (Operand.tmp 34) t33_24 t30_17) (fun t35_25 =>
   takeW Tryz.prog anyW (binS BinOp.add 9 (Operand.tmp 35) (Operand.tmp 39) t35_25 t39_22) (fun t40_26 =>
   nilW t_1 (fun t42_27 w =>
   opW Tryz.prog (Instr.fieldAt 72 t42_27 2) (fun t43_28 w =>
   opW Tryz.prog (Instr.loadAt 3 t43_28) (fun t44_29 w =>
   opW Tryz.prog (Builtin.len_ #[9] 3 #[t40_26]) (fun t46_30 w =>
   opW Tryz.prog (binS BinOp.add 3 (Operand.tmp 44) (Operand.tmp 46) t44_29 t46_30) (fun t47_31 w =>
   nilW t_1 (fun t48_32 w =>
   opW Tryz.prog (Instr.fieldAt 72 t48_32 2) (fun t49_33 w =>
   opU Tryz.prog (Instr.storeAt 3 t49_33 t47_31) (fun _ w =>
   k t40_26 w) w) w) w) w) w) w) w) w) w) w) w) w) w) w) w))) w) w) w) w) w) w) w) w) w) w) w) w) w) w) w) w) w) w
theorem S38_vc (t_1 record_2 : Value) (k : Value → World → Prop) (w : World) : vc Tryz.prog Tryz.f38.ntmps ann38 none ((Tryz.f38.body).getD Code.skip) 1 (params 0 [t_1, record_2]) [] (finQ Tryz.prog Tryz.f38.results.toList k) w = S38 t_1 record_2 k w := by kernel_rfl
theorem S38_calls (t_1 record_2 : Value) (k : Value → World → Prop) (w : World) (h : S38 t_1 record_2 k w) : Calls Tryz.prog 38 #[t_1, record_2] w (retP k) :=
  calls_of_vc (fn := Tryz.f38) (c := (Tryz.f38.body).getD Code.skip) ann38 Tryz.func38 (by kernel_rfl) [t_1, record_2] w k (by kernel_rfl) ((S38_vc t_1 record_2 k w).symm ▸ h)
theorem C38 (t_1 record_2 : Value) (k : Value → World → Prop) (w : World) (h : S38 t_1 record_2 k w) : callW Tryz.prog (.func (.func 38) #[] #[]) #[t_1, record_2] k w :=
  callW_calls ok38 (by simpa using S38_calls t_1 record_2 k w h)

-- NOT PRINTED 39 (*strings.Builder).String: an operation that is not taken in: Op.call('builtin', ['Builtin.unsafeString'])
/-! newswire/journal.first -/
def ann40 : Ann := [(13, Note.keep []), (26, Note.loop [8] [6, 7]), (422, Note.keep [6, 7, 8])]
def S40 (calls_1 : Value) (k : Value → World → Prop) (w : World) : Prop :=
   opW Tryz.prog (Builtin.len_ #[127] 3 #[calls_1]) (fun t7_2 w =>
   Loop1 (fun t8_4 w K_5 =>
   opW Tryz.prog (binS BinOp.lss 3 (Operand.tmp 8) (Operand.tmp 7) t8_4 t7_2) (fun t9_6 w =>
   condW t9_6
   (opW Tryz.prog (Instr.indexAt 127 calls_1 t8_4) (fun t10_9 w =>
   opW Tryz.prog (Instr.loadAt 85 t10_9) (fun t11_10 w =>
   callW Tryz.prog t11_10 #[] (fun t13_11 w =>
   opW Tryz.prog (binS BinOp.neq 33 (Operand.tmp 14) (Operand.const (Value.int IntKind.i64 0)) t13_11 (Value.int IntKind.i64 0)) (fun t15_12 w =>
   condW t15_12
   (k t13_11 w)
   (opW Tryz.prog (binS BinOp.add 3 (Operand.tmp 8) (Operand.const (Value.int IntKind.i64 1)) t8_4 (Value.int IntKind.i64 1)) (fun t17_13 w =>
   loopK [] [] [calls_1, t7_2] [calls_1, t7_2] (K_5 t17_13 w)) w)) w) w) w) w)
   (k (Value.int IntKind.i64 0) w)) w) (Value.int IntKind.i64 0) w) w
theorem S40_vc (calls_1 : Value) (k : Value → World → Prop) (w : World) : vc Tryz.prog Tryz.f40.ntmps ann40 none ((Tryz.f40.body).getD Code.skip) 1 (params 0 [calls_1]) [] (finQ Tryz.prog Tryz.f40.results.toList k) w = S40 calls_1 k w := by kernel_rfl
theorem S40_calls (calls_1 : Value) (k : Value → World → Prop) (w : World) (h : S40 calls_1 k w) : Calls Tryz.prog 40 #[calls_1] w (retP k) :=
  calls_of_vc (fn := Tryz.f40) (c := (Tryz.f40.body).getD Code.skip) ann40 Tryz.func40 (by kernel_rfl) [calls_1] w k (by kernel_rfl) ((S40_vc calls_1 k w).symm ▸ h)
theorem C40 (calls_1 : Value) (k : Value → World → Prop) (w : World) (h : S40 calls_1 k w) : callW Tryz.prog (.func (.func 40) #[] #[]) #[calls_1] k w :=
  callW_calls ok40 (by simpa using S40_calls calls_1 k w h)

/-! (*newswire/journal.Journal).writing -/
def ann41 : Ann := []
def S41 (j_1 at_2 s_3 : Value) (k : Value → World → Prop) (w : World) : Prop :=
   opW Tryz.prog (Instr.box 28 j_1) (fun j_4 w =>
   opW Tryz.prog (Instr.box 3 at_2) (fun at_5 w =>
   opW Tryz.prog (Instr.box 9 s_3) (fun s_6 w =>
   opW Tryz.prog (Instr.makeFunc (Fn.func 72) #[] #[j_4, at_5, s_6]) (fun t7_7 w =>
   k t7_7 w) w) w) w) w
theorem S41_vc (j_1 at_2 s_3 : Value) (k : Value → World → Prop) (w : World) : vc Tryz.prog Tryz.f41.ntmps ann41 none ((Tryz.f41.body).getD Code.skip) 1 (params 0 [j_1, at_2, s_3]) [] (finQ Tryz.prog Tryz.f41.results.toList k) w = S41 j_1 at_2 s_3 k w := by kernel_rfl
theorem S41_calls (j_1 at_2 s_3 : Value) (k : Value → World → Prop) (w : World) (h : S41 j_1 at_2 s_3 k w) : Calls Tryz.prog 41 #[j_1, at_2, s_3] w (retP k) :=
  calls_of_vc (fn := Tryz.f41) (c := (Tryz.f41.body).getD Code.skip) ann41 Tryz.func41 (by kernel_rfl) [j_1, at_2, s_3] w k (by kernel_rfl) ((S41_vc j_1 at_2 s_3 k w).symm ▸ h)
theorem C41 (j_1 at_2 s_3 : Value) (k : Value → World → Prop) (w : World) (h : S41 j_1 at_2 s_3 k w) : callW Tryz.prog (.func (.func 41) #[] #[]) #[j_1, at_2, s_3] k w :=
  callW_calls ok41 (by simpa using S41_calls j_1 at_2 s_3 k w h)

/-! (*newswire/disk.Disk).Sync -/
def ann42 : Ann := [(58, Note.plan (Plan.takeP 0 (Plan.takeP 1 (Plan.takeP 2 (Plan.takeP 3 (Plan.takeX 4 (Plan.takeP 5 (Plan.takeP 6 (Plan.takeP 7 (Plan.takeX 8 (Plan.run 9 Plan.done)))))))))))]
def S42 (d_1 : Value) (k : Value → World → Prop) (w : World) : Prop :=
   callW Tryz.prog (Value.func (Fn.func 46) #[] #[]) #[d_1] (fun t5_2 w =>
   joinW (fun w =>
   k t5_2 w) (fun J_3 =>
   opW Tryz.prog (binS BinOp.eql 33 (Operand.tmp 6) (Operand.const (Value.int IntKind.i64 0)) t5_2 (Value.int IntKind.i64 0)) (fun t7_4 w =>
   condW t7_4
   (drewW w (fun w =>
   nilT d_1 (fun t10_6 =>
   takeW Tryz.prog anyW (Instr.fieldAt 97 t10_6 2) (fun t11_7 =>
   takeW Tryz.prog (sameW w) (Instr.loadAt 39 t11_7) (fun t12_8 =>
   nilT d_1 (fun t14_9 =>
   takeW Tryz.prog anyW (Instr.fieldAt 97 t14_9 1) (fun t15_10 =>
   takeW Tryz.prog (sameW w) (Instr.loadAt 39 t15_10) (fun t16_11 =>
   callW Tryz.prog (Value.func (Fn.func 65) #[] #[]) #[d_1, t12_8, t16_11] (fun t17_12 w =>
   J_3 w) w) w) w)) w) w)))
   (J_3 w)) w)) w
theorem S42_vc (d_1 : Value) (k : Value → World → Prop) (w : World) : vc Tryz.prog Tryz.f42.ntmps ann42 none ((Tryz.f42.body).getD Code.skip) 1 (params 0 [d_1]) [] (finQ Tryz.prog Tryz.f42.results.toList k) w = S42 d_1 k w := by kernel_rfl
theorem S42_calls (d_1 : Value) (k : Value → World → Prop) (w : World) (h : S42 d_1 k w) : Calls Tryz.prog 42 #[d_1] w (retP k) :=
  calls_of_vc (fn := Tryz.f42) (c := (Tryz.f42.body).getD Code.skip) ann42 Tryz.func42 (by kernel_rfl) [d_1] w k (by kernel_rfl) ((S42_vc d_1 k w).symm ▸ h)
theorem C42 (d_1 : Value) (k : Value → World → Prop) (w : World) (h : S42 d_1 k w) : callW Tryz.prog (.func (.func 42) #[] #[]) #[d_1] k w :=
  callW_calls ok42 (by simpa using S42_calls d_1 k w h)

/-! newswire/newswireref02.Head -/
def ann43 : Ann := [(29, Note.keep [3]), (58, Note.loop [3, 4] [0]), (466, Note.keep [0, 3, 4])]
def S43 (l_1 : Value) (k : Value → World → Prop) (w : World) : Prop :=
   opW Tryz.prog (Instr.makeSlice 39 (Value.int IntKind.i64 32) (Value.int IntKind.i64 32)) (fun t5_2 w =>
   opW Tryz.prog (convert 39 9 t5_2) (fun t6_3 w =>
   Loop2 (fun h_5 i_6 w K_7 =>
   opW Tryz.prog (Builtin.len_ #[22] 3 #[l_1]) (fun t9_9 w =>
   opW Tryz.prog (binS BinOp.lss 3 (Operand.tmp 7) (Operand.tmp 9) i_6 t9_9) (fun t10_10 w =>
   condW t10_10
   (opW Tryz.prog (Instr.indexAt 22 l_1 i_6) (fun t16_12 w =>
   opW Tryz.prog (Instr.loadAt 9 t16_12) (fun t17_13 w =>
   callW Tryz.prog (Value.func (Fn.func 57) #[] #[]) #[h_5, t17_13] (fun t18_14 w =>
   opW Tryz.prog (binS BinOp.add 3 (Operand.tmp 11) (Operand.const (Value.int IntKind.i64 1)) i_6 (Value.int IntKind.i64 1)) (fun t12_15 w =>
   loopK [] [] [l_1] [l_1] (K_7 t18_14 t12_15 w)) w) w) w) w)
   (k h_5 w)) w) w) t6_3 (Value.int IntKind.i64 0) w) w) w
theorem S43_vc (l_1 : Value) (k : Value → World → Prop) (w : World) : vc Tryz.prog Tryz.f43.ntmps ann43 none ((Tryz.f43.body).getD Code.skip) 1 (params 0 [l_1]) [] (finQ Tryz.prog Tryz.f43.results.toList k) w = S43 l_1 k w := by kernel_rfl
theorem S43_calls (l_1 : Value) (k : Value → World → Prop) (w : World) (h : S43 l_1 k w) : Calls Tryz.prog 43 #[l_1] w (retP k) :=
  calls_of_vc (fn := Tryz.f43) (c := (Tryz.f43.body).getD Code.skip) ann43 Tryz.func43 (by kernel_rfl) [l_1] w k (by kernel_rfl) ((S43_vc l_1 k w).symm ▸ h)
theorem C43 (l_1 : Value) (k : Value → World → Prop) (w : World) (h : S43 l_1 k w) : callW Tryz.prog (.func (.func 43) #[] #[]) #[l_1] k w :=
  callW_calls ok43 (by simpa using S43_calls l_1 k w h)

/-! (*newswire/disk.Disk).check -/
def ann46 : Ann := [(6, Note.keep [])]
def S46 (d_1 : Value) (k : Value → World → Prop) (w : World) : Prop :=
   opW Tryz.prog (binS BinOp.eql 27 (Operand.tmp 4) (Operand.const (Value.pointer none)) d_1 (Value.pointer none)) (fun t5_3 w =>
   condW t5_3
   (k (Value.int IntKind.i64 1) w)
   (nilW d_1 (fun t8_4 w =>
   opW Tryz.prog (Instr.fieldAt 97 t8_4 0) (fun t9_5 w =>
   opW Tryz.prog (Instr.fieldAt 95 t9_5 0) (fun t10_6 w =>
   opW Tryz.prog (Instr.loadAt 4 t10_6) (fun t11_7 w =>
   condW t11_7
   (k (Value.int IntKind.i64 331) w)
   (k (Value.int IntKind.i64 0) w)) w) w) w) w)) w
theorem S46_vc (d_1 : Value) (k : Value → World → Prop) (w : World) : vc Tryz.prog Tryz.f46.ntmps ann46 none ((Tryz.f46.body).getD Code.skip) 1 (params 0 [d_1]) [] (finQ Tryz.prog Tryz.f46.results.toList k) w = S46 d_1 k w := by kernel_rfl
theorem S46_calls (d_1 : Value) (k : Value → World → Prop) (w : World) (h : S46 d_1 k w) : Calls Tryz.prog 46 #[d_1] w (retP k) :=
  calls_of_vc (fn := Tryz.f46) (c := (Tryz.f46.body).getD Code.skip) ann46 Tryz.func46 (by kernel_rfl) [d_1] w k (by kernel_rfl) ((S46_vc d_1 k w).symm ▸ h)
theorem C46 (d_1 : Value) (k : Value → World → Prop) (w : World) (h : S46 d_1 k w) : callW Tryz.prog (.func (.func 46) #[] #[]) #[d_1] k w :=
  callW_calls ok46 (by simpa using S46_calls d_1 k w h)

/-! (*newswire/disk.Disk).inside -/
def ann47 : Ann := []
def S47 (d_1 off_2 n_3 : Value) (k : Value → World → Prop) (w : World) : Prop :=
   opW Tryz.prog (binS BinOp.geq 3 (Operand.tmp 7) (Operand.const (Value.int IntKind.i64 0)) off_2 (Value.int IntKind.i64 0)) (fun t8_4 w =>
   guardW (some t8_4, true) (fun k w => k n_3 w) (fun t10_5 w =>
   guardW (some t8_4, true) (fun k w => opW Tryz.prog (binS BinOp.geq 3 (Operand.tmp 10) (Operand.const (Value.int IntKind.i64 0)) t10_5 (Value.int IntKind.i64 0)) k w) (fun t11_6 w =>
   pickW t8_4 t11_6 (Value.bool false) (fun t12_7 w =>
   guardW (some t12_7, true) (fun k w => k off_2 w) (fun t14_8 w =>
   guardW (some t12_7, true) (fun k w => k d_1 w) (fun t15_9 w =>
   guardW (some t12_7, true) (fun k w => nilW t15_9 k w) (fun t16_10 w =>
   guardW (some t12_7, true) (fun k w => opW Tryz.prog (Instr.fieldAt 97 t16_10 1) k w) (fun t17_11 w =>
   guardW (some t12_7, true) (fun k w => opW Tryz.prog (Instr.loadAt 39 t17_11) k w) (fun t18_12 w =>
   guardW (some t12_7, true) (fun k w => opW Tryz.prog (Builtin.len_ #[39] 3 #[t18_12]) k w) (fun t19_13 w =>
   guardW (some t12_7, true) (fun k w => opW Tryz.prog (binS BinOp.leq 3 (Operand.tmp 14) (Operand.tmp 19) t14_8 t19_13) k w) (fun t20_14 w =>
   pickW t12_7 t20_14 (Value.bool false) (fun t21_15 w =>
   guardW (some t21_15, true) (fun k w => k n_3 w) (fun t23_16 w =>
   guardW (some t21_15, true) (fun k w => k d_1 w) (fun t24_17 w =>
   guardW (some t21_15, true) (fun k w => nilW t24_17 k w) (fun t25_18 w =>
   guardW (some t21_15, true) (fun k w => opW Tryz.prog (Instr.fieldAt 97 t25_18 1) k w) (fun t26_19 w =>
   guardW (some t21_15, true) (fun k w => opW Tryz.prog (Instr.loadAt 39 t26_19) k w) (fun t27_20 w =>
   guardW (some t21_15, true) (fun k w => opW Tryz.prog (Builtin.len_ #[39] 3 #[t27_20]) k w) (fun t28_21 w =>
   guardW (some t21_15, true) (fun k w => k off_2 w) (fun t29_22 w =>
   guardW (some t21_15, true) (fun k w => opW Tryz.prog (binS BinOp.sub 3 (Operand.tmp 28) (Operand.tmp 29) t28_21 t29_22) k w) (fun t30_23 w =>
   guardW (some t21_15, true) (fun k w => opW Tryz.prog (binS BinOp.leq 3 (Operand.tmp 23) (Operand.tmp 30) t23_16 t30_23) k w) (fun t31_24 w =>
   pickW t21_15 t31_24 (Value.bool false) (fun t32_25 w =>
   k t32_25 w) w) w) w) w) w) w) w) w) w) w) w) w) w) w) w) w) w) w) w) w) w) w
theorem S47_vc (d_1 off_2 n_3 : Value) (k : Value → World → Prop) (w : World) : vc Tryz.prog Tryz.f47.ntmps ann47 none ((Tryz.f47.body).getD Code.skip) 1 (params 0 [d_1, off_2, n_3]) [] (finQ Tryz.prog Tryz.f47.results.toList k) w = S47 d_1 off_2 n_3 k w := by kernel_rfl
theorem S47_calls (d_1 off_2 n_3 : Value) (k : Value → World → Prop) (w : World) (h : S47 d_1 off_2 n_3 k w) : Calls Tryz.prog 47 #[d_1, off_2, n_3] w (retP k) :=
  calls_of_vc (fn := Tryz.f47) (c := (Tryz.f47.body).getD Code.skip) ann47 Tryz.func47 (by kernel_rfl) [d_1, off_2, n_3] w k (by kernel_rfl) ((S47_vc d_1 off_2 n_3 k w).symm ▸ h)
theorem C47 (d_1 off_2 n_3 : Value) (k : Value → World → Prop) (w : World) (h : S47 d_1 off_2 n_3 k w) : callW Tryz.prog (.func (.func 47) #[] #[]) #[d_1, off_2, n_3] k w :=
  callW_calls ok47 (by simpa using S47_calls d_1 off_2 n_3 k w h)

/-! (newswire/disk.write).onto -/
def ann48 : Ann := [(3, Note.plan (Plan.takeP 0 (Plan.takeP 1 (Plan.takeU 2 (Plan.takeP 3 (Plan.takeP 4 (Plan.takeX 5 (Plan.run 6 Plan.done))))))))]
def S48 (w_1 b_2 : Value) (k : Value → World → Prop) (w : World) : Prop :=
   opW Tryz.prog (Instr.box 92 w_1) (fun w_3 w =>
   drewW w (fun w =>
   ∃ S : World → Prop, S w ∧
   takeW Tryz.prog anyW (Instr.fieldAt 92 w_3 0) (fun t5_5 =>
   takeW Tryz.prog S (Instr.loadAt 3 t5_5) (fun t6_6 =>
   takeW Tryz.prog anyW (Instr.sliceAt 39 b_2 (some t6_6) none none) (fun t7_7 =>
   takeW Tryz.prog anyW (Instr.fieldAt 92 w_3 1) (fun t8_8 =>
   takeW Tryz.prog (sameW w) (Instr.loadAt 9 t8_8) (fun t9_9 =>
   opW Tryz.prog (Builtin.copy_ #[39, 9] 3 #[t7_7, t9_9]) (fun t10_10 w => keepS S (fun w =>
   k (Value.tuple #[]) w) w) w) w) w) w) w) w)) w
theorem S48_vc (w_1 b_2 : Value) (k : Value → World → Prop) (w : World) : vc Tryz.prog Tryz.f48.ntmps ann48 none ((Tryz.f48.body).getD Code.skip) 1 (params 0 [w_1, b_2]) [] (finQ Tryz.prog Tryz.f48.results.toList k) w = S48 w_1 b_2 k w := by kernel_rfl
theorem S48_calls (w_1 b_2 : Value) (k : Value → World → Prop) (w : World) (h : S48 w_1 b_2 k w) : Calls Tryz.prog 48 #[w_1, b_2] w (retP k) :=
  calls_of_vc (fn := Tryz.f48) (c := (Tryz.f48.body).getD Code.skip) ann48 Tryz.func48 (by kernel_rfl) [w_1, b_2] w k (by kernel_rfl) ((S48_vc w_1 b_2 k w).symm ▸ h)
theorem C48 (w_1 b_2 : Value) (k : Value → World → Prop) (w : World) (h : S48 w_1 b_2 k w) : callW Tryz.prog (.func (.func 48) #[] #[]) #[w_1, b_2] k w :=
  callW_calls ok48 (by simpa using S48_calls w_1 b_2 k w h)

/-! (*newswire/disk.power).used -/
def ann49 : Ann := []
def S49 (p_1 : Value) (k : Value → World → Prop) (w : World) : Prop :=
   nilW p_1 (fun t3_3 w =>
   opW Tryz.prog (Instr.fieldAt 95 t3_3 1) (fun t4_4 w =>
   opW Tryz.prog (Instr.loadAt 3 t4_4) (fun t5_5 w =>
   opW Tryz.prog (binS BinOp.eql 3 (Operand.tmp 5) (Operand.const (Value.int IntKind.i64 0)) t5_5 (Value.int IntKind.i64 0)) (fun t6_6 w =>
   condW t6_6
   (k (Value.tuple #[]) w)
   (nilW p_1 (fun t8_7 w =>
   opW Tryz.prog (Instr.fieldAt 95 t8_7 1) (fun t9_8 w =>
   opW Tryz.prog (Instr.loadAt 3 t9_8) (fun t10_9 w =>
   opW Tryz.prog (binS BinOp.sub 3 (Operand.tmp 10) (Operand.const (Value.int IntKind.i64 1)) t10_9 (Value.int IntKind.i64 1)) (fun t11_10 w =>
   nilW p_1 (fun t12_11 w =>
   opW Tryz.prog (Instr.fieldAt 95 t12_11 1) (fun t13_12 w =>
   opU Tryz.prog (Instr.storeAt 3 t13_12 t11_10) (fun _ w =>
   nilW p_1 (fun t16_13 w =>
   opW Tryz.prog (Instr.fieldAt 95 t16_13 1) (fun t17_14 w =>
   opW Tryz.prog (Instr.loadAt 3 t17_14) (fun t18_15 w =>
   opW Tryz.prog (binS BinOp.eql 3 (Operand.tmp 18) (Operand.const (Value.int IntKind.i64 0)) t18_15 (Value.int IntKind.i64 0)) (fun t19_16 w =>
   nilW p_1 (fun t20_17 w =>
   opW Tryz.prog (Instr.fieldAt 95 t20_17 0) (fun t21_18 w =>
   opU Tryz.prog (Instr.storeAt 4 t21_18 t19_16) (fun _ w =>
   k (Value.tuple #[]) w) w) w) w) w) w) w) w) w) w) w) w) w) w) w)) w) w) w) w
theorem S49_vc (p_1 : Value) (k : Value → World → Prop) (w : World) : vc Tryz.prog Tryz.f49.ntmps ann49 none ((Tryz.f49.body).getD Code.skip) 1 (params 0 [p_1]) [] (finQ Tryz.prog Tryz.f49.results.toList k) w = S49 p_1 k w := by kernel_rfl
theorem S49_calls (p_1 : Value) (k : Value → World → Prop) (w : World) (h : S49 p_1 k w) : Calls Tryz.prog 49 #[p_1] w (retP k) :=
  calls_of_vc (fn := Tryz.f49) (c := (Tryz.f49.body).getD Code.skip) ann49 Tryz.func49 (by kernel_rfl) [p_1] w k (by kernel_rfl) ((S49_vc p_1 k w).symm ▸ h)
theorem C49 (p_1 : Value) (k : Value → World → Prop) (w : World) (h : S49 p_1 k w) : callW Tryz.prog (.func (.func 49) #[] #[]) #[p_1] k w :=
  callW_calls ok49 (by simpa using S49_calls p_1 k w h)

/-! (*newswire/disk.Disk).Size -/
def ann51 : Ann := []
def S51 (d_1 : Value) (k : Value → World → Prop) (w : World) : Prop :=
   opW Tryz.prog (binS BinOp.eql 27 (Operand.tmp 3) (Operand.const (Value.pointer none)) d_1 (Value.pointer none)) (fun t4_3 w =>
   condW t4_3
   (k (Value.int IntKind.i64 0) w)
   (nilW d_1 (fun t6_4 w =>
   opW Tryz.prog (Instr.fieldAt 97 t6_4 1) (fun t7_5 w =>
   opW Tryz.prog (Instr.loadAt 39 t7_5) (fun t8_6 w =>
   opW Tryz.prog (Builtin.len_ #[39] 3 #[t8_6]) (fun t9_7 w =>
   k t9_7 w) w) w) w) w)) w
theorem S51_vc (d_1 : Value) (k : Value → World → Prop) (w : World) : vc Tryz.prog Tryz.f51.ntmps ann51 none ((Tryz.f51.body).getD Code.skip) 1 (params 0 [d_1]) [] (finQ Tryz.prog Tryz.f51.results.toList k) w = S51 d_1 k w := by kernel_rfl
theorem S51_calls (d_1 : Value) (k : Value → World → Prop) (w : World) (h : S51 d_1 k w) : Calls Tryz.prog 51 #[d_1] w (retP k) :=
  calls_of_vc (fn := Tryz.f51) (c := (Tryz.f51.body).getD Code.skip) ann51 Tryz.func51 (by kernel_rfl) [d_1] w k (by kernel_rfl) ((S51_vc d_1 k w).symm ▸ h)
theorem C51 (d_1 : Value) (k : Value → World → Prop) (w : World) (h : S51 d_1 k w) : callW Tryz.prog (.func (.func 51) #[] #[]) #[d_1] k w :=
  callW_calls ok51 (by simpa using S51_calls d_1 k w h)

/-! (*newswire/disk.Disk).Read -/
def ann52 : Ann := []
def S52 (d_1 off_2 n_3 : Value) (k : Value → World → Prop) (w : World) : Prop :=
   callW Tryz.prog (Value.func (Fn.func 46) #[] #[]) #[d_1] (fun t10_5 w =>
   opW Tryz.prog (binS BinOp.neq 33 (Operand.tmp 11) (Operand.const (Value.int IntKind.i64 0)) t10_5 (Value.int IntKind.i64 0)) (fun t12_6 w =>
   condW t12_6
   (k (Value.tuple #[(Value.string { data := #[] }), t10_5]) w)
   (callW Tryz.prog (Value.func (Fn.func 47) #[] #[]) #[d_1, off_2, n_3] (fun t17_8 w =>
   opW Tryz.prog (Op.unary UnOp.not t17_8) (fun t18_9 w =>
   condW t18_9
   (k (Value.tuple #[(Value.string { data := #[] }), (Value.int IntKind.i64 330)]) w)
   (nilW d_1 (fun t20_10 w =>
   opW Tryz.prog (Instr.fieldAt 97 t20_10 2) (fun t21_11 w =>
   opW Tryz.prog (Instr.loadAt 39 t21_11) (fun t22_12 w =>
   opW Tryz.prog (Instr.sliceAt 39 t22_12 (some off_2) none none) (fun t24_13 w =>
   opW Tryz.prog (Instr.sliceAt 39 t24_13 none (some n_3) none) (fun t26_14 w =>
   opW Tryz.prog (convert 39 9 t26_14) (fun t27_15 w =>
   k (Value.tuple #[t27_15, (Value.int IntKind.i64 0)]) w) w) w) w) w) w) w)) w) w)) w) w
theorem S52_vc (d_1 off_2 n_3 : Value) (k : Value → World → Prop) (w : World) : vc Tryz.prog Tryz.f52.ntmps ann52 none ((Tryz.f52.body).getD Code.skip) 1 (params 0 [d_1, off_2, n_3]) [] (finQ Tryz.prog Tryz.f52.results.toList k) w = S52 d_1 off_2 n_3 k w := by kernel_rfl
theorem S52_calls (d_1 off_2 n_3 : Value) (k : Value → World → Prop) (w : World) (h : S52 d_1 off_2 n_3 k w) : Calls Tryz.prog 52 #[d_1, off_2, n_3] w (retP k) :=
  calls_of_vc (fn := Tryz.f52) (c := (Tryz.f52.body).getD Code.skip) ann52 Tryz.func52 (by kernel_rfl) [d_1, off_2, n_3] w k (by kernel_rfl) ((S52_vc d_1 off_2 n_3 k w).symm ▸ h)
theorem C52 (d_1 off_2 n_3 : Value) (k : Value → World → Prop) (w : World) (h : S52 d_1 off_2 n_3 k w) : callW Tryz.prog (.func (.func 52) #[] #[]) #[d_1, off_2, n_3] k w :=
  callW_calls ok52 (by simpa using S52_calls d_1 off_2 n_3 k w h)

-- NOT PRINTED 54 newswire/journal.open: an operation that is not taken in: Op.defer
/-! newswire/newswireref01.PutInt -/
def ann56 : Ann := [(62, Note.keep [4, 5]), (124, Note.loop [4, 5] []), (497, Note.keep [4, 5])]
def S56 (n_1 : Value) (k : Value → World → Prop) (w : World) : Prop :=
   opW Tryz.prog (binS BinOp.lss 3 (Operand.tmp 6) (Operand.const (Value.int IntKind.i64 (-4611686018427387903))) n_1 (Value.int IntKind.i64 (-4611686018427387903))) (fun t7_3 w =>
   guardW (some t7_3, false) (fun k w => k n_1 w) (fun t9_4 w =>
   guardW (some t7_3, false) (fun k w => opW Tryz.prog (binS BinOp.gtr 3 (Operand.tmp 9) (Operand.const (Value.int IntKind.i64 4611686018427387903)) t9_4 (Value.int IntKind.i64 4611686018427387903)) k w) (fun t10_5 w =>
   pickW t7_3 (Value.bool true) t10_5 (fun t11_6 w =>
   condW t11_6
   (k (Value.tuple #[(Value.string { data := #[] }), (Value.int IntKind.i64 10)]) w)
   (callW Tryz.prog (Value.func (Fn.func 86) #[] #[]) #[n_1] (fun t13_7 w =>
   Loop2 (fun z_9 out_10 w K_11 =>
   opW Tryz.prog (binS BinOp.geq 141 (Operand.tmp 14) (Operand.const (Value.int IntKind.u64 128)) z_9 (Value.int IntKind.u64 128)) (fun t15_13 w =>
   condW t15_13
   (opW Tryz.prog (binS BinOp.rem 141 (Operand.tmp 17) (Operand.const (Value.int IntKind.u64 128)) z_9 (Value.int IntKind.u64 128)) (fun t18_15 w =>
   opW Tryz.prog (binS BinOp.add 141 (Operand.tmp 18) (Operand.const (Value.int IntKind.u64 128)) t18_15 (Value.int IntKind.u64 128)) (fun t19_16 w =>
   opW Tryz.prog (convert 141 5 t19_16) (fun t20_17 w =>
   opW Tryz.prog (Instr.buildSlice 39 1 #[(0, t20_17)]) (fun t21_18 w =>
   opW Tryz.prog (Builtin.append_ #[39, 39] 39 #[out_10, t21_18]) (fun t22_19 w =>
   opW Tryz.prog (binS BinOp.quo 141 (Operand.tmp 23) (Operand.const (Value.int IntKind.u64 128)) z_9 (Value.int IntKind.u64 128)) (fun t24_20 w =>
   loopK [] [] [] [] (K_11 t24_20 t22_19 w)) w) w) w) w) w) w)
   (opW Tryz.prog (convert 141 5 z_9) (fun t27_21 w =>
   opW Tryz.prog (Instr.buildSlice 39 1 #[(0, t27_21)]) (fun t28_22 w =>
   opW Tryz.prog (Builtin.append_ #[39, 39] 39 #[out_10, t28_22]) (fun t29_23 w =>
   opW Tryz.prog (convert 39 9 t29_23) (fun t30_24 w =>
   k (Value.tuple #[t30_24, (Value.int IntKind.i64 0)]) w) w) w) w) w)) w) t13_7 (Value.slice none 0 0) w) w)) w) w) w) w
theorem S56_vc (n_1 : Value) (k : Value → World → Prop) (w : World) : vc Tryz.prog Tryz.f56.ntmps ann56 none ((Tryz.f56.body).getD Code.skip) 1 (params 0 [n_1]) [] (finQ Tryz.prog Tryz.f56.results.toList k) w = S56 n_1 k w := by kernel_rfl
theorem S56_calls (n_1 : Value) (k : Value → World → Prop) (w : World) (h : S56 n_1 k w) : Calls Tryz.prog 56 #[n_1] w (retP k) :=
  calls_of_vc (fn := Tryz.f56) (c := (Tryz.f56.body).getD Code.skip) ann56 Tryz.func56 (by kernel_rfl) [n_1] w k (by kernel_rfl) ((S56_vc n_1 k w).symm ▸ h)
theorem C56 (n_1 : Value) (k : Value → World → Prop) (w : World) (h : S56 n_1 k w) : callW Tryz.prog (.func (.func 56) #[] #[]) #[n_1] k w :=
  callW_calls ok56 (by simpa using S56_calls n_1 k w h)

/-! newswire/newswireref02.Chain -/
def ann57 : Ann := []
def S57 (head_1 record_2 : Value) (k : Value → World → Prop) (w : World) : Prop :=
   opW Tryz.prog (binS BinOp.add 9 (Operand.const (Value.string { data := #[2] })) (Operand.tmp 5) (Value.string { data := #[2] }) head_1) (fun t6_3 w =>
   opW Tryz.prog (binS BinOp.add 9 (Operand.tmp 6) (Operand.tmp 7) t6_3 record_2) (fun t8_4 w =>
   callW Tryz.prog (Value.func (Fn.func 28) #[] #[]) #[t8_4] (fun t9_5 w =>
   k t9_5 w) w) w) w
theorem S57_vc (head_1 record_2 : Value) (k : Value → World → Prop) (w : World) : vc Tryz.prog Tryz.f57.ntmps ann57 none ((Tryz.f57.body).getD Code.skip) 1 (params 0 [head_1, record_2]) [] (finQ Tryz.prog Tryz.f57.results.toList k) w = S57 head_1 record_2 k w := by kernel_rfl
theorem S57_calls (head_1 record_2 : Value) (k : Value → World → Prop) (w : World) (h : S57 head_1 record_2 k w) : Calls Tryz.prog 57 #[head_1, record_2] w (retP k) :=
  calls_of_vc (fn := Tryz.f57) (c := (Tryz.f57.body).getD Code.skip) ann57 Tryz.func57 (by kernel_rfl) [head_1, record_2] w k (by kernel_rfl) ((S57_vc head_1 record_2 k w).symm ▸ h)
theorem C57 (head_1 record_2 : Value) (k : Value → World → Prop) (w : World) (h : S57 head_1 record_2 k w) : callW Tryz.prog (.func (.func 57) #[] #[]) #[head_1, record_2] k w :=
  callW_calls ok57 (by simpa using S57_calls head_1 record_2 k w h)

/-! newswire/newswireref02.extended -/
def ann58 : Ann := [(29, Note.keep [0, 3]), (58, Note.loop [3, 4] [0]), (62, Note.keep [0, 3]), (124, Note.loop [3] [0]), (253, Note.keep [3]), (466, Note.keep [0, 3, 4]), (497, Note.keep [0, 3]), (506, Note.loop [3, 5] [0]), (4050, Note.keep [0, 3, 5])]
def S58 (s_1 : Value) (k : Value → World → Prop) (w : World) : Prop :=
   Loop2 (fun b_3 i_4 w K_5 =>
   opW Tryz.prog (Builtin.len_ #[9] 3 #[s_1]) (fun t8_7 w =>
   opW Tryz.prog (binS BinOp.lss 3 (Operand.tmp 6) (Operand.tmp 8) i_4 t8_7) (fun t9_8 w =>
   condW t9_8
   (opW Tryz.prog (Instr.index 9 s_1 i_4) (fun t15_10 w =>
   opW Tryz.prog (Instr.buildSlice 39 1 #[(0, t15_10)]) (fun t16_11 w =>
   opW Tryz.prog (Builtin.append_ #[39, 39] 39 #[b_3, t16_11]) (fun t17_12 w =>
   opW Tryz.prog (binS BinOp.add 3 (Operand.tmp 10) (Operand.const (Value.int IntKind.i64 1)) i_4 (Value.int IntKind.i64 1)) (fun t11_13 w =>
   loopK [] [] [s_1] [s_1] (K_5 t17_12 t11_13 w)) w) w) w) w)
   (opW Tryz.prog (Instr.buildSlice 39 1 #[(0, (Value.int IntKind.u8 128))]) (fun t19_14 w =>
   opW Tryz.prog (Builtin.append_ #[39, 39] 39 #[b_3, t19_14]) (fun t20_15 w =>
   Loop1 (fun b_17 w K_18 =>
   opW Tryz.prog (Builtin.len_ #[39] 3 #[b_17]) (fun t22_20 w =>
   opW Tryz.prog (binS BinOp.rem 3 (Operand.tmp 22) (Operand.const (Value.int IntKind.i64 64)) t22_20 (Value.int IntKind.i64 64)) (fun t23_21 w =>
   opW Tryz.prog (binS BinOp.neq 3 (Operand.tmp 23) (Operand.const (Value.int IntKind.i64 56)) t23_21 (Value.int IntKind.i64 56)) (fun t24_22 w =>
   condW t24_22
   (opW Tryz.prog (Instr.buildSlice 39 1 #[(0, (Value.int IntKind.u8 0))]) (fun t26_24 w =>
   opW Tryz.prog (Builtin.append_ #[39, 39] 39 #[b_17, t26_24]) (fun t27_25 w =>
   loopK [] [] [s_1] [s_1] (K_18 t27_25 w)) w) w)
   (Loop2 (fun b_27 i_28 w K_29 =>
   opW Tryz.prog (binS BinOp.geq 3 (Operand.tmp 28) (Operand.const (Value.int IntKind.i64 0)) i_28 (Value.int IntKind.i64 0)) (fun t29_31 w =>
   condW t29_31
   (opW Tryz.prog (Builtin.len_ #[9] 3 #[s_1]) (fun t34_33 w =>
   opW Tryz.prog (binS BinOp.mul 3 (Operand.const (Value.int IntKind.i64 8)) (Operand.tmp 34) (Value.int IntKind.i64 8) t34_33) (fun t35_34 w =>
   opW Tryz.prog (binS BinOp.mul 3 (Operand.const (Value.int IntKind.i64 8)) (Operand.tmp 36) (Value.int IntKind.i64 8) i_28) (fun t37_35 w =>
   opW Tryz.prog (binS BinOp.shr 3 (Operand.tmp 35) (Operand.tmp 37) t35_34 t37_35) (fun t38_36 w =>
   opW Tryz.prog (convert 3 5 t38_36) (fun t39_37 w =>
   opW Tryz.prog (Instr.buildSlice 39 1 #[(0, t39_37)]) (fun t40_38 w =>
   opW Tryz.prog (Builtin.append_ #[39, 39] 39 #[b_27, t40_38]) (fun t41_39 w =>
   opW Tryz.prog (binS BinOp.sub 3 (Operand.tmp 30) (Operand.const (Value.int IntKind.i64 1)) i_28 (Value.int IntKind.i64 1)) (fun t31_40 w =>
   loopK [] [] [s_1] [s_1] (K_29 t41_39 t31_40 w)) w) w) w) w) w) w) w) w)
   (k b_27 w)) w) b_17 (Value.int IntKind.i64 7) w)) w) w) w) t20_15 w) w) w)) w) w) (Value.slice none 0 0) (Value.int IntKind.i64 0) w
theorem S58_vc (s_1 : Value) (k : Value → World → Prop) (w : World) : vc Tryz.prog Tryz.f58.ntmps ann58 none ((Tryz.f58.body).getD Code.skip) 1 (params 0 [s_1]) [] (finQ Tryz.prog Tryz.f58.results.toList k) w = S58 s_1 k w := by kernel_rfl
theorem S58_calls (s_1 : Value) (k : Value → World → Prop) (w : World) (h : S58 s_1 k w) : Calls Tryz.prog 58 #[s_1] w (retP k) :=
  calls_of_vc (fn := Tryz.f58) (c := (Tryz.f58.body).getD Code.skip) ann58 Tryz.func58 (by kernel_rfl) [s_1] w k (by kernel_rfl) ((S58_vc s_1 k w).symm ▸ h)
theorem C58 (s_1 : Value) (k : Value → World → Prop) (w : World) (h : S58 s_1 k w) : callW Tryz.prog (.func (.func 58) #[] #[]) #[s_1] k w :=
  callW_calls ok58 (by simpa using S58_calls s_1 k w h)

/-! newswire/newswireref02.block -/
def ann59 : Ann := [(29, Note.keep [0, 5]), (58, Note.loop [5, 6] [0, 1]), (61, Note.keep [0, 5]), (122, Note.loop [5, 7] [0]), (466, Note.keep [0, 1, 5, 6]), (932, Note.plan (Plan.takeP 0 (Plan.takeP 1 (Plan.takeP 2 (Plan.takeP 3 (Plan.takeP 4 (Plan.takeU 5 (Plan.takeU 6 (Plan.takeP 7 (Plan.takeP 8 (Plan.takeP 9 (Plan.takeP 10 (Plan.takeP 11 (Plan.takeP 12 (Plan.takeU 13 (Plan.takeU 14 (Plan.takeP 15 (Plan.takeP 16 (Plan.takeP 17 (Plan.takeP 18 (Plan.takeP 19 (Plan.takeP 20 (Plan.takeP 21 (Plan.takeU 22 (Plan.takeU 23 (Plan.takeP 24 (Plan.takeP 25 (Plan.takeP 26 (Plan.takeP 27 (Plan.takeP 28 (Plan.takeP 29 (Plan.takeP 30 (Plan.takeU 31 (Plan.takeU 32 (Plan.takeP 33 (Plan.run 34 (Plan.run 35 (Plan.takeP 36 Plan.done)))))))))))))))))))))))))))))))))))))), (978, Note.keep [0, 5, 7]), (1021, Note.keep [0, 11]), (2042, Note.loop [11, 12] [0, 5, 10]), (3912, Note.plan (Plan.takeP 0 (Plan.takeP 1 (Plan.takeP 2 (Plan.takeP 3 (Plan.takeU 4 (Plan.takeP 6 (Plan.takeP 7 (Plan.takeP 8 (Plan.takeP 9 (Plan.takeU 10 (Plan.takeP 13 (Plan.takeP 14 (Plan.takeP 15 (Plan.takeP 16 (Plan.takeU 17 (Plan.takeP 18 (Plan.run 5 (Plan.run 11 (Plan.takeP 12 (Plan.takeP 19 (Plan.takeP 20 Plan.done)))))))))))))))))))))), (4093, Note.keep [17]), (7826, Note.plan (Plan.takeP 0 (Plan.takeP 1 (Plan.takeP 2 (Plan.takeP 3 (Plan.takeU 4 (Plan.takeP 6 (Plan.takeP 7 (Plan.takeP 8 (Plan.takeP 9 (Plan.takeU 10 (Plan.takeP 13 (Plan.takeP 14 (Plan.takeP 15 (Plan.takeP 16 (Plan.takeU 17 (Plan.takeP 18 (Plan.run 5 (Plan.run 11 (Plan.takeP 12 (Plan.takeP 19 (Plan.takeP 20 Plan.done)))))))))))))))))))))), (7827, Note.plan (Plan.takeP 0 (Plan.takeP 1 (Plan.takeP 2 (Plan.takeP 3 (Plan.takeP 4 (Plan.takeU 5 (Plan.takeP 6 (Plan.takeP 7 (Plan.takeP 8 (Plan.takeP 9 (Plan.takeP 10 (Plan.takeP 11 (Plan.takeU 12 (Plan.takeP 13 (Plan.takeP 14 (Plan.takeP 15 (Plan.run 16 (Plan.run 17 (Plan.takeP 18 Plan.done)))))))))))))))))))), (8186, Note.loop [17, 18] [0, 11]), (16338, Note.keep [0, 5, 10, 11, 12]), (65490, Note.keep [0, 11, 17, 18]), (130980, Note.plan (Plan.takeP 0 (Plan.takeP 1 (Plan.takeP 2 (Plan.takeP 3 (Plan.takeU 4 (Plan.takeP 5 (Plan.takeP 6 (Plan.takeP 7 (Plan.takeU 8 (Plan.takeP 9 (Plan.run 10 (Plan.run 11 (Plan.takeP 12 Plan.done)))))))))))))), (261414, Note.plan (Plan.takeP 0 (Plan.takeP 1 (Plan.takeU 2 (Plan.takeP 3 (Plan.takeP 5 (Plan.takeP 8 (Plan.takeP 12 (Plan.takeP 13 (Plan.takeP 14 (Plan.takeU 15 (Plan.takeP 16 (Plan.takeP 17 (Plan.takeP 18 (Plan.takeP 19 (Plan.takeP 20 (Plan.takeU 21 (Plan.takeP 22 (Plan.takeP 23 (Plan.takeP 25 (Plan.takeP 26 (Plan.takeP 27 (Plan.takeU 28 (Plan.takeP 30 (Plan.takeP 31 (Plan.takeP 32 (Plan.takeU 33 (Plan.run 4 (Plan.run 6 (Plan.takeP 7 (Plan.run 9 (Plan.takeP 10 (Plan.takeP 11 (Plan.takeP 24 (Plan.takeP 29 (Plan.takeP 34 (Plan.takeP 35 Plan.done))))))))))))))))))))))))))))))))))))), (522830, Note.plan (Plan.takeP 0 (Plan.takeP 2 (Plan.takeP 5 (Plan.takeP 8 (Plan.takeP 9 (Plan.takeP 10 (Plan.takeU 11 (Plan.takeP 12 (Plan.takeP 13 (Plan.takeP 14 (Plan.takeP 15 (Plan.takeU 16 (Plan.takeP 17 (Plan.takeP 18 (Plan.takeP 19 (Plan.takeP 20 (Plan.takeU 21 (Plan.takeP 22 (Plan.takeP 23 (Plan.takeU 24 (Plan.takeP 25 (Plan.takeP 26 (Plan.run 1 (Plan.run 3 (Plan.takeP 4 (Plan.run 6 (Plan.takeP 7 (Plan.takeP 27 (Plan.takeP 28 Plan.done)))))))))))))))))))))))))))))), (522831, Note.plan (Plan.takeP 0 (Plan.takeP 1 (Plan.takeP 2 (Plan.takeP 3 (Plan.takeP 4 (Plan.takeP 5 (Plan.takeX 6 (Plan.takeP 7 (Plan.takeP 8 (Plan.takeX 9 (Plan.takeP 10 (Plan.takeP 11 (Plan.takeU 12 (Plan.takeP 13 (Plan.takeP 14 (Plan.takeP 15 (Plan.takeP 16 (Plan.takeP 17 (Plan.takeX 18 (Plan.takeP 19 (Plan.takeP 20 (Plan.takeX 21 (Plan.run 22 (Plan.takeP 23 Plan.done)))))))))))))))))))))))))]
def S59 (h_1 b_2 : Value) (k : Value → World → Prop) (w : World) : Prop :=
   Loop2 (fun w_4 i_5 w K_6 =>
   opW Tryz.prog (binS BinOp.lss 3 (Operand.tmp 19) (Operand.const (Value.int IntKind.i64 16)) i_5 (Value.int IntKind.i64 16)) (fun t20_8 w =>
   condW t20_8
   (drewW w (fun w =>
   ∃ S : World → Prop, S w ∧
   takeW Tryz.prog anyW (binS BinOp.mul 3 (Operand.const (Value.int IntKind.i64 4)) (Operand.tmp 25) (Value.int IntKind.i64 4) i_5) (fun t26_11 =>
   takeW Tryz.prog anyW (Instr.indexAt 39 b_2 t26_11) (fun t27_12 =>
   takeW Tryz.prog S (Instr.loadAt 5 t27_12) (fun t28_13 =>
   takeW Tryz.prog S (convert 5 109 t28_13) (fun t29_14 =>
   takeW Tryz.prog anyW (binS BinOp.shl 109 (Operand.tmp 29) (Operand.const (Value.int IntKind.u64 24)) t29_14 (Value.int IntKind.u64 24)) (fun t30_15 =>
   takeW Tryz.prog anyW (binS BinOp.mul 3 (Operand.const (Value.int IntKind.i64 4)) (Operand.tmp 32) (Value.int IntKind.i64 4) i_5) (fun t33_16 =>
   takeW Tryz.prog anyW (binS BinOp.add 3 (Operand.tmp 33) (Operand.const (Value.int IntKind.i64 1)) t33_16 (Value.int IntKind.i64 1)) (fun t34_17 =>
   takeW Tryz.prog anyW (Instr.indexAt 39 b_2 t34_17) (fun t35_18 =>
   takeW Tryz.prog S (Instr.loadAt 5 t35_18) (fun t36_19 =>
   takeW Tryz.prog S (convert 5 109 t36_19) (fun t37_20 =>
   takeW Tryz.prog anyW (binS BinOp.shl 109 (Operand.tmp 37) (Operand.const (Value.int IntKind.u64 16)) t37_20 (Value.int IntKind.u64 16)) (fun t38_21 =>
   takeW Tryz.prog anyW (binS BinOp.or 109 (Operand.tmp 30) (Operand.tmp 38) t30_15 t38_21) (fun t39_22 =>
   takeW Tryz.prog anyW (binS BinOp.mul 3 (Operand.const (Value.int IntKind.i64 4)) (Operand.tmp 41) (Value.int IntKind.i64 4) i_5) (fun t42_23 =>
   takeW Tryz.prog anyW (binS BinOp.add 3 (Operand.tmp 42) (Operand.const (Value.int IntKind.i64 2)) t42_23 (Value.int IntKind.i64 2)) (fun t43_24 =>
   takeW Tryz.prog anyW (Instr.indexAt 39 b_2 t43_24) (fun t44_25 =>
   takeW Tryz.prog S (Instr.loadAt 5 t44_25) (fun t45_26 =>
   takeW Tryz.prog S (convert 5 109 t45_26) (fun t46_27 =>
   takeW Tryz.prog anyW (binS BinOp.shl 109 (Operand.tmp 46) (Operand.const (Value.int IntKind.u64 8)) t46_27 (Value.int IntKind.u64 8)) (fun t47_28 =>
   takeW Tryz.prog anyW (binS BinOp.or 109 (Operand.tmp 39) (Operand.tmp 47) t39_22 t47_28) (fun t48_29 =>
   takeW Tryz.prog anyW (binS BinOp.mul 3 (Operand.const (Value.int IntKind.i64 4)) (Operand.tmp 50) (Value.int IntKind.i64 4) i_5) (fun t51_30 =>
   takeW Tryz.prog anyW (binS BinOp.add 3 (Operand.tmp 51) (Operand.const (Value.int IntKind.i64 3)) t51_30 (Value.int IntKind.i64 3)) (fun t52_31 =>
   takeW Tryz.prog anyW (Instr.indexAt 39 b_2 t52_31) (fun t53_32 =>
   takeW Tryz.prog S (Instr.loadAt 5 t53_32) (fun t54_33 =>
   takeW Tryz.prog S (convert 5 109 t54_33) (fun t55_34 =>
   takeW Tryz.prog anyW (binS BinOp.or 109 (Operand.tmp 48) (Operand.tmp 55) t48_29 t55_34) (fun t56_35 =>
   opW Tryz.prog (Instr.buildSlice 110 1 #[(0, t56_35)]) (fun t57_36 w => keepS S (fun w =>
   opW Tryz.prog (Builtin.append_ #[110, 110] 110 #[w_4, t57_36]) (fun t58_37 w => keepS S (fun w =>
   opW Tryz.prog (binS BinOp.add 3 (Operand.tmp 21) (Operand.const (Value.int IntKind.i64 1)) i_5 (Value.int IntKind.i64 1)) (fun t22_38 w =>
   loopK [] [] [h_1, b_2] [h_1, b_2] (K_6 t58_37 t22_38 w)) w) w) w) w) w) w) w) w) w) w) w) w) w) w) w) w) w) w) w) w) w) w) w) w) w) w) w) w) w) w))
   (Loop2 (fun w_40 i_41 w K_42 =>
   opW Tryz.prog (binS BinOp.lss 3 (Operand.tmp 59) (Operand.const (Value.int IntKind.i64 64)) i_41 (Value.int IntKind.i64 64)) (fun t60_44 w =>
   condW t60_44
   (drewW w (fun w =>
   ∃ S : World → Prop, S w ∧
   takeW Tryz.prog anyW (binS BinOp.sub 3 (Operand.tmp 64) (Operand.const (Value.int IntKind.i64 15)) i_41 (Value.int IntKind.i64 15)) (fun t65_47 =>
   takeW Tryz.prog anyW (Instr.indexAt 110 w_40 t65_47) (fun t66_48 =>
   takeW Tryz.prog S (Instr.loadAt 109 t66_48) (fun t67_49 =>
   takeW Tryz.prog anyW (binS BinOp.sub 3 (Operand.tmp 70) (Operand.const (Value.int IntKind.i64 15)) i_41 (Value.int IntKind.i64 15)) (fun t71_50 =>
   takeW Tryz.prog anyW (Instr.indexAt 110 w_40 t71_50) (fun t72_51 =>
   takeW Tryz.prog S (Instr.loadAt 109 t72_51) (fun t73_52 =>
   takeW Tryz.prog anyW (binS BinOp.sub 3 (Operand.tmp 77) (Operand.const (Value.int IntKind.i64 15)) i_41 (Value.int IntKind.i64 15)) (fun t78_53 =>
   takeW Tryz.prog anyW (Instr.indexAt 110 w_40 t78_53) (fun t79_54 =>
   takeW Tryz.prog S (Instr.loadAt 109 t79_54) (fun t80_55 =>
   takeW Tryz.prog anyW (binS BinOp.shr 109 (Operand.tmp 80) (Operand.const (Value.int IntKind.u64 3)) t80_55 (Value.int IntKind.u64 3)) (fun t81_56 =>
   callW Tryz.prog (Value.func (Fn.func 87) #[] #[]) #[t67_49, (Value.int IntKind.i64 7)] (fun t68_57 w => keepS S (fun w =>
   callW Tryz.prog (Value.func (Fn.func 87) #[] #[]) #[t73_52, (Value.int IntKind.i64 18)] (fun t74_58 w => keepS S (fun w =>
   takeW Tryz.prog anyW (binS BinOp.xor 109 (Operand.tmp 68) (Operand.tmp 74) t68_57 t74_58) (fun t75_59 =>
   takeW Tryz.prog anyW (binS BinOp.xor 109 (Operand.tmp 75) (Operand.tmp 81) t75_59 t81_56) (fun t82_60 =>
   drewW w (fun w =>
   ∃ S : World → Prop, S w ∧
   takeW Tryz.prog anyW (binS BinOp.sub 3 (Operand.tmp 84) (Operand.const (Value.int IntKind.i64 2)) i_41 (Value.int IntKind.i64 2)) (fun t85_62 =>
   takeW Tryz.prog anyW (Instr.indexAt 110 w_40 t85_62) (fun t86_63 =>
   takeW Tryz.prog S (Instr.loadAt 109 t86_63) (fun t87_64 =>
   takeW Tryz.prog anyW (binS BinOp.sub 3 (Operand.tmp 90) (Operand.const (Value.int IntKind.i64 2)) i_41 (Value.int IntKind.i64 2)) (fun t91_65 =>
   takeW Tryz.prog anyW (Instr.indexAt 110 w_40 t91_65) (fun t92_66 =>
   takeW Tryz.prog S (Instr.loadAt 109 t92_66) (fun t93_67 =>
   takeW Tryz.prog anyW (binS BinOp.sub 3 (Operand.tmp 97) (Operand.const (Value.int IntKind.i64 2)) i_41 (Value.int IntKind.i64 2)) (fun t98_68 =>
   takeW Tryz.prog anyW (Instr.indexAt 110 w_40 t98_68) (fun t99_69 =>
   takeW Tryz.prog S (Instr.loadAt 109 t99_69) (fun t100_70 =>
   takeW Tryz.prog anyW (binS BinOp.shr 109 (Operand.tmp 100) (Operand.const (Value.int IntKind.u64 10)) t100_70 (Value.int IntKind.u64 10)) (fun t101_71 =>
   callW Tryz.prog (Value.func (Fn.func 87) #[] #[]) #[t87_64, (Value.int IntKind.i64 17)] (fun t88_72 w => keepS S (fun w =>
   callW Tryz.prog (Value.func (Fn.func 87) #[] #[]) #[t93_67, (Value.int IntKind.i64 19)] (fun t94_73 w => keepS S (fun w =>
   takeW Tryz.prog anyW (binS BinOp.xor 109 (Operand.tmp 88) (Operand.tmp 94) t88_72 t94_73) (fun t95_74 =>
   takeW Tryz.prog anyW (binS BinOp.xor 109 (Operand.tmp 95) (Operand.tmp 101) t95_74 t101_71) (fun t102_75 =>
   drewW w (fun w =>
   ∃ S : World → Prop, S w ∧
   takeW Tryz.prog anyW (binS BinOp.sub 3 (Operand.tmp 105) (Operand.const (Value.int IntKind.i64 16)) i_41 (Value.int IntKind.i64 16)) (fun t106_77 =>
   takeW Tryz.prog anyW (Instr.indexAt 110 w_40 t106_77) (fun t107_78 =>
   takeW Tryz.prog S (Instr.loadAt 109 t107_78) (fun t108_79 =>
   takeW Tryz.prog anyW (binS BinOp.add 109 (Operand.tmp 108) (Operand.tmp 109) t108_79 t82_60) (fun t110_80 =>
   takeW Tryz.prog anyW (binS BinOp.sub 3 (Operand.tmp 112) (Operand.const (Value.int IntKind.i64 7)) i_41 (Value.int IntKind.i64 7)) (fun t113_81 =>
   takeW Tryz.prog anyW (Instr.indexAt 110 w_40 t113_81) (fun t114_82 =>
   takeW Tryz.prog S (Instr.loadAt 109 t114_82) (fun t115_83 =>
   takeW Tryz.prog anyW (binS BinOp.add 109 (Operand.tmp 110) (Operand.tmp 115) t110_80 t115_83) (fun t116_84 =>
   takeW Tryz.prog anyW (binS BinOp.add 109 (Operand.tmp 116) (Operand.tmp 117) t116_84 t102_75) (fun t118_85 =>
   opW Tryz.prog (Instr.buildSlice 110 1 #[(0, t118_85)]) (fun t119_86 w => keepS S (fun w =>
   opW Tryz.prog (Builtin.append_ #[110, 110] 110 #[w_40, t119_86]) (fun t120_87 w => keepS S (fun w =>
   opW Tryz.prog (binS BinOp.add 3 (Operand.tmp 61) (Operand.const (Value.int IntKind.i64 1)) i_41 (Value.int IntKind.i64 1)) (fun t62_88 w =>
   loopK [] [] [h_1] [h_1] (K_42 t120_87 t62_88 w)) w) w) w) w) w) w) w) w) w) w) w) w) w) w)) w) w) w) w) w) w) w) w) w) w) w) w) w) w) w) w)) w) w) w) w) w) w) w) w) w) w) w) w) w) w) w) w))
   (callW Tryz.prog (Value.func (Fn.func 88) #[] #[]) #[] (fun t121_89 w =>
   opW Tryz.prog (Builtin.append_ #[110, 110] 110 #[(Value.slice none 0 0), h_1]) (fun t124_90 w =>
   Loop2 (fun v_92 i_93 w K_94 =>
   opW Tryz.prog (binS BinOp.lss 3 (Operand.tmp 125) (Operand.const (Value.int IntKind.i64 64)) i_93 (Value.int IntKind.i64 64)) (fun t126_96 w =>
   condW t126_96
   (opW Tryz.prog (Instr.indexAt 110 v_92 (Value.int IntKind.i64 0)) (fun t130_98 w =>
   opW Tryz.prog (Instr.loadAt 109 t130_98) (fun t131_99 w =>
   opW Tryz.prog (Instr.indexAt 110 v_92 (Value.int IntKind.i64 4)) (fun t133_100 w =>
   opW Tryz.prog (Instr.loadAt 109 t133_100) (fun t134_101 w =>
   drewW w (fun w =>
   ∃ S : World → Prop, S w ∧
   takeW Tryz.prog anyW (Instr.indexAt 110 v_92 (Value.int IntKind.i64 7)) (fun t136_103 =>
   takeW Tryz.prog S (Instr.loadAt 109 t136_103) (fun t137_104 =>
   takeW Tryz.prog anyW (Instr.indexAt 110 v_92 (Value.int IntKind.i64 5)) (fun t149_105 =>
   takeW Tryz.prog S (Instr.loadAt 109 t149_105) (fun t150_106 =>
   takeW Tryz.prog anyW (binS BinOp.and 109 (Operand.tmp 147) (Operand.tmp 150) t134_101 t150_106) (fun t151_107 =>
   takeW Tryz.prog anyW (Op.unary UnOp.xor t134_101) (fun t153_108 =>
   takeW Tryz.prog anyW (Instr.indexAt 110 v_92 (Value.int IntKind.i64 6)) (fun t155_109 =>
   takeW Tryz.prog S (Instr.loadAt 109 t155_109) (fun t156_110 =>
   takeW Tryz.prog anyW (binS BinOp.and 109 (Operand.tmp 153) (Operand.tmp 156) t153_108 t156_110) (fun t157_111 =>
   takeW Tryz.prog anyW (binS BinOp.xor 109 (Operand.tmp 151) (Operand.tmp 157) t151_107 t157_111) (fun t158_112 =>
   takeW Tryz.prog anyW (Instr.indexAt 110 t121_89 i_93) (fun t162_113 =>
   takeW Tryz.prog S (Instr.loadAt 109 t162_113) (fun t163_114 =>
   takeW Tryz.prog anyW (Instr.indexAt 110 w_40 i_93) (fun t167_115 =>
   takeW Tryz.prog S (Instr.loadAt 109 t167_115) (fun t168_116 =>
   callW Tryz.prog (Value.func (Fn.func 87) #[] #[]) #[t134_101, (Value.int IntKind.i64 6)] (fun t139_117 w => keepS S (fun w =>
   callW Tryz.prog (Value.func (Fn.func 87) #[] #[]) #[t134_101, (Value.int IntKind.i64 11)] (fun t141_118 w => keepS S (fun w =>
   takeW Tryz.prog anyW (binS BinOp.xor 109 (Operand.tmp 139) (Operand.tmp 141) t139_117 t141_118) (fun t142_119 =>
   callW Tryz.prog (Value.func (Fn.func 87) #[] #[]) #[t134_101, (Value.int IntKind.i64 25)] (fun t144_120 w => keepS S (fun w =>
   takeW Tryz.prog anyW (binS BinOp.xor 109 (Operand.tmp 142) (Operand.tmp 144) t142_119 t144_120) (fun t145_121 =>
   takeW Tryz.prog anyW (binS BinOp.add 109 (Operand.tmp 137) (Operand.tmp 145) t137_104 t145_121) (fun t146_122 =>
   takeW Tryz.prog anyW (binS BinOp.add 109 (Operand.tmp 146) (Operand.tmp 158) t146_122 t158_112) (fun t159_123 =>
   takeW Tryz.prog anyW (binS BinOp.add 109 (Operand.tmp 159) (Operand.tmp 163) t159_123 t163_114) (fun t164_124 =>
   takeW Tryz.prog anyW (binS BinOp.add 109 (Operand.tmp 164) (Operand.tmp 168) t164_124 t168_116) (fun t169_125 =>
   drewW w (fun w =>
   ∃ S : World → Prop, S w ∧
   takeW Tryz.prog anyW (Instr.indexAt 110 v_92 (Value.int IntKind.i64 1)) (fun t180_127 =>
   takeW Tryz.prog S (Instr.loadAt 109 t180_127) (fun t181_128 =>
   takeW Tryz.prog anyW (binS BinOp.and 109 (Operand.tmp 178) (Operand.tmp 181) t131_99 t181_128) (fun t182_129 =>
   takeW Tryz.prog anyW (Instr.indexAt 110 v_92 (Value.int IntKind.i64 2)) (fun t185_130 =>
   takeW Tryz.prog S (Instr.loadAt 109 t185_130) (fun t186_131 =>
   takeW Tryz.prog anyW (binS BinOp.and 109 (Operand.tmp 183) (Operand.tmp 186) t131_99 t186_131) (fun t187_132 =>
   takeW Tryz.prog anyW (binS BinOp.xor 109 (Operand.tmp 182) (Operand.tmp 187) t182_129 t187_132) (fun t188_133 =>
   takeW Tryz.prog anyW (Instr.indexAt 110 v_92 (Value.int IntKind.i64 1)) (fun t190_134 =>
   takeW Tryz.prog S (Instr.loadAt 109 t190_134) (fun t191_135 =>
   takeW Tryz.prog anyW (Instr.indexAt 110 v_92 (Value.int IntKind.i64 2)) (fun t193_136 =>
   takeW Tryz.prog S (Instr.loadAt 109 t193_136) (fun t194_137 =>
   takeW Tryz.prog anyW (binS BinOp.and 109 (Operand.tmp 191) (Operand.tmp 194) t191_135 t194_137) (fun t195_138 =>
   takeW Tryz.prog anyW (binS BinOp.xor 109 (Operand.tmp 188) (Operand.tmp 195) t188_133 t195_138) (fun t196_139 =>
   callW Tryz.prog (Value.func (Fn.func 87) #[] #[]) #[t131_99, (Value.int IntKind.i64 2)] (fun t171_140 w => keepS S (fun w =>
   callW Tryz.prog (Value.func (Fn.func 87) #[] #[]) #[t131_99, (Value.int IntKind.i64 13)] (fun t173_141 w => keepS S (fun w =>
   takeW Tryz.prog anyW (binS BinOp.xor 109 (Operand.tmp 171) (Operand.tmp 173) t171_140 t173_141) (fun t174_142 =>
   callW Tryz.prog (Value.func (Fn.func 87) #[] #[]) #[t131_99, (Value.int IntKind.i64 22)] (fun t176_143 w => keepS S (fun w =>
   takeW Tryz.prog anyW (binS BinOp.xor 109 (Operand.tmp 174) (Operand.tmp 176) t174_142 t176_143) (fun t177_144 =>
   takeW Tryz.prog anyW (binS BinOp.add 109 (Operand.tmp 177) (Operand.tmp 196) t177_144 t196_139) (fun t197_145 =>
   drewW w (fun w =>
   ∃ S : World → Prop, S w ∧
   takeW Tryz.prog anyW (binS BinOp.add 109 (Operand.tmp 198) (Operand.tmp 199) t169_125 t197_145) (fun t200_147 =>
   takeW Tryz.prog anyW (Instr.indexAt 110 v_92 (Value.int IntKind.i64 1)) (fun t203_148 =>
   takeW Tryz.prog (sameW w) (Instr.loadAt 109 t203_148) (fun t204_149 =>
   takeW Tryz.prog anyW (Instr.indexAt 110 v_92 (Value.int IntKind.i64 2)) (fun t206_150 =>
   takeW Tryz.prog (sameW w) (Instr.loadAt 109 t206_150) (fun t207_151 =>
   takeW Tryz.prog anyW (Instr.indexAt 110 v_92 (Value.int IntKind.i64 3)) (fun t209_152 =>
   takeW Tryz.prog S (Instr.loadAt 109 t209_152) (fun t210_153 =>
   takeW Tryz.prog anyW (binS BinOp.add 109 (Operand.tmp 210) (Operand.tmp 211) t210_153 t169_125) (fun t212_154 =>
   takeW Tryz.prog anyW (Instr.indexAt 110 v_92 (Value.int IntKind.i64 5)) (fun t215_155 =>
   takeW Tryz.prog (sameW w) (Instr.loadAt 109 t215_155) (fun t216_156 =>
   takeW Tryz.prog anyW (Instr.indexAt 110 v_92 (Value.int IntKind.i64 6)) (fun t218_157 =>
   takeW Tryz.prog (sameW w) (Instr.loadAt 109 t218_157) (fun t219_158 =>
   opW Tryz.prog (Instr.buildSlice 110 8 #[(0, t200_147), (1, t131_99), (2, t204_149), (3, t207_151), (4, t212_154), (5, t134_101), (6, t216_156), (7, t219_158)]) (fun t220_159 w => keepS S (fun w =>
   opW Tryz.prog (binS BinOp.add 3 (Operand.tmp 127) (Operand.const (Value.int IntKind.i64 1)) i_93 (Value.int IntKind.i64 1)) (fun t128_160 w =>
   loopK [] [] [h_1, w_40, t121_89] [h_1, w_40, t121_89] (K_94 t220_159 t128_160 w)) w) w) w) w) w) w) w) w) w) w) w) w) w) w) w)) w) w) w) w) w) w) w) w) w) w) w) w) w) w) w) w) w) w) w) w) w) w)) w) w) w) w) w) w) w) w) w) w) w) w) w) w) w) w) w) w) w) w) w) w) w) w) w) w)) w) w) w) w)
   (Loop2 (fun out_162 i_163 w K_164 =>
   opW Tryz.prog (binS BinOp.lss 3 (Operand.tmp 221) (Operand.const (Value.int IntKind.i64 8)) i_163 (Value.int IntKind.i64 8)) (fun t222_166 w =>
   condW t222_166
   (drewW w (fun w =>
   ∃ S : World → Prop, S w ∧
   takeW Tryz.prog anyW (Instr.indexAt 110 h_1 i_163) (fun t228_169 =>
   takeW Tryz.prog S (Instr.loadAt 109 t228_169) (fun t229_170 =>
   takeW Tryz.prog anyW (Instr.indexAt 110 v_92 i_163) (fun t232_171 =>
   takeW Tryz.prog S (Instr.loadAt 109 t232_171) (fun t233_172 =>
   takeW Tryz.prog anyW (binS BinOp.add 109 (Operand.tmp 229) (Operand.tmp 233) t229_170 t233_172) (fun t234_173 =>
   opW Tryz.prog (Instr.buildSlice 110 1 #[(0, t234_173)]) (fun t235_174 w => keepS S (fun w =>
   opW Tryz.prog (Builtin.append_ #[110, 110] 110 #[out_162, t235_174]) (fun t236_175 w => keepS S (fun w =>
   opW Tryz.prog (binS BinOp.add 3 (Operand.tmp 223) (Operand.const (Value.int IntKind.i64 1)) i_163 (Value.int IntKind.i64 1)) (fun t224_176 w =>
   loopK [] [] [h_1, v_92] [h_1, v_92] (K_164 t236_175 t224_176 w)) w) w) w) w) w) w) w) w) w) w))
   (k out_162 w)) w) (Value.slice none 0 0) (Value.int IntKind.i64 0) w)) w) t124_90 (Value.int IntKind.i64 0) w) w) w)) w) w_4 (Value.int IntKind.i64 16) w)) w) (Value.slice none 0 0) (Value.int IntKind.i64 0) w
theorem S59_vc (h_1 b_2 : Value) (k : Value → World → Prop) (w : World) : vc Tryz.prog Tryz.f59.ntmps ann59 none ((Tryz.f59.body).getD Code.skip) 1 (params 0 [h_1, b_2]) [] (finQ Tryz.prog Tryz.f59.results.toList k) w = S59 h_1 b_2 k w := by kernel_rfl
theorem S59_calls (h_1 b_2 : Value) (k : Value → World → Prop) (w : World) (h : S59 h_1 b_2 k w) : Calls Tryz.prog 59 #[h_1, b_2] w (retP k) :=
  calls_of_vc (fn := Tryz.f59) (c := (Tryz.f59.body).getD Code.skip) ann59 Tryz.func59 (by kernel_rfl) [h_1, b_2] w k (by kernel_rfl) ((S59_vc h_1 b_2 k w).symm ▸ h)
theorem C59 (h_1 b_2 : Value) (k : Value → World → Prop) (w : World) (h : S59 h_1 b_2 k w) : callW Tryz.prog (.func (.func 59) #[] #[]) #[h_1, b_2] k w :=
  callW_calls ok59 (by simpa using S59_calls h_1 b_2 k w h)

end
end Go.Proofs.YtbojglaimdjagaaGreatDoor
/- The conditions of the functions, printed by program out of the loaded code, each with the contract that follows from it. -/
set_option linter.unusedVariables false
set_option maxRecDepth 100000
namespace Go.Proofs.YtbojglaimdjagaaGreatDoor
open Go Go.V
noncomputable section

/-! (*newswire/disk.Disk).settle -/
def ann65 : Ann := []
def S65 (d_1 from_2 to_3 : Value) (k : Value → World → Prop) (w : World) : Prop :=
   opW Tryz.prog (Builtin.copy_ #[39, 39] 3 #[to_3, from_2]) (fun t8_4 w =>
   nilW d_1 (fun t10_5 w =>
   opW Tryz.prog (Instr.fieldAt 97 t10_5 3) (fun t11_6 w =>
   opW Tryz.prog (Instr.loadAt 93 t11_6) (fun t12_7 w =>
   opW Tryz.prog (Builtin.clear_ #[93] 0 #[t12_7]) (fun _ w =>
   nilW d_1 (fun t15_8 w =>
   opW Tryz.prog (Instr.fieldAt 97 t15_8 3) (fun t16_9 w =>
   opW Tryz.prog (Instr.loadAt 93 t16_9) (fun t17_10 w =>
   opW Tryz.prog (Instr.sliceAt 93 t17_10 none (some (Value.int IntKind.i64 0)) none) (fun t18_11 w =>
   nilW d_1 (fun t19_12 w =>
   opW Tryz.prog (Instr.fieldAt 97 t19_12 3) (fun t20_13 w =>
   opU Tryz.prog (Instr.storeAt 93 t20_13 t18_11) (fun _ w =>
   k (Value.tuple #[]) w) w) w) w) w) w) w) w) w) w) w) w) w
theorem S65_vc (d_1 from_2 to_3 : Value) (k : Value → World → Prop) (w : World) : vc Tryz.prog Tryz.f65.ntmps ann65 none ((Tryz.f65.body).getD Code.skip) 1 (params 0 [d_1, from_2, to_3]) [] (finQ Tryz.prog Tryz.f65.results.toList k) w = S65 d_1 from_2 to_3 k w := by kernel_rfl
theorem S65_calls (d_1 from_2 to_3 : Value) (k : Value → World → Prop) (w : World) (h : S65 d_1 from_2 to_3 k w) : Calls Tryz.prog 65 #[d_1, from_2, to_3] w (retP k) :=
  calls_of_vc (fn := Tryz.f65) (c := (Tryz.f65.body).getD Code.skip) ann65 Tryz.func65 (by kernel_rfl) [d_1, from_2, to_3] w k (by kernel_rfl) ((S65_vc d_1 from_2 to_3 k w).symm ▸ h)
theorem C65 (d_1 from_2 to_3 : Value) (k : Value → World → Prop) (w : World) (h : S65 d_1 from_2 to_3 k w) : callW Tryz.prog (.func (.func 65) #[] #[]) #[d_1, from_2, to_3] k w :=
  callW_calls ok65 (by simpa using S65_calls d_1 from_2 to_3 k w h)

/-! slices.IndexFunc[[]string,string] -/
def ann68 : Ann := [(13, Note.keep []), (26, Note.loop [8] [0, 1, 7]), (422, Note.keep [0, 1, 7, 8])]
def S68 (s_1 f_2 : Value) (k : Value → World → Prop) (w : World) : Prop :=
   opW Tryz.prog (Builtin.len_ #[22] 3 #[s_1]) (fun t7_3 w =>
   Loop1 (fun t8_5 w K_6 =>
   opW Tryz.prog (binS BinOp.lss 3 (Operand.tmp 8) (Operand.tmp 7) t8_5 t7_3) (fun t9_7 w =>
   condW t9_7
   (opW Tryz.prog (Instr.indexAt 22 s_1 t8_5) (fun t14_10 w =>
   opW Tryz.prog (Instr.loadAt 9 t14_10) (fun t15_11 w =>
   callW Tryz.prog f_2 #[t15_11] (fun t16_12 w =>
   condW t16_12
   (k t8_5 w)
   (opW Tryz.prog (binS BinOp.add 3 (Operand.tmp 8) (Operand.const (Value.int IntKind.i64 1)) t8_5 (Value.int IntKind.i64 1)) (fun t18_13 w =>
   loopK [] [] [s_1, f_2, t7_3] [s_1, f_2, t7_3] (K_6 t18_13 w)) w)) w) w) w)
   (k (Value.int IntKind.i64 (-1)) w)) w) (Value.int IntKind.i64 0) w) w
theorem S68_vc (s_1 f_2 : Value) (k : Value → World → Prop) (w : World) : vc Tryz.prog Tryz.f68.ntmps ann68 none ((Tryz.f68.body).getD Code.skip) 1 (params 0 [s_1, f_2]) [] (finQ Tryz.prog Tryz.f68.results.toList k) w = S68 s_1 f_2 k w := by kernel_rfl
theorem S68_calls (s_1 f_2 : Value) (k : Value → World → Prop) (w : World) (h : S68 s_1 f_2 k w) : Calls Tryz.prog 68 #[s_1, f_2] w (retP k) :=
  calls_of_vc (fn := Tryz.f68) (c := (Tryz.f68.body).getD Code.skip) ann68 Tryz.func68 (by kernel_rfl) [s_1, f_2] w k (by kernel_rfl) ((S68_vc s_1 f_2 k w).symm ▸ h)
theorem C68 (s_1 f_2 : Value) (k : Value → World → Prop) (w : World) (h : S68 s_1 f_2 k w) : callW Tryz.prog (.func (.func 68) #[] #[]) #[s_1, f_2] k w :=
  callW_calls ok68 (by simpa using S68_calls s_1 f_2 k w h)

-- NOT PRINTED 69 (*strings.Builder).copyCheck: code refuse
/-! newswire/digest.Chain -/
def ann70 : Ann := []
def S70 (head_1 record_2 : Value) (k : Value → World → Prop) (w : World) : Prop :=
   callW Tryz.prog (Value.func (Fn.func 95) #[] #[]) #[(Value.string { data := #[2] })] (fun t5_3 w =>
   opW Tryz.prog (Instr.buildSlice 22 2 #[(0, head_1), (1, record_2)]) (fun t8_4 w =>
   callW Tryz.prog t5_3 #[t8_4] (fun t9_5 w =>
   k t9_5 w) w) w) w
theorem S70_vc (head_1 record_2 : Value) (k : Value → World → Prop) (w : World) : vc Tryz.prog Tryz.f70.ntmps ann70 none ((Tryz.f70.body).getD Code.skip) 1 (params 0 [head_1, record_2]) [] (finQ Tryz.prog Tryz.f70.results.toList k) w = S70 head_1 record_2 k w := by kernel_rfl
theorem S70_calls (head_1 record_2 : Value) (k : Value → World → Prop) (w : World) (h : S70 head_1 record_2 k w) : Calls Tryz.prog 70 #[head_1, record_2] w (retP k) :=
  calls_of_vc (fn := Tryz.f70) (c := (Tryz.f70.body).getD Code.skip) ann70 Tryz.func70 (by kernel_rfl) [head_1, record_2] w k (by kernel_rfl) ((S70_vc head_1 record_2 k w).symm ▸ h)
theorem C70 (head_1 record_2 : Value) (k : Value → World → Prop) (w : World) (h : S70 head_1 record_2 k w) : callW Tryz.prog (.func (.func 70) #[] #[]) #[head_1, record_2] k w :=
  callW_calls ok70 (by simpa using S70_calls head_1 record_2 k w h)

/-! newswire/wire.PutString -/
def ann71 : Ann := []
def S71 (s_1 : Value) (k : Value → World → Prop) (w : World) : Prop :=
   opW Tryz.prog (Builtin.len_ #[9] 3 #[s_1]) (fun t7_3 w =>
   opW Tryz.prog (binS BinOp.gtr 3 (Operand.tmp 7) (Operand.const (Value.int IntKind.i64 65536)) t7_3 (Value.int IntKind.i64 65536)) (fun t8_4 w =>
   condW t8_4
   (k (Value.tuple #[(Value.string { data := #[] }), (Value.int IntKind.i64 10)]) w)
   (opW Tryz.prog (Builtin.len_ #[9] 3 #[s_1]) (fun t11_5 w =>
   callW Tryz.prog (Value.func (Fn.func 96) #[] #[]) #[t11_5] (fun t12_6 w =>
   opW Tryz.prog (Instr.extract t12_6 0) (fun t13_7 w =>
   opW Tryz.prog (Instr.extract t12_6 1) (fun t14_8 w =>
   opW Tryz.prog (binS BinOp.add 9 (Operand.tmp 15) (Operand.tmp 16) t13_7 s_1) (fun t17_9 w =>
   k (Value.tuple #[t17_9, (Value.int IntKind.i64 0)]) w) w) w) w) w) w)) w) w
theorem S71_vc (s_1 : Value) (k : Value → World → Prop) (w : World) : vc Tryz.prog Tryz.f71.ntmps ann71 none ((Tryz.f71.body).getD Code.skip) 1 (params 0 [s_1]) [] (finQ Tryz.prog Tryz.f71.results.toList k) w = S71 s_1 k w := by kernel_rfl
theorem S71_calls (s_1 : Value) (k : Value → World → Prop) (w : World) (h : S71 s_1 k w) : Calls Tryz.prog 71 #[s_1] w (retP k) :=
  calls_of_vc (fn := Tryz.f71) (c := (Tryz.f71.body).getD Code.skip) ann71 Tryz.func71 (by kernel_rfl) [s_1] w k (by kernel_rfl) ((S71_vc s_1 k w).symm ▸ h)
theorem C71 (s_1 : Value) (k : Value → World → Prop) (w : World) (h : S71 s_1 k w) : callW Tryz.prog (.func (.func 71) #[] #[]) #[s_1] k w :=
  callW_calls ok71 (by simpa using S71_calls s_1 k w h)

/-! (*newswire/journal.Journal).writing$1 -/
def ann72 : Ann := [(6, Note.plan (Plan.takeU 0 (Plan.takeP 1 (Plan.takeP 2 (Plan.takeX 3 (Plan.takeX 4 (Plan.takeX 5 (Plan.run 6 (Plan.takeP 7 Plan.done)))))))))]
def S72 (x0_1 x1_2 x2_3 : Value) (k : Value → World → Prop) (w : World) : Prop :=
   drewW w (fun w =>
   ∃ S : World → Prop, S w ∧
   takeW Tryz.prog S (Instr.loadAt 28 x0_1) (fun t4_5 =>
   nilT t4_5 (fun t5_6 =>
   takeW Tryz.prog anyW (Instr.fieldAt 74 t5_6 1) (fun t6_7 =>
   takeW Tryz.prog (sameW w) (Instr.loadAt 27 t6_7) (fun t7_8 =>
   takeW Tryz.prog (sameW w) (Instr.loadAt 3 x1_2) (fun t8_9 =>
   takeW Tryz.prog (sameW w) (Instr.loadAt 9 x2_3) (fun t9_10 =>
   callW Tryz.prog (Value.func (Fn.func 13) #[] #[]) #[t7_8, t8_9, t9_10] (fun t10_11 w => keepS S (fun w =>
   k t10_11 w) w) w) w) w) w) w)) w)
theorem S72_vc (x0_1 x1_2 x2_3 : Value) (k : Value → World → Prop) (w : World) : vc Tryz.prog Tryz.f72.ntmps ann72 none ((Tryz.f72.body).getD Code.skip) 1 (params 0 [x0_1, x1_2, x2_3]) [] (finQ Tryz.prog Tryz.f72.results.toList k) w = S72 x0_1 x1_2 x2_3 k w := by kernel_rfl
theorem S72_calls (x0_1 x1_2 x2_3 : Value) (k : Value → World → Prop) (w : World) (h : S72 x0_1 x1_2 x2_3 k w) : Calls Tryz.prog 72 #[x0_1, x1_2, x2_3] w (retP k) :=
  calls_of_vc (fn := Tryz.f72) (c := (Tryz.f72.body).getD Code.skip) ann72 Tryz.func72 (by kernel_rfl) [x0_1, x1_2, x2_3] w k (by kernel_rfl) ((S72_vc x0_1 x1_2 x2_3 k w).symm ▸ h)
theorem C72 (x0_1 x1_2 x2_3 : Value) (k : Value → World → Prop) (w : World) (h : S72 x0_1 x1_2 x2_3 k w) : callW Tryz.prog (.func (.func 72) #[] #[x0_1, x1_2, x2_3]) #[] k w :=
  callW_calls ok72 (by simpa using S72_calls x0_1 x1_2 x2_3 k w h)

-- NOT PRINTED 76 newswire/journal.open$1: an operation that is not taken in: Op.call('builtin', ['Builtin.recover'])
/-! (*newswire/journal.tape).load -/
def ann78 : Ann := [(1, Note.keep []), (2, Note.loop [] [0, 1]), (9, Note.keep [0, 1]), (303, Note.plan (Plan.takeP 0 (Plan.takeP 1 (Plan.takeP 3 (Plan.takeP 4 (Plan.takeP 5 (Plan.takeP 6 (Plan.takeP 7 (Plan.run 2 (Plan.takeP 8 (Plan.run 9 Plan.done)))))))))))]
def S78 (t_1 s_2 : Value) (k : Value → World → Prop) (kp : List PanicEntry → World → Prop) (w : World) : Prop :=
   Loop0 (fun w K_4 =>
   nilW t_1 (fun t9_6 w =>
   opW Tryz.prog (Instr.fieldAt 72 t9_6 2) (fun t10_7 w =>
   opW Tryz.prog (Instr.loadAt 3 t10_7) (fun t11_8 w =>
   opW Tryz.prog (Builtin.len_ #[9] 3 #[s_2]) (fun t13_9 w =>
   opW Tryz.prog (binS BinOp.lss 3 (Operand.tmp 11) (Operand.tmp 13) t11_8 t13_9) (fun t14_10 w =>
   guardW (some t14_10, true) (fun k w => k s_2 w) (fun t16_11 w =>
   guardW (some t14_10, true) (fun k w => k t_1 w) (fun t17_12 w =>
   guardW (some t14_10, true) (fun k w => nilW t17_12 k w) (fun t18_13 w =>
   guardW (some t14_10, true) (fun k w => opW Tryz.prog (Instr.fieldAt 72 t18_13 2) k w) (fun t19_14 w =>
   guardW (some t14_10, true) (fun k w => opW Tryz.prog (Instr.loadAt 3 t19_14) k w) (fun t20_15 w =>
   guardW (some t14_10, true) (fun k w => opW Tryz.prog (Instr.index 9 t16_11 t20_15) k w) (fun t21_16 w =>
   guardW (some t14_10, true) (fun k w => opW Tryz.prog (binS BinOp.neq 5 (Operand.tmp 21) (Operand.const (Value.int IntKind.u8 0)) t21_16 (Value.int IntKind.u8 0)) k w) (fun t22_17 w =>
   pickW t14_10 t22_17 (Value.bool false) (fun t23_18 w =>
   condW t23_18
   (nilW t_1 (fun t25_20 w =>
   opW Tryz.prog (Instr.fieldAt 72 t25_20 2) (fun t26_21 w =>
   opW Tryz.prog (Instr.loadAt 3 t26_21) (fun t27_22 w =>
   opW Tryz.prog (Instr.index 9 s_2 t27_22) (fun t30_23 w =>
   opW Tryz.prog (binS BinOp.eql 5 (Operand.tmp 30) (Operand.const (Value.int IntKind.u8 1)) t30_23 (Value.int IntKind.u8 1)) (fun t31_24 w =>
   callP Tryz.prog (Value.func (Fn.func 100) #[] #[]) #[t31_24] (fun t32_25 w =>
   opW Tryz.prog (binS BinOp.add 3 (Operand.tmp 35) (Operand.const (Value.int IntKind.i64 1)) t27_22 (Value.int IntKind.i64 1)) (fun t36_26 w =>
   callP Tryz.prog (Value.func (Fn.func 101) #[] #[]) #[s_2, t36_26] (fun t37_27 w =>
   opW Tryz.prog (Instr.extract t37_27 0) (fun t38_28 w =>
   opW Tryz.prog (Instr.extract t37_27 1) (fun t39_29 w =>
   opW Tryz.prog (Instr.extract t37_27 2) (fun t40_30 w =>
   opW Tryz.prog (binS BinOp.eql 33 (Operand.tmp 41) (Operand.const (Value.int IntKind.i64 0)) t40_30 (Value.int IntKind.i64 0)) (fun t42_31 w =>
   guardW (some t42_31, true) (fun k w => k t39_29 w) (fun t44_32 w =>
   guardW (some t42_31, true) (fun k w => opW Tryz.prog (binS BinOp.add 3 (Operand.tmp 44) (Operand.const (Value.int IntKind.i64 32)) t44_32 (Value.int IntKind.i64 32)) k w) (fun t45_33 w =>
   guardW (some t42_31, true) (fun k w => k s_2 w) (fun t46_34 w =>
   guardW (some t42_31, true) (fun k w => opW Tryz.prog (Builtin.len_ #[9] 3 #[t46_34]) k w) (fun t47_35 w =>
   guardW (some t42_31, true) (fun k w => opW Tryz.prog (binS BinOp.leq 3 (Operand.tmp 45) (Operand.tmp 47) t45_33 t47_35) k w) (fun t48_36 w =>
   pickW t42_31 t48_36 (Value.bool false) (fun t49_37 w =>
   callP Tryz.prog (Value.func (Fn.func 100) #[] #[]) #[t49_37] (fun t50_38 w =>
   drewW w (fun w =>
   takeW Tryz.prog anyW (binS BinOp.add 3 (Operand.tmp 56) (Operand.const (Value.int IntKind.i64 32)) t39_29 (Value.int IntKind.i64 32)) (fun t57_40 =>
   takeW Tryz.prog anyW (Instr.sliceAt 9 s_2 (some t27_22) (some t57_40) none) (fun t58_41 =>
   callP Tryz.prog (Value.func (Fn.func 38) #[] #[]) #[t_1, t38_28] (fun t53_42 w =>
   takeW Tryz.prog anyW (binS BinOp.eql 9 (Operand.tmp 53) (Operand.tmp 58) t53_42 t58_41) (fun t59_43 =>
   callP Tryz.prog (Value.func (Fn.func 100) #[] #[]) #[t59_43] (fun t60_44 w =>
   loopK [] [] [t_1, s_2] [t_1, s_2] (K_4 w)) kp w) w) kp w) w) w)) kp w) w) w) w) w) w) w) w) w) w) w) kp w) w) kp w) w) w) w) w) w)
   (k (Value.tuple #[]) w)) w) w) w) w) w) w) w) w) w) w) w) w) w) w
theorem S78_vc (t_1 s_2 : Value) (k : Value → World → Prop) (kp : List PanicEntry → World → Prop) (w : World) : vc Tryz.prog Tryz.f78.ntmps ann78 none ((Tryz.f78.body).getD Code.skip) 1 (params 0 [t_1, s_2]) [] (finQP Tryz.prog Tryz.f78.results.toList k kp) w = S78 t_1 s_2 k kp w := by kernel_rfl
theorem S78_calls (t_1 s_2 : Value) (k : Value → World → Prop) (kp : List PanicEntry → World → Prop) (w : World) (h : S78 t_1 s_2 k kp w) : Calls Tryz.prog 78 #[t_1, s_2] w (retPP k kp) :=
  calls_of_vcP (fn := Tryz.f78) (c := (Tryz.f78.body).getD Code.skip) ann78 Tryz.func78 (by kernel_rfl) [t_1, s_2] w k kp (by kernel_rfl) ((S78_vc t_1 s_2 k kp w).symm ▸ h)
theorem C78 (t_1 s_2 : Value) (k : Value → World → Prop) (kp : List PanicEntry → World → Prop) (w : World) (h : S78 t_1 s_2 k kp w) : callP Tryz.prog (.func (.func 78) #[] #[]) #[t_1, s_2] k kp w :=
  callP_calls ok78 (by simpa using S78_calls t_1 s_2 k kp w h)

/-! newswire/newswireref01.zigzag -/
def ann86 : Ann := []
def S86 (n_1 : Value) (k : Value → World → Prop) (w : World) : Prop :=
   opW Tryz.prog (binS BinOp.lss 3 (Operand.tmp 3) (Operand.const (Value.int IntKind.i64 0)) n_1 (Value.int IntKind.i64 0)) (fun t4_3 w =>
   condW t4_3
   (opW Tryz.prog (Op.unary UnOp.neg n_1) (fun t6_4 w =>
   opW Tryz.prog (convert 3 141 t6_4) (fun t7_5 w =>
   opW Tryz.prog (binS BinOp.mul 141 (Operand.tmp 7) (Operand.const (Value.int IntKind.u64 2)) t7_5 (Value.int IntKind.u64 2)) (fun t8_6 w =>
   opW Tryz.prog (binS BinOp.sub 141 (Operand.tmp 8) (Operand.const (Value.int IntKind.u64 1)) t8_6 (Value.int IntKind.u64 1)) (fun t9_7 w =>
   k t9_7 w) w) w) w) w)
   (opW Tryz.prog (convert 3 141 n_1) (fun t11_8 w =>
   opW Tryz.prog (binS BinOp.mul 141 (Operand.tmp 11) (Operand.const (Value.int IntKind.u64 2)) t11_8 (Value.int IntKind.u64 2)) (fun t12_9 w =>
   k t12_9 w) w) w)) w
theorem S86_vc (n_1 : Value) (k : Value → World → Prop) (w : World) : vc Tryz.prog Tryz.f86.ntmps ann86 none ((Tryz.f86.body).getD Code.skip) 1 (params 0 [n_1]) [] (finQ Tryz.prog Tryz.f86.results.toList k) w = S86 n_1 k w := by kernel_rfl
theorem S86_calls (n_1 : Value) (k : Value → World → Prop) (w : World) (h : S86 n_1 k w) : Calls Tryz.prog 86 #[n_1] w (retP k) :=
  calls_of_vc (fn := Tryz.f86) (c := (Tryz.f86.body).getD Code.skip) ann86 Tryz.func86 (by kernel_rfl) [n_1] w k (by kernel_rfl) ((S86_vc n_1 k w).symm ▸ h)
theorem C86 (n_1 : Value) (k : Value → World → Prop) (w : World) (h : S86 n_1 k w) : callW Tryz.prog (.func (.func 86) #[] #[]) #[n_1] k w :=
  callW_calls ok86 (by simpa using S86_calls n_1 k w h)

/-! newswire/newswireref02.rotated -/
def ann87 : Ann := [(6, Note.plan (Plan.takeP 0 (Plan.takeP 1 (Plan.takeP 2 (Plan.takeP 3 (Plan.takeP 4 (Plan.takeP 5 (Plan.takeP 6 (Plan.takeP 7 (Plan.takeP 8 Plan.done))))))))))]
def S87 (x_1 n_2 : Value) (k : Value → World → Prop) (w : World) : Prop :=
   drewW w (fun w =>
   takeW Tryz.prog anyW (binS BinOp.shr 109 (Operand.tmp 5) (Operand.tmp 6) x_1 n_2) (fun t7_4 =>
   takeW Tryz.prog anyW (binS BinOp.sub 3 (Operand.const (Value.int IntKind.i64 32)) (Operand.tmp 9) (Value.int IntKind.i64 32) n_2) (fun t10_5 =>
   takeW Tryz.prog anyW (binS BinOp.shl 109 (Operand.tmp 8) (Operand.tmp 10) x_1 t10_5) (fun t11_6 =>
   takeW Tryz.prog anyW (binS BinOp.or 109 (Operand.tmp 7) (Operand.tmp 11) t7_4 t11_6) (fun t12_7 =>
   k t12_7 w) w) w) w) w)
theorem S87_vc (x_1 n_2 : Value) (k : Value → World → Prop) (w : World) : vc Tryz.prog Tryz.f87.ntmps ann87 none ((Tryz.f87.body).getD Code.skip) 1 (params 0 [x_1, n_2]) [] (finQ Tryz.prog Tryz.f87.results.toList k) w = S87 x_1 n_2 k w := by kernel_rfl
theorem S87_calls (x_1 n_2 : Value) (k : Value → World → Prop) (w : World) (h : S87 x_1 n_2 k w) : Calls Tryz.prog 87 #[x_1, n_2] w (retP k) :=
  calls_of_vc (fn := Tryz.f87) (c := (Tryz.f87.body).getD Code.skip) ann87 Tryz.func87 (by kernel_rfl) [x_1, n_2] w k (by kernel_rfl) ((S87_vc x_1 n_2 k w).symm ▸ h)
theorem C87 (x_1 n_2 : Value) (k : Value → World → Prop) (w : World) (h : S87 x_1 n_2 k w) : callW Tryz.prog (.func (.func 87) #[] #[]) #[x_1, n_2] k w :=
  callW_calls ok87 (by simpa using S87_calls x_1 n_2 k w h)

/-! newswire/newswireref02.constants -/
def ann88 : Ann := []
def S88 (k : Value → World → Prop) (w : World) : Prop :=
   opW Tryz.prog (Instr.buildSlice 110 64 #[(0, (Value.int IntKind.u32 1116352408)), (1, (Value.int IntKind.u32 1899447441)), (2, (Value.int IntKind.u32 3049323471)), (3, (Value.int IntKind.u32 3921009573)), (4, (Value.int IntKind.u32 961987163)), (5, (Value.int IntKind.u32 1508970993)), (6, (Value.int IntKind.u32 2453635748)), (7, (Value.int IntKind.u32 2870763221)), (8, (Value.int IntKind.u32 3624381080)), (9, (Value.int IntKind.u32 310598401)), (10, (Value.int IntKind.u32 607225278)), (11, (Value.int IntKind.u32 1426881987)), (12, (Value.int IntKind.u32 1925078388)), (13, (Value.int IntKind.u32 2162078206)), (14, (Value.int IntKind.u32 2614888103)), (15, (Value.int IntKind.u32 3248222580)), (16, (Value.int IntKind.u32 3835390401)), (17, (Value.int IntKind.u32 4022224774)), (18, (Value.int IntKind.u32 264347078)), (19, (Value.int IntKind.u32 604807628)), (20, (Value.int IntKind.u32 770255983)), (21, (Value.int IntKind.u32 1249150122)), (22, (Value.int IntKind.u32 1555081692)), (23, (Value.int IntKind.u32 1996064986)), (24, (Value.int IntKind.u32 2554220882)), (25, (Value.int IntKind.u32 2821834349)), (26, (Value.int IntKind.u32 2952996808)), (27, (Value.int IntKind.u32 3210313671)), (28, (Value.int IntKind.u32 3336571891)), (29, (Value.int IntKind.u32 3584528711)), (30, (Value.int IntKind.u32 113926993)), (31, (Value.int IntKind.u32 338241895)), (32, (Value.int IntKind.u32 666307205)), (33, (Value.int IntKind.u32 773529912)), (34, (Value.int IntKind.u32 1294757372)), (35, (Value.int IntKind.u32 1396182291)), (36, (Value.int IntKind.u32 1695183700)), (37, (Value.int IntKind.u32 1986661051)), (38, (Value.int IntKind.u32 2177026350)), (39, (Value.int IntKind.u32 2456956037)), (40, (Value.int IntKind.u32 2730485921)), (41, (Value.int IntKind.u32 2820302411)), (42, (Value.int IntKind.u32 3259730800)), (43, (Value.int IntKind.u32 3345764771)), (44, (Value.int IntKind.u32 3516065817)), (45, (Value.int IntKind.u32 3600352804)), (46, (Value.int IntKind.u32 4094571909)), (47, (Value.int IntKind.u32 275423344)), (48, (Value.int IntKind.u32 430227734)), (49, (Value.int IntKind.u32 506948616)), (50, (Value.int IntKind.u32 659060556)), (51, (Value.int IntKind.u32 883997877)), (52, (Value.int IntKind.u32 958139571)), (53, (Value.int IntKind.u32 1322822218)), (54, (Value.int IntKind.u32 1537002063)), (55, (Value.int IntKind.u32 1747873779)), (56, (Value.int IntKind.u32 1955562222)), (57, (Value.int IntKind.u32 2024104815)), (58, (Value.int IntKind.u32 2227730452)), (59, (Value.int IntKind.u32 2361852424)), (60, (Value.int IntKind.u32 2428436474)), (61, (Value.int IntKind.u32 2756734187)), (62, (Value.int IntKind.u32 3204031479)), (63, (Value.int IntKind.u32 3329325298))]) (fun t1_1 w =>
   k t1_1 w) w
theorem S88_vc (k : Value → World → Prop) (w : World) : vc Tryz.prog Tryz.f88.ntmps ann88 none ((Tryz.f88.body).getD Code.skip) 1 (params 0 []) [] (finQ Tryz.prog Tryz.f88.results.toList k) w = S88 k w := by kernel_rfl
theorem S88_calls (k : Value → World → Prop) (w : World) (h : S88 k w) : Calls Tryz.prog 88 #[] w (retP k) :=
  calls_of_vc (fn := Tryz.f88) (c := (Tryz.f88.body).getD Code.skip) ann88 Tryz.func88 (by kernel_rfl) [] w k (by kernel_rfl) ((S88_vc k w).symm ▸ h)
theorem C88 (k : Value → World → Prop) (w : World) (h : S88 k w) : callW Tryz.prog (.func (.func 88) #[] #[]) #[] k w :=
  callW_calls ok88 (by simpa using S88_calls k w h)

/-! newswire/digest.marked -/
def ann95 : Ann := []
def S95 (mark_1 : Value) (k : Value → World → Prop) (w : World) : Prop :=
   opW Tryz.prog (Instr.box 9 mark_1) (fun mark_2 w =>
   opW Tryz.prog (Instr.makeFunc (Fn.func 109) #[] #[mark_2]) (fun t3_3 w =>
   k t3_3 w) w) w
theorem S95_vc (mark_1 : Value) (k : Value → World → Prop) (w : World) : vc Tryz.prog Tryz.f95.ntmps ann95 none ((Tryz.f95.body).getD Code.skip) 1 (params 0 [mark_1]) [] (finQ Tryz.prog Tryz.f95.results.toList k) w = S95 mark_1 k w := by kernel_rfl
theorem S95_calls (mark_1 : Value) (k : Value → World → Prop) (w : World) (h : S95 mark_1 k w) : Calls Tryz.prog 95 #[mark_1] w (retP k) :=
  calls_of_vc (fn := Tryz.f95) (c := (Tryz.f95.body).getD Code.skip) ann95 Tryz.func95 (by kernel_rfl) [mark_1] w k (by kernel_rfl) ((S95_vc mark_1 k w).symm ▸ h)
theorem C95 (mark_1 : Value) (k : Value → World → Prop) (w : World) (h : S95 mark_1 k w) : callW Tryz.prog (.func (.func 95) #[] #[]) #[mark_1] k w :=
  callW_calls ok95 (by simpa using S95_calls mark_1 k w h)

/-! newswire/wire.PutInt -/
def ann96 : Ann := [(61, Note.keep [4]), (245, Note.keep [])]
def S96 (n_1 : Value) (k : Value → World → Prop) (w : World) : Prop :=
   opW Tryz.prog (binS BinOp.lss 3 (Operand.tmp 7) (Operand.const (Value.int IntKind.i64 (-4611686018427387903))) n_1 (Value.int IntKind.i64 (-4611686018427387903))) (fun t8_3 w =>
   guardW (some t8_3, false) (fun k w => k n_1 w) (fun t10_4 w =>
   guardW (some t8_3, false) (fun k w => opW Tryz.prog (binS BinOp.gtr 3 (Operand.tmp 10) (Operand.const (Value.int IntKind.i64 4611686018427387903)) t10_4 (Value.int IntKind.i64 4611686018427387903)) k w) (fun t11_5 w =>
   pickW t8_3 (Value.bool true) t11_5 (fun t12_6 w =>
   condW t12_6
   (k (Value.tuple #[(Value.string { data := #[] }), (Value.int IntKind.i64 10)]) w)
   (opW Tryz.prog (Instr.alloc 39 true (Value.tuple #[])) (fun out_7 w =>
   opW Tryz.prog (convert 3 141 n_1) (fun t14_8 w =>
   opW Tryz.prog (binS BinOp.shl 141 (Operand.tmp 14) (Operand.const (Value.int IntKind.u64 1)) t14_8 (Value.int IntKind.u64 1)) (fun t15_9 w =>
   opW Tryz.prog (binS BinOp.shr 3 (Operand.tmp 16) (Operand.const (Value.int IntKind.u64 63)) n_1 (Value.int IntKind.u64 63)) (fun t17_10 w =>
   opW Tryz.prog (convert 3 141 t17_10) (fun t18_11 w =>
   opW Tryz.prog (binS BinOp.xor 141 (Operand.tmp 15) (Operand.tmp 18) t15_9 t18_11) (fun t19_12 w =>
   callW Tryz.prog (Value.func (Fn.func 112) #[] #[]) #[t19_12] (fun t20_13 w =>
   rangeW Tryz.prog t20_13 2 (fun l_15 ready_15 busy_15 args_15 w k_15 =>
   ready_15 w ∧ (fun w => joinW (fun g_20 w =>
   opW Tryz.prog (Instr.loadAt 39 out_7) (fun t27_21 w =>
   opW Tryz.prog (Instr.buildSlice 39 1 #[(0, g_20)]) (fun t29_22 w =>
   opW Tryz.prog (Builtin.append_ #[39, 39] 39 #[t27_21, t29_22]) (fun t30_23 w =>
   opU Tryz.prog (Instr.storeAt 39 out_7 t30_23) (fun _ w =>
   k_15 none w) w) w) w) w) (fun J_17 =>
   opW Tryz.prog (Op.unary UnOp.not (args_15.tail.headD undef)) (fun t24_18 w =>
   condW t24_18
   (opW Tryz.prog (binS BinOp.or 5 (Operand.tmp 25) (Operand.const (Value.int IntKind.u8 128)) (args_15.headD undef) (Value.int IntKind.u8 128)) (fun t26_19 w =>
   J_17 t26_19 w) w)
   (J_17 (args_15.headD undef) w)) w)) (busy_15 w)) (fun d_15 j_15 w => jumpW j_15
   (opW Tryz.prog (Instr.loadAt 39 out_7) (fun t31_24 w =>
   opW Tryz.prog (convert 39 9 t31_24) (fun t32_25 w =>
   leaveW [{ target := Target.collected d_15, args := #[] }] (fun w => k (Value.tuple #[t32_25, (Value.int IntKind.i64 0)]) w) w) w) w)
   (leaveW [{ target := Target.collected d_15, args := #[] }] (fun w => k (Value.tuple #[(Value.string { data := #[] }), (Value.int IntKind.i64 0)]) w) w)
   (fun x => False)) w) w) w) w) w) w) w) w)) w) w) w) w
theorem S96_vc (n_1 : Value) (k : Value → World → Prop) (w : World) : vc Tryz.prog Tryz.f96.ntmps ann96 none ((Tryz.f96.body).getD Code.skip) 1 (params 0 [n_1]) [] (finQ Tryz.prog Tryz.f96.results.toList k) w = S96 n_1 k w := by kernel_rfl
theorem S96_calls (n_1 : Value) (k : Value → World → Prop) (w : World) (h : S96 n_1 k w) : Calls Tryz.prog 96 #[n_1] w (retP k) :=
  calls_of_vc (fn := Tryz.f96) (c := (Tryz.f96.body).getD Code.skip) ann96 Tryz.func96 (by kernel_rfl) [n_1] w k (by kernel_rfl) ((S96_vc n_1 k w).symm ▸ h)
theorem C96 (n_1 : Value) (k : Value → World → Prop) (w : World) (h : S96 n_1 k w) : callW Tryz.prog (.func (.func 96) #[] #[]) #[n_1] k w :=
  callW_calls ok96 (by simpa using S96_calls n_1 k w h)

/-! newswire/journal.check -/
def ann100 : Ann := []
def S100 (holds_1 : Value) (k : Value → World → Prop) (kp : List PanicEntry → World → Prop) (w : World) : Prop :=
   opW Tryz.prog (Op.unary UnOp.not holds_1) (fun t3_2 w =>
   condW t3_2
   (opW Tryz.prog (Instr.loadAt 80 (Value.pointer (some ⟨0, 0, none⟩))) (fun t4_3 w =>
   panicW t4_3 kp w) w)
   (k (Value.tuple #[]) w)) w
theorem S100_vc (holds_1 : Value) (k : Value → World → Prop) (kp : List PanicEntry → World → Prop) (w : World) : vc Tryz.prog Tryz.f100.ntmps ann100 none ((Tryz.f100.body).getD Code.skip) 1 (params 0 [holds_1]) [] (finQP Tryz.prog Tryz.f100.results.toList k kp) w = S100 holds_1 k kp w := by kernel_rfl
theorem S100_calls (holds_1 : Value) (k : Value → World → Prop) (kp : List PanicEntry → World → Prop) (w : World) (h : S100 holds_1 k kp w) : Calls Tryz.prog 100 #[holds_1] w (retPP k kp) :=
  calls_of_vcP (fn := Tryz.f100) (c := (Tryz.f100.body).getD Code.skip) ann100 Tryz.func100 (by kernel_rfl) [holds_1] w k kp (by kernel_rfl) ((S100_vc holds_1 k kp w).symm ▸ h)
theorem C100 (holds_1 : Value) (k : Value → World → Prop) (kp : List PanicEntry → World → Prop) (w : World) (h : S100 holds_1 k kp w) : callP Tryz.prog (.func (.func 100) #[] #[]) #[holds_1] k kp w :=
  callP_calls ok100 (by simpa using S100_calls holds_1 k kp w h)

/-! newswire/wire.String -/
def ann101 : Ann := []
def S101 (s_1 at_2 : Value) (k : Value → World → Prop) (w : World) : Prop :=
   callW Tryz.prog (Value.func (Fn.func 113) #[] #[]) #[s_1, at_2] (fun t13_3 w =>
   opW Tryz.prog (Instr.extract t13_3 0) (fun t14_4 w =>
   opW Tryz.prog (Instr.extract t13_3 1) (fun t15_5 w =>
   opW Tryz.prog (Instr.extract t13_3 2) (fun t16_6 w =>
   opW Tryz.prog (binS BinOp.neq 33 (Operand.tmp 17) (Operand.const (Value.int IntKind.i64 0)) t16_6 (Value.int IntKind.i64 0)) (fun t18_8 w =>
   condW t18_8
   (k (Value.tuple #[(Value.string { data := #[] }), (Value.int IntKind.i64 0), t16_6]) w)
   (opW Tryz.prog (binS BinOp.lss 3 (Operand.tmp 20) (Operand.const (Value.int IntKind.i64 0)) t14_4 (Value.int IntKind.i64 0)) (fun t21_10 w =>
   guardW (some t21_10, false) (fun k w => k t14_4 w) (fun t23_11 w =>
   guardW (some t21_10, false) (fun k w => opW Tryz.prog (binS BinOp.gtr 3 (Operand.tmp 23) (Operand.const (Value.int IntKind.i64 65536)) t23_11 (Value.int IntKind.i64 65536)) k w) (fun t24_12 w =>
   pickW t21_10 (Value.bool true) t24_12 (fun t25_13 w =>
   guardW (some t25_13, false) (fun k w => k t14_4 w) (fun t27_14 w =>
   guardW (some t25_13, false) (fun k w => k s_1 w) (fun t28_15 w =>
   guardW (some t25_13, false) (fun k w => opW Tryz.prog (Builtin.len_ #[9] 3 #[t28_15]) k w) (fun t29_16 w =>
   guardW (some t25_13, false) (fun k w => k t15_5 w) (fun t30_17 w =>
   guardW (some t25_13, false) (fun k w => opW Tryz.prog (binS BinOp.sub 3 (Operand.tmp 29) (Operand.tmp 30) t29_16 t30_17) k w) (fun t31_18 w =>
   guardW (some t25_13, false) (fun k w => opW Tryz.prog (binS BinOp.gtr 3 (Operand.tmp 27) (Operand.tmp 31) t27_14 t31_18) k w) (fun t32_19 w =>
   pickW t25_13 (Value.bool true) t32_19 (fun t33_20 w =>
   condW t33_20
   (k (Value.tuple #[(Value.string { data := #[] }), (Value.int IntKind.i64 0), (Value.int IntKind.i64 10)]) w)
   (opW Tryz.prog (binS BinOp.add 3 (Operand.tmp 36) (Operand.tmp 37) t15_5 t14_4) (fun t38_21 w =>
   opW Tryz.prog (Instr.sliceAt 9 s_1 (some t15_5) (some t38_21) none) (fun t39_22 w =>
   opW Tryz.prog (binS BinOp.add 3 (Operand.tmp 40) (Operand.tmp 41) t15_5 t14_4) (fun t42_23 w =>
   k (Value.tuple #[t39_22, t42_23, (Value.int IntKind.i64 0)]) w) w) w) w)) w) w) w) w) w) w) w) w) w) w) w)) w) w) w) w) w
theorem S101_vc (s_1 at_2 : Value) (k : Value → World → Prop) (w : World) : vc Tryz.prog Tryz.f101.ntmps ann101 none ((Tryz.f101.body).getD Code.skip) 1 (params 0 [s_1, at_2]) [] (finQ Tryz.prog Tryz.f101.results.toList k) w = S101 s_1 at_2 k w := by kernel_rfl
theorem S101_calls (s_1 at_2 : Value) (k : Value → World → Prop) (w : World) (h : S101 s_1 at_2 k w) : Calls Tryz.prog 101 #[s_1, at_2] w (retP k) :=
  calls_of_vc (fn := Tryz.f101) (c := (Tryz.f101.body).getD Code.skip) ann101 Tryz.func101 (by kernel_rfl) [s_1, at_2] w k (by kernel_rfl) ((S101_vc s_1 at_2 k w).symm ▸ h)
theorem C101 (s_1 at_2 : Value) (k : Value → World → Prop) (w : World) (h : S101 s_1 at_2 k w) : callW Tryz.prog (.func (.func 101) #[] #[]) #[s_1, at_2] k w :=
  callW_calls ok101 (by simpa using S101_calls s_1 at_2 k w h)

/-! newswire/digest.marked$1 -/
def ann109 : Ann := [(6, Note.plan (Plan.takeU 0 (Plan.takeP 1 (Plan.run 2 (Plan.takeP 3 (Plan.run 4 (Plan.takeP 5 Plan.done)))))))]
def S109 (l_1 x1_2 : Value) (k : Value → World → Prop) (w : World) : Prop :=
   drewW w (fun w =>
   ∃ S : World → Prop, S w ∧
   takeW Tryz.prog S (Instr.loadAt 9 x1_2) (fun t4_4 =>
   callW Tryz.prog (Value.func (Fn.func 111) #[] #[]) #[l_1, (Value.string { data := #[] })] (fun t6_5 w => keepS S (fun w =>
   takeW Tryz.prog anyW (binS BinOp.add 9 (Operand.tmp 4) (Operand.tmp 6) t4_4 t6_5) (fun t7_6 =>
   callW Tryz.prog (Value.func (Fn.func 110) #[] #[]) #[t7_6] (fun t8_7 w => keepS S (fun w =>
   k t8_7 w) w) w) w) w) w) w)
theorem S109_vc (l_1 x1_2 : Value) (k : Value → World → Prop) (w : World) : vc Tryz.prog Tryz.f109.ntmps ann109 none ((Tryz.f109.body).getD Code.skip) 1 (params 0 [l_1, x1_2]) [] (finQ Tryz.prog Tryz.f109.results.toList k) w = S109 l_1 x1_2 k w := by kernel_rfl
theorem S109_calls (l_1 x1_2 : Value) (k : Value → World → Prop) (w : World) (h : S109 l_1 x1_2 k w) : Calls Tryz.prog 109 #[l_1, x1_2] w (retP k) :=
  calls_of_vc (fn := Tryz.f109) (c := (Tryz.f109.body).getD Code.skip) ann109 Tryz.func109 (by kernel_rfl) [l_1, x1_2] w k (by kernel_rfl) ((S109_vc l_1 x1_2 k w).symm ▸ h)
theorem C109 (l_1 x1_2 : Value) (k : Value → World → Prop) (w : World) (h : S109 l_1 x1_2 k w) : callW Tryz.prog (.func (.func 109) #[] #[x1_2]) #[l_1] k w :=
  callW_calls ok109 (by simpa using S109_calls l_1 x1_2 k w h)

/-! newswire/digest.Sum -/
def ann110 : Ann := [(30, Note.keep [0, 2, 3, 4]), (60, Note.loop [4] [0, 2, 3]), (125, Note.keep [2, 3, 4]), (241, Note.keep [0, 2, 3, 4]), (250, Note.loop [4, 5] [0, 2, 3]), (253, Note.keep [3]), (1013, Note.keep []), (2002, Note.keep [0, 2, 3, 4, 5])]
def S110 (s_1 : Value) (k : Value → World → Prop) (w : World) : Prop :=
   opW Tryz.prog (Instr.build 193 #[(0, (Value.int IntKind.u32 1779033703)), (1, (Value.int IntKind.u32 3144134277)), (2, (Value.int IntKind.u32 1013904242)), (3, (Value.int IntKind.u32 2773480762)), (4, (Value.int IntKind.u32 1359893119)), (5, (Value.int IntKind.u32 2600822924)), (6, (Value.int IntKind.u32 528734635)), (7, (Value.int IntKind.u32 1541459225))]) (fun t7_2 w =>
   opW Tryz.prog (Instr.alloc 193 true (Value.tuple #[])) (fun h_3 w =>
   opU Tryz.prog (Instr.storeAt 193 h_3 t7_2) (fun _ w =>
   opW Tryz.prog (convert 9 39 s_1) (fun t9_4 w =>
   opW Tryz.prog (Instr.buildSlice 39 1 #[(0, (Value.int IntKind.u8 128))]) (fun t10_5 w =>
   opW Tryz.prog (Builtin.append_ #[39, 39] 39 #[t9_4, t10_5]) (fun t11_6 w =>
   Loop1 (fun b_8 w K_9 =>
   opW Tryz.prog (Builtin.len_ #[39] 3 #[b_8]) (fun t13_11 w =>
   opW Tryz.prog (binS BinOp.rem 3 (Operand.tmp 13) (Operand.const (Value.int IntKind.i64 64)) t13_11 (Value.int IntKind.i64 64)) (fun t14_12 w =>
   opW Tryz.prog (binS BinOp.neq 3 (Operand.tmp 14) (Operand.const (Value.int IntKind.i64 56)) t14_12 (Value.int IntKind.i64 56)) (fun t15_13 w =>
   condW t15_13
   (opW Tryz.prog (Instr.buildSlice 39 1 #[(0, (Value.int IntKind.u8 0))]) (fun t17_15 w =>
   opW Tryz.prog (Builtin.append_ #[39, 39] 39 #[b_8, t17_15]) (fun t18_16 w =>
   loopK [] [] [s_1, (Value.string { data := #[] }), h_3] [s_1, (Value.string { data := #[] }), h_3] (K_9 t18_16 w)) w) w)
   (Loop2 (fun b_18 i_19 w K_20 =>
   opW Tryz.prog (binS BinOp.geq 3 (Operand.tmp 19) (Operand.const (Value.int IntKind.i64 0)) i_19 (Value.int IntKind.i64 0)) (fun t20_22 w =>
   condW t20_22
   (opW Tryz.prog (Builtin.len_ #[9] 3 #[s_1]) (fun t25_24 w =>
   opW Tryz.prog (binS BinOp.mul 3 (Operand.const (Value.int IntKind.i64 8)) (Operand.tmp 25) (Value.int IntKind.i64 8) t25_24) (fun t26_25 w =>
   opW Tryz.prog (binS BinOp.mul 3 (Operand.const (Value.int IntKind.i64 8)) (Operand.tmp 27) (Value.int IntKind.i64 8) i_19) (fun t28_26 w =>
   opW Tryz.prog (binS BinOp.shr 3 (Operand.tmp 26) (Operand.tmp 28) t26_25 t28_26) (fun t29_27 w =>
   opW Tryz.prog (convert 3 5 t29_27) (fun t30_28 w =>
   opW Tryz.prog (Instr.buildSlice 39 1 #[(0, t30_28)]) (fun t31_29 w =>
   opW Tryz.prog (Builtin.append_ #[39, 39] 39 #[b_18, t31_29]) (fun t32_30 w =>
   opW Tryz.prog (binS BinOp.sub 3 (Operand.tmp 21) (Operand.const (Value.int IntKind.i64 1)) i_19 (Value.int IntKind.i64 1)) (fun t22_31 w =>
   loopK [] [] [s_1, (Value.string { data := #[] }), h_3] [s_1, (Value.string { data := #[] }), h_3] (K_20 t32_30 t22_31 w)) w) w) w) w) w) w) w) w)
   (callW Tryz.prog (Value.func (Fn.func 128) #[] #[]) #[b_18, (Value.int IntKind.i64 64)] (fun t34_32 w =>
   rangeW Tryz.prog t34_32 1 (fun l_34 ready_34 busy_34 args_34 w k_34 =>
   ready_34 w ∧ (fun w => callW Tryz.prog (Value.func (Fn.func 129) #[] #[]) #[h_3, (args_34.headD undef)] (fun t37_36 w =>
   k_34 none w) w) (busy_34 w)) (fun d_34 j_34 w => jumpW j_34
   (opW Tryz.prog (Instr.loadAt 193 h_3) (fun t38_37 w =>
   callW Tryz.prog (Value.func (Fn.func 130) #[] #[]) #[t38_37] (fun t39_38 w =>
   leaveW [{ target := Target.collected d_34, args := #[] }] (fun w => k t39_38 w) w) w) w)
   (leaveW [{ target := Target.collected d_34, args := #[] }] (fun w => k (Value.string { data := #[] }) w) w)
   (fun x => False)) w) w)) w) b_8 (Value.int IntKind.i64 7) w)) w) w) w) t11_6 w) w) w) w) w) w) w
theorem S110_vc (s_1 : Value) (k : Value → World → Prop) (w : World) : vc Tryz.prog Tryz.f110.ntmps ann110 none ((Tryz.f110.body).getD Code.skip) 1 (params 0 [s_1]) [] (finQ Tryz.prog Tryz.f110.results.toList k) w = S110 s_1 k w := by kernel_rfl
theorem S110_calls (s_1 : Value) (k : Value → World → Prop) (w : World) (h : S110 s_1 k w) : Calls Tryz.prog 110 #[s_1] w (retP k) :=
  calls_of_vc (fn := Tryz.f110) (c := (Tryz.f110.body).getD Code.skip) ann110 Tryz.func110 (by kernel_rfl) [s_1] w k (by kernel_rfl) ((S110_vc s_1 k w).symm ▸ h)
theorem C110 (s_1 : Value) (k : Value → World → Prop) (w : World) (h : S110 s_1 k w) : callW Tryz.prog (.func (.func 110) #[] #[]) #[s_1] k w :=
  callW_calls ok110 (by simpa using S110_calls s_1 k w h)

/-! newswire/wire.groups -/
def ann112 : Ann := []
def S112 (z_1 : Value) (k : Value → World → Prop) (w : World) : Prop :=
   opW Tryz.prog (Instr.box 141 z_1) (fun z_2 w =>
   opW Tryz.prog (Instr.makeFunc (Fn.func 132) #[] #[z_2]) (fun t3_3 w =>
   k t3_3 w) w) w
theorem S112_vc (z_1 : Value) (k : Value → World → Prop) (w : World) : vc Tryz.prog Tryz.f112.ntmps ann112 none ((Tryz.f112.body).getD Code.skip) 1 (params 0 [z_1]) [] (finQ Tryz.prog Tryz.f112.results.toList k) w = S112 z_1 k w := by kernel_rfl
theorem S112_calls (z_1 : Value) (k : Value → World → Prop) (w : World) (h : S112 z_1 k w) : Calls Tryz.prog 112 #[z_1] w (retP k) :=
  calls_of_vc (fn := Tryz.f112) (c := (Tryz.f112.body).getD Code.skip) ann112 Tryz.func112 (by kernel_rfl) [z_1] w k (by kernel_rfl) ((S112_vc z_1 k w).symm ▸ h)
theorem C112 (z_1 : Value) (k : Value → World → Prop) (w : World) (h : S112 z_1 k w) : callW Tryz.prog (.func (.func 112) #[] #[]) #[z_1] k w :=
  callW_calls ok112 (by simpa using S112_calls z_1 k w h)

/-! newswire/wire.Int -/
def ann113 : Ann := [(61, Note.keep []), (122, Note.loop [7, 19] [0, 1]), (1958, Note.keep [0, 1, 7, 19])]
def S113 (s_1 at_2 : Value) (k : Value → World → Prop) (w : World) : Prop :=
   opW Tryz.prog (binS BinOp.lss 3 (Operand.tmp 11) (Operand.const (Value.int IntKind.i64 0)) at_2 (Value.int IntKind.i64 0)) (fun t12_4 w =>
   guardW (some t12_4, false) (fun k w => k at_2 w) (fun t14_5 w =>
   guardW (some t12_4, false) (fun k w => k s_1 w) (fun t15_6 w =>
   guardW (some t12_4, false) (fun k w => opW Tryz.prog (Builtin.len_ #[9] 3 #[t15_6]) k w) (fun t16_7 w =>
   guardW (some t12_4, false) (fun k w => opW Tryz.prog (binS BinOp.gtr 3 (Operand.tmp 14) (Operand.tmp 16) t14_5 t16_7) k w) (fun t17_8 w =>
   pickW t12_4 (Value.bool true) t17_8 (fun t18_9 w =>
   condW t18_9
   (k (Value.tuple #[(Value.int IntKind.i64 0), (Value.int IntKind.i64 0), (Value.int IntKind.i64 2)]) w)
   (joinW (fun w =>
   k (Value.tuple #[(Value.int IntKind.i64 0), (Value.int IntKind.i64 0), (Value.int IntKind.i64 10)]) w) (fun J_10 =>
   Loop2 (fun z_11 t19_12 w K_13 =>
   opW Tryz.prog (binS BinOp.lss 3 (Operand.tmp 19) (Operand.const (Value.int IntKind.i64 9)) t19_12 (Value.int IntKind.i64 9)) (fun t20_14 w =>
   condW t20_14
   (opW Tryz.prog (binS BinOp.add 3 (Operand.tmp 22) (Operand.tmp 23) at_2 t19_12) (fun t24_18 w =>
   opW Tryz.prog (Builtin.len_ #[9] 3 #[s_1]) (fun t26_19 w =>
   opW Tryz.prog (binS BinOp.geq 3 (Operand.tmp 24) (Operand.tmp 26) t24_18 t26_19) (fun t27_20 w =>
   condW t27_20
   (J_10 w)
   (opW Tryz.prog (binS BinOp.add 3 (Operand.tmp 29) (Operand.tmp 30) at_2 t19_12) (fun t31_21 w =>
   opW Tryz.prog (Instr.index 9 s_1 t31_21) (fun t32_22 w =>
   opW Tryz.prog (binS BinOp.and 5 (Operand.tmp 34) (Operand.const (Value.int IntKind.u8 127)) t32_22 (Value.int IntKind.u8 127)) (fun t35_23 w =>
   opW Tryz.prog (convert 5 141 t35_23) (fun t36_24 w =>
   opW Tryz.prog (binS BinOp.mul 3 (Operand.const (Value.int IntKind.i64 7)) (Operand.tmp 37) (Value.int IntKind.i64 7) t19_12) (fun t38_25 w =>
   opW Tryz.prog (binS BinOp.shl 141 (Operand.tmp 36) (Operand.tmp 38) t36_24 t38_25) (fun t39_26 w =>
   opW Tryz.prog (binS BinOp.or 141 (Operand.tmp 33) (Operand.tmp 39) z_11 t39_26) (fun t40_27 w =>
   opW Tryz.prog (binS BinOp.geq 5 (Operand.tmp 41) (Operand.const (Value.int IntKind.u8 128)) t32_22 (Value.int IntKind.u8 128)) (fun t42_29 w =>
   condW t42_29
   (opW Tryz.prog (binS BinOp.add 3 (Operand.tmp 19) (Operand.const (Value.int IntKind.i64 1)) t19_12 (Value.int IntKind.i64 1)) (fun t66_46 w =>
   loopK [] [] [s_1, at_2] [s_1, at_2] (K_13 t40_27 t66_46 w)) w)
   (opW Tryz.prog (binS BinOp.shr 141 (Operand.tmp 43) (Operand.const (Value.int IntKind.u64 1)) t40_27 (Value.int IntKind.u64 1)) (fun t44_30 w =>
   opW Tryz.prog (convert 141 3 t44_30) (fun t45_31 w =>
   opW Tryz.prog (binS BinOp.and 141 (Operand.tmp 46) (Operand.const (Value.int IntKind.u64 1)) t40_27 (Value.int IntKind.u64 1)) (fun t47_32 w =>
   opW Tryz.prog (convert 141 3 t47_32) (fun t48_33 w =>
   opW Tryz.prog (Op.unary UnOp.neg t48_33) (fun t49_34 w =>
   opW Tryz.prog (binS BinOp.xor 3 (Operand.tmp 45) (Operand.tmp 49) t45_31 t49_34) (fun t50_35 w =>
   opW Tryz.prog (binS BinOp.eql 5 (Operand.tmp 51) (Operand.const (Value.int IntKind.u8 0)) t32_22 (Value.int IntKind.u8 0)) (fun t52_37 w =>
   guardW (some t52_37, true) (fun k w => k t19_12 w) (fun t54_38 w =>
   guardW (some t52_37, true) (fun k w => opW Tryz.prog (binS BinOp.gtr 3 (Operand.tmp 54) (Operand.const (Value.int IntKind.i64 0)) t54_38 (Value.int IntKind.i64 0)) k w) (fun t55_39 w =>
   pickW t52_37 t55_39 (Value.bool false) (fun t56_40 w =>
   guardW (some t56_40, false) (fun k w => k t50_35 w) (fun t58_41 w =>
   guardW (some t56_40, false) (fun k w => opW Tryz.prog (binS BinOp.lss 3 (Operand.tmp 58) (Operand.const (Value.int IntKind.i64 (-4611686018427387903))) t58_41 (Value.int IntKind.i64 (-4611686018427387903))) k w) (fun t59_42 w =>
   pickW t56_40 (Value.bool true) t59_42 (fun t60_43 w =>
   condW t60_43
   (J_10 w)
   (opW Tryz.prog (binS BinOp.add 3 (Operand.tmp 62) (Operand.tmp 63) at_2 t19_12) (fun t64_44 w =>
   opW Tryz.prog (binS BinOp.add 3 (Operand.tmp 64) (Operand.const (Value.int IntKind.i64 1)) t64_44 (Value.int IntKind.i64 1)) (fun t65_45 w =>
   k (Value.tuple #[t50_35, t65_45, (Value.int IntKind.i64 0)]) w) w) w)) w) w) w) w) w) w) w) w) w) w) w) w) w)) w) w) w) w) w) w) w) w)) w) w) w)
   (J_10 w)) w) (Value.int IntKind.u64 0) (Value.int IntKind.i64 0) w))) w) w) w) w) w) w
theorem S113_vc (s_1 at_2 : Value) (k : Value → World → Prop) (w : World) : vc Tryz.prog Tryz.f113.ntmps ann113 none ((Tryz.f113.body).getD Code.skip) 1 (params 0 [s_1, at_2]) [] (finQ Tryz.prog Tryz.f113.results.toList k) w = S113 s_1 at_2 k w := by kernel_rfl
theorem S113_calls (s_1 at_2 : Value) (k : Value → World → Prop) (w : World) (h : S113 s_1 at_2 k w) : Calls Tryz.prog 113 #[s_1, at_2] w (retP k) :=
  calls_of_vc (fn := Tryz.f113) (c := (Tryz.f113.body).getD Code.skip) ann113 Tryz.func113 (by kernel_rfl) [s_1, at_2] w k (by kernel_rfl) ((S113_vc s_1 at_2 k w).symm ▸ h)
theorem C113 (s_1 at_2 : Value) (k : Value → World → Prop) (w : World) (h : S113 s_1 at_2 k w) : callW Tryz.prog (.func (.func 113) #[] #[]) #[s_1, at_2] k w :=
  callW_calls ok113 (by simpa using S113_calls s_1 at_2 k w h)

/-! slices.Chunk[[]byte,byte] -/
def ann128 : Ann := []
def S128 (s_1 n_2 : Value) (k : Value → World → Prop) (w : World) : Prop :=
   opW Tryz.prog (Instr.box 39 s_1) (fun s_3 w =>
   opW Tryz.prog (Instr.box 3 n_2) (fun n_4 w =>
   joinW (fun w =>
   opW Tryz.prog (Instr.makeFunc (Fn.func 143) #[] #[s_3, n_4]) (fun t8_9 w =>
   k t8_9 w) w) (fun J_5 =>
   opW Tryz.prog (Instr.loadAt 3 n_4) (fun t5_6 w =>
   opW Tryz.prog (binS BinOp.lss 3 (Operand.tmp 5) (Operand.const (Value.int IntKind.i64 1)) t5_6 (Value.int IntKind.i64 1)) (fun t6_7 w =>
   condW t6_7
   (opW Tryz.prog (Instr.makeInterface 9 (Value.string { data := #[99, 97, 110, 110, 111, 116, 32, 98, 101, 32, 108, 101, 115, 115, 32, 116, 104, 97, 110, 32, 49] })) (fun t7_8 w =>
   panicW t7_8 noP w) w)
   (J_5 w)) w) w)) w) w
theorem S128_vc (s_1 n_2 : Value) (k : Value → World → Prop) (w : World) : vc Tryz.prog Tryz.f128.ntmps ann128 none ((Tryz.f128.body).getD Code.skip) 1 (params 0 [s_1, n_2]) [] (finQ Tryz.prog Tryz.f128.results.toList k) w = S128 s_1 n_2 k w := by kernel_rfl
theorem S128_calls (s_1 n_2 : Value) (k : Value → World → Prop) (w : World) (h : S128 s_1 n_2 k w) : Calls Tryz.prog 128 #[s_1, n_2] w (retP k) :=
  calls_of_vc (fn := Tryz.f128) (c := (Tryz.f128.body).getD Code.skip) ann128 Tryz.func128 (by kernel_rfl) [s_1, n_2] w k (by kernel_rfl) ((S128_vc s_1 n_2 k w).symm ▸ h)
theorem C128 (s_1 n_2 : Value) (k : Value → World → Prop) (w : World) (h : S128 s_1 n_2 k w) : callW Tryz.prog (.func (.func 128) #[] #[]) #[s_1, n_2] k w :=
  callW_calls ok128 (by simpa using S128_calls s_1 n_2 k w h)

/-! (*newswire/digest.words).add -/
def ann129 : Ann := [(29, Note.keep [0, 5]), (31, Note.keep []), (58, Note.loop [19] [0, 4, 5, 18]), (62, Note.loop [82] [0, 5]), (934, Note.keep [0, 4, 5, 18, 19]), (998, Note.keep [0, 5, 82]), (3993, Note.plan (Plan.takeP 0 (Plan.takeP 1 (Plan.takeP 2 (Plan.takeP 3 (Plan.takeX 4 (Plan.takeP 5 (Plan.takeP 6 (Plan.takeX 7 (Plan.takeP 8 (Plan.takeP 9 (Plan.takeP 10 (Plan.run 11 Plan.done))))))))))))), (7474, Note.plan (Plan.takeP 0 (Plan.takeX 1 (Plan.takeP 2 (Plan.takeX 3 (Plan.takeP 4 (Plan.takeP 5 Plan.done))))))), (14950, Note.plan (Plan.takeP 0 (Plan.takeU 1 (Plan.takeP 2 (Plan.takeP 6 (Plan.takeP 7 (Plan.takeU 8 (Plan.takeP 9 (Plan.takeP 10 (Plan.takeP 11 (Plan.takeP 12 (Plan.takeU 13 (Plan.takeP 14 (Plan.takeP 15 (Plan.takeP 17 (Plan.takeP 19 (Plan.takeP 20 (Plan.takeU 21 (Plan.run 3 (Plan.run 4 (Plan.takeP 5 (Plan.takeP 16 (Plan.takeP 18 (Plan.takeP 22 (Plan.takeP 23 Plan.done))))))))))))))))))))))))), (29902, Note.plan (Plan.takeP 0 (Plan.takeP 3 (Plan.takeP 4 (Plan.takeU 5 (Plan.takeP 6 (Plan.takeP 7 (Plan.takeP 8 (Plan.takeU 9 (Plan.takeP 10 (Plan.takeP 11 (Plan.takeP 12 (Plan.takeU 13 (Plan.takeP 14 (Plan.takeU 15 (Plan.takeP 16 (Plan.takeP 17 (Plan.run 1 (Plan.run 2 (Plan.takeP 18 (Plan.takeP 19 Plan.done))))))))))))))))))))), (59806, Note.plan (Plan.takeP 0 (Plan.takeP 1 (Plan.run 2 Plan.done))))]
def S129 (h_1 b_2 : Value) (k : Value → World → Prop) (w : World) : Prop :=
   callW Tryz.prog (Value.func (Fn.func 144) #[] #[]) #[b_2] (fun t14_3 w =>
   opW Tryz.prog (Instr.alloc 214 true (Value.tuple #[])) (fun w_4 w =>
   opU Tryz.prog (Instr.storeAt 214 w_4 t14_3) (fun _ w =>
   nilW h_1 (fun t16_5 w =>
   opW Tryz.prog (Instr.loadAt 193 t16_5) (fun t17_6 w =>
   opW Tryz.prog (Instr.alloc 193 true (Value.tuple #[])) (fun v_7 w =>
   opU Tryz.prog (Instr.storeAt 193 v_7 t17_6) (fun _ w =>
   opW Tryz.prog (Instr.loadAt 214 (Value.pointer (some ⟨3, 0, none⟩))) (fun t18_8 w =>
   Loop1 (fun t19_10 w K_11 =>
   opW Tryz.prog (binS BinOp.lss 3 (Operand.tmp 19) (Operand.const (Value.int IntKind.i64 64)) t19_10 (Value.int IntKind.i64 64)) (fun t20_12 w =>
   condW t20_12
   (opW Tryz.prog (Instr.index 214 t18_8 t19_10) (fun t22_15 w =>
   drewW w (fun w =>
   takeW Tryz.prog anyW (Instr.indexAt 193 v_7 (Value.int IntKind.i64 0)) (fun t23_17 =>
   takeW Tryz.prog (sameW w) (Instr.loadAt 109 t23_17) (fun t24_18 =>
   takeW Tryz.prog anyW (Instr.indexAt 193 v_7 (Value.int IntKind.i64 4)) (fun t25_19 =>
   takeW Tryz.prog (sameW w) (Instr.loadAt 109 t25_19) (fun t26_20 =>
   drewW w (fun w =>
   ∃ S : World → Prop, S w ∧
   takeW Tryz.prog anyW (Instr.indexAt 193 v_7 (Value.int IntKind.i64 7)) (fun t27_22 =>
   takeW Tryz.prog S (Instr.loadAt 109 t27_22) (fun t28_23 =>
   takeW Tryz.prog anyW (Instr.indexAt 193 v_7 (Value.int IntKind.i64 5)) (fun t34_24 =>
   takeW Tryz.prog S (Instr.loadAt 109 t34_24) (fun t35_25 =>
   takeW Tryz.prog anyW (binS BinOp.and 109 (Operand.tmp 33) (Operand.tmp 35) t26_20 t35_25) (fun t36_26 =>
   takeW Tryz.prog anyW (Op.unary UnOp.xor t26_20) (fun t38_27 =>
   takeW Tryz.prog anyW (Instr.indexAt 193 v_7 (Value.int IntKind.i64 6)) (fun t39_28 =>
   takeW Tryz.prog S (Instr.loadAt 109 t39_28) (fun t40_29 =>
   takeW Tryz.prog anyW (binS BinOp.and 109 (Operand.tmp 38) (Operand.tmp 40) t38_27 t40_29) (fun t41_30 =>
   takeW Tryz.prog anyW (binS BinOp.xor 109 (Operand.tmp 36) (Operand.tmp 41) t36_26 t41_30) (fun t42_31 =>
   takeW Tryz.prog anyW (Instr.indexAt 214 w_4 t19_10) (fun t47_32 =>
   takeW Tryz.prog S (Instr.loadAt 109 t47_32) (fun t48_33 =>
   opW Tryz.prog (Instr.buildSlice 56 3 #[(0, (Value.int IntKind.i64 6)), (1, (Value.int IntKind.i64 11)), (2, (Value.int IntKind.i64 25))]) (fun t30_34 w => keepS S (fun w =>
   callW Tryz.prog (Value.func (Fn.func 145) #[] #[]) #[t26_20, t30_34] (fun t31_35 w => keepS S (fun w =>
   takeW Tryz.prog anyW (binS BinOp.add 109 (Operand.tmp 28) (Operand.tmp 31) t28_23 t31_35) (fun t32_36 =>
   takeW Tryz.prog anyW (binS BinOp.add 109 (Operand.tmp 32) (Operand.tmp 42) t32_36 t42_31) (fun t43_37 =>
   takeW Tryz.prog anyW (binS BinOp.add 109 (Operand.tmp 43) (Operand.tmp 44) t43_37 t22_15) (fun t45_38 =>
   takeW Tryz.prog anyW (binS BinOp.add 109 (Operand.tmp 45) (Operand.tmp 48) t45_38 t48_33) (fun t49_39 =>
   drewW w (fun w =>
   ∃ S : World → Prop, S w ∧
   takeW Tryz.prog anyW (Instr.indexAt 193 v_7 (Value.int IntKind.i64 1)) (fun t54_41 =>
   takeW Tryz.prog S (Instr.loadAt 109 t54_41) (fun t55_42 =>
   takeW Tryz.prog anyW (binS BinOp.and 109 (Operand.tmp 53) (Operand.tmp 55) t24_18 t55_42) (fun t56_43 =>
   takeW Tryz.prog anyW (Instr.indexAt 193 v_7 (Value.int IntKind.i64 2)) (fun t58_44 =>
   takeW Tryz.prog S (Instr.loadAt 109 t58_44) (fun t59_45 =>
   takeW Tryz.prog anyW (binS BinOp.and 109 (Operand.tmp 57) (Operand.tmp 59) t24_18 t59_45) (fun t60_46 =>
   takeW Tryz.prog anyW (binS BinOp.xor 109 (Operand.tmp 56) (Operand.tmp 60) t56_43 t60_46) (fun t61_47 =>
   takeW Tryz.prog anyW (Instr.indexAt 193 v_7 (Value.int IntKind.i64 1)) (fun t62_48 =>
   takeW Tryz.prog S (Instr.loadAt 109 t62_48) (fun t63_49 =>
   takeW Tryz.prog anyW (Instr.indexAt 193 v_7 (Value.int IntKind.i64 2)) (fun t64_50 =>
   takeW Tryz.prog S (Instr.loadAt 109 t64_50) (fun t65_51 =>
   takeW Tryz.prog anyW (binS BinOp.and 109 (Operand.tmp 63) (Operand.tmp 65) t63_49 t65_51) (fun t66_52 =>
   takeW Tryz.prog anyW (binS BinOp.xor 109 (Operand.tmp 61) (Operand.tmp 66) t61_47 t66_52) (fun t67_53 =>
   opW Tryz.prog (Instr.buildSlice 56 3 #[(0, (Value.int IntKind.i64 2)), (1, (Value.int IntKind.i64 13)), (2, (Value.int IntKind.i64 22))]) (fun t51_54 w => keepS S (fun w =>
   callW Tryz.prog (Value.func (Fn.func 145) #[] #[]) #[t24_18, t51_54] (fun t52_55 w => keepS S (fun w =>
   takeW Tryz.prog anyW (binS BinOp.add 109 (Operand.tmp 52) (Operand.tmp 67) t52_55 t67_53) (fun t68_56 =>
   drewW w (fun w =>
   takeW Tryz.prog anyW (Instr.sliceAt 193 v_7 (some (Value.int IntKind.i64 1)) none none) (fun t69_58 =>
   takeW Tryz.prog anyW (Instr.sliceAt 193 v_7 none (some (Value.int IntKind.i64 7)) none) (fun t70_59 =>
   opW Tryz.prog (Builtin.copy_ #[110, 110] 3 #[t69_58, t70_59]) (fun t71_60 w =>
   opW Tryz.prog (binS BinOp.add 109 (Operand.tmp 72) (Operand.tmp 73) t49_39 t68_56) (fun t74_61 w =>
   opW Tryz.prog (Instr.indexAt 193 v_7 (Value.int IntKind.i64 4)) (fun t75_62 w =>
   opW Tryz.prog (Instr.loadAt 109 t75_62) (fun t76_63 w =>
   opW Tryz.prog (binS BinOp.add 109 (Operand.tmp 76) (Operand.tmp 77) t76_63 t49_39) (fun t78_64 w =>
   opW Tryz.prog (Instr.indexAt 193 v_7 (Value.int IntKind.i64 0)) (fun t79_65 w =>
   opU Tryz.prog (Instr.storeAt 109 t79_65 t74_61) (fun _ w =>
   opW Tryz.prog (Instr.indexAt 193 v_7 (Value.int IntKind.i64 4)) (fun t80_66 w =>
   opU Tryz.prog (Instr.storeAt 109 t80_66 t78_64) (fun _ w =>
   opW Tryz.prog (binS BinOp.add 3 (Operand.tmp 19) (Operand.const (Value.int IntKind.i64 1)) t19_10 (Value.int IntKind.i64 1)) (fun t81_67 w =>
   loopK [] [] [h_1, w_4, v_7, t18_8] [h_1, w_4, v_7, t18_8] (K_11 t81_67 w)) w) w) w) w) w) w) w) w) w) w) w) w)) w) w) w) w) w) w) w) w) w) w) w) w) w) w) w) w) w) w)) w) w) w) w) w) w) w) w) w) w) w) w) w) w) w) w) w) w) w) w)) w) w) w) w)) w)
   (Loop1 (fun t82_69 w K_70 =>
   opW Tryz.prog (binS BinOp.lss 3 (Operand.tmp 82) (Operand.const (Value.int IntKind.i64 8)) t82_69 (Value.int IntKind.i64 8)) (fun t83_71 w =>
   condW t83_71
   (drewW w (fun w =>
   nilT h_1 (fun t87_75 =>
   takeW Tryz.prog anyW (Instr.indexAt 193 t87_75 t82_69) (fun t88_76 =>
   takeW Tryz.prog (sameW w) (Instr.loadAt 109 t88_76) (fun t89_77 =>
   takeW Tryz.prog anyW (Instr.indexAt 193 v_7 t82_69) (fun t91_78 =>
   takeW Tryz.prog (sameW w) (Instr.loadAt 109 t91_78) (fun t92_79 =>
   takeW Tryz.prog anyW (binS BinOp.add 109 (Operand.tmp 89) (Operand.tmp 92) t89_77 t92_79) (fun t93_80 =>
   nilT h_1 (fun t94_81 =>
   takeW Tryz.prog anyW (Instr.indexAt 193 t94_81 t82_69) (fun t95_82 =>
   opU Tryz.prog (Instr.storeAt 109 t95_82 t93_80) (fun _ w =>
   opW Tryz.prog (binS BinOp.add 3 (Operand.tmp 82) (Operand.const (Value.int IntKind.i64 1)) t82_69 (Value.int IntKind.i64 1)) (fun t96_83 w =>
   loopK [] [] [h_1, v_7] [h_1, v_7] (K_70 t96_83 w)) w) w) w)) w) w) w) w) w)))
   (k (Value.tuple #[]) w)) w) (Value.int IntKind.i64 0) w)) w) (Value.int IntKind.i64 0) w) w) w) w) w) w) w) w) w
theorem S129_vc (h_1 b_2 : Value) (k : Value → World → Prop) (w : World) : vc Tryz.prog Tryz.f129.ntmps ann129 none ((Tryz.f129.body).getD Code.skip) 1 (params 0 [h_1, b_2]) [] (finQ Tryz.prog Tryz.f129.results.toList k) w = S129 h_1 b_2 k w := by kernel_rfl
theorem S129_calls (h_1 b_2 : Value) (k : Value → World → Prop) (w : World) (h : S129 h_1 b_2 k w) : Calls Tryz.prog 129 #[h_1, b_2] w (retP k) :=
  calls_of_vc (fn := Tryz.f129) (c := (Tryz.f129.body).getD Code.skip) ann129 Tryz.func129 (by kernel_rfl) [h_1, b_2] w k (by kernel_rfl) ((S129_vc h_1 b_2 k w).symm ▸ h)
theorem C129 (h_1 b_2 : Value) (k : Value → World → Prop) (w : World) (h : S129 h_1 b_2 k w) : callW Tryz.prog (.func (.func 129) #[] #[]) #[h_1, b_2] k w :=
  callW_calls ok129 (by simpa using S129_calls h_1 b_2 k w h)

/-! (newswire/digest.words).digest -/
def ann130 : Ann := [(29, Note.keep [3]), (58, Note.loop [8] [3, 7]), (934, Note.keep [3, 7, 8]), (7475, Note.keep [3, 7, 8]), (14950, Note.loop [12] [3, 4, 5, 7, 8]), (239206, Note.keep [3, 4, 5, 7, 8, 12])]
def S130 (h_1 : Value) (k : Value → World → Prop) (w : World) : Prop :=
   opW Tryz.prog (Instr.box 193 h_1) (fun h_2 w =>
   opW Tryz.prog (Instr.alloc 217 true (Value.tuple #[])) (fun out_3 w =>
   opW Tryz.prog (Instr.loadAt 193 h_2) (fun t7_4 w =>
   Loop1 (fun t8_6 w K_7 =>
   opW Tryz.prog (binS BinOp.lss 3 (Operand.tmp 8) (Operand.const (Value.int IntKind.i64 8)) t8_6 (Value.int IntKind.i64 8)) (fun t9_8 w =>
   condW t9_8
   (opW Tryz.prog (Instr.index 193 t7_4 t8_6) (fun t11_11 w =>
   Loop1 (fun t12_13 w K_14 =>
   opW Tryz.prog (binS BinOp.lss 3 (Operand.tmp 12) (Operand.const (Value.int IntKind.i64 4)) t12_13 (Value.int IntKind.i64 4)) (fun t13_15 w =>
   condW t13_15
   (opW Tryz.prog (binS BinOp.mul 3 (Operand.const (Value.int IntKind.i64 4)) (Operand.tmp 15) (Value.int IntKind.i64 4) t8_6) (fun t16_18 w =>
   opW Tryz.prog (binS BinOp.add 3 (Operand.tmp 16) (Operand.tmp 17) t16_18 t12_13) (fun t18_19 w =>
   opW Tryz.prog (binS BinOp.mul 3 (Operand.const (Value.int IntKind.i64 8)) (Operand.tmp 20) (Value.int IntKind.i64 8) t12_13) (fun t21_20 w =>
   opW Tryz.prog (binS BinOp.sub 3 (Operand.const (Value.int IntKind.i64 24)) (Operand.tmp 21) (Value.int IntKind.i64 24) t21_20) (fun t22_21 w =>
   opW Tryz.prog (binS BinOp.shr 109 (Operand.tmp 19) (Operand.tmp 22) t11_11 t22_21) (fun t23_22 w =>
   opW Tryz.prog (convert 109 5 t23_22) (fun t24_23 w =>
   opW Tryz.prog (Instr.indexAt 217 out_3 t18_19) (fun t25_24 w =>
   opU Tryz.prog (Instr.storeAt 5 t25_24 t24_23) (fun _ w =>
   opW Tryz.prog (binS BinOp.add 3 (Operand.tmp 12) (Operand.const (Value.int IntKind.i64 1)) t12_13 (Value.int IntKind.i64 1)) (fun t26_25 w =>
   loopK [] [] [out_3, t8_6, t11_11, t7_4, t8_6] [out_3, t8_6, t11_11, t7_4, t8_6] (K_14 t26_25 w)) w) w) w) w) w) w) w) w) w)
   (opW Tryz.prog (binS BinOp.add 3 (Operand.tmp 8) (Operand.const (Value.int IntKind.i64 1)) t8_6 (Value.int IntKind.i64 1)) (fun t27_26 w =>
   loopK [] [] [out_3, t7_4] [out_3, t7_4] (K_7 t27_26 w)) w)) w) (Value.int IntKind.i64 0) w) w)
   (opW Tryz.prog (Instr.sliceAt 217 out_3 none none none) (fun t28_27 w =>
   opW Tryz.prog (convert 39 9 t28_27) (fun t29_28 w =>
   k t29_28 w) w) w)) w) (Value.int IntKind.i64 0) w) w) w) w
theorem S130_vc (h_1 : Value) (k : Value → World → Prop) (w : World) : vc Tryz.prog Tryz.f130.ntmps ann130 none ((Tryz.f130.body).getD Code.skip) 1 (params 0 [h_1]) [] (finQ Tryz.prog Tryz.f130.results.toList k) w = S130 h_1 k w := by kernel_rfl
theorem S130_calls (h_1 : Value) (k : Value → World → Prop) (w : World) (h : S130 h_1 k w) : Calls Tryz.prog 130 #[h_1] w (retP k) :=
  calls_of_vc (fn := Tryz.f130) (c := (Tryz.f130.body).getD Code.skip) ann130 Tryz.func130 (by kernel_rfl) [h_1] w k (by kernel_rfl) ((S130_vc h_1 k w).symm ▸ h)
theorem C130 (h_1 : Value) (k : Value → World → Prop) (w : World) (h : S130 h_1 k w) : callW Tryz.prog (.func (.func 130) #[] #[]) #[h_1] k w :=
  callW_calls ok130 (by simpa using S130_calls h_1 k w h)

/-! newswire/wire.groups$1 -/
def ann132 : Ann := [(1, Note.keep []), (2, Note.loop [] [0, 1]), (4, Note.keep [0, 1])]
def S132 (yield_1 x1_2 : Value) (k : Value → World → Prop) (w : World) : Prop :=
   Loop0 (fun w K_4 =>
   opW Tryz.prog (Instr.loadAt 141 x1_2) (fun t4_6 w =>
   opW Tryz.prog (binS BinOp.lss 141 (Operand.tmp 4) (Operand.const (Value.int IntKind.u64 128)) t4_6 (Value.int IntKind.u64 128)) (fun t5_7 w =>
   opW Tryz.prog (Instr.loadAt 141 x1_2) (fun t7_9 w =>
   opW Tryz.prog (binS BinOp.and 141 (Operand.tmp 7) (Operand.const (Value.int IntKind.u64 127)) t7_9 (Value.int IntKind.u64 127)) (fun t8_10 w =>
   opW Tryz.prog (convert 141 5 t8_10) (fun t9_11 w =>
   callW Tryz.prog yield_1 #[t9_11, t5_7] (fun t11_12 w =>
   opW Tryz.prog (Op.unary UnOp.not t11_12) (fun t12_13 w =>
   guardW (some t12_13, false) (fun k w => k t5_7 w) (fun t14_14 w =>
   pickW t12_13 (Value.bool true) t14_14 (fun t15_15 w =>
   condW t15_15
   (k (Value.tuple #[]) w)
   (opW Tryz.prog (Instr.loadAt 141 x1_2) (fun t16_16 w =>
   opW Tryz.prog (binS BinOp.shr 141 (Operand.tmp 16) (Operand.const (Value.int IntKind.u64 7)) t16_16 (Value.int IntKind.u64 7)) (fun t17_17 w =>
   opU Tryz.prog (Instr.storeAt 141 x1_2 t17_17) (fun _ w =>
   loopK [] [] [yield_1, x1_2] [yield_1, x1_2] (K_4 w)) w) w) w)) w) w) w) w) w) w) w) w) w) w
theorem S132_vc (yield_1 x1_2 : Value) (k : Value → World → Prop) (w : World) : vc Tryz.prog Tryz.f132.ntmps ann132 none ((Tryz.f132.body).getD Code.skip) 1 (params 0 [yield_1, x1_2]) [] (finQ Tryz.prog Tryz.f132.results.toList k) w = S132 yield_1 x1_2 k w := by kernel_rfl
theorem S132_calls (yield_1 x1_2 : Value) (k : Value → World → Prop) (w : World) (h : S132 yield_1 x1_2 k w) : Calls Tryz.prog 132 #[yield_1, x1_2] w (retP k) :=
  calls_of_vc (fn := Tryz.f132) (c := (Tryz.f132.body).getD Code.skip) ann132 Tryz.func132 (by kernel_rfl) [yield_1, x1_2] w k (by kernel_rfl) ((S132_vc yield_1 x1_2 k w).symm ▸ h)
/-! slices.Chunk[[]byte,byte]$1 -/
def ann143 : Ann := [(3, Note.keep []), (6, Note.loop [4] [0, 1, 2]), (50, Note.keep [0, 1, 2, 4]), (200, Note.plan (Plan.takeX 0 (Plan.takeX 1 (Plan.takeP 2 (Plan.takeP 3 (Plan.takeP 4 (Plan.takeP 5 (Plan.takeP 6 Plan.done))))))))]
def S143 (yield_1 x1_2 x2_3 : Value) (k : Value → World → Prop) (w : World) : Prop :=
   Loop1 (fun i_5 w K_6 =>
   opW Tryz.prog (Instr.loadAt 39 x1_2) (fun t7_8 w =>
   opW Tryz.prog (Builtin.len_ #[39] 3 #[t7_8]) (fun t8_9 w =>
   opW Tryz.prog (binS BinOp.lss 3 (Operand.tmp 6) (Operand.tmp 8) i_5 t8_9) (fun t9_10 w =>
   condW t9_10
   (drewW w (fun w =>
   takeW Tryz.prog (sameW w) (Instr.loadAt 3 x2_3) (fun t13_13 =>
   takeW Tryz.prog (sameW w) (Instr.loadAt 39 x1_2) (fun t14_14 =>
   takeW Tryz.prog anyW (Instr.sliceAt 39 t14_14 (some i_5) none none) (fun t16_15 =>
   takeW Tryz.prog anyW (Builtin.len_ #[39] 3 #[t16_15]) (fun t17_16 =>
   takeW Tryz.prog anyW (Builtin.min_ #[3, 3] 3 #[t13_13, t17_16]) (fun t18_17 =>
   opW Tryz.prog (Instr.loadAt 39 x1_2) (fun t20_18 w =>
   opW Tryz.prog (binS BinOp.add 3 (Operand.tmp 22) (Operand.tmp 23) i_5 t18_17) (fun t24_19 w =>
   opW Tryz.prog (binS BinOp.add 3 (Operand.tmp 25) (Operand.tmp 26) i_5 t18_17) (fun t27_20 w =>
   opW Tryz.prog (Instr.sliceAt 39 t20_18 (some i_5) (some t24_19) (some t27_20)) (fun t28_21 w =>
   callW Tryz.prog yield_1 #[t28_21] (fun t29_22 w =>
   opW Tryz.prog (Op.unary UnOp.not t29_22) (fun t30_23 w =>
   condW t30_23
   (k (Value.tuple #[]) w)
   (opW Tryz.prog (Instr.loadAt 3 x2_3) (fun t11_24 w =>
   opW Tryz.prog (binS BinOp.add 3 (Operand.tmp 10) (Operand.tmp 11) i_5 t11_24) (fun t12_25 w =>
   loopK [] [] [yield_1, x1_2, x2_3] [yield_1, x1_2, x2_3] (K_6 t12_25 w)) w) w)) w) w) w) w) w) w) w) w) w) w) w))
   (k (Value.tuple #[]) w)) w) w) w) (Value.int IntKind.i64 0) w
theorem S143_vc (yield_1 x1_2 x2_3 : Value) (k : Value → World → Prop) (w : World) : vc Tryz.prog Tryz.f143.ntmps ann143 none ((Tryz.f143.body).getD Code.skip) 1 (params 0 [yield_1, x1_2, x2_3]) [] (finQ Tryz.prog Tryz.f143.results.toList k) w = S143 yield_1 x1_2 x2_3 k w := by kernel_rfl
theorem S143_calls (yield_1 x1_2 x2_3 : Value) (k : Value → World → Prop) (w : World) (h : S143 yield_1 x1_2 x2_3 k w) : Calls Tryz.prog 143 #[yield_1, x1_2, x2_3] w (retP k) :=
  calls_of_vc (fn := Tryz.f143) (c := (Tryz.f143.body).getD Code.skip) ann143 Tryz.func143 (by kernel_rfl) [yield_1, x1_2, x2_3] w k (by kernel_rfl) ((S143_vc yield_1 x1_2 x2_3 k w).symm ▸ h)
/-! newswire/digest.schedule -/
def ann144 : Ann := [(13, Note.keep [2]), (26, Note.loop [7] [0, 2]), (29, Note.keep [2]), (58, Note.loop [4] [2]), (422, Note.keep [0, 2, 7]), (466, Note.keep [2, 4]), (1689, Note.plan (Plan.takeP 0 (Plan.takeP 1 (Plan.takeP 2 (Plan.takeP 3 (Plan.takeP 4 (Plan.takeX 5 (Plan.takeX 6 (Plan.takeP 7 (Plan.takeP 8 (Plan.takeP 9 (Plan.takeP 10 (Plan.takeP 11 (Plan.takeP 12 (Plan.takeX 13 (Plan.takeX 14 (Plan.takeP 15 (Plan.takeP 16 (Plan.takeP 17 (Plan.takeP 18 (Plan.takeP 19 (Plan.takeP 20 (Plan.takeP 21 (Plan.takeX 22 (Plan.takeX 23 (Plan.takeP 24 (Plan.takeP 25 (Plan.takeP 26 (Plan.takeP 27 (Plan.takeP 28 (Plan.takeP 29 (Plan.takeP 30 (Plan.takeX 31 (Plan.takeX 32 (Plan.takeP 33 (Plan.takeP 34 (Plan.run 35 Plan.done))))))))))))))))))))))))))))))))))))), (1864, Note.plan (Plan.takeP 0 (Plan.takeP 1 (Plan.takeP 2 (Plan.takeX 3 (Plan.takeP 4 (Plan.takeP 5 (Plan.takeP 6 (Plan.takeX 7 (Plan.takeP 8 (Plan.takeP 9 Plan.done))))))))))), (1865, Note.plan (Plan.takeP 0 (Plan.takeP 1 (Plan.takeP 2 (Plan.takeP 3 (Plan.takeU 4 (Plan.takeP 5 (Plan.takeP 8 (Plan.takeP 9 (Plan.takeP 12 (Plan.takeP 13 (Plan.takeP 14 (Plan.takeU 15 (Plan.takeP 17 (Plan.takeP 20 (Plan.takeP 21 (Plan.alt (Plan.run 6 (Plan.alt (Plan.run 7 (Plan.takeP 10 (Plan.takeP 11 (Plan.takeP 16 (Plan.run 18 (Plan.run 19 (Plan.takeP 22 (Plan.takeP 23 (Plan.takeP 24 (Plan.run 25 Plan.done)))))))))) (Plan.run 18 (Plan.run 7 (Plan.takeP 10 (Plan.takeP 11 (Plan.takeP 16 (Plan.run 19 (Plan.takeP 22 (Plan.takeP 23 (Plan.takeP 24 (Plan.run 25 Plan.done)))))))))))) (Plan.run 18 (Plan.run 6 (Plan.run 7 (Plan.takeP 10 (Plan.takeP 11 (Plan.takeP 16 (Plan.run 19 (Plan.takeP 22 (Plan.takeP 23 (Plan.takeP 24 (Plan.run 25 Plan.done))))))))))))))))))))))))))))]
def S144 (b_1 : Value) (k : Value → World → Prop) (w : World) : Prop :=
   opW Tryz.prog (Instr.alloc 214 true (Value.tuple #[])) (fun w_2 w =>
   Loop1 (fun t7_4 w K_5 =>
   opW Tryz.prog (binS BinOp.lss 3 (Operand.tmp 7) (Operand.const (Value.int IntKind.i64 16)) t7_4 (Value.int IntKind.i64 16)) (fun t8_6 w =>
   condW t8_6
   (drewW w (fun w =>
   takeW Tryz.prog anyW (binS BinOp.mul 3 (Operand.const (Value.int IntKind.i64 4)) (Operand.tmp 12) (Value.int IntKind.i64 4) t7_4) (fun t13_10 =>
   takeW Tryz.prog anyW (Instr.indexAt 39 b_1 t13_10) (fun t14_11 =>
   takeW Tryz.prog (sameW w) (Instr.loadAt 5 t14_11) (fun t15_12 =>
   takeW Tryz.prog (sameW w) (convert 5 109 t15_12) (fun t16_13 =>
   takeW Tryz.prog anyW (binS BinOp.shl 109 (Operand.tmp 16) (Operand.const (Value.int IntKind.u64 24)) t16_13 (Value.int IntKind.u64 24)) (fun t17_14 =>
   takeW Tryz.prog anyW (binS BinOp.mul 3 (Operand.const (Value.int IntKind.i64 4)) (Operand.tmp 19) (Value.int IntKind.i64 4) t7_4) (fun t20_15 =>
   takeW Tryz.prog anyW (binS BinOp.add 3 (Operand.tmp 20) (Operand.const (Value.int IntKind.i64 1)) t20_15 (Value.int IntKind.i64 1)) (fun t21_16 =>
   takeW Tryz.prog anyW (Instr.indexAt 39 b_1 t21_16) (fun t22_17 =>
   takeW Tryz.prog (sameW w) (Instr.loadAt 5 t22_17) (fun t23_18 =>
   takeW Tryz.prog (sameW w) (convert 5 109 t23_18) (fun t24_19 =>
   takeW Tryz.prog anyW (binS BinOp.shl 109 (Operand.tmp 24) (Operand.const (Value.int IntKind.u64 16)) t24_19 (Value.int IntKind.u64 16)) (fun t25_20 =>
   takeW Tryz.prog anyW (binS BinOp.or 109 (Operand.tmp 17) (Operand.tmp 25) t17_14 t25_20) (fun t26_21 =>
   takeW Tryz.prog anyW (binS BinOp.mul 3 (Operand.const (Value.int IntKind.i64 4)) (Operand.tmp 28) (Value.int IntKind.i64 4) t7_4) (fun t29_22 =>
   takeW Tryz.prog anyW (binS BinOp.add 3 (Operand.tmp 29) (Operand.const (Value.int IntKind.i64 2)) t29_22 (Value.int IntKind.i64 2)) (fun t30_23 =>
   takeW Tryz.prog anyW (Instr.indexAt 39 b_1 t30_23) (fun t31_24 =>
   takeW Tryz.prog (sameW w) (Instr.loadAt 5 t31_24) (fun t32_25 =>
   takeW Tryz.prog (sameW w) (convert 5 109 t32_25) (fun t33_26 =>
   takeW Tryz.prog anyW (binS BinOp.shl 109 (Operand.tmp 33) (Operand.const (Value.int IntKind.u64 8)) t33_26 (Value.int IntKind.u64 8)) (fun t34_27 =>
   takeW Tryz.prog anyW (binS BinOp.or 109 (Operand.tmp 26) (Operand.tmp 34) t26_21 t34_27) (fun t35_28 =>
   takeW Tryz.prog anyW (binS BinOp.mul 3 (Operand.const (Value.int IntKind.i64 4)) (Operand.tmp 37) (Value.int IntKind.i64 4) t7_4) (fun t38_29 =>
   takeW Tryz.prog anyW (binS BinOp.add 3 (Operand.tmp 38) (Operand.const (Value.int IntKind.i64 3)) t38_29 (Value.int IntKind.i64 3)) (fun t39_30 =>
   takeW Tryz.prog anyW (Instr.indexAt 39 b_1 t39_30) (fun t40_31 =>
   takeW Tryz.prog (sameW w) (Instr.loadAt 5 t40_31) (fun t41_32 =>
   takeW Tryz.prog (sameW w) (convert 5 109 t41_32) (fun t42_33 =>
   takeW Tryz.prog anyW (binS BinOp.or 109 (Operand.tmp 35) (Operand.tmp 42) t35_28 t42_33) (fun t43_34 =>
   takeW Tryz.prog anyW (Instr.indexAt 214 w_2 t7_4) (fun t44_35 =>
   opU Tryz.prog (Instr.storeAt 109 t44_35 t43_34) (fun _ w =>
   opW Tryz.prog (binS BinOp.add 3 (Operand.tmp 7) (Operand.const (Value.int IntKind.i64 1)) t7_4 (Value.int IntKind.i64 1)) (fun t45_36 w =>
   loopK [] [] [b_1, w_2] [b_1, w_2] (K_5 t45_36 w)) w) w) w) w) w) w) w) w) w) w) w) w) w) w) w) w) w) w) w) w) w) w) w) w) w) w) w) w))
   (Loop1 (fun i_38 w K_39 =>
   opW Tryz.prog (binS BinOp.lss 3 (Operand.tmp 46) (Operand.const (Value.int IntKind.i64 64)) i_38 (Value.int IntKind.i64 64)) (fun t47_41 w =>
   condW t47_41
   (drewW w (fun w =>
   takeW Tryz.prog anyW (binS BinOp.sub 3 (Operand.tmp 50) (Operand.const (Value.int IntKind.i64 15)) i_38 (Value.int IntKind.i64 15)) (fun t51_44 =>
   takeW Tryz.prog anyW (Instr.indexAt 214 w_2 t51_44) (fun t52_45 =>
   takeW Tryz.prog (sameW w) (Instr.loadAt 109 t52_45) (fun t53_46 =>
   takeW Tryz.prog anyW (binS BinOp.sub 3 (Operand.tmp 54) (Operand.const (Value.int IntKind.i64 2)) i_38 (Value.int IntKind.i64 2)) (fun t55_47 =>
   takeW Tryz.prog anyW (Instr.indexAt 214 w_2 t55_47) (fun t56_48 =>
   takeW Tryz.prog (sameW w) (Instr.loadAt 109 t56_48) (fun t57_49 =>
   joinW (fun w =>
   opW Tryz.prog (binS BinOp.add 3 (Operand.tmp 48) (Operand.const (Value.int IntKind.i64 1)) i_38 (Value.int IntKind.i64 1)) (fun t49_88 w =>
   loopK [] [] [w_2] [w_2] (K_39 t49_88 w)) w) (fun J_50 =>
   drewW w (fun w =>
   ∃ S : World → Prop, S w ∧
   takeW Tryz.prog anyW (binS BinOp.sub 3 (Operand.tmp 59) (Operand.const (Value.int IntKind.i64 16)) i_38 (Value.int IntKind.i64 16)) (fun t60_51 =>
   takeW Tryz.prog anyW (Instr.indexAt 214 w_2 t60_51) (fun t61_52 =>
   takeW Tryz.prog S (Instr.loadAt 109 t61_52) (fun t62_53 =>
   takeW Tryz.prog anyW (binS BinOp.shr 109 (Operand.tmp 66) (Operand.const (Value.int IntKind.u64 3)) t53_46 (Value.int IntKind.u64 3)) (fun t67_54 =>
   takeW Tryz.prog anyW (binS BinOp.sub 3 (Operand.tmp 70) (Operand.const (Value.int IntKind.i64 7)) i_38 (Value.int IntKind.i64 7)) (fun t71_55 =>
   takeW Tryz.prog anyW (Instr.indexAt 214 w_2 t71_55) (fun t72_56 =>
   takeW Tryz.prog S (Instr.loadAt 109 t72_56) (fun t73_57 =>
   takeW Tryz.prog anyW (binS BinOp.shr 109 (Operand.tmp 78) (Operand.const (Value.int IntKind.u64 10)) t57_49 (Value.int IntKind.u64 10)) (fun t79_58 =>
   (opW Tryz.prog (Instr.buildSlice 56 2 #[(0, (Value.int IntKind.i64 7)), (1, (Value.int IntKind.i64 18))]) (fun t64_59 w => keepS S (fun w =>
   (callW Tryz.prog (Value.func (Fn.func 145) #[] #[]) #[t53_46, t64_59] (fun t65_60 w => keepS S (fun w =>
   takeW Tryz.prog anyW (binS BinOp.xor 109 (Operand.tmp 65) (Operand.tmp 67) t65_60 t67_54) (fun t68_61 =>
   takeW Tryz.prog anyW (binS BinOp.add 109 (Operand.tmp 62) (Operand.tmp 68) t62_53 t68_61) (fun t69_62 =>
   takeW Tryz.prog anyW (binS BinOp.add 109 (Operand.tmp 69) (Operand.tmp 73) t69_62 t73_57) (fun t74_63 =>
   opW Tryz.prog (Instr.buildSlice 56 2 #[(0, (Value.int IntKind.i64 17)), (1, (Value.int IntKind.i64 19))]) (fun t76_64 w => keepS S (fun w =>
   callW Tryz.prog (Value.func (Fn.func 145) #[] #[]) #[t57_49, t76_64] (fun t77_65 w => keepS S (fun w =>
   takeW Tryz.prog anyW (binS BinOp.xor 109 (Operand.tmp 77) (Operand.tmp 79) t77_65 t79_58) (fun t80_66 =>
   takeW Tryz.prog anyW (binS BinOp.add 109 (Operand.tmp 74) (Operand.tmp 80) t74_63 t80_66) (fun t81_67 =>
   takeW Tryz.prog anyW (Instr.indexAt 214 w_2 i_38) (fun t82_68 =>
   opU Tryz.prog (Instr.storeAt 109 t82_68 t81_67) (fun _ w =>
   J_50 w) w) w) w) w) w) w) w) w) w) w) w) w) w) ∧ (opW Tryz.prog (Instr.buildSlice 56 2 #[(0, (Value.int IntKind.i64 17)), (1, (Value.int IntKind.i64 19))]) (fun t76_69 w => keepS S (fun w =>
   callW Tryz.prog (Value.func (Fn.func 145) #[] #[]) #[t53_46, t64_59] (fun t65_70 w => keepS S (fun w =>
   takeW Tryz.prog anyW (binS BinOp.xor 109 (Operand.tmp 65) (Operand.tmp 67) t65_70 t67_54) (fun t68_71 =>
   takeW Tryz.prog anyW (binS BinOp.add 109 (Operand.tmp 62) (Operand.tmp 68) t62_53 t68_71) (fun t69_72 =>
   takeW Tryz.prog anyW (binS BinOp.add 109 (Operand.tmp 69) (Operand.tmp 73) t69_72 t73_57) (fun t74_73 =>
   callW Tryz.prog (Value.func (Fn.func 145) #[] #[]) #[t57_49, t76_69] (fun t77_74 w => keepS S (fun w =>
   takeW Tryz.prog anyW (binS BinOp.xor 109 (Operand.tmp 77) (Operand.tmp 79) t77_74 t79_58) (fun t80_75 =>
   takeW Tryz.prog anyW (binS BinOp.add 109 (Operand.tmp 74) (Operand.tmp 80) t74_73 t80_75) (fun t81_76 =>
   takeW Tryz.prog anyW (Instr.indexAt 214 w_2 i_38) (fun t82_77 =>
   opU Tryz.prog (Instr.storeAt 109 t82_77 t81_76) (fun _ w =>
   J_50 w) w) w) w) w) w) w) w) w) w) w) w) w) w)) w) w) ∧ (opW Tryz.prog (Instr.buildSlice 56 2 #[(0, (Value.int IntKind.i64 17)), (1, (Value.int IntKind.i64 19))]) (fun t76_78 w => keepS S (fun w =>
   opW Tryz.prog (Instr.buildSlice 56 2 #[(0, (Value.int IntKind.i64 7)), (1, (Value.int IntKind.i64 18))]) (fun t64_79 w => keepS S (fun w =>
   callW Tryz.prog (Value.func (Fn.func 145) #[] #[]) #[t53_46, t64_79] (fun t65_80 w => keepS S (fun w =>
   takeW Tryz.prog anyW (binS BinOp.xor 109 (Operand.tmp 65) (Operand.tmp 67) t65_80 t67_54) (fun t68_81 =>
   takeW Tryz.prog anyW (binS BinOp.add 109 (Operand.tmp 62) (Operand.tmp 68) t62_53 t68_81) (fun t69_82 =>
   takeW Tryz.prog anyW (binS BinOp.add 109 (Operand.tmp 69) (Operand.tmp 73) t69_82 t73_57) (fun t74_83 =>
   callW Tryz.prog (Value.func (Fn.func 145) #[] #[]) #[t57_49, t76_78] (fun t77_84 w => keepS S (fun w =>
   takeW Tryz.prog anyW (binS BinOp.xor 109 (Operand.tmp 77) (Operand.tmp 79) t77_84 t79_58) (fun t80_85 =>
   takeW Tryz.prog anyW (binS BinOp.add 109 (Operand.tmp 74) (Operand.tmp 80) t74_83 t80_85) (fun t81_86 =>
   takeW Tryz.prog anyW (Instr.indexAt 214 w_2 i_38) (fun t82_87 =>
   opU Tryz.prog (Instr.storeAt 109 t82_87 t81_86) (fun _ w =>
   J_50 w) w) w) w) w) w) w) w) w) w) w) w) w) w) w) w)) w) w) w) w) w) w) w) w))) w) w) w) w) w) w))
   (opW Tryz.prog (Instr.loadAt 214 w_2) (fun t83_89 w =>
   opU Tryz.prog (Instr.storeAt 214 w_2 t83_89) (fun _ w =>
   resCell Tryz.prog 214 w_2 (fun r_90 => k r_90 w) w) w) w)) w) (Value.int IntKind.i64 16) w)) w) (Value.int IntKind.i64 0) w) w
theorem S144_vc (b_1 : Value) (k : Value → World → Prop) (w : World) : vc Tryz.prog Tryz.f144.ntmps ann144 none ((Tryz.f144.body).getD Code.skip) 1 (params 0 [b_1]) [] (finQ Tryz.prog Tryz.f144.results.toList k) w = S144 b_1 k w := by kernel_rfl
theorem S144_calls (b_1 : Value) (k : Value → World → Prop) (w : World) (h : S144 b_1 k w) : Calls Tryz.prog 144 #[b_1] w (retP k) :=
  calls_of_vc (fn := Tryz.f144) (c := (Tryz.f144.body).getD Code.skip) ann144 Tryz.func144 (by kernel_rfl) [b_1] w k (by kernel_rfl) ((S144_vc b_1 k w).symm ▸ h)
theorem C144 (b_1 : Value) (k : Value → World → Prop) (w : World) (h : S144 b_1 k w) : callW Tryz.prog (.func (.func 144) #[] #[]) #[b_1] k w :=
  callW_calls ok144 (by simpa using S144_calls b_1 k w h)

/-! newswire/digest.mixed -/
def ann145 : Ann := [(29, Note.keep [5]), (58, Note.loop [5, 10] [0, 8, 9]), (934, Note.keep [0, 5, 8, 9, 10])]
def S145 (x_1 l_2 : Value) (k : Value → World → Prop) (w : World) : Prop :=
   opW Tryz.prog (Builtin.len_ #[56] 3 #[l_2]) (fun t9_3 w =>
   Loop2 (fun out_5 t10_6 w K_7 =>
   opW Tryz.prog (binS BinOp.lss 3 (Operand.tmp 10) (Operand.tmp 9) t10_6 t9_3) (fun t11_8 w =>
   condW t11_8
   (opW Tryz.prog (Instr.indexAt 56 l_2 t10_6) (fun t12_11 w =>
   opW Tryz.prog (Instr.loadAt 3 t12_11) (fun t13_12 w =>
   opW Tryz.prog (Op.unary UnOp.neg t13_12) (fun t17_13 w =>
   callW Tryz.prog (Value.func (Fn.func 149) #[] #[]) #[x_1, t17_13] (fun t18_14 w =>
   opW Tryz.prog (binS BinOp.xor 109 (Operand.tmp 14) (Operand.tmp 18) out_5 t18_14) (fun t19_15 w =>
   opW Tryz.prog (binS BinOp.add 3 (Operand.tmp 10) (Operand.const (Value.int IntKind.i64 1)) t10_6 (Value.int IntKind.i64 1)) (fun t20_16 w =>
   loopK [] [] [x_1, l_2, t9_3] [x_1, l_2, t9_3] (K_7 t19_15 t20_16 w)) w) w) w) w) w) w)
   (k out_5 w)) w) (Value.int IntKind.u32 0) (Value.int IntKind.i64 0) w) w
theorem S145_vc (x_1 l_2 : Value) (k : Value → World → Prop) (w : World) : vc Tryz.prog Tryz.f145.ntmps ann145 none ((Tryz.f145.body).getD Code.skip) 1 (params 0 [x_1, l_2]) [] (finQ Tryz.prog Tryz.f145.results.toList k) w = S145 x_1 l_2 k w := by kernel_rfl
theorem S145_calls (x_1 l_2 : Value) (k : Value → World → Prop) (w : World) (h : S145 x_1 l_2 k w) : Calls Tryz.prog 145 #[x_1, l_2] w (retP k) :=
  calls_of_vc (fn := Tryz.f145) (c := (Tryz.f145.body).getD Code.skip) ann145 Tryz.func145 (by kernel_rfl) [x_1, l_2] w k (by kernel_rfl) ((S145_vc x_1 l_2 k w).symm ▸ h)
theorem C145 (x_1 l_2 : Value) (k : Value → World → Prop) (w : World) (h : S145 x_1 l_2 k w) : callW Tryz.prog (.func (.func 145) #[] #[]) #[x_1, l_2] k w :=
  callW_calls ok145 (by simpa using S145_calls x_1 l_2 k w h)

/-! math/bits.RotateLeft32 -/
def ann149 : Ann := []
def S149 (x_1 k_2 : Value) (k : Value → World → Prop) (w : World) : Prop :=
   opW Tryz.prog (convert 3 113 k_2) (fun t7_3 w =>
   opW Tryz.prog (binS BinOp.and 113 (Operand.tmp 7) (Operand.const (Value.int IntKind.u64 31)) t7_3 (Value.int IntKind.u64 31)) (fun t8_4 w =>
   opW Tryz.prog (binS BinOp.shl 109 (Operand.tmp 9) (Operand.tmp 10) x_1 t8_4) (fun t11_5 w =>
   opW Tryz.prog (binS BinOp.sub 113 (Operand.const (Value.int IntKind.u64 32)) (Operand.tmp 13) (Value.int IntKind.u64 32) t8_4) (fun t14_6 w =>
   opW Tryz.prog (binS BinOp.shr 109 (Operand.tmp 12) (Operand.tmp 14) x_1 t14_6) (fun t15_7 w =>
   opW Tryz.prog (binS BinOp.or 109 (Operand.tmp 11) (Operand.tmp 15) t11_5 t15_7) (fun t16_8 w =>
   k t16_8 w) w) w) w) w) w) w
theorem S149_vc (x_1 k_2 : Value) (k : Value → World → Prop) (w : World) : vc Tryz.prog Tryz.f149.ntmps ann149 none ((Tryz.f149.body).getD Code.skip) 1 (params 0 [x_1, k_2]) [] (finQ Tryz.prog Tryz.f149.results.toList k) w = S149 x_1 k_2 k w := by kernel_rfl
theorem S149_calls (x_1 k_2 : Value) (k : Value → World → Prop) (w : World) (h : S149 x_1 k_2 k w) : Calls Tryz.prog 149 #[x_1, k_2] w (retP k) :=
  calls_of_vc (fn := Tryz.f149) (c := (Tryz.f149.body).getD Code.skip) ann149 Tryz.func149 (by kernel_rfl) [x_1, k_2] w k (by kernel_rfl) ((S149_vc x_1 k_2 k w).symm ▸ h)
theorem C149 (x_1 k_2 : Value) (k : Value → World → Prop) (w : World) (h : S149 x_1 k_2 k w) : callW Tryz.prog (.func (.func 149) #[] #[]) #[x_1, k_2] k w :=
  callW_calls ok149 (by simpa using S149_calls x_1 k_2 k w h)

end
end Go.Proofs.YtbojglaimdjagaaGreatDoor
/- Reading an element, or a field of an element, in one step, at this program's types: printed by program. -/
set_option linter.unusedVariables false
namespace Go.Proofs.YtbojglaimdjagaaGreatDoor
open Go Go.V Go.RowKit
section
variable {k : Value → World → Prop} {w : World} {K : Value → Prop} {α : Type} {F : Fl α} {v u : Value} {l : List α} {q : IntKind} {i : Int} {a : α}
theorem gt22 (hz : F.sz = 1) (hs : IsSl F w v l) (h0 : 0 ≤ i) (hx : l[i.toNat]? = some a) (hu : (F.e a)[0]? = some u) : takeW Tryz.prog anyW (Instr.indexAt 22 v (.int q i)) (fun p => takeW Tryz.prog (sameW w) (Instr.loadAt 9 p) K w) w = K u := t_getE (by kernel_rfl) (by kernel_rfl) (by rw [hz]; kernel_rfl) (by kernel_rfl) (by kernel_rfl) hs h0 hx hu
theorem ro92_0 {p : Nat → Prop} {w0 : World} {b o : Nat} (hc : w0.cell? ⟨b, o, none⟩ = some u) (hp : ¬ p b) (ha : Off p w0 w) : takeW Tryz.prog anyW (Instr.fieldAt 92 (.pointer (some ⟨b, o, none⟩)) 0) (fun q => takeW Tryz.prog (Off p w0) (Instr.loadAt 3 q) K w) w = K u := r_getO (x := 0) (by kernel_rfl) (by kernel_rfl) (by kernel_rfl) hc hp ha
theorem rt92_1 {b o : Nat} (hc : w.cell? ⟨b, o + 1, none⟩ = some u) : takeW Tryz.prog anyW (Instr.fieldAt 92 (.pointer (some ⟨b, o, none⟩)) 1) (fun p => takeW Tryz.prog (sameW w) (Instr.loadAt 9 p) K w) w = K u := r_getT (x := 1) (by kernel_rfl) (by kernel_rfl) (by kernel_rfl) hc
theorem rw97_1 {b o : Nat} (hc : w.cell? ⟨b, o + 2, none⟩ = some u) : opW Tryz.prog (Instr.fieldAt 97 (.pointer (some ⟨b, o, none⟩)) 1) (fun p w => opW Tryz.prog (Instr.loadAt 39 p) k w) w = k u w := r_get (x := 2) (by kernel_rfl) (by kernel_rfl) (by kernel_rfl) hc
theorem rt97_1 {b o : Nat} (hc : w.cell? ⟨b, o + 2, none⟩ = some u) : takeW Tryz.prog anyW (Instr.fieldAt 97 (.pointer (some ⟨b, o, none⟩)) 1) (fun p => takeW Tryz.prog (sameW w) (Instr.loadAt 39 p) K w) w = K u := r_getT (x := 2) (by kernel_rfl) (by kernel_rfl) (by kernel_rfl) hc
theorem rw97_2 {b o : Nat} (hc : w.cell? ⟨b, o + 3, none⟩ = some u) : opW Tryz.prog (Instr.fieldAt 97 (.pointer (some ⟨b, o, none⟩)) 2) (fun p w => opW Tryz.prog (Instr.loadAt 39 p) k w) w = k u w := r_get (x := 3) (by kernel_rfl) (by kernel_rfl) (by kernel_rfl) hc
theorem rt97_2 {b o : Nat} (hc : w.cell? ⟨b, o + 3, none⟩ = some u) : takeW Tryz.prog anyW (Instr.fieldAt 97 (.pointer (some ⟨b, o, none⟩)) 2) (fun p => takeW Tryz.prog (sameW w) (Instr.loadAt 39 p) K w) w = K u := r_getT (x := 3) (by kernel_rfl) (by kernel_rfl) (by kernel_rfl) hc
theorem rw97_3 {b o : Nat} (hc : w.cell? ⟨b, o + 4, none⟩ = some u) : opW Tryz.prog (Instr.fieldAt 97 (.pointer (some ⟨b, o, none⟩)) 3) (fun p w => opW Tryz.prog (Instr.loadAt 93 p) k w) w = k u w := r_get (x := 4) (by kernel_rfl) (by kernel_rfl) (by kernel_rfl) hc
theorem ro97_3 {p : Nat → Prop} {w0 : World} {b o : Nat} (hc : w0.cell? ⟨b, o + 4, none⟩ = some u) (hp : ¬ p b) (ha : Off p w0 w) : takeW Tryz.prog anyW (Instr.fieldAt 97 (.pointer (some ⟨b, o, none⟩)) 3) (fun q => takeW Tryz.prog (Off p w0) (Instr.loadAt 93 q) K w) w = K u := r_getO (x := 4) (by kernel_rfl) (by kernel_rfl) (by kernel_rfl) hc hp ha
theorem lo92 {p : Nat → Prop} {w0 : World} {b o : Nat} {vs : List Value} (hl : vs.length = 2) (hc : Cells w0 b o vs) (hp : ¬ p b) (ha : Off p w0 w) : takeW Tryz.prog (Off p w0) (Instr.loadAt 92 (.pointer (some ⟨b, o, none⟩))) K w = K (.agg vs.toArray) := r_aggO (by kernel_rfl) (by kernel_rfl) (by rw [hl]; kernel_rfl) hc hp ha
theorem rc214 {b : Nat} {vs : List Value} (hl : vs.length = 64) (hc : Cells w b 0 vs) : resCell Tryz.prog 214 (.pointer (some ⟨b, 0, none⟩)) K w = K (.agg vs.toArray) := resCell_agg (by kernel_rfl) (by kernel_rfl) (by rw [hl]; kernel_rfl) hc
theorem sr92 {b : Nat} {vs old : List Value} (hl : vs.length = 2) (hr : RowAt w b 92 old) (ho : old.length = 2) (hv : ∀ v ∈ vs, v.oneCell' = true) (h : ∀ w', Only b w w' → RowAt w' b 92 vs → k undef w') : opU Tryz.prog (Instr.storeAt 92 (.pointer (some ⟨b, 0, none⟩)) (.agg vs.toArray)) k w := w_storeRow hr (by rw [hl, ho]) hv (by rw [hl]; kernel_rfl) (by kernel_rfl) h
theorem nt22 {i : Nat} (hz : F.sz = 1) (hs : IsSl F w v l) (hx : l[i]? = some a) (hu : (F.e a)[0]? = some u) : takeW Tryz.prog anyW (Instr.indexAt 22 v (.int q (i : Int))) (fun p => takeW Tryz.prog (sameW w) (Instr.loadAt 9 p) K w) w = K u := gt22 (i := (i : Int)) hz hs (by omega) hx hu
end
end Go.Proofs.YtbojglaimdjagaaGreatDoor
