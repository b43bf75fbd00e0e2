/- The laws of single operations at this program's types, printed by program. -/
import Derived.Test.YtidnjppalebbfaaVm
import Derived.Test.YtidnjppalebbfaaRows
import Derived.KernelRfl
set_option linter.unusedVariables false
namespace Go.Proofs.Ytidnjppalebbfaa
open Go Go.V Go.RowKit
section
variable {k : Value → World → Prop} {w : World} {S : World → Prop} {K : Value → Prop}
theorem hz22 : hasZero Try.prog 22 = true := by kernel_rfl
theorem zc22 : (zeroT Try.prog 22).cells.toList = [(Value.slice none 0 0)] := by kernel_rfl
theorem al22 (hk : ∀ w', Below w.heap.size w w' → w'.heap.size = w.heap.size + 1 → RowAt w' w.heap.size 22 [(Value.slice none 0 0)] → k (.pointer (some ⟨w.heap.size, 0, none⟩)) w') : opW Try.prog (Instr.alloc 22 true (.tuple #[])) k w := w_allocN hz22 (by rw [zc22]; exact hk)
theorem hz26 : hasZero Try.prog 26 = true := by kernel_rfl
theorem zc26 : (zeroT Try.prog 26).cells.toList = [(Value.slice none 0 0)] := by kernel_rfl
theorem al26 (hk : ∀ w', Below w.heap.size w w' → w'.heap.size = w.heap.size + 1 → RowAt w' w.heap.size 26 [(Value.slice none 0 0)] → k (.pointer (some ⟨w.heap.size, 0, none⟩)) w') : opW Try.prog (Instr.alloc 26 true (.tuple #[])) k w := w_allocN hz26 (by rw [zc26]; exact hk)
theorem hz3 : hasZero Try.prog 3 = true := by kernel_rfl
theorem zc3 : (zeroT Try.prog 3).cells.toList = [(Value.int IntKind.i64 0)] := by kernel_rfl
theorem al3 (hk : ∀ w', Below w.heap.size w w' → w'.heap.size = w.heap.size + 1 → RowAt w' w.heap.size 3 [(Value.int IntKind.i64 0)] → k (.pointer (some ⟨w.heap.size, 0, none⟩)) w') : opW Try.prog (Instr.alloc 3 true (.tuple #[])) k w := w_allocN hz3 (by rw [zc3]; exact hk)
theorem hz31 : hasZero Try.prog 31 = true := by kernel_rfl
theorem zc31 : (zeroT Try.prog 31).cells.toList = [(Value.int IntKind.i64 0), (Value.int IntKind.i64 0)] := by kernel_rfl
theorem al31 (hk : ∀ w', Below w.heap.size w w' → w'.heap.size = w.heap.size + 1 → RowAt w' w.heap.size 31 [(Value.int IntKind.i64 0), (Value.int IntKind.i64 0)] → k (.pointer (some ⟨w.heap.size, 0, none⟩)) w') : opW Try.prog (Instr.alloc 31 true (.tuple #[])) k w := w_allocN hz31 (by rw [zc31]; exact hk)
theorem hz34 : hasZero Try.prog 34 = true := by kernel_rfl
theorem zc34 : (zeroT Try.prog 34).cells.toList = [(Value.int IntKind.i64 0), (Value.int IntKind.i64 0), (Value.int IntKind.i64 0)] := by kernel_rfl
theorem al34 (hk : ∀ w', Below w.heap.size w w' → w'.heap.size = w.heap.size + 1 → RowAt w' w.heap.size 34 [(Value.int IntKind.i64 0), (Value.int IntKind.i64 0), (Value.int IntKind.i64 0)] → k (.pointer (some ⟨w.heap.size, 0, none⟩)) w') : opW Try.prog (Instr.alloc 34 true (.tuple #[])) k w := w_allocN hz34 (by rw [zc34]; exact hk)
theorem hz50 : hasZero Try.prog 50 = true := by kernel_rfl
theorem zc50 : (zeroT Try.prog 50).cells.toList = [(Value.bool false), (Value.bool false), (Value.bool false), (Value.bool false), (Value.bool false), (Value.bool false), (Value.bool false), (Value.bool false)] := by kernel_rfl
theorem al50 (hk : ∀ w', Below w.heap.size w w' → w'.heap.size = w.heap.size + 1 → RowAt w' w.heap.size 50 [(Value.bool false), (Value.bool false), (Value.bool false), (Value.bool false), (Value.bool false), (Value.bool false), (Value.bool false), (Value.bool false)] → k (.pointer (some ⟨w.heap.size, 0, none⟩)) w') : opW Try.prog (Instr.alloc 50 true (.tuple #[])) k w := w_allocN hz50 (by rw [zc50]; exact hk)
theorem hz60 : hasZero Try.prog 60 = true := by kernel_rfl
theorem zc60 : (zeroT Try.prog 60).cells.toList = [Value.nilFunc] := by kernel_rfl
theorem al60 (hk : ∀ w', Below w.heap.size w w' → w'.heap.size = w.heap.size + 1 → RowAt w' w.heap.size 60 [Value.nilFunc] → k (.pointer (some ⟨w.heap.size, 0, none⟩)) w') : opW Try.prog (Instr.alloc 60 true (.tuple #[])) k w := w_allocN hz60 (by rw [zc60]; exact hk)
theorem hz90 : hasZero Try.prog 90 = true := by kernel_rfl
theorem zc90 : (zeroT Try.prog 90).cells.toList = [(Value.int IntKind.u64 0)] := by kernel_rfl
theorem al90 (hk : ∀ w', Below w.heap.size w w' → w'.heap.size = w.heap.size + 1 → RowAt w' w.heap.size 90 [(Value.int IntKind.u64 0)] → k (.pointer (some ⟨w.heap.size, 0, none⟩)) w') : opW Try.prog (Instr.alloc 90 true (.tuple #[])) k w := w_allocN hz90 (by rw [zc90]; exact hk)
theorem sty22 : STy Try.prog 22 34 3 24 (Value.agg #[(Value.int IntKind.i64 0), (Value.int IntKind.i64 0), (Value.int IntKind.i64 0)]) := ⟨by kernel_rfl, by kernel_rfl, by kernel_rfl, by decide⟩
theorem sty23 : STy Try.prog 23 31 2 16 (Value.agg #[(Value.int IntKind.i64 0), (Value.int IntKind.i64 0)]) := ⟨by kernel_rfl, by kernel_rfl, by kernel_rfl, by decide⟩
theorem sty26 : STy Try.prog 26 3 1 8 (Value.int IntKind.i64 0) := ⟨by kernel_rfl, by kernel_rfl, by kernel_rfl, by decide⟩
theorem sty35 : STy Try.prog 35 22 1 24 (Value.slice none 0 0) := ⟨by kernel_rfl, by kernel_rfl, by kernel_rfl, by decide⟩
theorem sty41 : STy Try.prog 41 23 1 24 (Value.slice none 0 0) := ⟨by kernel_rfl, by kernel_rfl, by kernel_rfl, by decide⟩
theorem sty44 : STy Try.prog 44 26 1 24 (Value.slice none 0 0) := ⟨by kernel_rfl, by kernel_rfl, by kernel_rfl, by decide⟩
theorem sty51 : STy Try.prog 51 50 8 8 (Value.agg #[(Value.bool false), (Value.bool false), (Value.bool false), (Value.bool false), (Value.bool false), (Value.bool false), (Value.bool false), (Value.bool false)]) := ⟨by kernel_rfl, by kernel_rfl, by kernel_rfl, by decide⟩
theorem fo31_0 : fieldOff Try.prog 31 0 = some 0 := by kernel_rfl
theorem fl31_0 {b o : Nat} : opW Try.prog (Instr.fieldAt 31 (.pointer (some ⟨b, o, none⟩)) 0) k w = k (.pointer (some ⟨b, o, none⟩)) w := w_field fo31_0
theorem tfl31_0 {b o : Nat} : takeW Try.prog S (Instr.fieldAt 31 (.pointer (some ⟨b, o, none⟩)) 0) K w = K (.pointer (some ⟨b, o, none⟩)) := t_field fo31_0
theorem fo31_1 : fieldOff Try.prog 31 1 = some 1 := by kernel_rfl
theorem fl31_1 {b o : Nat} : opW Try.prog (Instr.fieldAt 31 (.pointer (some ⟨b, o, none⟩)) 1) k w = k (.pointer (some ⟨b, o + 1, none⟩)) w := w_field fo31_1
theorem tfl31_1 {b o : Nat} : takeW Try.prog S (Instr.fieldAt 31 (.pointer (some ⟨b, o, none⟩)) 1) K w = K (.pointer (some ⟨b, o + 1, none⟩)) := t_field fo31_1
theorem fo34_0 : fieldOff Try.prog 34 0 = some 0 := by kernel_rfl
theorem fl34_0 {b o : Nat} : opW Try.prog (Instr.fieldAt 34 (.pointer (some ⟨b, o, none⟩)) 0) k w = k (.pointer (some ⟨b, o, none⟩)) w := w_field fo34_0
theorem tfl34_0 {b o : Nat} : takeW Try.prog S (Instr.fieldAt 34 (.pointer (some ⟨b, o, none⟩)) 0) K w = K (.pointer (some ⟨b, o, none⟩)) := t_field fo34_0
theorem fo34_1 : fieldOff Try.prog 34 1 = some 1 := by kernel_rfl
theorem fl34_1 {b o : Nat} : opW Try.prog (Instr.fieldAt 34 (.pointer (some ⟨b, o, none⟩)) 1) k w = k (.pointer (some ⟨b, o + 1, none⟩)) w := w_field fo34_1
theorem tfl34_1 {b o : Nat} : takeW Try.prog S (Instr.fieldAt 34 (.pointer (some ⟨b, o, none⟩)) 1) K w = K (.pointer (some ⟨b, o + 1, none⟩)) := t_field fo34_1
theorem fo34_2 : fieldOff Try.prog 34 2 = some 2 := by kernel_rfl
theorem fl34_2 {b o : Nat} : opW Try.prog (Instr.fieldAt 34 (.pointer (some ⟨b, o, none⟩)) 2) k w = k (.pointer (some ⟨b, o + 2, none⟩)) w := w_field fo34_2
theorem tfl34_2 {b o : Nat} : takeW Try.prog S (Instr.fieldAt 34 (.pointer (some ⟨b, o, none⟩)) 2) K w = K (.pointer (some ⟨b, o + 2, none⟩)) := t_field fo34_2
theorem isl22 : isSliceT Try.prog 22 = true := by kernel_rfl
theorem el22 : elemT Try.prog 22 = 34 := by kernel_rfl
theorem known34 : known Try.prog 34 = true := by kernel_rfl
theorem size34 : sizeT Try.prog 34 = 3 := by kernel_rfl
theorem ix22 {α : Type} {F : Fl α} {v : Value} {l : List α} {q : IntKind} {i : Int} {x : α} (hs : IsSl F w v l) (hz : F.sz = 3) (h0 : 0 ≤ i) (hx : l[i.toNat]? = some x) (hk : ∀ b o, Cells w b o (F.e x) → k (.pointer (some ⟨b, o, none⟩)) w) : opW Try.prog (Instr.indexAt 22 v (.int q i)) k w :=
  w_indexS isl22 (by rw [el22]; exact known34) (by rw [el22, size34, hz]) hs h0 hx hk
theorem tix22 {α : Type} {F : Fl α} {v : Value} {l : List α} {q : IntKind} {i : Int} {x : α} (hs : IsSl F w v l) (hz : F.sz = 3) (h0 : 0 ≤ i) (hx : l[i.toNat]? = some x) (hk : ∀ b o, Cells w b o (F.e x) → K (.pointer (some ⟨b, o, none⟩))) : takeW Try.prog S (Instr.indexAt 22 v (.int q i)) K w :=
  t_indexS isl22 (by rw [el22]; exact known34) (by rw [el22, size34, hz]) hs h0 hx hk
theorem ixo22 {g o n c : Nat} {q : IntKind} {i : Int} (h0 : 0 ≤ i) (h1 : i < n) : opW Try.prog (Instr.indexAt 22 (.slice (some ⟨g, o, none⟩) n c) (.int q i)) k w = k (.pointer (some ⟨g, o + i.toNat * 3, none⟩)) w := by
  rw [opW_ok (run_index isl22 (by rw [el22]; exact known34) h0 h1 w), el22, size34]
theorem tixo22 {g o n c : Nat} {q : IntKind} {i : Int} (h0 : 0 ≤ i) (h1 : i < n) : takeW Try.prog S (Instr.indexAt 22 (.slice (some ⟨g, o, none⟩) n c) (.int q i)) K w = K (.pointer (some ⟨g, o + i.toNat * 3, none⟩)) :=
  takeW_pure fun w => run_of_eq fun k => ixo22 h0 h1
theorem ixz22 {g n c i : Nat} (h : i < n) : opW Try.prog (Instr.indexAt 22 (.slice (some ⟨g, 0, none⟩) n c) (.int .i64 i)) k w = k (.pointer (some ⟨g, i * 3, none⟩)) w := by
  rw [ixo22 (by omega) (by omega)]; simp
theorem tixz22 {g n c i : Nat} (h : i < n) : takeW Try.prog S (Instr.indexAt 22 (.slice (some ⟨g, 0, none⟩) n c) (.int .i64 i)) K w = K (.pointer (some ⟨g, i * 3, none⟩)) :=
  takeW_pure fun w => run_of_eq fun k => ixz22 h
theorem isl23 : isSliceT Try.prog 23 = true := by kernel_rfl
theorem el23 : elemT Try.prog 23 = 31 := by kernel_rfl
theorem known31 : known Try.prog 31 = true := by kernel_rfl
theorem size31 : sizeT Try.prog 31 = 2 := by kernel_rfl
theorem ix23 {α : Type} {F : Fl α} {v : Value} {l : List α} {q : IntKind} {i : Int} {x : α} (hs : IsSl F w v l) (hz : F.sz = 2) (h0 : 0 ≤ i) (hx : l[i.toNat]? = some x) (hk : ∀ b o, Cells w b o (F.e x) → k (.pointer (some ⟨b, o, none⟩)) w) : opW Try.prog (Instr.indexAt 23 v (.int q i)) k w :=
  w_indexS isl23 (by rw [el23]; exact known31) (by rw [el23, size31, hz]) hs h0 hx hk
theorem tix23 {α : Type} {F : Fl α} {v : Value} {l : List α} {q : IntKind} {i : Int} {x : α} (hs : IsSl F w v l) (hz : F.sz = 2) (h0 : 0 ≤ i) (hx : l[i.toNat]? = some x) (hk : ∀ b o, Cells w b o (F.e x) → K (.pointer (some ⟨b, o, none⟩))) : takeW Try.prog S (Instr.indexAt 23 v (.int q i)) K w :=
  t_indexS isl23 (by rw [el23]; exact known31) (by rw [el23, size31, hz]) hs h0 hx hk
theorem ixo23 {g o n c : Nat} {q : IntKind} {i : Int} (h0 : 0 ≤ i) (h1 : i < n) : opW Try.prog (Instr.indexAt 23 (.slice (some ⟨g, o, none⟩) n c) (.int q i)) k w = k (.pointer (some ⟨g, o + i.toNat * 2, none⟩)) w := by
  rw [opW_ok (run_index isl23 (by rw [el23]; exact known31) h0 h1 w), el23, size31]
theorem tixo23 {g o n c : Nat} {q : IntKind} {i : Int} (h0 : 0 ≤ i) (h1 : i < n) : takeW Try.prog S (Instr.indexAt 23 (.slice (some ⟨g, o, none⟩) n c) (.int q i)) K w = K (.pointer (some ⟨g, o + i.toNat * 2, none⟩)) :=
  takeW_pure fun w => run_of_eq fun k => ixo23 h0 h1
theorem ixz23 {g n c i : Nat} (h : i < n) : opW Try.prog (Instr.indexAt 23 (.slice (some ⟨g, 0, none⟩) n c) (.int .i64 i)) k w = k (.pointer (some ⟨g, i * 2, none⟩)) w := by
  rw [ixo23 (by omega) (by omega)]; simp
theorem tixz23 {g n c i : Nat} (h : i < n) : takeW Try.prog S (Instr.indexAt 23 (.slice (some ⟨g, 0, none⟩) n c) (.int .i64 i)) K w = K (.pointer (some ⟨g, i * 2, none⟩)) :=
  takeW_pure fun w => run_of_eq fun k => ixz23 h
theorem isl24 : isSliceT Try.prog 24 = true := by kernel_rfl
theorem el24 : elemT Try.prog 24 = 56 := by kernel_rfl
theorem known56 : known Try.prog 56 = true := by kernel_rfl
theorem size56 : sizeT Try.prog 56 = 3 := by kernel_rfl
theorem ix24 {α : Type} {F : Fl α} {v : Value} {l : List α} {q : IntKind} {i : Int} {x : α} (hs : IsSl F w v l) (hz : F.sz = 3) (h0 : 0 ≤ i) (hx : l[i.toNat]? = some x) (hk : ∀ b o, Cells w b o (F.e x) → k (.pointer (some ⟨b, o, none⟩)) w) : opW Try.prog (Instr.indexAt 24 v (.int q i)) k w :=
  w_indexS isl24 (by rw [el24]; exact known56) (by rw [el24, size56, hz]) hs h0 hx hk
theorem tix24 {α : Type} {F : Fl α} {v : Value} {l : List α} {q : IntKind} {i : Int} {x : α} (hs : IsSl F w v l) (hz : F.sz = 3) (h0 : 0 ≤ i) (hx : l[i.toNat]? = some x) (hk : ∀ b o, Cells w b o (F.e x) → K (.pointer (some ⟨b, o, none⟩))) : takeW Try.prog S (Instr.indexAt 24 v (.int q i)) K w :=
  t_indexS isl24 (by rw [el24]; exact known56) (by rw [el24, size56, hz]) hs h0 hx hk
theorem ixo24 {g o n c : Nat} {q : IntKind} {i : Int} (h0 : 0 ≤ i) (h1 : i < n) : opW Try.prog (Instr.indexAt 24 (.slice (some ⟨g, o, none⟩) n c) (.int q i)) k w = k (.pointer (some ⟨g, o + i.toNat * 3, none⟩)) w := by
  rw [opW_ok (run_index isl24 (by rw [el24]; exact known56) h0 h1 w), el24, size56]
theorem tixo24 {g o n c : Nat} {q : IntKind} {i : Int} (h0 : 0 ≤ i) (h1 : i < n) : takeW Try.prog S (Instr.indexAt 24 (.slice (some ⟨g, o, none⟩) n c) (.int q i)) K w = K (.pointer (some ⟨g, o + i.toNat * 3, none⟩)) :=
  takeW_pure fun w => run_of_eq fun k => ixo24 h0 h1
theorem ixz24 {g n c i : Nat} (h : i < n) : opW Try.prog (Instr.indexAt 24 (.slice (some ⟨g, 0, none⟩) n c) (.int .i64 i)) k w = k (.pointer (some ⟨g, i * 3, none⟩)) w := by
  rw [ixo24 (by omega) (by omega)]; simp
theorem tixz24 {g n c i : Nat} (h : i < n) : takeW Try.prog S (Instr.indexAt 24 (.slice (some ⟨g, 0, none⟩) n c) (.int .i64 i)) K w = K (.pointer (some ⟨g, i * 3, none⟩)) :=
  takeW_pure fun w => run_of_eq fun k => ixz24 h
theorem isl25 : isSliceT Try.prog 25 = true := by kernel_rfl
theorem el25 : elemT Try.prog 25 = 57 := by kernel_rfl
theorem known57 : known Try.prog 57 = true := by kernel_rfl
theorem size57 : sizeT Try.prog 57 = 2 := by kernel_rfl
theorem ix25 {α : Type} {F : Fl α} {v : Value} {l : List α} {q : IntKind} {i : Int} {x : α} (hs : IsSl F w v l) (hz : F.sz = 2) (h0 : 0 ≤ i) (hx : l[i.toNat]? = some x) (hk : ∀ b o, Cells w b o (F.e x) → k (.pointer (some ⟨b, o, none⟩)) w) : opW Try.prog (Instr.indexAt 25 v (.int q i)) k w :=
  w_indexS isl25 (by rw [el25]; exact known57) (by rw [el25, size57, hz]) hs h0 hx hk
theorem tix25 {α : Type} {F : Fl α} {v : Value} {l : List α} {q : IntKind} {i : Int} {x : α} (hs : IsSl F w v l) (hz : F.sz = 2) (h0 : 0 ≤ i) (hx : l[i.toNat]? = some x) (hk : ∀ b o, Cells w b o (F.e x) → K (.pointer (some ⟨b, o, none⟩))) : takeW Try.prog S (Instr.indexAt 25 v (.int q i)) K w :=
  t_indexS isl25 (by rw [el25]; exact known57) (by rw [el25, size57, hz]) hs h0 hx hk
theorem ixo25 {g o n c : Nat} {q : IntKind} {i : Int} (h0 : 0 ≤ i) (h1 : i < n) : opW Try.prog (Instr.indexAt 25 (.slice (some ⟨g, o, none⟩) n c) (.int q i)) k w = k (.pointer (some ⟨g, o + i.toNat * 2, none⟩)) w := by
  rw [opW_ok (run_index isl25 (by rw [el25]; exact known57) h0 h1 w), el25, size57]
theorem tixo25 {g o n c : Nat} {q : IntKind} {i : Int} (h0 : 0 ≤ i) (h1 : i < n) : takeW Try.prog S (Instr.indexAt 25 (.slice (some ⟨g, o, none⟩) n c) (.int q i)) K w = K (.pointer (some ⟨g, o + i.toNat * 2, none⟩)) :=
  takeW_pure fun w => run_of_eq fun k => ixo25 h0 h1
theorem ixz25 {g n c i : Nat} (h : i < n) : opW Try.prog (Instr.indexAt 25 (.slice (some ⟨g, 0, none⟩) n c) (.int .i64 i)) k w = k (.pointer (some ⟨g, i * 2, none⟩)) w := by
  rw [ixo25 (by omega) (by omega)]; simp
theorem tixz25 {g n c i : Nat} (h : i < n) : takeW Try.prog S (Instr.indexAt 25 (.slice (some ⟨g, 0, none⟩) n c) (.int .i64 i)) K w = K (.pointer (some ⟨g, i * 2, none⟩)) :=
  takeW_pure fun w => run_of_eq fun k => ixz25 h
theorem isl26 : isSliceT Try.prog 26 = true := by kernel_rfl
theorem el26 : elemT Try.prog 26 = 3 := by kernel_rfl
theorem known3 : known Try.prog 3 = true := by kernel_rfl
theorem size3 : sizeT Try.prog 3 = 1 := by kernel_rfl
theorem ix26 {α : Type} {F : Fl α} {v : Value} {l : List α} {q : IntKind} {i : Int} {x : α} (hs : IsSl F w v l) (hz : F.sz = 1) (h0 : 0 ≤ i) (hx : l[i.toNat]? = some x) (hk : ∀ b o, Cells w b o (F.e x) → k (.pointer (some ⟨b, o, none⟩)) w) : opW Try.prog (Instr.indexAt 26 v (.int q i)) k w :=
  w_indexS isl26 (by rw [el26]; exact known3) (by rw [el26, size3, hz]) hs h0 hx hk
theorem tix26 {α : Type} {F : Fl α} {v : Value} {l : List α} {q : IntKind} {i : Int} {x : α} (hs : IsSl F w v l) (hz : F.sz = 1) (h0 : 0 ≤ i) (hx : l[i.toNat]? = some x) (hk : ∀ b o, Cells w b o (F.e x) → K (.pointer (some ⟨b, o, none⟩))) : takeW Try.prog S (Instr.indexAt 26 v (.int q i)) K w :=
  t_indexS isl26 (by rw [el26]; exact known3) (by rw [el26, size3, hz]) hs h0 hx hk
theorem ixo26 {g o n c : Nat} {q : IntKind} {i : Int} (h0 : 0 ≤ i) (h1 : i < n) : opW Try.prog (Instr.indexAt 26 (.slice (some ⟨g, o, none⟩) n c) (.int q i)) k w = k (.pointer (some ⟨g, o + i.toNat * 1, none⟩)) w := by
  rw [opW_ok (run_index isl26 (by rw [el26]; exact known3) h0 h1 w), el26, size3]
theorem tixo26 {g o n c : Nat} {q : IntKind} {i : Int} (h0 : 0 ≤ i) (h1 : i < n) : takeW Try.prog S (Instr.indexAt 26 (.slice (some ⟨g, o, none⟩) n c) (.int q i)) K w = K (.pointer (some ⟨g, o + i.toNat * 1, none⟩)) :=
  takeW_pure fun w => run_of_eq fun k => ixo26 h0 h1
theorem ixz26 {g n c i : Nat} (h : i < n) : opW Try.prog (Instr.indexAt 26 (.slice (some ⟨g, 0, none⟩) n c) (.int .i64 i)) k w = k (.pointer (some ⟨g, i, none⟩)) w := by
  rw [ixo26 (by omega) (by omega)]; simp
theorem tixz26 {g n c i : Nat} (h : i < n) : takeW Try.prog S (Instr.indexAt 26 (.slice (some ⟨g, 0, none⟩) n c) (.int .i64 i)) K w = K (.pointer (some ⟨g, i, none⟩)) :=
  takeW_pure fun w => run_of_eq fun k => ixz26 h
theorem isl35 : isSliceT Try.prog 35 = true := by kernel_rfl
theorem el35 : elemT Try.prog 35 = 22 := by kernel_rfl
theorem known22 : known Try.prog 22 = true := by kernel_rfl
theorem size22 : sizeT Try.prog 22 = 1 := by kernel_rfl
theorem ix35 {α : Type} {F : Fl α} {v : Value} {l : List α} {q : IntKind} {i : Int} {x : α} (hs : IsSl F w v l) (hz : F.sz = 1) (h0 : 0 ≤ i) (hx : l[i.toNat]? = some x) (hk : ∀ b o, Cells w b o (F.e x) → k (.pointer (some ⟨b, o, none⟩)) w) : opW Try.prog (Instr.indexAt 35 v (.int q i)) k w :=
  w_indexS isl35 (by rw [el35]; exact known22) (by rw [el35, size22, hz]) hs h0 hx hk
theorem tix35 {α : Type} {F : Fl α} {v : Value} {l : List α} {q : IntKind} {i : Int} {x : α} (hs : IsSl F w v l) (hz : F.sz = 1) (h0 : 0 ≤ i) (hx : l[i.toNat]? = some x) (hk : ∀ b o, Cells w b o (F.e x) → K (.pointer (some ⟨b, o, none⟩))) : takeW Try.prog S (Instr.indexAt 35 v (.int q i)) K w :=
  t_indexS isl35 (by rw [el35]; exact known22) (by rw [el35, size22, hz]) hs h0 hx hk
theorem ixo35 {g o n c : Nat} {q : IntKind} {i : Int} (h0 : 0 ≤ i) (h1 : i < n) : opW Try.prog (Instr.indexAt 35 (.slice (some ⟨g, o, none⟩) n c) (.int q i)) k w = k (.pointer (some ⟨g, o + i.toNat * 1, none⟩)) w := by
  rw [opW_ok (run_index isl35 (by rw [el35]; exact known22) h0 h1 w), el35, size22]
theorem tixo35 {g o n c : Nat} {q : IntKind} {i : Int} (h0 : 0 ≤ i) (h1 : i < n) : takeW Try.prog S (Instr.indexAt 35 (.slice (some ⟨g, o, none⟩) n c) (.int q i)) K w = K (.pointer (some ⟨g, o + i.toNat * 1, none⟩)) :=
  takeW_pure fun w => run_of_eq fun k => ixo35 h0 h1
theorem ixz35 {g n c i : Nat} (h : i < n) : opW Try.prog (Instr.indexAt 35 (.slice (some ⟨g, 0, none⟩) n c) (.int .i64 i)) k w = k (.pointer (some ⟨g, i, none⟩)) w := by
  rw [ixo35 (by omega) (by omega)]; simp
theorem tixz35 {g n c i : Nat} (h : i < n) : takeW Try.prog S (Instr.indexAt 35 (.slice (some ⟨g, 0, none⟩) n c) (.int .i64 i)) K w = K (.pointer (some ⟨g, i, none⟩)) :=
  takeW_pure fun w => run_of_eq fun k => ixz35 h
theorem isl41 : isSliceT Try.prog 41 = true := by kernel_rfl
theorem el41 : elemT Try.prog 41 = 23 := by kernel_rfl
theorem known23 : known Try.prog 23 = true := by kernel_rfl
theorem size23 : sizeT Try.prog 23 = 1 := by kernel_rfl
theorem ix41 {α : Type} {F : Fl α} {v : Value} {l : List α} {q : IntKind} {i : Int} {x : α} (hs : IsSl F w v l) (hz : F.sz = 1) (h0 : 0 ≤ i) (hx : l[i.toNat]? = some x) (hk : ∀ b o, Cells w b o (F.e x) → k (.pointer (some ⟨b, o, none⟩)) w) : opW Try.prog (Instr.indexAt 41 v (.int q i)) k w :=
  w_indexS isl41 (by rw [el41]; exact known23) (by rw [el41, size23, hz]) hs h0 hx hk
theorem tix41 {α : Type} {F : Fl α} {v : Value} {l : List α} {q : IntKind} {i : Int} {x : α} (hs : IsSl F w v l) (hz : F.sz = 1) (h0 : 0 ≤ i) (hx : l[i.toNat]? = some x) (hk : ∀ b o, Cells w b o (F.e x) → K (.pointer (some ⟨b, o, none⟩))) : takeW Try.prog S (Instr.indexAt 41 v (.int q i)) K w :=
  t_indexS isl41 (by rw [el41]; exact known23) (by rw [el41, size23, hz]) hs h0 hx hk
theorem ixo41 {g o n c : Nat} {q : IntKind} {i : Int} (h0 : 0 ≤ i) (h1 : i < n) : opW Try.prog (Instr.indexAt 41 (.slice (some ⟨g, o, none⟩) n c) (.int q i)) k w = k (.pointer (some ⟨g, o + i.toNat * 1, none⟩)) w := by
  rw [opW_ok (run_index isl41 (by rw [el41]; exact known23) h0 h1 w), el41, size23]
theorem tixo41 {g o n c : Nat} {q : IntKind} {i : Int} (h0 : 0 ≤ i) (h1 : i < n) : takeW Try.prog S (Instr.indexAt 41 (.slice (some ⟨g, o, none⟩) n c) (.int q i)) K w = K (.pointer (some ⟨g, o + i.toNat * 1, none⟩)) :=
  takeW_pure fun w => run_of_eq fun k => ixo41 h0 h1
theorem ixz41 {g n c i : Nat} (h : i < n) : opW Try.prog (Instr.indexAt 41 (.slice (some ⟨g, 0, none⟩) n c) (.int .i64 i)) k w = k (.pointer (some ⟨g, i, none⟩)) w := by
  rw [ixo41 (by omega) (by omega)]; simp
theorem tixz41 {g n c i : Nat} (h : i < n) : takeW Try.prog S (Instr.indexAt 41 (.slice (some ⟨g, 0, none⟩) n c) (.int .i64 i)) K w = K (.pointer (some ⟨g, i, none⟩)) :=
  takeW_pure fun w => run_of_eq fun k => ixz41 h
theorem isl44 : isSliceT Try.prog 44 = true := by kernel_rfl
theorem el44 : elemT Try.prog 44 = 26 := by kernel_rfl
theorem known26 : known Try.prog 26 = true := by kernel_rfl
theorem size26 : sizeT Try.prog 26 = 1 := by kernel_rfl
theorem ix44 {α : Type} {F : Fl α} {v : Value} {l : List α} {q : IntKind} {i : Int} {x : α} (hs : IsSl F w v l) (hz : F.sz = 1) (h0 : 0 ≤ i) (hx : l[i.toNat]? = some x) (hk : ∀ b o, Cells w b o (F.e x) → k (.pointer (some ⟨b, o, none⟩)) w) : opW Try.prog (Instr.indexAt 44 v (.int q i)) k w :=
  w_indexS isl44 (by rw [el44]; exact known26) (by rw [el44, size26, hz]) hs h0 hx hk
theorem tix44 {α : Type} {F : Fl α} {v : Value} {l : List α} {q : IntKind} {i : Int} {x : α} (hs : IsSl F w v l) (hz : F.sz = 1) (h0 : 0 ≤ i) (hx : l[i.toNat]? = some x) (hk : ∀ b o, Cells w b o (F.e x) → K (.pointer (some ⟨b, o, none⟩))) : takeW Try.prog S (Instr.indexAt 44 v (.int q i)) K w :=
  t_indexS isl44 (by rw [el44]; exact known26) (by rw [el44, size26, hz]) hs h0 hx hk
theorem ixo44 {g o n c : Nat} {q : IntKind} {i : Int} (h0 : 0 ≤ i) (h1 : i < n) : opW Try.prog (Instr.indexAt 44 (.slice (some ⟨g, o, none⟩) n c) (.int q i)) k w = k (.pointer (some ⟨g, o + i.toNat * 1, none⟩)) w := by
  rw [opW_ok (run_index isl44 (by rw [el44]; exact known26) h0 h1 w), el44, size26]
theorem tixo44 {g o n c : Nat} {q : IntKind} {i : Int} (h0 : 0 ≤ i) (h1 : i < n) : takeW Try.prog S (Instr.indexAt 44 (.slice (some ⟨g, o, none⟩) n c) (.int q i)) K w = K (.pointer (some ⟨g, o + i.toNat * 1, none⟩)) :=
  takeW_pure fun w => run_of_eq fun k => ixo44 h0 h1
theorem ixz44 {g n c i : Nat} (h : i < n) : opW Try.prog (Instr.indexAt 44 (.slice (some ⟨g, 0, none⟩) n c) (.int .i64 i)) k w = k (.pointer (some ⟨g, i, none⟩)) w := by
  rw [ixo44 (by omega) (by omega)]; simp
theorem tixz44 {g n c i : Nat} (h : i < n) : takeW Try.prog S (Instr.indexAt 44 (.slice (some ⟨g, 0, none⟩) n c) (.int .i64 i)) K w = K (.pointer (some ⟨g, i, none⟩)) :=
  takeW_pure fun w => run_of_eq fun k => ixz44 h
theorem isl51 : isSliceT Try.prog 51 = true := by kernel_rfl
theorem el51 : elemT Try.prog 51 = 50 := by kernel_rfl
theorem known50 : known Try.prog 50 = true := by kernel_rfl
theorem size50 : sizeT Try.prog 50 = 8 := by kernel_rfl
theorem ix51 {α : Type} {F : Fl α} {v : Value} {l : List α} {q : IntKind} {i : Int} {x : α} (hs : IsSl F w v l) (hz : F.sz = 8) (h0 : 0 ≤ i) (hx : l[i.toNat]? = some x) (hk : ∀ b o, Cells w b o (F.e x) → k (.pointer (some ⟨b, o, none⟩)) w) : opW Try.prog (Instr.indexAt 51 v (.int q i)) k w :=
  w_indexS isl51 (by rw [el51]; exact known50) (by rw [el51, size50, hz]) hs h0 hx hk
theorem tix51 {α : Type} {F : Fl α} {v : Value} {l : List α} {q : IntKind} {i : Int} {x : α} (hs : IsSl F w v l) (hz : F.sz = 8) (h0 : 0 ≤ i) (hx : l[i.toNat]? = some x) (hk : ∀ b o, Cells w b o (F.e x) → K (.pointer (some ⟨b, o, none⟩))) : takeW Try.prog S (Instr.indexAt 51 v (.int q i)) K w :=
  t_indexS isl51 (by rw [el51]; exact known50) (by rw [el51, size50, hz]) hs h0 hx hk
theorem ixo51 {g o n c : Nat} {q : IntKind} {i : Int} (h0 : 0 ≤ i) (h1 : i < n) : opW Try.prog (Instr.indexAt 51 (.slice (some ⟨g, o, none⟩) n c) (.int q i)) k w = k (.pointer (some ⟨g, o + i.toNat * 8, none⟩)) w := by
  rw [opW_ok (run_index isl51 (by rw [el51]; exact known50) h0 h1 w), el51, size50]
theorem tixo51 {g o n c : Nat} {q : IntKind} {i : Int} (h0 : 0 ≤ i) (h1 : i < n) : takeW Try.prog S (Instr.indexAt 51 (.slice (some ⟨g, o, none⟩) n c) (.int q i)) K w = K (.pointer (some ⟨g, o + i.toNat * 8, none⟩)) :=
  takeW_pure fun w => run_of_eq fun k => ixo51 h0 h1
theorem ixz51 {g n c i : Nat} (h : i < n) : opW Try.prog (Instr.indexAt 51 (.slice (some ⟨g, 0, none⟩) n c) (.int .i64 i)) k w = k (.pointer (some ⟨g, i * 8, none⟩)) w := by
  rw [ixo51 (by omega) (by omega)]; simp
theorem tixz51 {g n c i : Nat} (h : i < n) : takeW Try.prog S (Instr.indexAt 51 (.slice (some ⟨g, 0, none⟩) n c) (.int .i64 i)) K w = K (.pointer (some ⟨g, i * 8, none⟩)) :=
  takeW_pure fun w => run_of_eq fun k => ixz51 h
theorem isl59 : isSliceT Try.prog 59 = true := by kernel_rfl
theorem el59 : elemT Try.prog 59 = 34 := by kernel_rfl
theorem ix59 {α : Type} {F : Fl α} {v : Value} {l : List α} {q : IntKind} {i : Int} {x : α} (hs : IsSl F w v l) (hz : F.sz = 3) (h0 : 0 ≤ i) (hx : l[i.toNat]? = some x) (hk : ∀ b o, Cells w b o (F.e x) → k (.pointer (some ⟨b, o, none⟩)) w) : opW Try.prog (Instr.indexAt 59 v (.int q i)) k w :=
  w_indexS isl59 (by rw [el59]; exact known34) (by rw [el59, size34, hz]) hs h0 hx hk
theorem tix59 {α : Type} {F : Fl α} {v : Value} {l : List α} {q : IntKind} {i : Int} {x : α} (hs : IsSl F w v l) (hz : F.sz = 3) (h0 : 0 ≤ i) (hx : l[i.toNat]? = some x) (hk : ∀ b o, Cells w b o (F.e x) → K (.pointer (some ⟨b, o, none⟩))) : takeW Try.prog S (Instr.indexAt 59 v (.int q i)) K w :=
  t_indexS isl59 (by rw [el59]; exact known34) (by rw [el59, size34, hz]) hs h0 hx hk
theorem ixo59 {g o n c : Nat} {q : IntKind} {i : Int} (h0 : 0 ≤ i) (h1 : i < n) : opW Try.prog (Instr.indexAt 59 (.slice (some ⟨g, o, none⟩) n c) (.int q i)) k w = k (.pointer (some ⟨g, o + i.toNat * 3, none⟩)) w := by
  rw [opW_ok (run_index isl59 (by rw [el59]; exact known34) h0 h1 w), el59, size34]
theorem tixo59 {g o n c : Nat} {q : IntKind} {i : Int} (h0 : 0 ≤ i) (h1 : i < n) : takeW Try.prog S (Instr.indexAt 59 (.slice (some ⟨g, o, none⟩) n c) (.int q i)) K w = K (.pointer (some ⟨g, o + i.toNat * 3, none⟩)) :=
  takeW_pure fun w => run_of_eq fun k => ixo59 h0 h1
theorem ixz59 {g n c i : Nat} (h : i < n) : opW Try.prog (Instr.indexAt 59 (.slice (some ⟨g, 0, none⟩) n c) (.int .i64 i)) k w = k (.pointer (some ⟨g, i * 3, none⟩)) w := by
  rw [ixo59 (by omega) (by omega)]; simp
theorem tixz59 {g n c i : Nat} (h : i < n) : takeW Try.prog S (Instr.indexAt 59 (.slice (some ⟨g, 0, none⟩) n c) (.int .i64 i)) K w = K (.pointer (some ⟨g, i * 3, none⟩)) :=
  takeW_pure fun w => run_of_eq fun k => ixz59 h
theorem agg22 : isAggT Try.prog 22 = false := by kernel_rfl
theorem ld22 {a : Addr} {v : Value} (hc : w.cell? a = some v) : opW Try.prog (Instr.loadAt 22 (.pointer (some a))) k w = k v w := w_load agg22 known22 hc
theorem tld22 {a : Addr} {v : Value} (hc : w.cell? a = some v) (hS : ∀ w', S w' → w'.cell? a = w.cell? a) : takeW Try.prog S (Instr.loadAt 22 (.pointer (some a))) K w = K v := t_load agg22 known22 hc hS
theorem xld22 {a : Addr} {v : Value} (hc : w.cell? a = some v) : takeW Try.prog (sameW w) (Instr.loadAt 22 (.pointer (some a))) K w = K v := x_load agg22 known22 hc
theorem agg23 : isAggT Try.prog 23 = false := by kernel_rfl
theorem ld23 {a : Addr} {v : Value} (hc : w.cell? a = some v) : opW Try.prog (Instr.loadAt 23 (.pointer (some a))) k w = k v w := w_load agg23 known23 hc
theorem tld23 {a : Addr} {v : Value} (hc : w.cell? a = some v) (hS : ∀ w', S w' → w'.cell? a = w.cell? a) : takeW Try.prog S (Instr.loadAt 23 (.pointer (some a))) K w = K v := t_load agg23 known23 hc hS
theorem xld23 {a : Addr} {v : Value} (hc : w.cell? a = some v) : takeW Try.prog (sameW w) (Instr.loadAt 23 (.pointer (some a))) K w = K v := x_load agg23 known23 hc
theorem agg26 : isAggT Try.prog 26 = false := by kernel_rfl
theorem ld26 {a : Addr} {v : Value} (hc : w.cell? a = some v) : opW Try.prog (Instr.loadAt 26 (.pointer (some a))) k w = k v w := w_load agg26 known26 hc
theorem tld26 {a : Addr} {v : Value} (hc : w.cell? a = some v) (hS : ∀ w', S w' → w'.cell? a = w.cell? a) : takeW Try.prog S (Instr.loadAt 26 (.pointer (some a))) K w = K v := t_load agg26 known26 hc hS
theorem xld26 {a : Addr} {v : Value} (hc : w.cell? a = some v) : takeW Try.prog (sameW w) (Instr.loadAt 26 (.pointer (some a))) K w = K v := x_load agg26 known26 hc
theorem agg3 : isAggT Try.prog 3 = false := by kernel_rfl
theorem ld3 {a : Addr} {v : Value} (hc : w.cell? a = some v) : opW Try.prog (Instr.loadAt 3 (.pointer (some a))) k w = k v w := w_load agg3 known3 hc
theorem tld3 {a : Addr} {v : Value} (hc : w.cell? a = some v) (hS : ∀ w', S w' → w'.cell? a = w.cell? a) : takeW Try.prog S (Instr.loadAt 3 (.pointer (some a))) K w = K v := t_load agg3 known3 hc hS
theorem xld3 {a : Addr} {v : Value} (hc : w.cell? a = some v) : takeW Try.prog (sameW w) (Instr.loadAt 3 (.pointer (some a))) K w = K v := x_load agg3 known3 hc
theorem agg31 : isAggT Try.prog 31 = true := by kernel_rfl
theorem ld31 {b o : Nat} {vs : List Value} (hl : vs.length = 2) (hc : Cells w b o vs) : opW Try.prog (Instr.loadAt 31 (.pointer (some ⟨b, o, none⟩))) k w = k (.agg vs.toArray) w := w_loadAgg agg31 known31 (by rw [size31, hl]) hc
theorem xld31 {b o : Nat} {vs : List Value} (hl : vs.length = 2) (hc : Cells w b o vs) : takeW Try.prog (sameW w) (Instr.loadAt 31 (.pointer (some ⟨b, o, none⟩))) K w = K (.agg vs.toArray) := x_loadAgg agg31 known31 (by rw [size31, hl]) hc
theorem agg34 : isAggT Try.prog 34 = true := by kernel_rfl
theorem ld34 {b o : Nat} {vs : List Value} (hl : vs.length = 3) (hc : Cells w b o vs) : opW Try.prog (Instr.loadAt 34 (.pointer (some ⟨b, o, none⟩))) k w = k (.agg vs.toArray) w := w_loadAgg agg34 known34 (by rw [size34, hl]) hc
theorem xld34 {b o : Nat} {vs : List Value} (hl : vs.length = 3) (hc : Cells w b o vs) : takeW Try.prog (sameW w) (Instr.loadAt 34 (.pointer (some ⟨b, o, none⟩))) K w = K (.agg vs.toArray) := x_loadAgg agg34 known34 (by rw [size34, hl]) hc
theorem agg4 : isAggT Try.prog 4 = false := by kernel_rfl
theorem known4 : known Try.prog 4 = true := by kernel_rfl
theorem ld4 {a : Addr} {v : Value} (hc : w.cell? a = some v) : opW Try.prog (Instr.loadAt 4 (.pointer (some a))) k w = k v w := w_load agg4 known4 hc
theorem tld4 {a : Addr} {v : Value} (hc : w.cell? a = some v) (hS : ∀ w', S w' → w'.cell? a = w.cell? a) : takeW Try.prog S (Instr.loadAt 4 (.pointer (some a))) K w = K v := t_load agg4 known4 hc hS
theorem xld4 {a : Addr} {v : Value} (hc : w.cell? a = some v) : takeW Try.prog (sameW w) (Instr.loadAt 4 (.pointer (some a))) K w = K v := x_load agg4 known4 hc
theorem agg50 : isAggT Try.prog 50 = true := by kernel_rfl
theorem ld50 {b o : Nat} {vs : List Value} (hl : vs.length = 8) (hc : Cells w b o vs) : opW Try.prog (Instr.loadAt 50 (.pointer (some ⟨b, o, none⟩))) k w = k (.agg vs.toArray) w := w_loadAgg agg50 known50 (by rw [size50, hl]) hc
theorem xld50 {b o : Nat} {vs : List Value} (hl : vs.length = 8) (hc : Cells w b o vs) : takeW Try.prog (sameW w) (Instr.loadAt 50 (.pointer (some ⟨b, o, none⟩))) K w = K (.agg vs.toArray) := x_loadAgg agg50 known50 (by rw [size50, hl]) hc
theorem agg59 : isAggT Try.prog 59 = false := by kernel_rfl
theorem known59 : known Try.prog 59 = true := by kernel_rfl
theorem ld59 {a : Addr} {v : Value} (hc : w.cell? a = some v) : opW Try.prog (Instr.loadAt 59 (.pointer (some a))) k w = k v w := w_load agg59 known59 hc
theorem tld59 {a : Addr} {v : Value} (hc : w.cell? a = some v) (hS : ∀ w', S w' → w'.cell? a = w.cell? a) : takeW Try.prog S (Instr.loadAt 59 (.pointer (some a))) K w = K v := t_load agg59 known59 hc hS
theorem xld59 {a : Addr} {v : Value} (hc : w.cell? a = some v) : takeW Try.prog (sameW w) (Instr.loadAt 59 (.pointer (some a))) K w = K v := x_load agg59 known59 hc
theorem agg60 : isAggT Try.prog 60 = false := by kernel_rfl
theorem known60 : known Try.prog 60 = true := by kernel_rfl
theorem ld60 {a : Addr} {v : Value} (hc : w.cell? a = some v) : opW Try.prog (Instr.loadAt 60 (.pointer (some a))) k w = k v w := w_load agg60 known60 hc
theorem tld60 {a : Addr} {v : Value} (hc : w.cell? a = some v) (hS : ∀ w', S w' → w'.cell? a = w.cell? a) : takeW Try.prog S (Instr.loadAt 60 (.pointer (some a))) K w = K v := t_load agg60 known60 hc hS
theorem xld60 {a : Addr} {v : Value} (hc : w.cell? a = some v) : takeW Try.prog (sameW w) (Instr.loadAt 60 (.pointer (some a))) K w = K v := x_load agg60 known60 hc
theorem agg90 : isAggT Try.prog 90 = false := by kernel_rfl
theorem known90 : known Try.prog 90 = true := by kernel_rfl
theorem ld90 {a : Addr} {v : Value} (hc : w.cell? a = some v) : opW Try.prog (Instr.loadAt 90 (.pointer (some a))) k w = k v w := w_load agg90 known90 hc
theorem tld90 {a : Addr} {v : Value} (hc : w.cell? a = some v) (hS : ∀ w', S w' → w'.cell? a = w.cell? a) : takeW Try.prog S (Instr.loadAt 90 (.pointer (some a))) K w = K v := t_load agg90 known90 hc hS
theorem xld90 {a : Addr} {v : Value} (hc : w.cell? a = some v) : takeW Try.prog (sameW w) (Instr.loadAt 90 (.pointer (some a))) K w = K v := x_load agg90 known90 hc
theorem st22 {a : Addr} {v old : Value} (hv : v.oneCell' = true) (hc : w.cell? a = some old) (hf : w.frozen? a = false) : opU Try.prog (Instr.storeAt 22 (.pointer (some a)) v) k w = k undef (w.setCell a v) := w_store hv size22 known22 hc hf
theorem st26 {a : Addr} {v old : Value} (hv : v.oneCell' = true) (hc : w.cell? a = some old) (hf : w.frozen? a = false) : opU Try.prog (Instr.storeAt 26 (.pointer (some a)) v) k w = k undef (w.setCell a v) := w_store hv size26 known26 hc hf
theorem st3 {a : Addr} {v old : Value} (hv : v.oneCell' = true) (hc : w.cell? a = some old) (hf : w.frozen? a = false) : opU Try.prog (Instr.storeAt 3 (.pointer (some a)) v) k w = k undef (w.setCell a v) := w_store hv size3 known3 hc hf
theorem sta31 {b o : Nat} {vs : List Value} (hl : vs.length = 2) (hv : ∀ v ∈ vs, v.oneCell' = true) (hc : ∀ j, j < 2 → ∃ old, w.cell? ⟨b, o + j, none⟩ = some old) (hf : ∀ j, j < 2 → w.frozen? ⟨b, o + j, none⟩ = false) : opU Try.prog (Instr.storeAt 31 (.pointer (some ⟨b, o, none⟩)) (.agg vs.toArray)) k w = k undef (setCells w b o vs) := w_storeAgg hv (by rw [size31, hl]) known31 (by rw [hl]; exact hc) (by rw [hl]; exact hf)
theorem sta34 {b o : Nat} {vs : List Value} (hl : vs.length = 3) (hv : ∀ v ∈ vs, v.oneCell' = true) (hc : ∀ j, j < 3 → ∃ old, w.cell? ⟨b, o + j, none⟩ = some old) (hf : ∀ j, j < 3 → w.frozen? ⟨b, o + j, none⟩ = false) : opU Try.prog (Instr.storeAt 34 (.pointer (some ⟨b, o, none⟩)) (.agg vs.toArray)) k w = k undef (setCells w b o vs) := w_storeAgg hv (by rw [size34, hl]) known34 (by rw [hl]; exact hc) (by rw [hl]; exact hf)
theorem size4 : sizeT Try.prog 4 = 1 := by kernel_rfl
theorem st4 {a : Addr} {v old : Value} (hv : v.oneCell' = true) (hc : w.cell? a = some old) (hf : w.frozen? a = false) : opU Try.prog (Instr.storeAt 4 (.pointer (some a)) v) k w = k undef (w.setCell a v) := w_store hv size4 known4 hc hf
theorem sta50 {b o : Nat} {vs : List Value} (hl : vs.length = 8) (hv : ∀ v ∈ vs, v.oneCell' = true) (hc : ∀ j, j < 8 → ∃ old, w.cell? ⟨b, o + j, none⟩ = some old) (hf : ∀ j, j < 8 → w.frozen? ⟨b, o + j, none⟩ = false) : opU Try.prog (Instr.storeAt 50 (.pointer (some ⟨b, o, none⟩)) (.agg vs.toArray)) k w = k undef (setCells w b o vs) := w_storeAgg hv (by rw [size50, hl]) known50 (by rw [hl]; exact hc) (by rw [hl]; exact hf)
theorem size60 : sizeT Try.prog 60 = 1 := by kernel_rfl
theorem st60 {a : Addr} {v old : Value} (hv : v.oneCell' = true) (hc : w.cell? a = some old) (hf : w.frozen? a = false) : opU Try.prog (Instr.storeAt 60 (.pointer (some a)) v) k w = k undef (w.setCell a v) := w_store hv size60 known60 hc hf
theorem size90 : sizeT Try.prog 90 = 1 := by kernel_rfl
theorem st90 {a : Addr} {v old : Value} (hv : v.oneCell' = true) (hc : w.cell? a = some old) (hf : w.frozen? a = false) : opU Try.prog (Instr.storeAt 90 (.pointer (some a)) v) k w = k undef (w.setCell a v) := w_store hv size90 known90 hc hf
theorem len22 {α : Type} {F : Fl α} {v : Value} {l : List α} (hs : IsSl F w v l) : opW Try.prog (Builtin.len_ #[22] 3 #[v]) k w = k (.int .i64 l.length) w := w_lenS isl22 hs
theorem leno22 {a : Option Addr} {n c : Nat} : opW Try.prog (Builtin.len_ #[22] 3 #[.slice a n c]) k w = k (.int .i64 n) w := w_len isl22
theorem tlen22 {α : Type} {F : Fl α} {v : Value} {l : List α} (hs : IsSl F w v l) : takeW Try.prog S (Builtin.len_ #[22] 3 #[v]) K w = K (.int .i64 l.length) := t_lenS isl22 hs
theorem tleno22 {a : Option Addr} {n c : Nat} : takeW Try.prog S (Builtin.len_ #[22] 3 #[.slice a n c]) K w = K (.int .i64 n) := takeW_pure fun w => run_of_eq fun k => leno22
theorem len23 {α : Type} {F : Fl α} {v : Value} {l : List α} (hs : IsSl F w v l) : opW Try.prog (Builtin.len_ #[23] 3 #[v]) k w = k (.int .i64 l.length) w := w_lenS isl23 hs
theorem leno23 {a : Option Addr} {n c : Nat} : opW Try.prog (Builtin.len_ #[23] 3 #[.slice a n c]) k w = k (.int .i64 n) w := w_len isl23
theorem tlen23 {α : Type} {F : Fl α} {v : Value} {l : List α} (hs : IsSl F w v l) : takeW Try.prog S (Builtin.len_ #[23] 3 #[v]) K w = K (.int .i64 l.length) := t_lenS isl23 hs
theorem tleno23 {a : Option Addr} {n c : Nat} : takeW Try.prog S (Builtin.len_ #[23] 3 #[.slice a n c]) K w = K (.int .i64 n) := takeW_pure fun w => run_of_eq fun k => leno23
theorem len24 {α : Type} {F : Fl α} {v : Value} {l : List α} (hs : IsSl F w v l) : opW Try.prog (Builtin.len_ #[24] 3 #[v]) k w = k (.int .i64 l.length) w := w_lenS isl24 hs
theorem leno24 {a : Option Addr} {n c : Nat} : opW Try.prog (Builtin.len_ #[24] 3 #[.slice a n c]) k w = k (.int .i64 n) w := w_len isl24
theorem tlen24 {α : Type} {F : Fl α} {v : Value} {l : List α} (hs : IsSl F w v l) : takeW Try.prog S (Builtin.len_ #[24] 3 #[v]) K w = K (.int .i64 l.length) := t_lenS isl24 hs
theorem tleno24 {a : Option Addr} {n c : Nat} : takeW Try.prog S (Builtin.len_ #[24] 3 #[.slice a n c]) K w = K (.int .i64 n) := takeW_pure fun w => run_of_eq fun k => leno24
theorem len25 {α : Type} {F : Fl α} {v : Value} {l : List α} (hs : IsSl F w v l) : opW Try.prog (Builtin.len_ #[25] 3 #[v]) k w = k (.int .i64 l.length) w := w_lenS isl25 hs
theorem leno25 {a : Option Addr} {n c : Nat} : opW Try.prog (Builtin.len_ #[25] 3 #[.slice a n c]) k w = k (.int .i64 n) w := w_len isl25
theorem tlen25 {α : Type} {F : Fl α} {v : Value} {l : List α} (hs : IsSl F w v l) : takeW Try.prog S (Builtin.len_ #[25] 3 #[v]) K w = K (.int .i64 l.length) := t_lenS isl25 hs
theorem tleno25 {a : Option Addr} {n c : Nat} : takeW Try.prog S (Builtin.len_ #[25] 3 #[.slice a n c]) K w = K (.int .i64 n) := takeW_pure fun w => run_of_eq fun k => leno25
theorem len26 {α : Type} {F : Fl α} {v : Value} {l : List α} (hs : IsSl F w v l) : opW Try.prog (Builtin.len_ #[26] 3 #[v]) k w = k (.int .i64 l.length) w := w_lenS isl26 hs
theorem leno26 {a : Option Addr} {n c : Nat} : opW Try.prog (Builtin.len_ #[26] 3 #[.slice a n c]) k w = k (.int .i64 n) w := w_len isl26
theorem tlen26 {α : Type} {F : Fl α} {v : Value} {l : List α} (hs : IsSl F w v l) : takeW Try.prog S (Builtin.len_ #[26] 3 #[v]) K w = K (.int .i64 l.length) := t_lenS isl26 hs
theorem tleno26 {a : Option Addr} {n c : Nat} : takeW Try.prog S (Builtin.len_ #[26] 3 #[.slice a n c]) K w = K (.int .i64 n) := takeW_pure fun w => run_of_eq fun k => leno26
theorem len35 {α : Type} {F : Fl α} {v : Value} {l : List α} (hs : IsSl F w v l) : opW Try.prog (Builtin.len_ #[35] 3 #[v]) k w = k (.int .i64 l.length) w := w_lenS isl35 hs
theorem leno35 {a : Option Addr} {n c : Nat} : opW Try.prog (Builtin.len_ #[35] 3 #[.slice a n c]) k w = k (.int .i64 n) w := w_len isl35
theorem tlen35 {α : Type} {F : Fl α} {v : Value} {l : List α} (hs : IsSl F w v l) : takeW Try.prog S (Builtin.len_ #[35] 3 #[v]) K w = K (.int .i64 l.length) := t_lenS isl35 hs
theorem tleno35 {a : Option Addr} {n c : Nat} : takeW Try.prog S (Builtin.len_ #[35] 3 #[.slice a n c]) K w = K (.int .i64 n) := takeW_pure fun w => run_of_eq fun k => leno35
theorem len41 {α : Type} {F : Fl α} {v : Value} {l : List α} (hs : IsSl F w v l) : opW Try.prog (Builtin.len_ #[41] 3 #[v]) k w = k (.int .i64 l.length) w := w_lenS isl41 hs
theorem leno41 {a : Option Addr} {n c : Nat} : opW Try.prog (Builtin.len_ #[41] 3 #[.slice a n c]) k w = k (.int .i64 n) w := w_len isl41
theorem tlen41 {α : Type} {F : Fl α} {v : Value} {l : List α} (hs : IsSl F w v l) : takeW Try.prog S (Builtin.len_ #[41] 3 #[v]) K w = K (.int .i64 l.length) := t_lenS isl41 hs
theorem tleno41 {a : Option Addr} {n c : Nat} : takeW Try.prog S (Builtin.len_ #[41] 3 #[.slice a n c]) K w = K (.int .i64 n) := takeW_pure fun w => run_of_eq fun k => leno41
theorem len44 {α : Type} {F : Fl α} {v : Value} {l : List α} (hs : IsSl F w v l) : opW Try.prog (Builtin.len_ #[44] 3 #[v]) k w = k (.int .i64 l.length) w := w_lenS isl44 hs
theorem leno44 {a : Option Addr} {n c : Nat} : opW Try.prog (Builtin.len_ #[44] 3 #[.slice a n c]) k w = k (.int .i64 n) w := w_len isl44
theorem tlen44 {α : Type} {F : Fl α} {v : Value} {l : List α} (hs : IsSl F w v l) : takeW Try.prog S (Builtin.len_ #[44] 3 #[v]) K w = K (.int .i64 l.length) := t_lenS isl44 hs
theorem tleno44 {a : Option Addr} {n c : Nat} : takeW Try.prog S (Builtin.len_ #[44] 3 #[.slice a n c]) K w = K (.int .i64 n) := takeW_pure fun w => run_of_eq fun k => leno44
theorem len51 {α : Type} {F : Fl α} {v : Value} {l : List α} (hs : IsSl F w v l) : opW Try.prog (Builtin.len_ #[51] 3 #[v]) k w = k (.int .i64 l.length) w := w_lenS isl51 hs
theorem leno51 {a : Option Addr} {n c : Nat} : opW Try.prog (Builtin.len_ #[51] 3 #[.slice a n c]) k w = k (.int .i64 n) w := w_len isl51
theorem tlen51 {α : Type} {F : Fl α} {v : Value} {l : List α} (hs : IsSl F w v l) : takeW Try.prog S (Builtin.len_ #[51] 3 #[v]) K w = K (.int .i64 l.length) := t_lenS isl51 hs
theorem tleno51 {a : Option Addr} {n c : Nat} : takeW Try.prog S (Builtin.len_ #[51] 3 #[.slice a n c]) K w = K (.int .i64 n) := takeW_pure fun w => run_of_eq fun k => leno51
theorem len59 {α : Type} {F : Fl α} {v : Value} {l : List α} (hs : IsSl F w v l) : opW Try.prog (Builtin.len_ #[59] 3 #[v]) k w = k (.int .i64 l.length) w := w_lenS isl59 hs
theorem leno59 {a : Option Addr} {n c : Nat} : opW Try.prog (Builtin.len_ #[59] 3 #[.slice a n c]) k w = k (.int .i64 n) w := w_len isl59
theorem tlen59 {α : Type} {F : Fl α} {v : Value} {l : List α} (hs : IsSl F w v l) : takeW Try.prog S (Builtin.len_ #[59] 3 #[v]) K w = K (.int .i64 l.length) := t_lenS isl59 hs
theorem tleno59 {a : Option Addr} {n c : Nat} : takeW Try.prog S (Builtin.len_ #[59] 3 #[.slice a n c]) K w = K (.int .i64 n) := takeW_pure fun w => run_of_eq fun k => leno59
theorem ok3 : callOk Try.prog 3 = true := by kernel_rfl
theorem ok4 : callOk Try.prog 4 = true := by kernel_rfl
theorem ok5 : callOk Try.prog 5 = true := by kernel_rfl
theorem ok6 : callOk Try.prog 6 = true := by kernel_rfl
theorem ok7 : callOk Try.prog 7 = true := by kernel_rfl
theorem ok8 : callOk Try.prog 8 = true := by kernel_rfl
theorem ok9 : callOk Try.prog 9 = true := by kernel_rfl
theorem ok10 : callOk Try.prog 10 = true := by kernel_rfl
theorem ok11 : callOk Try.prog 11 = true := by kernel_rfl
theorem ok12 : callOk Try.prog 12 = true := by kernel_rfl
theorem ok13 : callOk Try.prog 13 = true := by kernel_rfl
theorem ok14 : callOk Try.prog 14 = true := by kernel_rfl
theorem ok15 : callOk Try.prog 15 = true := by kernel_rfl
theorem ok16 : callOk Try.prog 16 = true := by kernel_rfl
theorem ok17 : callOk Try.prog 17 = true := by kernel_rfl
theorem ok18 : callOk Try.prog 18 = true := by kernel_rfl
theorem ok19 : callOk Try.prog 19 = true := by kernel_rfl
theorem ok20 : callOk Try.prog 20 = true := by kernel_rfl
theorem ok21 : callOk Try.prog 21 = true := by kernel_rfl
theorem ok22 : callOk Try.prog 22 = true := by kernel_rfl
theorem ok23 : callOk Try.prog 23 = true := by kernel_rfl
theorem ok24 : callOk Try.prog 24 = true := by kernel_rfl
theorem ok25 : callOk Try.prog 25 = true := by kernel_rfl
theorem ok26 : callOk Try.prog 26 = true := by kernel_rfl
theorem ok27 : callOk Try.prog 27 = true := by kernel_rfl
theorem ok28 : callOk Try.prog 28 = true := by kernel_rfl
theorem ok29 : callOk Try.prog 29 = true := by kernel_rfl
theorem ok30 : callOk Try.prog 30 = true := by kernel_rfl
theorem ok31 : callOk Try.prog 31 = true := by kernel_rfl
theorem ok32 : callOk Try.prog 32 = true := by kernel_rfl
theorem ok33 : callOk Try.prog 33 = true := by kernel_rfl
theorem ok34 : callOk Try.prog 34 = true := by kernel_rfl
theorem ok35 : callOk Try.prog 35 = true := by kernel_rfl
theorem ok36 : callOk Try.prog 36 = true := by kernel_rfl
theorem ok37 : callOk Try.prog 37 = true := by kernel_rfl
theorem ok38 : callOk Try.prog 38 = true := by kernel_rfl
theorem ok39 : callOk Try.prog 39 = true := by kernel_rfl
theorem ok40 : callOk Try.prog 40 = true := by kernel_rfl
theorem ok41 : callOk Try.prog 41 = true := by kernel_rfl
theorem ok42 : callOk Try.prog 42 = true := by kernel_rfl
theorem ok43 : callOk Try.prog 43 = true := by kernel_rfl
theorem ok44 : callOk Try.prog 44 = true := by kernel_rfl
theorem ok45 : callOk Try.prog 45 = true := by kernel_rfl
theorem ok46 : callOk Try.prog 46 = true := by kernel_rfl
theorem ok47 : callOk Try.prog 47 = true := by kernel_rfl
theorem ok48 : callOk Try.prog 48 = true := by kernel_rfl
theorem ok49 : callOk Try.prog 49 = true := by kernel_rfl
theorem ok50 : callOk Try.prog 50 = true := by kernel_rfl
theorem ok51 : callOk Try.prog 51 = true := by kernel_rfl
theorem ok52 : callOk Try.prog 52 = true := by kernel_rfl
theorem ok53 : callOk Try.prog 53 = true := by kernel_rfl
theorem ok54 : callOk Try.prog 54 = true := by kernel_rfl
theorem ok55 : callOk Try.prog 55 = true := by kernel_rfl
theorem ok56 : callOk Try.prog 56 = true := by kernel_rfl
theorem ok57 : callOk Try.prog 57 = true := by kernel_rfl
theorem ok58 : callOk Try.prog 58 = true := by kernel_rfl
theorem ok59 : callOk Try.prog 59 = true := by kernel_rfl
theorem ok60 : callOk Try.prog 60 = true := by kernel_rfl
theorem ok61 : callOk Try.prog 61 = true := by kernel_rfl
theorem ok62 : callOk Try.prog 62 = true := by kernel_rfl
theorem ok63 : callOk Try.prog 63 = true := by kernel_rfl
theorem ok64 : callOk Try.prog 64 = true := by kernel_rfl
theorem ok65 : callOk Try.prog 65 = true := by kernel_rfl
theorem ok66 : callOk Try.prog 66 = true := by kernel_rfl
theorem ok67 : callOk Try.prog 67 = true := by kernel_rfl
theorem ok68 : callOk Try.prog 68 = true := by kernel_rfl
end
end Go.Proofs.Ytidnjppalebbfaa
