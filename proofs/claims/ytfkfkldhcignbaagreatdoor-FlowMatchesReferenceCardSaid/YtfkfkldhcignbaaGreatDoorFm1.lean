/- Part 2 of the proof of flowMatchesReference: lemmas for it; no condition beyond the statement. -/
import Derived.Test.YtfkfkldhcignbaaGreatDoorFm0
import Derived.Test.YtfkfkldhcignbaaGreatDoorRows
/- The laws of single operations at this program's types, printed by program. -/
set_option linter.unusedVariables false
namespace Go.Proofs.YtfkfkldhcignbaaGreatDoor
open Go Go.V Go.RowKit
section
variable {k : Value → World → Prop} {w : World} {S : World → Prop} {K : Value → Prop}
theorem hz101 : hasZero Tryz.prog 101 = true := by kernel_rfl
theorem zc101 : (zeroT Tryz.prog 101).cells.toList = [Value.nilFunc] := by kernel_rfl
theorem al101 (hk : ∀ w', Below w.heap.size w w' → w'.heap.size = w.heap.size + 1 → RowAt w' w.heap.size 101 [Value.nilFunc] → k (.pointer (some ⟨w.heap.size, 0, none⟩)) w') : opW Tryz.prog (Instr.alloc 101 true (.tuple #[])) k w := w_allocN hz101 (by rw [zc101]; exact hk)
theorem hz111 : hasZero Tryz.prog 111 = true := by kernel_rfl
theorem zc111 : (zeroT Tryz.prog 111).cells.toList = [Value.nilFunc, Value.nilFunc, Value.nilFunc] := by kernel_rfl
theorem al111 (hk : ∀ w', Below w.heap.size w w' → w'.heap.size = w.heap.size + 1 → RowAt w' w.heap.size 111 [Value.nilFunc, Value.nilFunc, Value.nilFunc] → k (.pointer (some ⟨w.heap.size, 0, none⟩)) w') : opW Tryz.prog (Instr.alloc 111 true (.tuple #[])) k w := w_allocN hz111 (by rw [zc111]; exact hk)
theorem hz121 : hasZero Tryz.prog 121 = true := by kernel_rfl
theorem zc121 : (zeroT Tryz.prog 121).cells.toList = [(Value.int IntKind.i64 0), (Value.int IntKind.i64 0)] := by kernel_rfl
theorem hz161 : hasZero Tryz.prog 161 = true := by kernel_rfl
theorem zc161 : (zeroT Tryz.prog 161).cells.toList = [(Value.int IntKind.i64 0), Value.nilFunc] := by kernel_rfl
theorem hz28 : hasZero Tryz.prog 28 = true := by kernel_rfl
theorem zc28 : (zeroT Tryz.prog 28).cells.toList = [(Value.int IntKind.i64 0), (Value.int IntKind.i64 0), (Value.slice none 0 0), (Value.slice none 0 0), (Value.slice none 0 0)] := by kernel_rfl
theorem al28 (hk : ∀ w', Below w.heap.size w w' → w'.heap.size = w.heap.size + 1 → RowAt w' w.heap.size 28 [(Value.int IntKind.i64 0), (Value.int IntKind.i64 0), (Value.slice none 0 0), (Value.slice none 0 0), (Value.slice none 0 0)] → k (.pointer (some ⟨w.heap.size, 0, none⟩)) w') : opW Tryz.prog (Instr.alloc 28 true (.tuple #[])) k w := w_allocN hz28 (by rw [zc28]; exact hk)
theorem hz30 : hasZero Tryz.prog 30 = true := by kernel_rfl
theorem zc30 : (zeroT Tryz.prog 30).cells.toList = [(Value.int IntKind.i64 0), (Value.int IntKind.i64 0)] := by kernel_rfl
theorem al30 (hk : ∀ w', Below w.heap.size w w' → w'.heap.size = w.heap.size + 1 → RowAt w' w.heap.size 30 [(Value.int IntKind.i64 0), (Value.int IntKind.i64 0)] → k (.pointer (some ⟨w.heap.size, 0, none⟩)) w') : opW Tryz.prog (Instr.alloc 30 true (.tuple #[])) k w := w_allocN hz30 (by rw [zc30]; exact hk)
theorem hz31 : hasZero Tryz.prog 31 = true := by kernel_rfl
theorem zc31 : (zeroT Tryz.prog 31).cells.toList = [(Value.slice none 0 0)] := by kernel_rfl
theorem al31 (hk : ∀ w', Below w.heap.size w w' → w'.heap.size = w.heap.size + 1 → RowAt w' w.heap.size 31 [(Value.slice none 0 0)] → k (.pointer (some ⟨w.heap.size, 0, none⟩)) w') : opW Tryz.prog (Instr.alloc 31 true (.tuple #[])) k w := w_allocN hz31 (by rw [zc31]; exact hk)
theorem hz61 : hasZero Tryz.prog 61 = true := by kernel_rfl
theorem zc61 : (zeroT Tryz.prog 61).cells.toList = [(Value.int IntKind.i64 0), (Value.slice none 0 0), (Value.slice none 0 0), (Value.int IntKind.i64 0), (Value.int IntKind.i64 0), (Value.slice none 0 0)] := by kernel_rfl
theorem al61 (hk : ∀ w', Below w.heap.size w w' → w'.heap.size = w.heap.size + 1 → RowAt w' w.heap.size 61 [(Value.int IntKind.i64 0), (Value.slice none 0 0), (Value.slice none 0 0), (Value.int IntKind.i64 0), (Value.int IntKind.i64 0), (Value.slice none 0 0)] → k (.pointer (some ⟨w.heap.size, 0, none⟩)) w') : opW Tryz.prog (Instr.alloc 61 true (.tuple #[])) k w := w_allocN hz61 (by rw [zc61]; exact hk)
theorem hz63 : hasZero Tryz.prog 63 = true := by kernel_rfl
theorem zc63 : (zeroT Tryz.prog 63).cells.toList = [(Value.int IntKind.i64 0), (Value.int IntKind.i64 0), (Value.slice none 0 0), (Value.slice none 0 0), (Value.int IntKind.i64 0), (Value.int IntKind.i64 0), (Value.slice none 0 0), (Value.int IntKind.i64 0), (Value.string ⟨#[]⟩)] := by kernel_rfl
theorem al63 (hk : ∀ w', Below w.heap.size w w' → w'.heap.size = w.heap.size + 1 → RowAt w' w.heap.size 63 [(Value.int IntKind.i64 0), (Value.int IntKind.i64 0), (Value.slice none 0 0), (Value.slice none 0 0), (Value.int IntKind.i64 0), (Value.int IntKind.i64 0), (Value.slice none 0 0), (Value.int IntKind.i64 0), (Value.string ⟨#[]⟩)] → k (.pointer (some ⟨w.heap.size, 0, none⟩)) w') : opW Tryz.prog (Instr.alloc 63 true (.tuple #[])) k w := w_allocN hz63 (by rw [zc63]; exact hk)
theorem hz84 : hasZero Tryz.prog 84 = true := by kernel_rfl
theorem zc84 : (zeroT Tryz.prog 84).cells.toList = [(Value.int IntKind.i64 0), (Value.int IntKind.i64 0), (Value.int IntKind.i64 0), (Value.int IntKind.i64 0), (Value.int IntKind.i64 0), (Value.int IntKind.i64 0), (Value.int IntKind.i64 0), (Value.int IntKind.i64 0), (Value.int IntKind.i64 0)] := by kernel_rfl
theorem al84 (hk : ∀ w', Below w.heap.size w w' → w'.heap.size = w.heap.size + 1 → RowAt w' w.heap.size 84 [(Value.int IntKind.i64 0), (Value.int IntKind.i64 0), (Value.int IntKind.i64 0), (Value.int IntKind.i64 0), (Value.int IntKind.i64 0), (Value.int IntKind.i64 0), (Value.int IntKind.i64 0), (Value.int IntKind.i64 0), (Value.int IntKind.i64 0)] → k (.pointer (some ⟨w.heap.size, 0, none⟩)) w') : opW Tryz.prog (Instr.alloc 84 true (.tuple #[])) k w := w_allocN hz84 (by rw [zc84]; exact hk)
theorem hz87 : hasZero Tryz.prog 87 = true := by kernel_rfl
theorem zc87 : (zeroT Tryz.prog 87).cells.toList = [(Value.int IntKind.i64 0), (Value.slice none 0 0)] := by kernel_rfl
theorem al87 (hk : ∀ w', Below w.heap.size w w' → w'.heap.size = w.heap.size + 1 → RowAt w' w.heap.size 87 [(Value.int IntKind.i64 0), (Value.slice none 0 0)] → k (.pointer (some ⟨w.heap.size, 0, none⟩)) w') : opW Tryz.prog (Instr.alloc 87 true (.tuple #[])) k w := w_allocN hz87 (by rw [zc87]; exact hk)
theorem hz89 : hasZero Tryz.prog 89 = true := by kernel_rfl
theorem zc89 : (zeroT Tryz.prog 89).cells.toList = [(Value.slice none 0 0)] := by kernel_rfl
theorem al89 (hk : ∀ w', Below w.heap.size w w' → w'.heap.size = w.heap.size + 1 → RowAt w' w.heap.size 89 [(Value.slice none 0 0)] → k (.pointer (some ⟨w.heap.size, 0, none⟩)) w') : opW Tryz.prog (Instr.alloc 89 true (.tuple #[])) k w := w_allocN hz89 (by rw [zc89]; exact hk)
theorem hz94 : hasZero Tryz.prog 94 = true := by kernel_rfl
theorem zc94 : (zeroT Tryz.prog 94).cells.toList = [(Value.int IntKind.i64 0), (Value.int IntKind.i64 0), (Value.int IntKind.i64 0), (Value.slice none 0 0), (Value.slice none 0 0), (Value.slice none 0 0), (Value.int IntKind.i64 0), (Value.int IntKind.i64 0)] := by kernel_rfl
theorem al94 (hk : ∀ w', Below w.heap.size w w' → w'.heap.size = w.heap.size + 1 → RowAt w' w.heap.size 94 [(Value.int IntKind.i64 0), (Value.int IntKind.i64 0), (Value.int IntKind.i64 0), (Value.slice none 0 0), (Value.slice none 0 0), (Value.slice none 0 0), (Value.int IntKind.i64 0), (Value.int IntKind.i64 0)] → k (.pointer (some ⟨w.heap.size, 0, none⟩)) w') : opW Tryz.prog (Instr.alloc 94 true (.tuple #[])) k w := w_allocN hz94 (by rw [zc94]; exact hk)
theorem sty24 : STy Tryz.prog 24 63 9 128 (Value.agg #[(Value.int IntKind.i64 0), (Value.int IntKind.i64 0), (Value.slice none 0 0), (Value.slice none 0 0), (Value.int IntKind.i64 0), (Value.int IntKind.i64 0), (Value.slice none 0 0), (Value.int IntKind.i64 0), (Value.string ⟨#[]⟩)]) := ⟨by kernel_rfl, by kernel_rfl, by kernel_rfl, by decide⟩
theorem sty25 : STy Tryz.prog 25 3 1 8 (Value.int IntKind.i64 0) := ⟨by kernel_rfl, by kernel_rfl, by kernel_rfl, by decide⟩
theorem sty26 : STy Tryz.prog 26 121 2 16 (Value.agg #[(Value.int IntKind.i64 0), (Value.int IntKind.i64 0)]) := ⟨by kernel_rfl, by kernel_rfl, by kernel_rfl, by decide⟩
theorem sty31 : STy Tryz.prog 31 9 1 16 (Value.string ⟨#[]⟩) := ⟨by kernel_rfl, by kernel_rfl, by kernel_rfl, by decide⟩
theorem sty33 : STy Tryz.prog 33 28 5 88 (Value.agg #[(Value.int IntKind.i64 0), (Value.int IntKind.i64 0), (Value.slice none 0 0), (Value.slice none 0 0), (Value.slice none 0 0)]) := ⟨by kernel_rfl, by kernel_rfl, by kernel_rfl, by decide⟩
theorem sty39 : STy Tryz.prog 39 24 1 24 (Value.slice none 0 0) := ⟨by kernel_rfl, by kernel_rfl, by kernel_rfl, by decide⟩
theorem sty40 : STy Tryz.prog 40 33 1 24 (Value.slice none 0 0) := ⟨by kernel_rfl, by kernel_rfl, by kernel_rfl, by decide⟩
theorem sty41 : STy Tryz.prog 41 30 2 16 (Value.agg #[(Value.int IntKind.i64 0), (Value.int IntKind.i64 0)]) := ⟨by kernel_rfl, by kernel_rfl, by kernel_rfl, by decide⟩
theorem sty59 : STy Tryz.prog 59 87 2 32 (Value.agg #[(Value.int IntKind.i64 0), (Value.slice none 0 0)]) := ⟨by kernel_rfl, by kernel_rfl, by kernel_rfl, by decide⟩
theorem sty85 : STy Tryz.prog 85 5 1 1 (Value.int IntKind.u8 0) := ⟨by kernel_rfl, by kernel_rfl, by kernel_rfl, by decide⟩
theorem sty95 : STy Tryz.prog 95 96 1 8 (Value.pointer none) := ⟨by kernel_rfl, by kernel_rfl, by kernel_rfl, by decide⟩
theorem fo111_2 : fieldOff Tryz.prog 111 2 = some 2 := by kernel_rfl
theorem tfl111_2 {b o : Nat} : takeW Tryz.prog S (Instr.fieldAt 111 (.pointer (some ⟨b, o, none⟩)) 2) K w = K (.pointer (some ⟨b, o + 2, none⟩)) := t_field fo111_2
theorem fo157_0 : fieldOff Tryz.prog 157 0 = some 0 := by kernel_rfl
theorem fl157_0 {b o : Nat} : opW Tryz.prog (Instr.fieldAt 157 (.pointer (some ⟨b, o, none⟩)) 0) k w = k (.pointer (some ⟨b, o, none⟩)) w := w_field fo157_0
theorem tfl157_0 {b o : Nat} : takeW Tryz.prog S (Instr.fieldAt 157 (.pointer (some ⟨b, o, none⟩)) 0) K w = K (.pointer (some ⟨b, o, none⟩)) := t_field fo157_0
theorem fo157_1 : fieldOff Tryz.prog 157 1 = some 6 := by kernel_rfl
theorem tfl157_1 {b o : Nat} : takeW Tryz.prog S (Instr.fieldAt 157 (.pointer (some ⟨b, o, none⟩)) 1) K w = K (.pointer (some ⟨b, o + 6, none⟩)) := t_field fo157_1
theorem fo157_2 : fieldOff Tryz.prog 157 2 = some 8 := by kernel_rfl
theorem fl157_2 {b o : Nat} : opW Tryz.prog (Instr.fieldAt 157 (.pointer (some ⟨b, o, none⟩)) 2) k w = k (.pointer (some ⟨b, o + 8, none⟩)) w := w_field fo157_2
theorem tfl157_2 {b o : Nat} : takeW Tryz.prog S (Instr.fieldAt 157 (.pointer (some ⟨b, o, none⟩)) 2) K w = K (.pointer (some ⟨b, o + 8, none⟩)) := t_field fo157_2
theorem fo28_0 : fieldOff Tryz.prog 28 0 = some 0 := by kernel_rfl
theorem tfl28_0 {b o : Nat} : takeW Tryz.prog S (Instr.fieldAt 28 (.pointer (some ⟨b, o, none⟩)) 0) K w = K (.pointer (some ⟨b, o, none⟩)) := t_field fo28_0
theorem fo28_1 : fieldOff Tryz.prog 28 1 = some 1 := by kernel_rfl
theorem fl28_1 {b o : Nat} : opW Tryz.prog (Instr.fieldAt 28 (.pointer (some ⟨b, o, none⟩)) 1) k w = k (.pointer (some ⟨b, o + 1, none⟩)) w := w_field fo28_1
theorem fo28_2 : fieldOff Tryz.prog 28 2 = some 2 := by kernel_rfl
theorem fl28_2 {b o : Nat} : opW Tryz.prog (Instr.fieldAt 28 (.pointer (some ⟨b, o, none⟩)) 2) k w = k (.pointer (some ⟨b, o + 2, none⟩)) w := w_field fo28_2
theorem fo28_3 : fieldOff Tryz.prog 28 3 = some 3 := by kernel_rfl
theorem fl28_3 {b o : Nat} : opW Tryz.prog (Instr.fieldAt 28 (.pointer (some ⟨b, o, none⟩)) 3) k w = k (.pointer (some ⟨b, o + 3, none⟩)) w := w_field fo28_3
theorem tfl28_3 {b o : Nat} : takeW Tryz.prog S (Instr.fieldAt 28 (.pointer (some ⟨b, o, none⟩)) 3) K w = K (.pointer (some ⟨b, o + 3, none⟩)) := t_field fo28_3
theorem fo28_4 : fieldOff Tryz.prog 28 4 = some 4 := by kernel_rfl
theorem fl28_4 {b o : Nat} : opW Tryz.prog (Instr.fieldAt 28 (.pointer (some ⟨b, o, none⟩)) 4) k w = k (.pointer (some ⟨b, o + 4, none⟩)) w := w_field fo28_4
theorem fo61_0 : fieldOff Tryz.prog 61 0 = some 0 := by kernel_rfl
theorem fl61_0 {b o : Nat} : opW Tryz.prog (Instr.fieldAt 61 (.pointer (some ⟨b, o, none⟩)) 0) k w = k (.pointer (some ⟨b, o, none⟩)) w := w_field fo61_0
theorem fo61_1 : fieldOff Tryz.prog 61 1 = some 1 := by kernel_rfl
theorem fl61_1 {b o : Nat} : opW Tryz.prog (Instr.fieldAt 61 (.pointer (some ⟨b, o, none⟩)) 1) k w = k (.pointer (some ⟨b, o + 1, none⟩)) w := w_field fo61_1
theorem fo61_2 : fieldOff Tryz.prog 61 2 = some 2 := by kernel_rfl
theorem fl61_2 {b o : Nat} : opW Tryz.prog (Instr.fieldAt 61 (.pointer (some ⟨b, o, none⟩)) 2) k w = k (.pointer (some ⟨b, o + 2, none⟩)) w := w_field fo61_2
theorem tfl61_2 {b o : Nat} : takeW Tryz.prog S (Instr.fieldAt 61 (.pointer (some ⟨b, o, none⟩)) 2) K w = K (.pointer (some ⟨b, o + 2, none⟩)) := t_field fo61_2
theorem fo61_5 : fieldOff Tryz.prog 61 5 = some 5 := by kernel_rfl
theorem fl61_5 {b o : Nat} : opW Tryz.prog (Instr.fieldAt 61 (.pointer (some ⟨b, o, none⟩)) 5) k w = k (.pointer (some ⟨b, o + 5, none⟩)) w := w_field fo61_5
theorem tfl61_5 {b o : Nat} : takeW Tryz.prog S (Instr.fieldAt 61 (.pointer (some ⟨b, o, none⟩)) 5) K w = K (.pointer (some ⟨b, o + 5, none⟩)) := t_field fo61_5
theorem fo63_1 : fieldOff Tryz.prog 63 1 = some 1 := by kernel_rfl
theorem fl63_1 {b o : Nat} : opW Tryz.prog (Instr.fieldAt 63 (.pointer (some ⟨b, o, none⟩)) 1) k w = k (.pointer (some ⟨b, o + 1, none⟩)) w := w_field fo63_1
theorem tfl63_1 {b o : Nat} : takeW Tryz.prog S (Instr.fieldAt 63 (.pointer (some ⟨b, o, none⟩)) 1) K w = K (.pointer (some ⟨b, o + 1, none⟩)) := t_field fo63_1
theorem fo63_3 : fieldOff Tryz.prog 63 3 = some 8 := by kernel_rfl
theorem fl63_3 {b o : Nat} : opW Tryz.prog (Instr.fieldAt 63 (.pointer (some ⟨b, o, none⟩)) 3) k w = k (.pointer (some ⟨b, o + 8, none⟩)) w := w_field fo63_3
theorem fo94_1 : fieldOff Tryz.prog 94 1 = some 1 := by kernel_rfl
theorem tfl94_1 {b o : Nat} : takeW Tryz.prog S (Instr.fieldAt 94 (.pointer (some ⟨b, o, none⟩)) 1) K w = K (.pointer (some ⟨b, o + 1, none⟩)) := t_field fo94_1
theorem fo94_2 : fieldOff Tryz.prog 94 2 = some 6 := by kernel_rfl
theorem tfl94_2 {b o : Nat} : takeW Tryz.prog S (Instr.fieldAt 94 (.pointer (some ⟨b, o, none⟩)) 2) K w = K (.pointer (some ⟨b, o + 6, none⟩)) := t_field fo94_2
theorem fo98_0 : fieldOff Tryz.prog 98 0 = some 0 := by kernel_rfl
theorem tfl98_0 {b o : Nat} : takeW Tryz.prog S (Instr.fieldAt 98 (.pointer (some ⟨b, o, none⟩)) 0) K w = K (.pointer (some ⟨b, o, none⟩)) := t_field fo98_0
theorem fo98_2 : fieldOff Tryz.prog 98 2 = some 10 := by kernel_rfl
theorem fl98_2 {b o : Nat} : opW Tryz.prog (Instr.fieldAt 98 (.pointer (some ⟨b, o, none⟩)) 2) k w = k (.pointer (some ⟨b, o + 10, none⟩)) w := w_field fo98_2
theorem fo98_3 : fieldOff Tryz.prog 98 3 = some 11 := by kernel_rfl
theorem fl98_3 {b o : Nat} : opW Tryz.prog (Instr.fieldAt 98 (.pointer (some ⟨b, o, none⟩)) 3) k w = k (.pointer (some ⟨b, o + 11, none⟩)) w := w_field fo98_3
theorem isl158 : isSliceT Tryz.prog 158 = true := by kernel_rfl
theorem known161 : known Tryz.prog 161 = true := by kernel_rfl
theorem size161 : sizeT Tryz.prog 161 = 2 := by kernel_rfl
theorem isl22 : isSliceT Tryz.prog 22 = true := by kernel_rfl
theorem isl23 : isSliceT Tryz.prog 23 = true := by kernel_rfl
theorem isl24 : isSliceT Tryz.prog 24 = true := by kernel_rfl
theorem known63 : known Tryz.prog 63 = true := by kernel_rfl
theorem size63 : sizeT Tryz.prog 63 = 9 := by kernel_rfl
theorem isl25 : isSliceT Tryz.prog 25 = true := by kernel_rfl
theorem known3 : known Tryz.prog 3 = true := by kernel_rfl
theorem size3 : sizeT Tryz.prog 3 = 1 := by kernel_rfl
theorem isl26 : isSliceT Tryz.prog 26 = true := by kernel_rfl
theorem known121 : known Tryz.prog 121 = true := by kernel_rfl
theorem size121 : sizeT Tryz.prog 121 = 2 := by kernel_rfl
theorem isl31 : isSliceT Tryz.prog 31 = true := by kernel_rfl
theorem known9 : known Tryz.prog 9 = true := by kernel_rfl
theorem size9 : sizeT Tryz.prog 9 = 1 := by kernel_rfl
theorem isl33 : isSliceT Tryz.prog 33 = true := by kernel_rfl
theorem known28 : known Tryz.prog 28 = true := by kernel_rfl
theorem size28 : sizeT Tryz.prog 28 = 5 := by kernel_rfl
theorem isl39 : isSliceT Tryz.prog 39 = true := by kernel_rfl
theorem known24 : known Tryz.prog 24 = true := by kernel_rfl
theorem isl40 : isSliceT Tryz.prog 40 = true := by kernel_rfl
theorem known33 : known Tryz.prog 33 = true := by kernel_rfl
theorem isl41 : isSliceT Tryz.prog 41 = true := by kernel_rfl
theorem known30 : known Tryz.prog 30 = true := by kernel_rfl
theorem size30 : sizeT Tryz.prog 30 = 2 := by kernel_rfl
theorem isl59 : isSliceT Tryz.prog 59 = true := by kernel_rfl
theorem known87 : known Tryz.prog 87 = true := by kernel_rfl
theorem size87 : sizeT Tryz.prog 87 = 2 := by kernel_rfl
theorem known4 : known Tryz.prog 4 = true := by kernel_rfl
theorem size4 : sizeT Tryz.prog 4 = 1 := by kernel_rfl
theorem isl95 : isSliceT Tryz.prog 95 = true := by kernel_rfl
theorem known96 : known Tryz.prog 96 = true := by kernel_rfl
theorem size96 : sizeT Tryz.prog 96 = 1 := by kernel_rfl
theorem agg101 : isAggT Tryz.prog 101 = false := by kernel_rfl
theorem known101 : known Tryz.prog 101 = true := by kernel_rfl
theorem ld101 {a : Addr} {v : Value} (hc : w.cell? a = some v) : opW Tryz.prog (Instr.loadAt 101 (.pointer (some a))) k w = k v w := w_load agg101 known101 hc
theorem agg111 : isAggT Tryz.prog 111 = true := by kernel_rfl
theorem known111 : known Tryz.prog 111 = true := by kernel_rfl
theorem size111 : sizeT Tryz.prog 111 = 3 := by kernel_rfl
theorem ld111 {b o : Nat} {vs : List Value} (hl : vs.length = 3) (hc : Cells w b o vs) : opW Tryz.prog (Instr.loadAt 111 (.pointer (some ⟨b, o, none⟩))) k w = k (.agg vs.toArray) w := w_loadAgg agg111 known111 (by rw [size111, hl]) hc
theorem agg155 : isAggT Tryz.prog 155 = false := by kernel_rfl
theorem known155 : known Tryz.prog 155 = true := by kernel_rfl
theorem ld155 {a : Addr} {v : Value} (hc : w.cell? a = some v) : opW Tryz.prog (Instr.loadAt 155 (.pointer (some a))) k w = k v w := w_load agg155 known155 hc
theorem agg158 : isAggT Tryz.prog 158 = false := by kernel_rfl
theorem known158 : known Tryz.prog 158 = true := by kernel_rfl
theorem ld158 {a : Addr} {v : Value} (hc : w.cell? a = some v) : opW Tryz.prog (Instr.loadAt 158 (.pointer (some a))) k w = k v w := w_load agg158 known158 hc
theorem agg24 : isAggT Tryz.prog 24 = false := by kernel_rfl
theorem ld24 {a : Addr} {v : Value} (hc : w.cell? a = some v) : opW Tryz.prog (Instr.loadAt 24 (.pointer (some a))) k w = k v w := w_load agg24 known24 hc
theorem agg25 : isAggT Tryz.prog 25 = false := by kernel_rfl
theorem known25 : known Tryz.prog 25 = true := by kernel_rfl
theorem ld25 {a : Addr} {v : Value} (hc : w.cell? a = some v) : opW Tryz.prog (Instr.loadAt 25 (.pointer (some a))) k w = k v w := w_load agg25 known25 hc
theorem known26 : known Tryz.prog 26 = true := by kernel_rfl
theorem agg28 : isAggT Tryz.prog 28 = true := by kernel_rfl
theorem ld28 {b o : Nat} {vs : List Value} (hl : vs.length = 5) (hc : Cells w b o vs) : opW Tryz.prog (Instr.loadAt 28 (.pointer (some ⟨b, o, none⟩))) k w = k (.agg vs.toArray) w := w_loadAgg agg28 known28 (by rw [size28, hl]) hc
theorem xld28 {b o : Nat} {vs : List Value} (hl : vs.length = 5) (hc : Cells w b o vs) : takeW Tryz.prog (sameW w) (Instr.loadAt 28 (.pointer (some ⟨b, o, none⟩))) K w = K (.agg vs.toArray) := x_loadAgg agg28 known28 (by rw [size28, hl]) hc
theorem agg3 : isAggT Tryz.prog 3 = false := by kernel_rfl
theorem ld3 {a : Addr} {v : Value} (hc : w.cell? a = some v) : opW Tryz.prog (Instr.loadAt 3 (.pointer (some a))) k w = k v w := w_load agg3 known3 hc
theorem agg30 : isAggT Tryz.prog 30 = true := by kernel_rfl
theorem ld30 {b o : Nat} {vs : List Value} (hl : vs.length = 2) (hc : Cells w b o vs) : opW Tryz.prog (Instr.loadAt 30 (.pointer (some ⟨b, o, none⟩))) k w = k (.agg vs.toArray) w := w_loadAgg agg30 known30 (by rw [size30, hl]) hc
theorem xld30 {b o : Nat} {vs : List Value} (hl : vs.length = 2) (hc : Cells w b o vs) : takeW Tryz.prog (sameW w) (Instr.loadAt 30 (.pointer (some ⟨b, o, none⟩))) K w = K (.agg vs.toArray) := x_loadAgg agg30 known30 (by rw [size30, hl]) hc
theorem agg31 : isAggT Tryz.prog 31 = false := by kernel_rfl
theorem known31 : known Tryz.prog 31 = true := by kernel_rfl
theorem ld31 {a : Addr} {v : Value} (hc : w.cell? a = some v) : opW Tryz.prog (Instr.loadAt 31 (.pointer (some a))) k w = k v w := w_load agg31 known31 hc
theorem agg33 : isAggT Tryz.prog 33 = false := by kernel_rfl
theorem ld33 {a : Addr} {v : Value} (hc : w.cell? a = some v) : opW Tryz.prog (Instr.loadAt 33 (.pointer (some a))) k w = k v w := w_load agg33 known33 hc
theorem agg4 : isAggT Tryz.prog 4 = false := by kernel_rfl
theorem ld4 {a : Addr} {v : Value} (hc : w.cell? a = some v) : opW Tryz.prog (Instr.loadAt 4 (.pointer (some a))) k w = k v w := w_load agg4 known4 hc
theorem known59 : known Tryz.prog 59 = true := by kernel_rfl
theorem agg61 : isAggT Tryz.prog 61 = true := by kernel_rfl
theorem known61 : known Tryz.prog 61 = true := by kernel_rfl
theorem size61 : sizeT Tryz.prog 61 = 6 := by kernel_rfl
theorem ld61 {b o : Nat} {vs : List Value} (hl : vs.length = 6) (hc : Cells w b o vs) : opW Tryz.prog (Instr.loadAt 61 (.pointer (some ⟨b, o, none⟩))) k w = k (.agg vs.toArray) w := w_loadAgg agg61 known61 (by rw [size61, hl]) hc
theorem xld61 {b o : Nat} {vs : List Value} (hl : vs.length = 6) (hc : Cells w b o vs) : takeW Tryz.prog (sameW w) (Instr.loadAt 61 (.pointer (some ⟨b, o, none⟩))) K w = K (.agg vs.toArray) := x_loadAgg agg61 known61 (by rw [size61, hl]) hc
theorem agg63 : isAggT Tryz.prog 63 = true := by kernel_rfl
theorem ld63 {b o : Nat} {vs : List Value} (hl : vs.length = 9) (hc : Cells w b o vs) : opW Tryz.prog (Instr.loadAt 63 (.pointer (some ⟨b, o, none⟩))) k w = k (.agg vs.toArray) w := w_loadAgg agg63 known63 (by rw [size63, hl]) hc
theorem xld63 {b o : Nat} {vs : List Value} (hl : vs.length = 9) (hc : Cells w b o vs) : takeW Tryz.prog (sameW w) (Instr.loadAt 63 (.pointer (some ⟨b, o, none⟩))) K w = K (.agg vs.toArray) := x_loadAgg agg63 known63 (by rw [size63, hl]) hc
theorem agg87 : isAggT Tryz.prog 87 = true := by kernel_rfl
theorem ld87 {b o : Nat} {vs : List Value} (hl : vs.length = 2) (hc : Cells w b o vs) : opW Tryz.prog (Instr.loadAt 87 (.pointer (some ⟨b, o, none⟩))) k w = k (.agg vs.toArray) w := w_loadAgg agg87 known87 (by rw [size87, hl]) hc
theorem xld87 {b o : Nat} {vs : List Value} (hl : vs.length = 2) (hc : Cells w b o vs) : takeW Tryz.prog (sameW w) (Instr.loadAt 87 (.pointer (some ⟨b, o, none⟩))) K w = K (.agg vs.toArray) := x_loadAgg agg87 known87 (by rw [size87, hl]) hc
theorem agg89 : isAggT Tryz.prog 89 = false := by kernel_rfl
theorem known89 : known Tryz.prog 89 = true := by kernel_rfl
theorem ld89 {a : Addr} {v : Value} (hc : w.cell? a = some v) : opW Tryz.prog (Instr.loadAt 89 (.pointer (some a))) k w = k v w := w_load agg89 known89 hc
theorem xld89 {a : Addr} {v : Value} (hc : w.cell? a = some v) : takeW Tryz.prog (sameW w) (Instr.loadAt 89 (.pointer (some a))) K w = K v := x_load agg89 known89 hc
theorem agg9 : isAggT Tryz.prog 9 = false := by kernel_rfl
theorem ld9 {a : Addr} {v : Value} (hc : w.cell? a = some v) : opW Tryz.prog (Instr.loadAt 9 (.pointer (some a))) k w = k v w := w_load agg9 known9 hc
theorem agg94 : isAggT Tryz.prog 94 = true := by kernel_rfl
theorem known94 : known Tryz.prog 94 = true := by kernel_rfl
theorem size94 : sizeT Tryz.prog 94 = 8 := by kernel_rfl
theorem ld94 {b o : Nat} {vs : List Value} (hl : vs.length = 8) (hc : Cells w b o vs) : opW Tryz.prog (Instr.loadAt 94 (.pointer (some ⟨b, o, none⟩))) k w = k (.agg vs.toArray) w := w_loadAgg agg94 known94 (by rw [size94, hl]) hc
theorem sty89 : STy Tryz.prog 89 4 1 1 (Value.bool false) := ⟨by kernel_rfl, by kernel_rfl, by kernel_rfl, by decide⟩
theorem size101 : sizeT Tryz.prog 101 = 1 := by kernel_rfl
theorem st101 {a : Addr} {v old : Value} (hv : v.oneCell' = true) (hc : w.cell? a = some old) (hf : w.frozen? a = false) : opU Tryz.prog (Instr.storeAt 101 (.pointer (some a)) v) k w = k undef (w.setCell a v) := w_store hv size101 known101 hc hf
theorem size25 : sizeT Tryz.prog 25 = 1 := by kernel_rfl
theorem st25 {a : Addr} {v old : Value} (hv : v.oneCell' = true) (hc : w.cell? a = some old) (hf : w.frozen? a = false) : opU Tryz.prog (Instr.storeAt 25 (.pointer (some a)) v) k w = k undef (w.setCell a v) := w_store hv size25 known25 hc hf
theorem size26 : sizeT Tryz.prog 26 = 1 := by kernel_rfl
theorem st26 {a : Addr} {v old : Value} (hv : v.oneCell' = true) (hc : w.cell? a = some old) (hf : w.frozen? a = false) : opU Tryz.prog (Instr.storeAt 26 (.pointer (some a)) v) k w = k undef (w.setCell a v) := w_store hv size26 known26 hc hf
theorem st3 {a : Addr} {v old : Value} (hv : v.oneCell' = true) (hc : w.cell? a = some old) (hf : w.frozen? a = false) : opU Tryz.prog (Instr.storeAt 3 (.pointer (some a)) v) k w = k undef (w.setCell a v) := w_store hv size3 known3 hc hf
theorem size31 : sizeT Tryz.prog 31 = 1 := by kernel_rfl
theorem st31 {a : Addr} {v old : Value} (hv : v.oneCell' = true) (hc : w.cell? a = some old) (hf : w.frozen? a = false) : opU Tryz.prog (Instr.storeAt 31 (.pointer (some a)) v) k w = k undef (w.setCell a v) := w_store hv size31 known31 hc hf
theorem st4 {a : Addr} {v old : Value} (hv : v.oneCell' = true) (hc : w.cell? a = some old) (hf : w.frozen? a = false) : opU Tryz.prog (Instr.storeAt 4 (.pointer (some a)) v) k w = k undef (w.setCell a v) := w_store hv size4 known4 hc hf
theorem size59 : sizeT Tryz.prog 59 = 1 := by kernel_rfl
theorem st59 {a : Addr} {v old : Value} (hv : v.oneCell' = true) (hc : w.cell? a = some old) (hf : w.frozen? a = false) : opU Tryz.prog (Instr.storeAt 59 (.pointer (some a)) v) k w = k undef (w.setCell a v) := w_store hv size59 known59 hc hf
theorem sta61 {b o : Nat} {vs : List Value} (hl : vs.length = 6) (hv : ∀ v ∈ vs, v.oneCell' = true) (hc : ∀ j, j < 6 → ∃ old, w.cell? ⟨b, o + j, none⟩ = some old) (hf : ∀ j, j < 6 → w.frozen? ⟨b, o + j, none⟩ = false) : opU Tryz.prog (Instr.storeAt 61 (.pointer (some ⟨b, o, none⟩)) (.agg vs.toArray)) k w = k undef (setCells w b o vs) := w_storeAgg hv (by rw [size61, hl]) known61 (by rw [hl]; exact hc) (by rw [hl]; exact hf)
theorem size89 : sizeT Tryz.prog 89 = 1 := by kernel_rfl
theorem st89 {a : Addr} {v old : Value} (hv : v.oneCell' = true) (hc : w.cell? a = some old) (hf : w.frozen? a = false) : opU Tryz.prog (Instr.storeAt 89 (.pointer (some a)) v) k w = k undef (w.setCell a v) := w_store hv size89 known89 hc hf
theorem st9 {a : Addr} {v old : Value} (hv : v.oneCell' = true) (hc : w.cell? a = some old) (hf : w.frozen? a = false) : opU Tryz.prog (Instr.storeAt 9 (.pointer (some a)) v) k w = k undef (w.setCell a v) := w_store hv size9 known9 hc hf
theorem len158 {α : Type} {F : Fl α} {v : Value} {l : List α} (hs : IsSl F w v l) : opW Tryz.prog (Builtin.len_ #[158] 3 #[v]) k w = k (.int .i64 l.length) w := w_lenS isl158 hs
theorem len22 {α : Type} {F : Fl α} {v : Value} {l : List α} (hs : IsSl F w v l) : opW Tryz.prog (Builtin.len_ #[22] 3 #[v]) k w = k (.int .i64 l.length) w := w_lenS isl22 hs
theorem len23 {α : Type} {F : Fl α} {v : Value} {l : List α} (hs : IsSl F w v l) : opW Tryz.prog (Builtin.len_ #[23] 3 #[v]) k w = k (.int .i64 l.length) w := w_lenS isl23 hs
theorem len24 {α : Type} {F : Fl α} {v : Value} {l : List α} (hs : IsSl F w v l) : opW Tryz.prog (Builtin.len_ #[24] 3 #[v]) k w = k (.int .i64 l.length) w := w_lenS isl24 hs
theorem tlen24 {α : Type} {F : Fl α} {v : Value} {l : List α} (hs : IsSl F w v l) : takeW Tryz.prog S (Builtin.len_ #[24] 3 #[v]) K w = K (.int .i64 l.length) := t_lenS isl24 hs
theorem len25 {α : Type} {F : Fl α} {v : Value} {l : List α} (hs : IsSl F w v l) : opW Tryz.prog (Builtin.len_ #[25] 3 #[v]) k w = k (.int .i64 l.length) w := w_lenS isl25 hs
theorem tlen25 {α : Type} {F : Fl α} {v : Value} {l : List α} (hs : IsSl F w v l) : takeW Tryz.prog S (Builtin.len_ #[25] 3 #[v]) K w = K (.int .i64 l.length) := t_lenS isl25 hs
theorem len26 {α : Type} {F : Fl α} {v : Value} {l : List α} (hs : IsSl F w v l) : opW Tryz.prog (Builtin.len_ #[26] 3 #[v]) k w = k (.int .i64 l.length) w := w_lenS isl26 hs
theorem len31 {α : Type} {F : Fl α} {v : Value} {l : List α} (hs : IsSl F w v l) : opW Tryz.prog (Builtin.len_ #[31] 3 #[v]) k w = k (.int .i64 l.length) w := w_lenS isl31 hs
theorem len33 {α : Type} {F : Fl α} {v : Value} {l : List α} (hs : IsSl F w v l) : opW Tryz.prog (Builtin.len_ #[33] 3 #[v]) k w = k (.int .i64 l.length) w := w_lenS isl33 hs
theorem tlen33 {α : Type} {F : Fl α} {v : Value} {l : List α} (hs : IsSl F w v l) : takeW Tryz.prog S (Builtin.len_ #[33] 3 #[v]) K w = K (.int .i64 l.length) := t_lenS isl33 hs
theorem len39 {α : Type} {F : Fl α} {v : Value} {l : List α} (hs : IsSl F w v l) : opW Tryz.prog (Builtin.len_ #[39] 3 #[v]) k w = k (.int .i64 l.length) w := w_lenS isl39 hs
theorem len40 {α : Type} {F : Fl α} {v : Value} {l : List α} (hs : IsSl F w v l) : opW Tryz.prog (Builtin.len_ #[40] 3 #[v]) k w = k (.int .i64 l.length) w := w_lenS isl40 hs
theorem tlen41 {α : Type} {F : Fl α} {v : Value} {l : List α} (hs : IsSl F w v l) : takeW Tryz.prog S (Builtin.len_ #[41] 3 #[v]) K w = K (.int .i64 l.length) := t_lenS isl41 hs
theorem len59 {α : Type} {F : Fl α} {v : Value} {l : List α} (hs : IsSl F w v l) : opW Tryz.prog (Builtin.len_ #[59] 3 #[v]) k w = k (.int .i64 l.length) w := w_lenS isl59 hs
theorem tlen59 {α : Type} {F : Fl α} {v : Value} {l : List α} (hs : IsSl F w v l) : takeW Tryz.prog S (Builtin.len_ #[59] 3 #[v]) K w = K (.int .i64 l.length) := t_lenS isl59 hs
theorem len95 {α : Type} {F : Fl α} {v : Value} {l : List α} (hs : IsSl F w v l) : opW Tryz.prog (Builtin.len_ #[95] 3 #[v]) k w = k (.int .i64 l.length) w := w_lenS isl95 hs
theorem ok10 : callOk Tryz.prog 10 = true := by kernel_rfl
theorem ok11 : callOk Tryz.prog 11 = true := by kernel_rfl
theorem ok12 : callOk Tryz.prog 12 = true := by kernel_rfl
theorem ok13 : callOk Tryz.prog 13 = true := by kernel_rfl
theorem ok14 : callOk Tryz.prog 14 = true := by kernel_rfl
theorem ok15 : callOk Tryz.prog 15 = true := by kernel_rfl
theorem ok16 : callOk Tryz.prog 16 = true := by kernel_rfl
theorem ok17 : callOk Tryz.prog 17 = true := by kernel_rfl
theorem ok18 : callOk Tryz.prog 18 = true := by kernel_rfl
theorem ok19 : callOk Tryz.prog 19 = true := by kernel_rfl
theorem ok20 : callOk Tryz.prog 20 = true := by kernel_rfl
theorem ok21 : callOk Tryz.prog 21 = true := by kernel_rfl
theorem ok22 : callOk Tryz.prog 22 = true := by kernel_rfl
theorem ok23 : callOk Tryz.prog 23 = true := by kernel_rfl
theorem ok24 : callOk Tryz.prog 24 = true := by kernel_rfl
theorem ok25 : callOk Tryz.prog 25 = true := by kernel_rfl
theorem ok26 : callOk Tryz.prog 26 = true := by kernel_rfl
theorem ok27 : callOk Tryz.prog 27 = true := by kernel_rfl
theorem ok28 : callOk Tryz.prog 28 = true := by kernel_rfl
theorem ok29 : callOk Tryz.prog 29 = true := by kernel_rfl
theorem ok30 : callOk Tryz.prog 30 = true := by kernel_rfl
theorem ok31 : callOk Tryz.prog 31 = true := by kernel_rfl
theorem ok32 : callOk Tryz.prog 32 = true := by kernel_rfl
theorem ok34 : callOk Tryz.prog 34 = true := by kernel_rfl
theorem ok35 : callOk Tryz.prog 35 = true := by kernel_rfl
theorem ok36 : callOk Tryz.prog 36 = true := by kernel_rfl
theorem ok37 : callOk Tryz.prog 37 = true := by kernel_rfl
theorem ok38 : callOk Tryz.prog 38 = true := by kernel_rfl
theorem ok39 : callOk Tryz.prog 39 = true := by kernel_rfl
theorem ok40 : callOk Tryz.prog 40 = true := by kernel_rfl
theorem ok41 : callOk Tryz.prog 41 = true := by kernel_rfl
theorem ok42 : callOk Tryz.prog 42 = true := by kernel_rfl
theorem ok43 : callOk Tryz.prog 43 = true := by kernel_rfl
theorem ok44 : callOk Tryz.prog 44 = true := by kernel_rfl
theorem ok45 : callOk Tryz.prog 45 = true := by kernel_rfl
theorem ok46 : callOk Tryz.prog 46 = true := by kernel_rfl
theorem ok47 : callOk Tryz.prog 47 = true := by kernel_rfl
theorem ok48 : callOk Tryz.prog 48 = true := by kernel_rfl
theorem ok49 : callOk Tryz.prog 49 = true := by kernel_rfl
theorem ok50 : callOk Tryz.prog 50 = true := by kernel_rfl
theorem ok51 : callOk Tryz.prog 51 = true := by kernel_rfl
theorem ok52 : callOk Tryz.prog 52 = true := by kernel_rfl
theorem ok53 : callOk Tryz.prog 53 = true := by kernel_rfl
theorem ok54 : callOk Tryz.prog 54 = true := by kernel_rfl
theorem ok55 : callOk Tryz.prog 55 = true := by kernel_rfl
theorem ok56 : callOk Tryz.prog 56 = true := by kernel_rfl
theorem ok57 : callOk Tryz.prog 57 = true := by kernel_rfl
theorem ok58 : callOk Tryz.prog 58 = true := by kernel_rfl
theorem ok59 : callOk Tryz.prog 59 = true := by kernel_rfl
theorem ok60 : callOk Tryz.prog 60 = true := by kernel_rfl
theorem ok61 : callOk Tryz.prog 61 = true := by kernel_rfl
theorem ok62 : callOk Tryz.prog 62 = true := by kernel_rfl
theorem ok64 : callOk Tryz.prog 64 = true := by kernel_rfl
theorem ok70 : callOk Tryz.prog 70 = true := by kernel_rfl
theorem ok72 : callOk Tryz.prog 72 = true := by kernel_rfl
theorem ok73 : callOk Tryz.prog 73 = true := by kernel_rfl
theorem ok74 : callOk Tryz.prog 74 = true := by kernel_rfl
theorem ok75 : callOk Tryz.prog 75 = true := by kernel_rfl
theorem ok76 : callOk Tryz.prog 76 = true := by kernel_rfl
theorem ok77 : callOk Tryz.prog 77 = true := by kernel_rfl
theorem ok78 : callOk Tryz.prog 78 = true := by kernel_rfl
theorem ok79 : callOk Tryz.prog 79 = true := by kernel_rfl
theorem ok80 : callOk Tryz.prog 80 = true := by kernel_rfl
theorem ok81 : callOk Tryz.prog 81 = true := by kernel_rfl
theorem ok82 : callOk Tryz.prog 82 = true := by kernel_rfl
theorem ok83 : callOk Tryz.prog 83 = true := by kernel_rfl
theorem ok84 : callOk Tryz.prog 84 = true := by kernel_rfl
theorem ok85 : callOk Tryz.prog 85 = true := by kernel_rfl
theorem ok86 : callOk Tryz.prog 86 = true := by kernel_rfl
theorem ok87 : callOk Tryz.prog 87 = true := by kernel_rfl
theorem ok88 : callOk Tryz.prog 88 = true := by kernel_rfl
theorem ok89 : callOk Tryz.prog 89 = true := by kernel_rfl
theorem ok90 : callOk Tryz.prog 90 = true := by kernel_rfl
theorem ok91 : callOk Tryz.prog 91 = true := by kernel_rfl
theorem ok92 : callOk Tryz.prog 92 = true := by kernel_rfl
theorem ok93 : callOk Tryz.prog 93 = true := by kernel_rfl
theorem ok94 : callOk Tryz.prog 94 = true := by kernel_rfl
theorem ok95 : callOk Tryz.prog 95 = true := by kernel_rfl
theorem ok96 : callOk Tryz.prog 96 = true := by kernel_rfl
theorem ok97 : callOk Tryz.prog 97 = true := by kernel_rfl
theorem ok105 : callOk Tryz.prog 105 = true := by kernel_rfl
theorem ok106 : callOk Tryz.prog 106 = true := by kernel_rfl
theorem ok107 : callOk Tryz.prog 107 = true := by kernel_rfl
theorem ok108 : callOk Tryz.prog 108 = true := by kernel_rfl
theorem ok109 : callOk Tryz.prog 109 = true := by kernel_rfl
theorem ok110 : callOk Tryz.prog 110 = true := by kernel_rfl
theorem ok111 : callOk Tryz.prog 111 = true := by kernel_rfl
theorem ok112 : callOk Tryz.prog 112 = true := by kernel_rfl
theorem ok113 : callOk Tryz.prog 113 = true := by kernel_rfl
theorem ok114 : callOk Tryz.prog 114 = true := by kernel_rfl
theorem ok124 : callOk Tryz.prog 124 = true := by kernel_rfl
theorem ok134 : callOk Tryz.prog 134 = true := by kernel_rfl
theorem ok135 : callOk Tryz.prog 135 = true := by kernel_rfl
theorem ok161 : callOk Tryz.prog 161 = true := by kernel_rfl
theorem ok163 : callOk Tryz.prog 163 = true := by kernel_rfl
theorem ok164 : callOk Tryz.prog 164 = true := by kernel_rfl
theorem ok165 : callOk Tryz.prog 165 = true := by kernel_rfl
theorem ok166 : callOk Tryz.prog 166 = true := by kernel_rfl
theorem ok167 : callOk Tryz.prog 167 = true := by kernel_rfl
theorem ok168 : callOk Tryz.prog 168 = true := by kernel_rfl
theorem ok183 : callOk Tryz.prog 183 = true := by kernel_rfl
theorem ok184 : callOk Tryz.prog 184 = true := by kernel_rfl
theorem ok185 : callOk Tryz.prog 185 = true := by kernel_rfl
theorem ok186 : callOk Tryz.prog 186 = true := by kernel_rfl
theorem ok187 : callOk Tryz.prog 187 = true := by kernel_rfl
theorem ok188 : callOk Tryz.prog 188 = true := by kernel_rfl
theorem ok189 : callOk Tryz.prog 189 = true := by kernel_rfl
theorem ok190 : callOk Tryz.prog 190 = true := by kernel_rfl
theorem ok191 : callOk Tryz.prog 191 = true := by kernel_rfl
theorem ok192 : callOk Tryz.prog 192 = true := by kernel_rfl
theorem ok193 : callOk Tryz.prog 193 = true := by kernel_rfl
theorem ok194 : callOk Tryz.prog 194 = true := by kernel_rfl
theorem ok195 : callOk Tryz.prog 195 = true := by kernel_rfl
theorem ok196 : callOk Tryz.prog 196 = true := by kernel_rfl
theorem ok197 : callOk Tryz.prog 197 = true := by kernel_rfl
theorem ok198 : callOk Tryz.prog 198 = true := by kernel_rfl
theorem ok199 : callOk Tryz.prog 199 = true := by kernel_rfl
theorem ok200 : callOk Tryz.prog 200 = true := by kernel_rfl
theorem ok201 : callOk Tryz.prog 201 = true := by kernel_rfl
theorem ok202 : callOk Tryz.prog 202 = true := by kernel_rfl
end
end Go.Proofs.YtfkfkldhcignbaaGreatDoor
/- The conditions of the functions, printed by program out of the loaded code, each with the contract that follows from it. -/
set_option linter.unusedVariables false
set_option maxRecDepth 100000
namespace Go.Proofs.YtfkfkldhcignbaaGreatDoor
open Go Go.V
noncomputable section

/-! newswire/newswirelaw26.FlowMatchesReference -/
def ann3 : Ann := [(506, Note.plan (Plan.takeP 0 (Plan.takeP 1 (Plan.takeP 2 (Plan.takeP 3 (Plan.takeU 5 (Plan.run 4 (Plan.run 6 (Plan.takeP 7 (Plan.run 8 Plan.done)))))))))), (2045, Note.keep [8, 19]), (4090, Note.loop [79] [7, 8, 15, 19, 20, 21, 22, 77, 78]), (8189, Note.keep [19, 44]), (16378, Note.loop [44, 45] [8, 19]), (65446, Note.keep [7, 8, 15, 19, 20, 21, 22, 77, 78, 79]), (131026, Note.keep [8, 19, 44, 45]), (262052, Note.plan (Plan.takeP 0 (Plan.takeP 1 (Plan.takeP 2 (Plan.takeP 3 (Plan.takeU 4 (Plan.takeP 5 (Plan.takeP 6 (Plan.takeP 7 (Plan.takeU 8 (Plan.takeP 9 (Plan.takeP 10 (Plan.takeP 11 (Plan.run 12 (Plan.run 13 (Plan.takeP 14 Plan.done)))))))))))))))), (523571, Note.keep [7, 8, 15, 19, 20, 21, 22, 77, 78, 79]), (1047142, Note.loop [87] [7, 8, 15, 19, 20, 21, 22, 25, 77, 78, 79, 85, 86]), (16754278, Note.keep [7, 8, 15, 19, 20, 21, 22, 25, 77, 78, 79, 85, 86, 87]), (134034226, Note.plan (Plan.takeU 0 (Plan.takeP 1 (Plan.takeU 2 (Plan.takeP 4 (Plan.takeU 5 (Plan.takeP 10 (Plan.run 3 (Plan.run 6 (Plan.run 7 (Plan.run 8 (Plan.takeP 9 Plan.done)))))))))))), (134034227, Note.keep [7, 8, 15, 19, 20, 21, 22, 25, 77, 78, 79, 85, 86, 87]), (268068454, Note.loop [101] [7, 8, 15, 19, 20, 21, 22, 25, 27, 77, 78, 79, 85, 86, 87, 99, 100]), (4289095270, Note.keep [7, 8, 15, 19, 20, 21, 22, 25, 27, 77, 78, 79, 85, 86, 87, 99, 100, 101]), (274502097308, Note.plan (Plan.takeP 0 (Plan.takeP 1 (Plan.takeP 2 (Plan.takeP 3 (Plan.takeP 4 (Plan.takeP 5 (Plan.run 6 (Plan.takeP 7 (Plan.takeP 8 (Plan.takeP 9 (Plan.takeP 10 (Plan.takeP 12 (Plan.run 11 (Plan.run 13 (Plan.takeP 14 (Plan.takeP 15 (Plan.takeP 16 (Plan.takeP 17 (Plan.takeP 18 (Plan.takeU 19 (Plan.takeP 20 (Plan.takeP 22 (Plan.takeP 23 (Plan.takeU 24 (Plan.takeP 25 (Plan.run 21 (Plan.run 26 (Plan.takeP 27 (Plan.takeP 28 Plan.done)))))))))))))))))))))))))))))), (274502097311, Note.keep [7, 8, 15, 19, 20, 21, 22, 25, 27, 77, 78, 79, 85, 86, 87, 99, 100, 101]), (549004194622, Note.loop [154] [7, 8, 15, 19, 20, 21, 22, 25, 27, 29, 77, 78, 79, 85, 86, 87, 99, 100, 101, 152, 153]), (8784067113958, Note.keep [7, 8, 15, 19, 20, 21, 22, 25, 27, 29, 77, 78, 79, 85, 86, 87, 99, 100, 101, 152, 153, 154])]
def S3 (x_1 y_2 z_3 raw_4 odd_5 at_6 r_7 mode_8 packets_9 : Value) (k : Value → World → Prop) (w : World) : Prop :=
   opW Tryz.prog (Instr.box 28 odd_5) (fun odd_10 w =>
   opW Tryz.prog (Instr.box 30 r_7) (fun r_11 w =>
   callW Tryz.prog (Value.func (Fn.func 10) #[] #[]) #[] (fun t50_12 w =>
   opW Tryz.prog (Op.unary UnOp.not t50_12) (fun t52_14 w =>
   condW t52_14
   (k (Value.bool false) w)
   (callW Tryz.prog (Value.func (Fn.func 11) #[] #[]) #[z_3] (fun t54_15 w =>
   opW Tryz.prog (Instr.buildSlice 33 0 #[]) (fun t55_16 w =>
   opW Tryz.prog (Builtin.append_ #[33, 33] 33 #[t55_16, t54_15]) (fun t57_17 w =>
   joinW (fun w =>
   callW Tryz.prog (Value.func (Fn.func 14) #[] #[]) #[x_1, (Value.int IntKind.i64 12)] (fun t70_27 w =>
   callW Tryz.prog (Value.func (Fn.func 14) #[] #[]) #[y_2, (Value.int IntKind.i64 12)] (fun t72_28 w =>
   callW Tryz.prog (Value.func (Fn.func 15) #[] #[]) #[raw_4] (fun t76_29 w =>
   opW Tryz.prog (Instr.buildSlice 39 3 #[(0, t70_27), (1, t72_28), (2, t76_29)]) (fun t77_30 w =>
   opW Tryz.prog (Builtin.len_ #[39] 3 #[t77_30]) (fun t78_31 w =>
   Loop1 (fun t79_33 w K_34 =>
   opW Tryz.prog (binS BinOp.lss 3 (Operand.tmp 79) (Operand.tmp 78) t79_33 t78_31) (fun t80_35 w =>
   condW t80_35
   (opW Tryz.prog (Instr.indexAt 39 t77_30 t79_33) (fun t81_38 w =>
   opW Tryz.prog (Instr.loadAt 24 t81_38) (fun t82_39 w =>
   opW Tryz.prog (Instr.buildSlice 40 2 #[(0, t54_15), (1, t57_17)]) (fun t85_40 w =>
   opW Tryz.prog (Builtin.len_ #[40] 3 #[t85_40]) (fun t86_41 w =>
   Loop1 (fun t87_43 w K_44 =>
   opW Tryz.prog (binS BinOp.lss 3 (Operand.tmp 87) (Operand.tmp 86) t87_43 t86_41) (fun t88_45 w =>
   condW t88_45
   (opW Tryz.prog (Instr.indexAt 40 t85_40 t87_43) (fun t89_48 w =>
   opW Tryz.prog (Instr.loadAt 33 t89_48) (fun t90_49 w =>
   drewW w (fun w =>
   ∃ S : World → Prop, S w ∧
   takeW Tryz.prog S (Instr.loadAt 30 r_11) (fun t91_51 =>
   takeW Tryz.prog anyW (Instr.fieldAt 30 r_11 0) (fun t92_52 =>
   takeW Tryz.prog S (Instr.loadAt 3 t92_52) (fun t93_53 =>
   takeW Tryz.prog anyW (Instr.fieldAt 30 r_11 1) (fun t95_54 =>
   takeW Tryz.prog S (Instr.loadAt 3 t95_54) (fun t96_55 =>
   callW Tryz.prog (Value.func (Fn.func 13) #[] #[]) #[t93_53, (Value.int IntKind.i64 8)] (fun t94_56 w => keepS S (fun w =>
   callW Tryz.prog (Value.func (Fn.func 13) #[] #[]) #[t96_55, (Value.int IntKind.i64 8)] (fun t97_57 w => keepS S (fun w =>
   opW Tryz.prog (Instr.build 30 #[(0, t94_56), (1, t97_57)]) (fun t98_58 w => keepS S (fun w =>
   opW Tryz.prog (Instr.buildSlice 41 2 #[(0, t91_51), (1, t98_58)]) (fun t99_59 w => keepS S (fun w =>
   takeW Tryz.prog anyW (Builtin.len_ #[41] 3 #[t99_59]) (fun t100_60 =>
   Loop1 (fun t101_62 w K_63 =>
   opW Tryz.prog (binS BinOp.lss 3 (Operand.tmp 101) (Operand.tmp 100) t101_62 t100_60) (fun t102_64 w =>
   condW t102_64
   (opW Tryz.prog (Instr.indexAt 41 t99_59 t101_62) (fun t103_67 w =>
   opW Tryz.prog (Instr.loadAt 30 t103_67) (fun t104_68 w =>
   opW Tryz.prog (Instr.alloc 30 true (Value.tuple #[])) (fun p_69 w =>
   opU Tryz.prog (Instr.storeAt 30 p_69 t104_68) (fun _ w =>
   opW Tryz.prog (Instr.loadAt 30 p_69) (fun t107_70 w =>
   callW Tryz.prog (Value.func (Fn.func 16) #[] #[]) #[t82_39, t107_70, t90_49] (fun t109_71 w =>
   opW Tryz.prog (Instr.extract t109_71 0) (fun t110_72 w =>
   opW Tryz.prog (Instr.extract t109_71 1) (fun t111_73 w =>
   opW Tryz.prog (Instr.loadAt 30 p_69) (fun t114_74 w =>
   callW Tryz.prog (Value.func (Fn.func 17) #[] #[]) #[t82_39, t114_74, t90_49] (fun t116_75 w =>
   opW Tryz.prog (Instr.extract t116_75 0) (fun t117_76 w =>
   opW Tryz.prog (Instr.extract t116_75 1) (fun t118_77 w =>
   drewW w (fun w =>
   ∃ S : World → Prop, S w ∧
   takeW Tryz.prog anyW (binS BinOp.neq 42 (Operand.tmp 119) (Operand.tmp 120) t111_73 t118_77) (fun t121_80 =>
   guardT (some t121_80, false) (fun k => k t110_72) (fun t123_81 =>
   guardT (some t121_80, false) (fun k => k t117_76) (fun t124_82 =>
   guardW (some t121_80, false) (fun k w => callW Tryz.prog (Value.func (Fn.func 18) #[] #[]) #[t123_81, t124_82] k w) (fun t125_83 w => keepS S (fun w =>
   guardT (some t121_80, false) (fun k => takeW Tryz.prog anyW (Op.unary UnOp.not t125_83) k w) (fun t126_84 =>
   pickT t121_80 (Value.bool true) t126_84 (fun t127_85 =>
   guardT (some t127_85, false) (fun k => k t82_39) (fun t129_86 =>
   guardT (some t127_85, false) (fun k => k t82_39) (fun t131_87 =>
   guardW (some t127_85, false) (fun k w => callW Tryz.prog (Value.func (Fn.func 19) #[] #[]) #[t129_86] k w) (fun t130_88 w => keepS S (fun w =>
   guardW (some t127_85, false) (fun k w => callW Tryz.prog (Value.func (Fn.func 20) #[] #[]) #[t131_87] k w) (fun t132_89 w => keepS S (fun w =>
   guardT (some t127_85, false) (fun k => takeW Tryz.prog anyW (binS BinOp.neq 4 (Operand.tmp 130) (Operand.tmp 132) t130_88 t132_89) k w) (fun t133_90 =>
   pickT t127_85 (Value.bool true) t133_90 (fun t134_91 =>
   guardT (some t134_91, false) (fun k => k t70_27) (fun t136_92 =>
   guardT (some t134_91, false) (fun k => k t82_39) (fun t137_93 =>
   guardT (some t134_91, false) (fun k => takeW Tryz.prog S (Instr.loadAt 30 p_69) k w) (fun t138_94 =>
   guardT (some t134_91, false) (fun k => k t90_49) (fun t139_95 =>
   guardT (some t134_91, false) (fun k => k t70_27) (fun t141_96 =>
   guardT (some t134_91, false) (fun k => k t82_39) (fun t142_97 =>
   guardT (some t134_91, false) (fun k => takeW Tryz.prog S (Instr.loadAt 30 p_69) k w) (fun t143_98 =>
   guardT (some t134_91, false) (fun k => k t90_49) (fun t144_99 =>
   guardW (some t134_91, false) (fun k w => callW Tryz.prog (Value.func (Fn.func 21) #[] #[]) #[t136_92, t137_93, t138_94, t139_95] k w) (fun t140_100 w => keepS S (fun w =>
   guardW (some t134_91, false) (fun k w => callW Tryz.prog (Value.func (Fn.func 22) #[] #[]) #[t141_96, t142_97, t143_98, t144_99] k w) (fun t145_101 w => keepS S (fun w =>
   guardT (some t134_91, false) (fun k => takeW Tryz.prog anyW (binS BinOp.neq 4 (Operand.tmp 140) (Operand.tmp 145) t140_100 t145_101) k w) (fun t146_102 =>
   pickT t134_91 (Value.bool true) t146_102 (fun t147_103 =>
   condW t147_103
   (k (Value.bool false) w)
   (callW Tryz.prog (Value.func (Fn.func 13) #[] #[]) #[mode_8, (Value.int IntKind.i64 2)] (fun t150_104 w =>
   opW Tryz.prog (binS BinOp.add 3 (Operand.const (Value.int IntKind.i64 1)) (Operand.tmp 150) (Value.int IntKind.i64 1) t150_104) (fun t151_105 w =>
   opW Tryz.prog (Instr.buildSlice 25 2 #[(0, mode_8), (1, t151_105)]) (fun t152_106 w =>
   opW Tryz.prog (Builtin.len_ #[25] 3 #[t152_106]) (fun t153_107 w =>
   Loop1 (fun t154_109 w K_110 =>
   opW Tryz.prog (binS BinOp.lss 3 (Operand.tmp 154) (Operand.tmp 153) t154_109 t153_107) (fun t155_111 w =>
   condW t155_111
   (opW Tryz.prog (Instr.indexAt 25 t152_106 t154_109) (fun t156_114 w =>
   opW Tryz.prog (Instr.loadAt 3 t156_114) (fun t157_115 w =>
   opW Tryz.prog (Instr.loadAt 30 p_69) (fun t161_116 w =>
   callW Tryz.prog (Value.func (Fn.func 23) #[] #[]) #[t157_115, t82_39, t161_116, t90_49] (fun t163_117 w =>
   opW Tryz.prog (Instr.extract t163_117 0) (fun t164_118 w =>
   opW Tryz.prog (Instr.extract t163_117 1) (fun t165_119 w =>
   opW Tryz.prog (Instr.loadAt 30 p_69) (fun t169_120 w =>
   callW Tryz.prog (Value.func (Fn.func 24) #[] #[]) #[t157_115, t82_39, t169_120, t90_49] (fun t171_121 w =>
   opW Tryz.prog (Instr.extract t171_121 0) (fun t172_122 w =>
   opW Tryz.prog (Instr.extract t171_121 1) (fun t173_123 w =>
   opW Tryz.prog (Instr.loadAt 30 p_69) (fun t178_124 w =>
   callW Tryz.prog (Value.func (Fn.func 25) #[] #[]) #[t157_115, t70_27, t82_39, t178_124, t90_49] (fun t180_125 w =>
   opW Tryz.prog (Instr.extract t180_125 0) (fun t181_126 w =>
   opW Tryz.prog (Instr.extract t180_125 1) (fun t182_127 w =>
   opW Tryz.prog (Instr.loadAt 30 p_69) (fun t187_128 w =>
   callW Tryz.prog (Value.func (Fn.func 26) #[] #[]) #[t157_115, t70_27, t82_39, t187_128, t90_49] (fun t189_129 w =>
   opW Tryz.prog (Instr.extract t189_129 0) (fun t190_130 w =>
   opW Tryz.prog (Instr.extract t189_129 1) (fun t191_131 w =>
   opW Tryz.prog (binS BinOp.neq 42 (Operand.tmp 192) (Operand.tmp 193) t165_119 t173_123) (fun t194_132 w =>
   guardW (some t194_132, false) (fun k w => k t164_118 w) (fun t196_133 w =>
   guardW (some t194_132, false) (fun k w => k t172_122 w) (fun t197_134 w =>
   guardW (some t194_132, false) (fun k w => callW Tryz.prog (Value.func (Fn.func 27) #[] #[]) #[t196_133, t197_134] k w) (fun t198_135 w =>
   guardW (some t194_132, false) (fun k w => opW Tryz.prog (Op.unary UnOp.not t198_135) k w) (fun t199_136 w =>
   pickW t194_132 (Value.bool true) t199_136 (fun t200_137 w =>
   guardW (some t200_137, false) (fun k w => k t182_127 w) (fun t202_138 w =>
   guardW (some t200_137, false) (fun k w => k t191_131 w) (fun t203_139 w =>
   guardW (some t200_137, false) (fun k w => opW Tryz.prog (binS BinOp.neq 42 (Operand.tmp 202) (Operand.tmp 203) t202_138 t203_139) k w) (fun t204_140 w =>
   pickW t200_137 (Value.bool true) t204_140 (fun t205_141 w =>
   guardW (some t205_141, false) (fun k w => k t181_126 w) (fun t207_142 w =>
   guardW (some t205_141, false) (fun k w => k t190_130 w) (fun t208_143 w =>
   guardW (some t205_141, false) (fun k w => opW Tryz.prog (binS BinOp.neq 3 (Operand.tmp 207) (Operand.tmp 208) t207_142 t208_143) k w) (fun t209_144 w =>
   pickW t205_141 (Value.bool true) t209_144 (fun t210_145 w =>
   condW t210_145
   (k (Value.bool false) w)
   (opW Tryz.prog (binS BinOp.add 3 (Operand.tmp 154) (Operand.const (Value.int IntKind.i64 1)) t154_109 (Value.int IntKind.i64 1)) (fun t211_146 w =>
   loopK [] [] [mode_8, packets_9, r_11, t50_12, t54_15, t57_17, t70_27, t82_39, t90_49, p_69, t77_30, t78_31, t79_33, t85_40, t86_41, t87_43, t99_59, t100_60, t101_62, t152_106, t153_107] [mode_8, packets_9, r_11, t50_12, t54_15, t57_17, t70_27, t82_39, t90_49, p_69, t77_30, t78_31, t79_33, t85_40, t86_41, t87_43, t99_59, t100_60, t101_62, t152_106, t153_107] (K_110 t211_146 w)) w)) w) w) w) w) w) w) w) w) w) w) w) w) w) w) w) w) w) w) w) w) w) w) w) w) w) w) w) w) w) w) w) w)
   (opW Tryz.prog (binS BinOp.add 3 (Operand.tmp 101) (Operand.const (Value.int IntKind.i64 1)) t101_62 (Value.int IntKind.i64 1)) (fun t212_147 w =>
   loopK [] [] [mode_8, packets_9, r_11, t50_12, t54_15, t57_17, t70_27, t82_39, t90_49, t77_30, t78_31, t79_33, t85_40, t86_41, t87_43, t99_59, t100_60] [mode_8, packets_9, r_11, t50_12, t54_15, t57_17, t70_27, t82_39, t90_49, t77_30, t78_31, t79_33, t85_40, t86_41, t87_43, t99_59, t100_60] (K_63 t212_147 w)) w)) w) (Value.int IntKind.i64 0) w) w) w) w) w)))) w) w) w) w))))))))))) w) w) w) w))))) w) w))) w)) w) w) w) w) w) w) w) w) w) w) w) w)
   (opW Tryz.prog (binS BinOp.add 3 (Operand.tmp 87) (Operand.const (Value.int IntKind.i64 1)) t87_43 (Value.int IntKind.i64 1)) (fun t213_148 w =>
   loopK [] [] [mode_8, packets_9, r_11, t50_12, t54_15, t57_17, t70_27, t82_39, t77_30, t78_31, t79_33, t85_40, t86_41] [mode_8, packets_9, r_11, t50_12, t54_15, t57_17, t70_27, t82_39, t77_30, t78_31, t79_33, t85_40, t86_41] (K_44 t213_148 w)) w)) w) (Value.int IntKind.i64 0) w) w) w) w) w) w) w) w) w) w) w) w) w) w) w)) w) w)
   (opW Tryz.prog (binS BinOp.add 3 (Operand.tmp 79) (Operand.const (Value.int IntKind.i64 1)) t79_33 (Value.int IntKind.i64 1)) (fun t214_149 w =>
   loopK [] [] [mode_8, packets_9, r_11, t50_12, t54_15, t57_17, t70_27, t77_30, t78_31] [mode_8, packets_9, r_11, t50_12, t54_15, t57_17, t70_27, t77_30, t78_31] (K_34 t214_149 w)) w)) w) (Value.int IntKind.i64 0) w) w) w) w) w)
   (Loop2 (fun some_151 i_152 w K_153 =>
   opW Tryz.prog (Builtin.len_ #[31] 3 #[packets_9]) (fun t217_155 w =>
   opW Tryz.prog (binS BinOp.lss 3 (Operand.tmp 215) (Operand.tmp 217) i_152 t217_155) (fun t218_156 w =>
   guardW (some t218_156, true) (fun k w => k i_152 w) (fun t220_157 w =>
   guardW (some t218_156, true) (fun k w => opW Tryz.prog (binS BinOp.lss 3 (Operand.tmp 220) (Operand.const (Value.int IntKind.i64 4)) t220_157 (Value.int IntKind.i64 4)) k w) (fun t221_158 w =>
   pickW t218_156 t221_158 (Value.bool false) (fun t222_159 w =>
   condW t222_159
   (drewW w (fun w =>
   ∃ S : World → Prop, S w ∧
   takeW Tryz.prog anyW (Instr.indexAt 31 packets_9 i_152) (fun t228_162 =>
   takeW Tryz.prog S (Instr.loadAt 9 t228_162) (fun t229_163 =>
   takeW Tryz.prog anyW (Instr.indexAt 31 packets_9 i_152) (fun t232_164 =>
   takeW Tryz.prog S (Instr.loadAt 9 t232_164) (fun t233_165 =>
   takeW Tryz.prog anyW (Builtin.len_ #[9] 3 #[t233_165]) (fun t234_166 =>
   takeW Tryz.prog anyW (Builtin.min_ #[3, 3] 3 #[t234_166, (Value.int IntKind.i64 66)]) (fun t235_167 =>
   takeW Tryz.prog anyW (Instr.sliceAt 9 t229_163 none (some t235_167) none) (fun t236_168 =>
   opW Tryz.prog (Instr.buildSlice 31 1 #[(0, t236_168)]) (fun t237_169 w => keepS S (fun w =>
   opW Tryz.prog (Builtin.append_ #[31, 31] 31 #[some_151, t237_169]) (fun t238_170 w => keepS S (fun w =>
   opW Tryz.prog (binS BinOp.add 3 (Operand.tmp 223) (Operand.const (Value.int IntKind.i64 1)) i_152 (Value.int IntKind.i64 1)) (fun t224_171 w =>
   loopK [] [] [packets_9, t50_12] [packets_9, t50_12] (K_153 t238_170 t224_171 w)) w) w) w) w) w) w) w) w) w) w) w) w))
   (callW Tryz.prog (Value.func (Fn.func 28) #[] #[]) #[some_151] (fun t241_172 w =>
   opW Tryz.prog (Instr.extract t241_172 0) (fun t242_173 w =>
   opW Tryz.prog (Instr.extract t241_172 1) (fun t243_174 w =>
   callW Tryz.prog (Value.func (Fn.func 29) #[] #[]) #[some_151] (fun t246_175 w =>
   opW Tryz.prog (Instr.extract t246_175 0) (fun t247_176 w =>
   opW Tryz.prog (Instr.extract t246_175 1) (fun t248_177 w =>
   guardW (some t50_12, true) (fun k w => k t243_174 w) (fun t251_178 w =>
   guardW (some t50_12, true) (fun k w => k t248_177 w) (fun t252_179 w =>
   guardW (some t50_12, true) (fun k w => opW Tryz.prog (binS BinOp.eql 42 (Operand.tmp 251) (Operand.tmp 252) t251_178 t252_179) k w) (fun t253_180 w =>
   pickW t50_12 t253_180 (Value.bool false) (fun t254_181 w =>
   guardW (some t254_181, true) (fun k w => k t242_173 w) (fun t256_182 w =>
   guardW (some t254_181, true) (fun k w => k t247_176 w) (fun t257_183 w =>
   guardW (some t254_181, true) (fun k w => callW Tryz.prog (Value.func (Fn.func 27) #[] #[]) #[t256_182, t257_183] k w) (fun t258_184 w =>
   pickW t254_181 t258_184 (Value.bool false) (fun t259_185 w =>
   k t259_185 w) w) w) w) w) w) w) w) w) w) w) w) w) w) w)) w) w) w) w) w) (Value.slice none 0 0) (Value.int IntKind.i64 0) w)) w) (Value.int IntKind.i64 0) w) w) w) w) w) w) (fun J_18 =>
   opW Tryz.prog (Builtin.len_ #[33] 3 #[t57_17]) (fun t59_19 w =>
   opW Tryz.prog (binS BinOp.gtr 3 (Operand.tmp 59) (Operand.const (Value.int IntKind.i64 0)) t59_19 (Value.int IntKind.i64 0)) (fun t60_20 w =>
   condW t60_20
   (drewW w (fun w =>
   ∃ S : World → Prop, S w ∧
   takeW Tryz.prog anyW (Builtin.len_ #[33] 3 #[t57_17]) (fun t64_22 =>
   takeW Tryz.prog S (Instr.loadAt 28 odd_10) (fun t66_23 =>
   callW Tryz.prog (Value.func (Fn.func 13) #[] #[]) #[at_6, t64_22] (fun t65_24 w => keepS S (fun w =>
   callW Tryz.prog (Value.func (Fn.func 12) #[] #[]) #[t66_23] (fun t67_25 w =>
   takeW Tryz.prog anyW (Instr.indexAt 33 t57_17 t65_24) (fun t68_26 =>
   opU Tryz.prog (Instr.storeAt 28 t68_26 t67_25) (fun _ w =>
   J_18 w) w) w) w) w) w) w) w))
   (J_18 w)) w) w)) w) w) w)) w) w) w) w
theorem S3_vc (x_1 y_2 z_3 raw_4 odd_5 at_6 r_7 mode_8 packets_9 : Value) (k : Value → World → Prop) (w : World) : vc Tryz.prog Tryz.f3.ntmps ann3 none ((Tryz.f3.body).getD Code.skip) 1 (params 0 [x_1, y_2, z_3, raw_4, odd_5, at_6, r_7, mode_8, packets_9]) [] (finQ Tryz.prog Tryz.f3.results.toList k) w = S3 x_1 y_2 z_3 raw_4 odd_5 at_6 r_7 mode_8 packets_9 k w := by kernel_rfl
theorem S3_calls (x_1 y_2 z_3 raw_4 odd_5 at_6 r_7 mode_8 packets_9 : Value) (k : Value → World → Prop) (w : World) (h : S3 x_1 y_2 z_3 raw_4 odd_5 at_6 r_7 mode_8 packets_9 k w) : Calls Tryz.prog 3 #[x_1, y_2, z_3, raw_4, odd_5, at_6, r_7, mode_8, packets_9] w (retP k) :=
  calls_of_vc (fn := Tryz.f3) (c := (Tryz.f3.body).getD Code.skip) ann3 Tryz.func3 (by kernel_rfl) [x_1, y_2, z_3, raw_4, odd_5, at_6, r_7, mode_8, packets_9] w k (by kernel_rfl) ((S3_vc x_1 y_2 z_3 raw_4 odd_5 at_6 r_7 mode_8 packets_9 k w).symm ▸ h)
/-! newswire/newswirelaw26.sane -/
def ann10 : Ann := []
def S10 (k : Value → World → Prop) (w : World) : Prop :=
   callW Tryz.prog (Value.func (Fn.func 36) #[] #[]) #[] (fun t25_1 w =>
   opW Tryz.prog (Instr.extract t25_1 0) (fun t26_2 w =>
   opW Tryz.prog (Instr.extract t25_1 1) (fun t27_3 w =>
   opW Tryz.prog (Instr.extract t25_1 2) (fun t28_4 w =>
   opW Tryz.prog (Instr.build 30 #[]) (fun t29_5 w =>
   opW Tryz.prog (Instr.alloc 30 true (Value.tuple #[])) (fun r_6 w =>
   opU Tryz.prog (Instr.storeAt 30 r_6 t29_5) (fun _ w =>
   opW Tryz.prog (Instr.loadAt 30 r_6) (fun t32_7 w =>
   callW Tryz.prog (Value.func (Fn.func 16) #[] #[]) #[t26_2, t32_7, t28_4] (fun t34_8 w =>
   opW Tryz.prog (Instr.extract t34_8 0) (fun t35_9 w =>
   opW Tryz.prog (Instr.extract t34_8 1) (fun t36_10 w =>
   opW Tryz.prog (Instr.loadAt 30 r_6) (fun t39_11 w =>
   callW Tryz.prog (Value.func (Fn.func 23) #[] #[]) #[(Value.int IntKind.i64 1), t26_2, t39_11, t28_4] (fun t41_12 w =>
   opW Tryz.prog (Instr.extract t41_12 0) (fun t42_13 w =>
   opW Tryz.prog (Instr.extract t41_12 1) (fun t43_14 w =>
   opW Tryz.prog (Instr.loadAt 30 r_6) (fun t46_15 w =>
   callW Tryz.prog (Value.func (Fn.func 23) #[] #[]) #[(Value.int IntKind.i64 2), t26_2, t46_15, t28_4] (fun t48_16 w =>
   opW Tryz.prog (Instr.extract t48_16 0) (fun t49_17 w =>
   opW Tryz.prog (Instr.extract t48_16 1) (fun t50_18 w =>
   opW Tryz.prog (Instr.loadAt 30 r_6) (fun t53_19 w =>
   callW Tryz.prog (Value.func (Fn.func 23) #[] #[]) #[(Value.int IntKind.i64 2), t27_3, t53_19, t28_4] (fun t55_20 w =>
   opW Tryz.prog (Instr.extract t55_20 0) (fun t56_21 w =>
   opW Tryz.prog (Instr.extract t55_20 1) (fun t57_22 w =>
   opW Tryz.prog (Instr.loadAt 30 r_6) (fun t61_23 w =>
   callW Tryz.prog (Value.func (Fn.func 25) #[] #[]) #[(Value.int IntKind.i64 1), t26_2, t27_3, t61_23, t28_4] (fun t63_24 w =>
   opW Tryz.prog (Instr.extract t63_24 0) (fun t64_25 w =>
   opW Tryz.prog (Instr.extract t63_24 1) (fun t65_26 w =>
   opW Tryz.prog (Instr.loadAt 30 r_6) (fun t69_27 w =>
   callW Tryz.prog (Value.func (Fn.func 25) #[] #[]) #[(Value.int IntKind.i64 2), t26_2, t27_3, t69_27, t28_4] (fun t71_28 w =>
   opW Tryz.prog (Instr.extract t71_28 0) (fun t72_29 w =>
   opW Tryz.prog (Instr.extract t71_28 1) (fun t73_30 w =>
   callW Tryz.prog (Value.func (Fn.func 28) #[] #[]) #[t42_13] (fun t76_31 w =>
   opW Tryz.prog (Instr.extract t76_31 0) (fun t77_32 w =>
   opW Tryz.prog (Instr.extract t76_31 1) (fun t78_33 w =>
   opW Tryz.prog (Instr.buildSlice 31 1 #[(0, (Value.string { data := #[] }))]) (fun t80_34 w =>
   callW Tryz.prog (Value.func (Fn.func 28) #[] #[]) #[t80_34] (fun t81_35 w =>
   opW Tryz.prog (Instr.extract t81_35 0) (fun t82_36 w =>
   opW Tryz.prog (Instr.extract t81_35 1) (fun t83_37 w =>
   opW Tryz.prog (Instr.loadAt 30 r_6) (fun t86_38 w =>
   callW Tryz.prog (Value.func (Fn.func 23) #[] #[]) #[(Value.int IntKind.i64 3), t26_2, t86_38, t28_4] (fun t88_39 w =>
   opW Tryz.prog (Instr.extract t88_39 0) (fun t89_40 w =>
   opW Tryz.prog (Instr.extract t88_39 1) (fun t90_41 w =>
   opW Tryz.prog (binS BinOp.neq 42 (Operand.tmp 91) (Operand.const (Value.int IntKind.i64 0)) t36_10 (Value.int IntKind.i64 0)) (fun t92_43 w =>
   guardW (some t92_43, false) (fun k w => k t43_14 w) (fun t94_44 w =>
   guardW (some t92_43, false) (fun k w => opW Tryz.prog (binS BinOp.neq 42 (Operand.tmp 94) (Operand.const (Value.int IntKind.i64 0)) t94_44 (Value.int IntKind.i64 0)) k w) (fun t95_45 w =>
   pickW t92_43 (Value.bool true) t95_45 (fun t96_46 w =>
   guardW (some t96_46, false) (fun k w => k t50_18 w) (fun t98_47 w =>
   guardW (some t96_46, false) (fun k w => opW Tryz.prog (binS BinOp.neq 42 (Operand.tmp 98) (Operand.const (Value.int IntKind.i64 0)) t98_47 (Value.int IntKind.i64 0)) k w) (fun t99_48 w =>
   pickW t96_46 (Value.bool true) t99_48 (fun t100_49 w =>
   guardW (some t100_49, false) (fun k w => k t57_22 w) (fun t102_50 w =>
   guardW (some t100_49, false) (fun k w => opW Tryz.prog (binS BinOp.neq 42 (Operand.tmp 102) (Operand.const (Value.int IntKind.i64 0)) t102_50 (Value.int IntKind.i64 0)) k w) (fun t103_51 w =>
   pickW t100_49 (Value.bool true) t103_51 (fun t104_52 w =>
   guardW (some t104_52, false) (fun k w => k t65_26 w) (fun t106_53 w =>
   guardW (some t104_52, false) (fun k w => opW Tryz.prog (binS BinOp.neq 42 (Operand.tmp 106) (Operand.const (Value.int IntKind.i64 0)) t106_53 (Value.int IntKind.i64 0)) k w) (fun t107_54 w =>
   pickW t104_52 (Value.bool true) t107_54 (fun t108_55 w =>
   guardW (some t108_55, false) (fun k w => k t73_30 w) (fun t110_56 w =>
   guardW (some t108_55, false) (fun k w => opW Tryz.prog (binS BinOp.neq 42 (Operand.tmp 110) (Operand.const (Value.int IntKind.i64 0)) t110_56 (Value.int IntKind.i64 0)) k w) (fun t111_57 w =>
   pickW t108_55 (Value.bool true) t111_57 (fun t112_58 w =>
   guardW (some t112_58, false) (fun k w => k t78_33 w) (fun t114_59 w =>
   guardW (some t112_58, false) (fun k w => opW Tryz.prog (binS BinOp.neq 42 (Operand.tmp 114) (Operand.const (Value.int IntKind.i64 0)) t114_59 (Value.int IntKind.i64 0)) k w) (fun t115_60 w =>
   pickW t112_58 (Value.bool true) t115_60 (fun t116_61 w =>
   guardW (some t116_61, false) (fun k w => k t83_37 w) (fun t118_62 w =>
   guardW (some t116_61, false) (fun k w => opW Tryz.prog (binS BinOp.neq 42 (Operand.tmp 118) (Operand.const (Value.int IntKind.i64 260)) t118_62 (Value.int IntKind.i64 260)) k w) (fun t119_63 w =>
   pickW t116_61 (Value.bool true) t119_63 (fun t120_64 w =>
   guardW (some t120_64, false) (fun k w => k t90_41 w) (fun t122_65 w =>
   guardW (some t120_64, false) (fun k w => opW Tryz.prog (binS BinOp.neq 42 (Operand.tmp 122) (Operand.const (Value.int IntKind.i64 260)) t122_65 (Value.int IntKind.i64 260)) k w) (fun t123_66 w =>
   pickW t120_64 (Value.bool true) t123_66 (fun t124_67 w =>
   condW t124_67
   (k (Value.bool false) w)
   (callW Tryz.prog (Value.func (Fn.func 18) #[] #[]) #[t35_9, t27_3] (fun t127_68 w =>
   guardW (some t127_68, true) (fun k w => k t42_13 w) (fun t129_69 w =>
   guardW (some t127_68, true) (fun k w => callW Tryz.prog (Value.func (Fn.func 35) #[] #[]) #[(Value.int IntKind.i64 59)] k w) (fun t130_70 w =>
   guardW (some t127_68, true) (fun k w => opW Tryz.prog (binS BinOp.add 9 (Operand.const (Value.string { data := #[4, 114, 97, 105, 110] })) (Operand.tmp 130) (Value.string { data := #[4, 114, 97, 105, 110] }) t130_70) k w) (fun t131_71 w =>
   guardW (some t127_68, true) (fun k w => callW Tryz.prog (Value.func (Fn.func 35) #[] #[]) #[(Value.int IntKind.i64 64)] k w) (fun t132_72 w =>
   guardW (some t127_68, true) (fun k w => callW Tryz.prog (Value.func (Fn.func 35) #[] #[]) #[(Value.int IntKind.i64 64)] k w) (fun t133_73 w =>
   guardW (some t127_68, true) (fun k w => opW Tryz.prog (Instr.buildSlice 31 3 #[(0, t131_71), (1, t132_72), (2, t133_73)]) k w) (fun t134_74 w =>
   guardW (some t127_68, true) (fun k w => callW Tryz.prog (Value.func (Fn.func 27) #[] #[]) #[t129_69, t134_74] k w) (fun t135_75 w =>
   pickW t127_68 t135_75 (Value.bool false) (fun t136_76 w =>
   guardW (some t136_76, true) (fun k w => k t49_17 w) (fun t138_77 w =>
   guardW (some t136_76, true) (fun k w => opW Tryz.prog (Instr.buildSlice 31 3 #[(0, (Value.string { data := #[0, 4, 114, 97, 105, 110] })), (1, (Value.string { data := #[0] })), (2, (Value.string { data := #[0] }))]) k w) (fun t139_78 w =>
   guardW (some t136_76, true) (fun k w => callW Tryz.prog (Value.func (Fn.func 27) #[] #[]) #[t138_77, t139_78] k w) (fun t140_79 w =>
   pickW t136_76 t140_79 (Value.bool false) (fun t141_80 w =>
   guardW (some t141_80, true) (fun k w => k t56_21 w) (fun t143_81 w =>
   guardW (some t141_80, true) (fun k w => opW Tryz.prog (Instr.buildSlice 31 3 #[(0, (Value.string { data := #[4, 114, 97, 105, 110] })), (1, (Value.string { data := #[] })), (2, (Value.string { data := #[] }))]) k w) (fun t144_82 w =>
   guardW (some t141_80, true) (fun k w => callW Tryz.prog (Value.func (Fn.func 27) #[] #[]) #[t143_81, t144_82] k w) (fun t145_83 w =>
   pickW t141_80 t145_83 (Value.bool false) (fun t146_84 w =>
   guardW (some t146_84, true) (fun k w => k t64_25 w) (fun t149_85 w =>
   guardW (some t146_84, true) (fun k w => opW Tryz.prog (binS BinOp.eql 3 (Operand.tmp 149) (Operand.const (Value.int IntKind.i64 (-1))) t149_85 (Value.int IntKind.i64 (-1))) k w) (fun t150_86 w =>
   pickW t146_84 t150_86 (Value.bool false) (fun t151_87 w =>
   guardW (some t151_87, true) (fun k w => k t72_29 w) (fun t153_88 w =>
   guardW (some t151_87, true) (fun k w => opW Tryz.prog (binS BinOp.eql 3 (Operand.tmp 153) (Operand.const (Value.int IntKind.i64 0)) t153_88 (Value.int IntKind.i64 0)) k w) (fun t154_89 w =>
   pickW t151_87 t154_89 (Value.bool false) (fun t155_90 w =>
   guardW (some t155_90, true) (fun k w => k t77_32 w) (fun t157_91 w =>
   guardW (some t155_90, true) (fun k w => opW Tryz.prog (Instr.buildSlice 31 1 #[(0, (Value.string { data := #[114, 97, 105, 110] }))]) k w) (fun t158_92 w =>
   guardW (some t155_90, true) (fun k w => callW Tryz.prog (Value.func (Fn.func 27) #[] #[]) #[t157_91, t158_92] k w) (fun t159_93 w =>
   pickW t155_90 t159_93 (Value.bool false) (fun t160_94 w =>
   guardW (some t160_94, true) (fun k w => k t26_2 w) (fun t162_95 w =>
   guardW (some t160_94, true) (fun k w => k t27_3 w) (fun t163_96 w =>
   guardW (some t160_94, true) (fun k w => opW Tryz.prog (Instr.loadAt 30 r_6) k w) (fun t164_97 w =>
   guardW (some t160_94, true) (fun k w => k t28_4 w) (fun t165_98 w =>
   guardW (some t160_94, true) (fun k w => callW Tryz.prog (Value.func (Fn.func 21) #[] #[]) #[t162_95, t163_96, t164_97, t165_98] k w) (fun t166_99 w =>
   pickW t160_94 t166_99 (Value.bool false) (fun t167_100 w =>
   guardW (some t167_100, true) (fun k w => k t26_2 w) (fun t169_101 w =>
   guardW (some t167_100, true) (fun k w => opW Tryz.prog (Instr.loadAt 30 r_6) k w) (fun t170_102 w =>
   guardW (some t167_100, true) (fun k w => k t28_4 w) (fun t171_103 w =>
   guardW (some t167_100, true) (fun k w => callW Tryz.prog (Value.func (Fn.func 21) #[] #[]) #[t169_101, (Value.slice none 0 0), t170_102, t171_103] k w) (fun t172_104 w =>
   guardW (some t167_100, true) (fun k w => opW Tryz.prog (Op.unary UnOp.not t172_104) k w) (fun t173_105 w =>
   pickW t167_100 t173_105 (Value.bool false) (fun t174_106 w =>
   guardW (some t174_106, true) (fun k w => k t26_2 w) (fun t176_107 w =>
   guardW (some t174_106, true) (fun k w => callW Tryz.prog (Value.func (Fn.func 19) #[] #[]) #[t176_107] k w) (fun t177_108 w =>
   pickW t174_106 t177_108 (Value.bool false) (fun t178_109 w =>
   guardW (some t178_109, true) (fun k w => opW Tryz.prog (Instr.build 63 #[]) k w) (fun t180_110 w =>
   guardW (some t178_109, true) (fun k w => opW Tryz.prog (Instr.buildSlice 24 1 #[(0, t180_110)]) k w) (fun t181_111 w =>
   guardW (some t178_109, true) (fun k w => callW Tryz.prog (Value.func (Fn.func 19) #[] #[]) #[t181_111] k w) (fun t182_112 w =>
   guardW (some t178_109, true) (fun k w => opW Tryz.prog (Op.unary UnOp.not t182_112) k w) (fun t183_113 w =>
   pickW t178_109 t183_113 (Value.bool false) (fun t184_114 w =>
   k t184_114 w) w) w) w) w) w) w) w) w) w) w) w) w) w) w) w) w) w) w) w) w) w) w) w) w) w) w) w) w) w) w) w) w) w) w) w) w) w) w) w) w) w) w) w) w) w) w) w)) w) w) w) w) w) w) w) w) w) w) w) w) w) w) w) w) w) w) w) w) w) w) w) w) w) w) w) w) w) w) w) w) w) w) w) w) w) w) w) w) w) w) w) w) w) w) w) w) w) w) w) w) w) w) w) w) w) w) w) w) w) w) w) w) w) w) w
theorem S10_vc (k : Value → World → Prop) (w : World) : vc Tryz.prog Tryz.f10.ntmps ann10 none ((Tryz.f10.body).getD Code.skip) 1 (params 0 []) [] (finQ Tryz.prog Tryz.f10.results.toList k) w = S10 k w := by kernel_rfl
theorem S10_calls (k : Value → World → Prop) (w : World) (h : S10 k w) : Calls Tryz.prog 10 #[] w (retP k) :=
  calls_of_vc (fn := Tryz.f10) (c := (Tryz.f10.body).getD Code.skip) ann10 Tryz.func10 (by kernel_rfl) [] w k (by kernel_rfl) ((S10_vc k w).symm ▸ h)
theorem C10 (k : Value → World → Prop) (w : World) (h : S10 k w) : callW Tryz.prog (.func (.func 10) #[] #[]) #[] k w :=
  callW_calls ok10 (by simpa using S10_calls k w h)

/-! newswire/newswireref26.Moments -/
def ann11 : Ann := [(61, Note.keep [3]), (122, Note.loop [3, 5] [0, 4]), (978, Note.keep [0, 3, 4, 5]), (7826, Note.plan (Plan.takeP 0 (Plan.takeU 1 (Plan.takeP 2 (Plan.takeP 3 (Plan.takeP 4 (Plan.takeP 5 (Plan.takeX 6 (Plan.run 7 (Plan.takeP 8 (Plan.takeP 9 (Plan.run 10 Plan.done)))))))))))), (125247, Note.plan (Plan.takeP 0 (Plan.takeP 1 (Plan.takeU 2 (Plan.takeP 3 (Plan.takeU 4 (Plan.takeP 6 (Plan.takeU 7 (Plan.takeP 10 (Plan.takeU 11 (Plan.takeP 14 (Plan.takeU 15 (Plan.alt (Plan.alt (Plan.run 5 (Plan.alt (Plan.alt (Plan.run 8 (Plan.alt (Plan.run 9 (Plan.alt (Plan.run 12 (Plan.run 13 (Plan.run 16 (Plan.run 17 (Plan.run 18 (Plan.run 19 (Plan.takeP 20 Plan.done))))))) (Plan.run 13 (Plan.run 12 (Plan.run 16 (Plan.run 17 (Plan.run 18 (Plan.run 19 (Plan.takeP 20 Plan.done))))))))) (Plan.run 13 (Plan.run 9 (Plan.run 12 (Plan.run 16 (Plan.run 17 (Plan.run 18 (Plan.run 19 (Plan.takeP 20 Plan.done)))))))))) (Plan.run 9 (Plan.alt (Plan.run 8 (Plan.alt (Plan.run 12 (Plan.run 13 (Plan.run 16 (Plan.run 17 (Plan.run 18 (Plan.run 19 (Plan.takeP 20 Plan.done))))))) (Plan.run 13 (Plan.run 12 (Plan.run 16 (Plan.run 17 (Plan.run 18 (Plan.run 19 (Plan.takeP 20 Plan.done))))))))) (Plan.run 13 (Plan.run 8 (Plan.run 12 (Plan.run 16 (Plan.run 17 (Plan.run 18 (Plan.run 19 (Plan.takeP 20 Plan.done))))))))))) (Plan.run 13 (Plan.alt (Plan.run 8 (Plan.run 9 (Plan.run 12 (Plan.run 16 (Plan.run 17 (Plan.run 18 (Plan.run 19 (Plan.takeP 20 Plan.done)))))))) (Plan.run 9 (Plan.run 8 (Plan.run 12 (Plan.run 16 (Plan.run 17 (Plan.run 18 (Plan.run 19 (Plan.takeP 20 Plan.done)))))))))))) (Plan.run 9 (Plan.alt (Plan.run 5 (Plan.alt (Plan.run 8 (Plan.alt (Plan.run 12 (Plan.run 13 (Plan.run 16 (Plan.run 17 (Plan.run 18 (Plan.run 19 (Plan.takeP 20 Plan.done))))))) (Plan.run 13 (Plan.run 12 (Plan.run 16 (Plan.run 17 (Plan.run 18 (Plan.run 19 (Plan.takeP 20 Plan.done))))))))) (Plan.run 13 (Plan.run 8 (Plan.run 12 (Plan.run 16 (Plan.run 17 (Plan.run 18 (Plan.run 19 (Plan.takeP 20 Plan.done)))))))))) (Plan.run 13 (Plan.run 5 (Plan.run 8 (Plan.run 12 (Plan.run 16 (Plan.run 17 (Plan.run 18 (Plan.run 19 (Plan.takeP 20 Plan.done)))))))))))) (Plan.run 13 (Plan.alt (Plan.run 5 (Plan.alt (Plan.run 8 (Plan.run 9 (Plan.run 12 (Plan.run 16 (Plan.run 17 (Plan.run 18 (Plan.run 19 (Plan.takeP 20 Plan.done)))))))) (Plan.run 9 (Plan.run 8 (Plan.run 12 (Plan.run 16 (Plan.run 17 (Plan.run 18 (Plan.run 19 (Plan.takeP 20 Plan.done)))))))))) (Plan.run 9 (Plan.run 5 (Plan.run 8 (Plan.run 12 (Plan.run 16 (Plan.run 17 (Plan.run 18 (Plan.run 19 (Plan.takeP 20 Plan.done))))))))))))))))))))))))]
def S11 (x_1 : Value) (k : Value → World → Prop) (w : World) : Prop :=
   opW Tryz.prog (Instr.build 28 #[]) (fun t7_2 w =>
   opW Tryz.prog (Instr.alloc 28 true (Value.tuple #[])) (fun m_3 w =>
   opU Tryz.prog (Instr.storeAt 28 m_3 t7_2) (fun _ w =>
   Loop2 (fun out_5 i_6 w K_7 =>
   opW Tryz.prog (Builtin.len_ #[23] 3 #[x_1]) (fun t10_9 w =>
   opW Tryz.prog (binS BinOp.lss 3 (Operand.tmp 8) (Operand.tmp 10) i_6 t10_9) (fun t11_10 w =>
   guardW (some t11_10, true) (fun k w => k i_6 w) (fun t13_11 w =>
   guardW (some t11_10, true) (fun k w => opW Tryz.prog (binS BinOp.lss 3 (Operand.tmp 13) (Operand.const (Value.int IntKind.i64 14)) t13_11 (Value.int IntKind.i64 14)) k w) (fun t14_12 w =>
   pickW t11_10 t14_12 (Value.bool false) (fun t15_13 w =>
   condW t15_13
   (opW Tryz.prog (Instr.indexAt 23 x_1 i_6) (fun t20_15 w =>
   opW Tryz.prog (Instr.loadAt 82 t20_15) (fun t21_16 w =>
   callW Tryz.prog (Value.func (Fn.func 37) #[] #[]) #[t21_16] (fun t22_17 w =>
   opW Tryz.prog (Instr.alloc 28 true (Value.tuple #[])) (fun y_18 w =>
   opU Tryz.prog (Instr.storeAt 28 y_18 t22_17) (fun _ w =>
   drewW w (fun w =>
   ∃ S : World → Prop, S w ∧
   takeW Tryz.prog anyW (Instr.fieldAt 28 m_3 0) (fun t23_20 =>
   takeW Tryz.prog S (Instr.loadAt 3 t23_20) (fun t24_21 =>
   takeW Tryz.prog anyW (Instr.indexAt 23 x_1 i_6) (fun t27_22 =>
   takeW Tryz.prog anyW (Instr.indexAt 82 t27_22 (Value.int IntKind.i64 0)) (fun t28_23 =>
   takeW Tryz.prog (sameW w) (Instr.loadAt 3 t28_23) (fun t29_24 =>
   callW Tryz.prog (Value.func (Fn.func 38) #[] #[]) #[t29_24, (Value.int IntKind.i64 8)] (fun t30_25 w => keepS S (fun w =>
   takeW Tryz.prog anyW (binS BinOp.add 3 (Operand.tmp 24) (Operand.tmp 30) t24_21 t30_25) (fun t31_26 =>
   takeW Tryz.prog anyW (Instr.fieldAt 28 m_3 0) (fun t32_27 =>
   opU Tryz.prog (Instr.storeAt 3 t32_27 t31_26) (fun _ w =>
   opW Tryz.prog (Instr.indexAt 23 x_1 i_6) (fun t35_28 w =>
   opW Tryz.prog (Instr.indexAt 82 t35_28 (Value.int IntKind.i64 1)) (fun t36_29 w =>
   opW Tryz.prog (Instr.loadAt 3 t36_29) (fun t37_30 w =>
   callW Tryz.prog (Value.func (Fn.func 38) #[] #[]) #[t37_30, (Value.int IntKind.i64 3)] (fun t38_31 w =>
   opW Tryz.prog (Instr.fieldAt 28 m_3 1) (fun t39_32 w =>
   opU Tryz.prog (Instr.storeAt 3 t39_32 t38_31) (fun _ w =>
   opW Tryz.prog (Instr.fieldAt 28 m_3 2) (fun t40_33 w =>
   opW Tryz.prog (Instr.loadAt 25 t40_33) (fun t41_34 w =>
   opW Tryz.prog (Instr.fieldAt 28 y_18 2) (fun t42_35 w =>
   opW Tryz.prog (Instr.loadAt 25 t42_35) (fun t43_36 w =>
   callW Tryz.prog (Value.func (Fn.func 39) #[] #[]) #[t41_34, t43_36] (fun t44_37 w =>
   opW Tryz.prog (Instr.fieldAt 28 m_3 2) (fun t45_38 w =>
   opU Tryz.prog (Instr.storeAt 25 t45_38 t44_37) (fun _ w =>
   opW Tryz.prog (Instr.fieldAt 28 m_3 4) (fun t46_39 w =>
   opW Tryz.prog (Instr.loadAt 25 t46_39) (fun t47_40 w =>
   opW Tryz.prog (Instr.fieldAt 28 y_18 4) (fun t48_41 w =>
   opW Tryz.prog (Instr.loadAt 25 t48_41) (fun t49_42 w =>
   callW Tryz.prog (Value.func (Fn.func 39) #[] #[]) #[t47_40, t49_42] (fun t50_43 w =>
   opW Tryz.prog (Instr.fieldAt 28 m_3 4) (fun t51_44 w =>
   opU Tryz.prog (Instr.storeAt 25 t51_44 t50_43) (fun _ w =>
   joinW (fun w =>
   joinW (fun out_181 w =>
   opW Tryz.prog (binS BinOp.add 3 (Operand.tmp 16) (Operand.const (Value.int IntKind.i64 1)) i_6 (Value.int IntKind.i64 1)) (fun t17_182 w =>
   loopK [] [] [x_1, m_3] [x_1, m_3] (K_7 out_181 t17_182 w)) w) (fun J_58 =>
   drewW w (fun w =>
   ∃ S : World → Prop, S w ∧
   takeW Tryz.prog anyW (Instr.fieldAt 28 m_3 0) (fun t66_59 =>
   takeW Tryz.prog S (Instr.loadAt 3 t66_59) (fun t67_60 =>
   takeW Tryz.prog anyW (Instr.fieldAt 28 m_3 1) (fun t68_61 =>
   takeW Tryz.prog S (Instr.loadAt 3 t68_61) (fun t69_62 =>
   takeW Tryz.prog anyW (Instr.fieldAt 28 m_3 2) (fun t71_63 =>
   takeW Tryz.prog S (Instr.loadAt 25 t71_63) (fun t72_64 =>
   takeW Tryz.prog anyW (Instr.fieldAt 28 m_3 3) (fun t75_65 =>
   takeW Tryz.prog S (Instr.loadAt 26 t75_65) (fun t76_66 =>
   takeW Tryz.prog anyW (Instr.fieldAt 28 m_3 4) (fun t79_67 =>
   takeW Tryz.prog S (Instr.loadAt 25 t79_67) (fun t80_68 =>
   ((opW Tryz.prog (Instr.buildSlice 25 0 #[]) (fun t70_69 w => keepS S (fun w =>
   ((opW Tryz.prog (Builtin.append_ #[25, 25] 25 #[t70_69, t72_64]) (fun t73_70 w => keepS S (fun w =>
   (opW Tryz.prog (Instr.buildSlice 26 0 #[]) (fun t74_71 w => keepS S (fun w =>
   (opW Tryz.prog (Builtin.append_ #[26, 26] 26 #[t74_71, t76_66]) (fun t77_72 w => keepS S (fun w =>
   opW Tryz.prog (Instr.buildSlice 25 0 #[]) (fun t78_73 w => keepS S (fun w =>
   opW Tryz.prog (Builtin.append_ #[25, 25] 25 #[t78_73, t80_68]) (fun t81_74 w => keepS S (fun w =>
   opW Tryz.prog (Instr.build 28 #[(0, t67_60), (1, t69_62), (2, t73_70), (3, t77_72), (4, t81_74)]) (fun t82_75 w => keepS S (fun w =>
   opW Tryz.prog (Instr.buildSlice 33 1 #[(0, t82_75)]) (fun t83_76 w => keepS S (fun w =>
   opW Tryz.prog (Builtin.append_ #[33, 33] 33 #[out_5, t83_76]) (fun t84_77 w => keepS S (fun w =>
   J_58 t84_77 w) w) w) w) w) w) w) w) w) w) w) w) w) ∧ (opW Tryz.prog (Instr.buildSlice 25 0 #[]) (fun t78_78 w => keepS S (fun w =>
   opW Tryz.prog (Builtin.append_ #[26, 26] 26 #[t74_71, t76_66]) (fun t77_79 w => keepS S (fun w =>
   opW Tryz.prog (Builtin.append_ #[25, 25] 25 #[t78_78, t80_68]) (fun t81_80 w => keepS S (fun w =>
   opW Tryz.prog (Instr.build 28 #[(0, t67_60), (1, t69_62), (2, t73_70), (3, t77_79), (4, t81_80)]) (fun t82_81 w => keepS S (fun w =>
   opW Tryz.prog (Instr.buildSlice 33 1 #[(0, t82_81)]) (fun t83_82 w => keepS S (fun w =>
   opW Tryz.prog (Builtin.append_ #[33, 33] 33 #[out_5, t83_82]) (fun t84_83 w => keepS S (fun w =>
   J_58 t84_83 w) w) w) w) w) w) w) w) w) w) w) w) w)) w) w) ∧ (opW Tryz.prog (Instr.buildSlice 25 0 #[]) (fun t78_84 w => keepS S (fun w =>
   opW Tryz.prog (Instr.buildSlice 26 0 #[]) (fun t74_85 w => keepS S (fun w =>
   opW Tryz.prog (Builtin.append_ #[26, 26] 26 #[t74_85, t76_66]) (fun t77_86 w => keepS S (fun w =>
   opW Tryz.prog (Builtin.append_ #[25, 25] 25 #[t78_84, t80_68]) (fun t81_87 w => keepS S (fun w =>
   opW Tryz.prog (Instr.build 28 #[(0, t67_60), (1, t69_62), (2, t73_70), (3, t77_86), (4, t81_87)]) (fun t82_88 w => keepS S (fun w =>
   opW Tryz.prog (Instr.buildSlice 33 1 #[(0, t82_88)]) (fun t83_89 w => keepS S (fun w =>
   opW Tryz.prog (Builtin.append_ #[33, 33] 33 #[out_5, t83_89]) (fun t84_90 w => keepS S (fun w =>
   J_58 t84_90 w) w) w) w) w) w) w) w) w) w) w) w) w) w) w)) w) w) ∧ (opW Tryz.prog (Instr.buildSlice 26 0 #[]) (fun t74_91 w => keepS S (fun w =>
   (opW Tryz.prog (Builtin.append_ #[25, 25] 25 #[t70_69, t72_64]) (fun t73_92 w => keepS S (fun w =>
   (opW Tryz.prog (Builtin.append_ #[26, 26] 26 #[t74_91, t76_66]) (fun t77_93 w => keepS S (fun w =>
   opW Tryz.prog (Instr.buildSlice 25 0 #[]) (fun t78_94 w => keepS S (fun w =>
   opW Tryz.prog (Builtin.append_ #[25, 25] 25 #[t78_94, t80_68]) (fun t81_95 w => keepS S (fun w =>
   opW Tryz.prog (Instr.build 28 #[(0, t67_60), (1, t69_62), (2, t73_92), (3, t77_93), (4, t81_95)]) (fun t82_96 w => keepS S (fun w =>
   opW Tryz.prog (Instr.buildSlice 33 1 #[(0, t82_96)]) (fun t83_97 w => keepS S (fun w =>
   opW Tryz.prog (Builtin.append_ #[33, 33] 33 #[out_5, t83_97]) (fun t84_98 w => keepS S (fun w =>
   J_58 t84_98 w) w) w) w) w) w) w) w) w) w) w) w) w) ∧ (opW Tryz.prog (Instr.buildSlice 25 0 #[]) (fun t78_99 w => keepS S (fun w =>
   opW Tryz.prog (Builtin.append_ #[26, 26] 26 #[t74_91, t76_66]) (fun t77_100 w => keepS S (fun w =>
   opW Tryz.prog (Builtin.append_ #[25, 25] 25 #[t78_99, t80_68]) (fun t81_101 w => keepS S (fun w =>
   opW Tryz.prog (Instr.build 28 #[(0, t67_60), (1, t69_62), (2, t73_92), (3, t77_100), (4, t81_101)]) (fun t82_102 w => keepS S (fun w =>
   opW Tryz.prog (Instr.buildSlice 33 1 #[(0, t82_102)]) (fun t83_103 w => keepS S (fun w =>
   opW Tryz.prog (Builtin.append_ #[33, 33] 33 #[out_5, t83_103]) (fun t84_104 w => keepS S (fun w =>
   J_58 t84_104 w) w) w) w) w) w) w) w) w) w) w) w) w)) w) w) ∧ (opW Tryz.prog (Instr.buildSlice 25 0 #[]) (fun t78_105 w => keepS S (fun w =>
   opW Tryz.prog (Builtin.append_ #[25, 25] 25 #[t70_69, t72_64]) (fun t73_106 w => keepS S (fun w =>
   opW Tryz.prog (Builtin.append_ #[26, 26] 26 #[t74_91, t76_66]) (fun t77_107 w => keepS S (fun w =>
   opW Tryz.prog (Builtin.append_ #[25, 25] 25 #[t78_105, t80_68]) (fun t81_108 w => keepS S (fun w =>
   opW Tryz.prog (Instr.build 28 #[(0, t67_60), (1, t69_62), (2, t73_106), (3, t77_107), (4, t81_108)]) (fun t82_109 w => keepS S (fun w =>
   opW Tryz.prog (Instr.buildSlice 33 1 #[(0, t82_109)]) (fun t83_110 w => keepS S (fun w =>
   opW Tryz.prog (Builtin.append_ #[33, 33] 33 #[out_5, t83_110]) (fun t84_111 w => keepS S (fun w =>
   J_58 t84_111 w) w) w) w) w) w) w) w) w) w) w) w) w) w) w)) w) w)) ∧ (opW Tryz.prog (Instr.buildSlice 25 0 #[]) (fun t78_112 w => keepS S (fun w =>
   (opW Tryz.prog (Builtin.append_ #[25, 25] 25 #[t70_69, t72_64]) (fun t73_113 w => keepS S (fun w =>
   opW Tryz.prog (Instr.buildSlice 26 0 #[]) (fun t74_114 w => keepS S (fun w =>
   opW Tryz.prog (Builtin.append_ #[26, 26] 26 #[t74_114, t76_66]) (fun t77_115 w => keepS S (fun w =>
   opW Tryz.prog (Builtin.append_ #[25, 25] 25 #[t78_112, t80_68]) (fun t81_116 w => keepS S (fun w =>
   opW Tryz.prog (Instr.build 28 #[(0, t67_60), (1, t69_62), (2, t73_113), (3, t77_115), (4, t81_116)]) (fun t82_117 w => keepS S (fun w =>
   opW Tryz.prog (Instr.buildSlice 33 1 #[(0, t82_117)]) (fun t83_118 w => keepS S (fun w =>
   opW Tryz.prog (Builtin.append_ #[33, 33] 33 #[out_5, t83_118]) (fun t84_119 w => keepS S (fun w =>
   J_58 t84_119 w) w) w) w) w) w) w) w) w) w) w) w) w) w) w) ∧ (opW Tryz.prog (Instr.buildSlice 26 0 #[]) (fun t74_120 w => keepS S (fun w =>
   opW Tryz.prog (Builtin.append_ #[25, 25] 25 #[t70_69, t72_64]) (fun t73_121 w => keepS S (fun w =>
   opW Tryz.prog (Builtin.append_ #[26, 26] 26 #[t74_120, t76_66]) (fun t77_122 w => keepS S (fun w =>
   opW Tryz.prog (Builtin.append_ #[25, 25] 25 #[t78_112, t80_68]) (fun t81_123 w => keepS S (fun w =>
   opW Tryz.prog (Instr.build 28 #[(0, t67_60), (1, t69_62), (2, t73_121), (3, t77_122), (4, t81_123)]) (fun t82_124 w => keepS S (fun w =>
   opW Tryz.prog (Instr.buildSlice 33 1 #[(0, t82_124)]) (fun t83_125 w => keepS S (fun w =>
   opW Tryz.prog (Builtin.append_ #[33, 33] 33 #[out_5, t83_125]) (fun t84_126 w => keepS S (fun w =>
   J_58 t84_126 w) w) w) w) w) w) w) w) w) w) w) w) w) w) w)) w) w)) w) w) ∧ (opW Tryz.prog (Instr.buildSlice 26 0 #[]) (fun t74_127 w => keepS S (fun w =>
   (opW Tryz.prog (Instr.buildSlice 25 0 #[]) (fun t70_128 w => keepS S (fun w =>
   (opW Tryz.prog (Builtin.append_ #[25, 25] 25 #[t70_128, t72_64]) (fun t73_129 w => keepS S (fun w =>
   (opW Tryz.prog (Builtin.append_ #[26, 26] 26 #[t74_127, t76_66]) (fun t77_130 w => keepS S (fun w =>
   opW Tryz.prog (Instr.buildSlice 25 0 #[]) (fun t78_131 w => keepS S (fun w =>
   opW Tryz.prog (Builtin.append_ #[25, 25] 25 #[t78_131, t80_68]) (fun t81_132 w => keepS S (fun w =>
   opW Tryz.prog (Instr.build 28 #[(0, t67_60), (1, t69_62), (2, t73_129), (3, t77_130), (4, t81_132)]) (fun t82_133 w => keepS S (fun w =>
   opW Tryz.prog (Instr.buildSlice 33 1 #[(0, t82_133)]) (fun t83_134 w => keepS S (fun w =>
   opW Tryz.prog (Builtin.append_ #[33, 33] 33 #[out_5, t83_134]) (fun t84_135 w => keepS S (fun w =>
   J_58 t84_135 w) w) w) w) w) w) w) w) w) w) w) w) w) ∧ (opW Tryz.prog (Instr.buildSlice 25 0 #[]) (fun t78_136 w => keepS S (fun w =>
   opW Tryz.prog (Builtin.append_ #[26, 26] 26 #[t74_127, t76_66]) (fun t77_137 w => keepS S (fun w =>
   opW Tryz.prog (Builtin.append_ #[25, 25] 25 #[t78_136, t80_68]) (fun t81_138 w => keepS S (fun w =>
   opW Tryz.prog (Instr.build 28 #[(0, t67_60), (1, t69_62), (2, t73_129), (3, t77_137), (4, t81_138)]) (fun t82_139 w => keepS S (fun w =>
   opW Tryz.prog (Instr.buildSlice 33 1 #[(0, t82_139)]) (fun t83_140 w => keepS S (fun w =>
   opW Tryz.prog (Builtin.append_ #[33, 33] 33 #[out_5, t83_140]) (fun t84_141 w => keepS S (fun w =>
   J_58 t84_141 w) w) w) w) w) w) w) w) w) w) w) w) w)) w) w) ∧ (opW Tryz.prog (Instr.buildSlice 25 0 #[]) (fun t78_142 w => keepS S (fun w =>
   opW Tryz.prog (Builtin.append_ #[25, 25] 25 #[t70_128, t72_64]) (fun t73_143 w => keepS S (fun w =>
   opW Tryz.prog (Builtin.append_ #[26, 26] 26 #[t74_127, t76_66]) (fun t77_144 w => keepS S (fun w =>
   opW Tryz.prog (Builtin.append_ #[25, 25] 25 #[t78_142, t80_68]) (fun t81_145 w => keepS S (fun w =>
   opW Tryz.prog (Instr.build 28 #[(0, t67_60), (1, t69_62), (2, t73_143), (3, t77_144), (4, t81_145)]) (fun t82_146 w => keepS S (fun w =>
   opW Tryz.prog (Instr.buildSlice 33 1 #[(0, t82_146)]) (fun t83_147 w => keepS S (fun w =>
   opW Tryz.prog (Builtin.append_ #[33, 33] 33 #[out_5, t83_147]) (fun t84_148 w => keepS S (fun w =>
   J_58 t84_148 w) w) w) w) w) w) w) w) w) w) w) w) w) w) w)) w) w) ∧ (opW Tryz.prog (Instr.buildSlice 25 0 #[]) (fun t78_149 w => keepS S (fun w =>
   opW Tryz.prog (Instr.buildSlice 25 0 #[]) (fun t70_150 w => keepS S (fun w =>
   opW Tryz.prog (Builtin.append_ #[25, 25] 25 #[t70_150, t72_64]) (fun t73_151 w => keepS S (fun w =>
   opW Tryz.prog (Builtin.append_ #[26, 26] 26 #[t74_127, t76_66]) (fun t77_152 w => keepS S (fun w =>
   opW Tryz.prog (Builtin.append_ #[25, 25] 25 #[t78_149, t80_68]) (fun t81_153 w => keepS S (fun w =>
   opW Tryz.prog (Instr.build 28 #[(0, t67_60), (1, t69_62), (2, t73_151), (3, t77_152), (4, t81_153)]) (fun t82_154 w => keepS S (fun w =>
   opW Tryz.prog (Instr.buildSlice 33 1 #[(0, t82_154)]) (fun t83_155 w => keepS S (fun w =>
   opW Tryz.prog (Builtin.append_ #[33, 33] 33 #[out_5, t83_155]) (fun t84_156 w => keepS S (fun w =>
   J_58 t84_156 w) w) w) w) w) w) w) w) w) w) w) w) w) w) w) w) w)) w) w)) ∧ (opW Tryz.prog (Instr.buildSlice 25 0 #[]) (fun t78_157 w => keepS S (fun w =>
   (opW Tryz.prog (Instr.buildSlice 25 0 #[]) (fun t70_158 w => keepS S (fun w =>
   (opW Tryz.prog (Builtin.append_ #[25, 25] 25 #[t70_158, t72_64]) (fun t73_159 w => keepS S (fun w =>
   opW Tryz.prog (Instr.buildSlice 26 0 #[]) (fun t74_160 w => keepS S (fun w =>
   opW Tryz.prog (Builtin.append_ #[26, 26] 26 #[t74_160, t76_66]) (fun t77_161 w => keepS S (fun w =>
   opW Tryz.prog (Builtin.append_ #[25, 25] 25 #[t78_157, t80_68]) (fun t81_162 w => keepS S (fun w =>
   opW Tryz.prog (Instr.build 28 #[(0, t67_60), (1, t69_62), (2, t73_159), (3, t77_161), (4, t81_162)]) (fun t82_163 w => keepS S (fun w =>
   opW Tryz.prog (Instr.buildSlice 33 1 #[(0, t82_163)]) (fun t83_164 w => keepS S (fun w =>
   opW Tryz.prog (Builtin.append_ #[33, 33] 33 #[out_5, t83_164]) (fun t84_165 w => keepS S (fun w =>
   J_58 t84_165 w) w) w) w) w) w) w) w) w) w) w) w) w) w) w) ∧ (opW Tryz.prog (Instr.buildSlice 26 0 #[]) (fun t74_166 w => keepS S (fun w =>
   opW Tryz.prog (Builtin.append_ #[25, 25] 25 #[t70_158, t72_64]) (fun t73_167 w => keepS S (fun w =>
   opW Tryz.prog (Builtin.append_ #[26, 26] 26 #[t74_166, t76_66]) (fun t77_168 w => keepS S (fun w =>
   opW Tryz.prog (Builtin.append_ #[25, 25] 25 #[t78_157, t80_68]) (fun t81_169 w => keepS S (fun w =>
   opW Tryz.prog (Instr.build 28 #[(0, t67_60), (1, t69_62), (2, t73_167), (3, t77_168), (4, t81_169)]) (fun t82_170 w => keepS S (fun w =>
   opW Tryz.prog (Instr.buildSlice 33 1 #[(0, t82_170)]) (fun t83_171 w => keepS S (fun w =>
   opW Tryz.prog (Builtin.append_ #[33, 33] 33 #[out_5, t83_171]) (fun t84_172 w => keepS S (fun w =>
   J_58 t84_172 w) w) w) w) w) w) w) w) w) w) w) w) w) w) w)) w) w) ∧ (opW Tryz.prog (Instr.buildSlice 26 0 #[]) (fun t74_173 w => keepS S (fun w =>
   opW Tryz.prog (Instr.buildSlice 25 0 #[]) (fun t70_174 w => keepS S (fun w =>
   opW Tryz.prog (Builtin.append_ #[25, 25] 25 #[t70_174, t72_64]) (fun t73_175 w => keepS S (fun w =>
   opW Tryz.prog (Builtin.append_ #[26, 26] 26 #[t74_173, t76_66]) (fun t77_176 w => keepS S (fun w =>
   opW Tryz.prog (Builtin.append_ #[25, 25] 25 #[t78_157, t80_68]) (fun t81_177 w => keepS S (fun w =>
   opW Tryz.prog (Instr.build 28 #[(0, t67_60), (1, t69_62), (2, t73_175), (3, t77_176), (4, t81_177)]) (fun t82_178 w => keepS S (fun w =>
   opW Tryz.prog (Instr.buildSlice 33 1 #[(0, t82_178)]) (fun t83_179 w => keepS S (fun w =>
   opW Tryz.prog (Builtin.append_ #[33, 33] 33 #[out_5, t83_179]) (fun t84_180 w => keepS S (fun w =>
   J_58 t84_180 w) w) w) w) w) w) w) w) w) w) w) w) w) w) w) w) w)) w) w)) w) w) w) w) w) w) w) w) w) w))) (fun J_45 =>
   opW Tryz.prog (Instr.fieldAt 28 y_18 3) (fun t52_46 w =>
   opW Tryz.prog (Instr.loadAt 26 t52_46) (fun t53_47 w =>
   opW Tryz.prog (Builtin.len_ #[26] 3 #[t53_47]) (fun t54_48 w =>
   opW Tryz.prog (binS BinOp.gtr 3 (Operand.tmp 54) (Operand.const (Value.int IntKind.i64 0)) t54_48 (Value.int IntKind.i64 0)) (fun t55_49 w =>
   guardW (some t55_49, true) (fun k w => opW Tryz.prog (Instr.fieldAt 28 m_3 3) k w) (fun t57_50 w =>
   guardW (some t55_49, true) (fun k w => opW Tryz.prog (Instr.loadAt 26 t57_50) k w) (fun t58_51 w =>
   guardW (some t55_49, true) (fun k w => opW Tryz.prog (Builtin.len_ #[26] 3 #[t58_51]) k w) (fun t59_52 w =>
   guardW (some t55_49, true) (fun k w => opW Tryz.prog (binS BinOp.eql 3 (Operand.tmp 59) (Operand.const (Value.int IntKind.i64 0)) t59_52 (Value.int IntKind.i64 0)) k w) (fun t60_53 w =>
   pickW t55_49 t60_53 (Value.bool false) (fun t61_54 w =>
   condW t61_54
   (opW Tryz.prog (Instr.fieldAt 28 y_18 3) (fun t62_55 w =>
   opW Tryz.prog (Instr.loadAt 26 t62_55) (fun t63_56 w =>
   opW Tryz.prog (Instr.fieldAt 28 m_3 3) (fun t64_57 w =>
   opU Tryz.prog (Instr.storeAt 26 t64_57 t63_56) (fun _ w =>
   J_45 w) w) w) w) w)
   (J_45 w)) w) w) w) w) w) w) w) w) w)) w) w) w) w) w) w) w) w) w) w) w) w) w) w) w) w) w) w) w) w) w) w) w) w) w) w) w) w) w) w)) w) w) w) w) w)
   (k out_5 w)) w) w) w) w) w) (Value.slice none 0 0) (Value.int IntKind.i64 0) w) w) w) w
theorem S11_vc (x_1 : Value) (k : Value → World → Prop) (w : World) : vc Tryz.prog Tryz.f11.ntmps ann11 none ((Tryz.f11.body).getD Code.skip) 1 (params 0 [x_1]) [] (finQ Tryz.prog Tryz.f11.results.toList k) w = S11 x_1 k w := by kernel_rfl
theorem S11_calls (x_1 : Value) (k : Value → World → Prop) (w : World) (h : S11 x_1 k w) : Calls Tryz.prog 11 #[x_1] w (retP k) :=
  calls_of_vc (fn := Tryz.f11) (c := (Tryz.f11.body).getD Code.skip) ann11 Tryz.func11 (by kernel_rfl) [x_1] w k (by kernel_rfl) ((S11_vc x_1 k w).symm ▸ h)
theorem C11 (x_1 : Value) (k : Value → World → Prop) (w : World) (h : S11 x_1 k w) : callW Tryz.prog (.func (.func 11) #[] #[]) #[x_1] k w :=
  callW_calls ok11 (by simpa using S11_calls x_1 k w h)

/-! newswire/newswirelaw26.small -/
def ann12 : Ann := []
def S12 (m_1 : Value) (k : Value → World → Prop) (w : World) : Prop :=
   opW Tryz.prog (Instr.box 28 m_1) (fun m_2 w =>
   opW Tryz.prog (Instr.alloc 28 true (Value.tuple #[])) (fun t2_3 w =>
   opW Tryz.prog (Instr.fieldAt 28 m_2 2) (fun t3_4 w =>
   opW Tryz.prog (Instr.loadAt 25 t3_4) (fun t4_5 w =>
   opW Tryz.prog (Instr.fieldAt 28 m_2 2) (fun t5_6 w =>
   opW Tryz.prog (Instr.loadAt 25 t5_6) (fun t6_7 w =>
   opW Tryz.prog (Builtin.len_ #[25] 3 #[t6_7]) (fun t7_8 w =>
   opW Tryz.prog (Builtin.min_ #[3, 3] 3 #[t7_8, (Value.int IntKind.i64 3)]) (fun t8_9 w =>
   opW Tryz.prog (Instr.sliceAt 25 t4_5 none (some t8_9) none) (fun t9_10 w =>
   opW Tryz.prog (Instr.fieldAt 28 m_2 2) (fun t10_11 w =>
   opU Tryz.prog (Instr.storeAt 25 t10_11 t9_10) (fun _ w =>
   opW Tryz.prog (Instr.fieldAt 28 m_2 3) (fun t11_12 w =>
   opW Tryz.prog (Instr.loadAt 26 t11_12) (fun t12_13 w =>
   opW Tryz.prog (Instr.fieldAt 28 m_2 3) (fun t13_14 w =>
   opW Tryz.prog (Instr.loadAt 26 t13_14) (fun t14_15 w =>
   opW Tryz.prog (Builtin.len_ #[26] 3 #[t14_15]) (fun t15_16 w =>
   opW Tryz.prog (Builtin.min_ #[3, 3] 3 #[t15_16, (Value.int IntKind.i64 3)]) (fun t16_17 w =>
   opW Tryz.prog (Instr.sliceAt 26 t12_13 none (some t16_17) none) (fun t17_18 w =>
   opW Tryz.prog (Instr.fieldAt 28 m_2 3) (fun t18_19 w =>
   opU Tryz.prog (Instr.storeAt 26 t18_19 t17_18) (fun _ w =>
   opW Tryz.prog (Instr.fieldAt 28 m_2 4) (fun t19_20 w =>
   opW Tryz.prog (Instr.loadAt 25 t19_20) (fun t20_21 w =>
   opW Tryz.prog (Instr.fieldAt 28 m_2 4) (fun t21_22 w =>
   opW Tryz.prog (Instr.loadAt 25 t21_22) (fun t22_23 w =>
   opW Tryz.prog (Builtin.len_ #[25] 3 #[t22_23]) (fun t23_24 w =>
   opW Tryz.prog (Builtin.min_ #[3, 3] 3 #[t23_24, (Value.int IntKind.i64 3)]) (fun t24_25 w =>
   opW Tryz.prog (Instr.sliceAt 25 t20_21 none (some t24_25) none) (fun t25_26 w =>
   opW Tryz.prog (Instr.fieldAt 28 m_2 4) (fun t26_27 w =>
   opU Tryz.prog (Instr.storeAt 25 t26_27 t25_26) (fun _ w =>
   opW Tryz.prog (Instr.loadAt 28 m_2) (fun t27_28 w =>
   opU Tryz.prog (Instr.storeAt 28 t2_3 t27_28) (fun _ w =>
   resCell Tryz.prog 28 t2_3 (fun r_29 => k r_29 w) w) w) w) w) w) w) w) w) w) w) w) w) w) w) w) w) w) w) w) w) w) w) w) w) w) w) w) w) w) w) w) w
theorem S12_vc (m_1 : Value) (k : Value → World → Prop) (w : World) : vc Tryz.prog Tryz.f12.ntmps ann12 none ((Tryz.f12.body).getD Code.skip) 1 (params 0 [m_1]) [] (finQ Tryz.prog Tryz.f12.results.toList k) w = S12 m_1 k w := by kernel_rfl
theorem S12_calls (m_1 : Value) (k : Value → World → Prop) (w : World) (h : S12 m_1 k w) : Calls Tryz.prog 12 #[m_1] w (retP k) :=
  calls_of_vc (fn := Tryz.f12) (c := (Tryz.f12.body).getD Code.skip) ann12 Tryz.func12 (by kernel_rfl) [m_1] w k (by kernel_rfl) ((S12_vc m_1 k w).symm ▸ h)
theorem C12 (m_1 : Value) (k : Value → World → Prop) (w : World) (h : S12 m_1 k w) : callW Tryz.prog (.func (.func 12) #[] #[]) #[m_1] k w :=
  callW_calls ok12 (by simpa using S12_calls m_1 k w h)

/-! newswire/newswirelaw26.pick -/
def ann13 : Ann := []
def S13 (c_1 n_2 : Value) (k : Value → World → Prop) (w : World) : Prop :=
   joinW (fun c_7 w =>
   opW Tryz.prog (binS BinOp.rem 3 (Operand.tmp 10) (Operand.tmp 11) c_7 n_2) (fun t12_8 w =>
   k t12_8 w) w) (fun J_3 =>
   opW Tryz.prog (binS BinOp.lss 3 (Operand.tmp 5) (Operand.const (Value.int IntKind.i64 0)) c_1 (Value.int IntKind.i64 0)) (fun t6_4 w =>
   condW t6_4
   (opW Tryz.prog (binS BinOp.add 3 (Operand.tmp 7) (Operand.const (Value.int IntKind.i64 1)) c_1 (Value.int IntKind.i64 1)) (fun t8_5 w =>
   opW Tryz.prog (Op.unary UnOp.neg t8_5) (fun t9_6 w =>
   J_3 t9_6 w) w) w)
   (J_3 c_1 w)) w)
theorem S13_vc (c_1 n_2 : Value) (k : Value → World → Prop) (w : World) : vc Tryz.prog Tryz.f13.ntmps ann13 none ((Tryz.f13.body).getD Code.skip) 1 (params 0 [c_1, n_2]) [] (finQ Tryz.prog Tryz.f13.results.toList k) w = S13 c_1 n_2 k w := by kernel_rfl
theorem S13_calls (c_1 n_2 : Value) (k : Value → World → Prop) (w : World) (h : S13 c_1 n_2 k w) : Calls Tryz.prog 13 #[c_1, n_2] w (retP k) :=
  calls_of_vc (fn := Tryz.f13) (c := (Tryz.f13.body).getD Code.skip) ann13 Tryz.func13 (by kernel_rfl) [c_1, n_2] w k (by kernel_rfl) ((S13_vc c_1 n_2 k w).symm ▸ h)
theorem C13 (c_1 n_2 : Value) (k : Value → World → Prop) (w : World) (h : S13 c_1 n_2 k w) : callW Tryz.prog (.func (.func 13) #[] #[]) #[c_1, n_2] k w :=
  callW_calls ok13 (by simpa using S13_calls c_1 n_2 k w h)

/-! newswire/newswireref26.Items -/
def ann14 : Ann := [(29, Note.keep [5]), (58, Note.loop [5, 6] [0, 1]), (466, Note.keep [0, 1, 5, 6]), (3730, Note.bag)]
def S14 (x_1 most_2 : Value) (k : Value → World → Prop) (w : World) : Prop :=
   Loop2 (fun out_4 i_5 w K_6 =>
   opW Tryz.prog (Builtin.len_ #[22] 3 #[x_1]) (fun t11_8 w =>
   opW Tryz.prog (binS BinOp.lss 3 (Operand.tmp 9) (Operand.tmp 11) i_5 t11_8) (fun t12_9 w =>
   guardW (some t12_9, true) (fun k w => k i_5 w) (fun t14_10 w =>
   guardW (some t12_9, true) (fun k w => k most_2 w) (fun t15_11 w =>
   guardW (some t12_9, true) (fun k w => opW Tryz.prog (binS BinOp.lss 3 (Operand.tmp 14) (Operand.tmp 15) t14_10 t15_11) k w) (fun t16_12 w =>
   pickW t12_9 t16_12 (Value.bool false) (fun t17_13 w =>
   condW t17_13
   (opW Tryz.prog (Instr.indexAt 22 x_1 i_5) (fun t22_15 w =>
   opW Tryz.prog (Instr.loadAt 84 t22_15) (fun t23_16 w =>
   opW Tryz.prog (Instr.alloc 84 true (Value.tuple #[])) (fun y_17 w =>
   opU Tryz.prog (Instr.storeAt 84 y_17 t23_16) (fun _ w =>
   drewW w (fun w =>
   ∃ Ψ : World → Prop, ∃ Φ : Nat → Value → World → Prop, Ψ w ∧
   (∀ w, Ψ w → ∀ t24_19, Φ 0 t24_19 w → ∀ t25_20, Φ 1 t25_20 w → ∀ t26_21, Φ 2 t26_21 w → ∀ t27_22, Φ 3 t27_22 w → ∀ t28_23, Φ 4 t28_23 w → ∀ t29_24, Φ 5 t29_24 w → ∀ t30_25, Φ 6 t30_25 w → ∀ t31_26, Φ 7 t31_26 w → ∀ t32_27, Φ 8 t32_27 w → ∀ t33_28, Φ 9 t33_28 w → ∀ t34_29, Φ 10 t34_29 w → ∀ t35_30, Φ 11 t35_30 w → ∀ t36_31, Φ 12 t36_31 w → ∀ t37_32, Φ 13 t37_32 w → ∀ t38_33, Φ 14 t38_33 w → ∀ t39_34, Φ 15 t39_34 w → ∀ t40_35, Φ 16 t40_35 w → ∀ t41_36, Φ 17 t41_36 w → ∀ t42_37, Φ 18 t42_37 w → ∀ t43_38, Φ 19 t43_38 w → ∀ t44_39, Φ 20 t44_39 w → ∀ t45_40, Φ 21 t45_40 w → ∀ item_41, Φ 22 item_41 w → Φ 23 (Value.tuple #[t45_40, item_41]) w → joinW (fun w =>
   opW Tryz.prog (Instr.loadAt 63 item_41) (fun t77_73 w =>
   opW Tryz.prog (Instr.buildSlice 24 1 #[(0, t77_73)]) (fun t78_74 w =>
   opW Tryz.prog (Builtin.append_ #[24, 24] 24 #[out_4, t78_74]) (fun t79_75 w =>
   opW Tryz.prog (binS BinOp.add 3 (Operand.tmp 18) (Operand.const (Value.int IntKind.i64 1)) i_5 (Value.int IntKind.i64 1)) (fun t19_99 w =>
   loopK [] [] [x_1, most_2] [x_1, most_2] (K_6 t79_75 t19_99 w)) w) w) w) w) (fun J_42 =>
   opW Tryz.prog (Instr.indexAt 84 y_17 (Value.int IntKind.i64 8)) (fun t46_43 w =>
   opW Tryz.prog (Instr.loadAt 3 t46_43) (fun t47_44 w =>
   callW Tryz.prog (Value.func (Fn.func 38) #[] #[]) #[t47_44, (Value.int IntKind.i64 3)] (fun t48_45 w =>
   opW Tryz.prog (binS BinOp.gtr 3 (Operand.tmp 48) (Operand.const (Value.int IntKind.i64 0)) t48_45 (Value.int IntKind.i64 0)) (fun t49_46 w =>
   condW t49_46
   (opW Tryz.prog (Instr.indexAt 84 y_17 (Value.int IntKind.i64 2)) (fun t50_47 w =>
   opW Tryz.prog (Instr.loadAt 3 t50_47) (fun t51_48 w =>
   opW Tryz.prog (Instr.indexAt 84 y_17 (Value.int IntKind.i64 3)) (fun t52_49 w =>
   opW Tryz.prog (Instr.loadAt 3 t52_49) (fun t53_50 w =>
   opW Tryz.prog (Instr.indexAt 84 y_17 (Value.int IntKind.i64 4)) (fun t54_51 w =>
   opW Tryz.prog (Instr.loadAt 3 t54_51) (fun t55_52 w =>
   opW Tryz.prog (Instr.indexAt 84 y_17 (Value.int IntKind.i64 5)) (fun t56_53 w =>
   opW Tryz.prog (Instr.loadAt 3 t56_53) (fun t57_54 w =>
   opW Tryz.prog (Instr.indexAt 84 y_17 (Value.int IntKind.i64 6)) (fun t58_55 w =>
   opW Tryz.prog (Instr.loadAt 3 t58_55) (fun t59_56 w =>
   opW Tryz.prog (Instr.indexAt 84 y_17 (Value.int IntKind.i64 7)) (fun t60_57 w =>
   opW Tryz.prog (Instr.loadAt 3 t60_57) (fun t61_58 w =>
   opW Tryz.prog (Instr.indexAt 84 y_17 (Value.int IntKind.i64 8)) (fun t62_59 w =>
   opW Tryz.prog (Instr.loadAt 3 t62_59) (fun t63_60 w =>
   opW Tryz.prog (Instr.build 71 #[(0, t51_48), (1, t53_50), (2, t55_52), (3, t57_54), (4, t59_56), (5, t61_58), (6, t63_60)]) (fun t64_61 w =>
   callW Tryz.prog (Value.func (Fn.func 32) #[] #[]) #[t64_61] (fun t65_62 w =>
   opW Tryz.prog (Instr.fieldAt 63 item_41 1) (fun t66_63 w =>
   opU Tryz.prog (Instr.storeAt 61 t66_63 t65_62) (fun _ w =>
   opW Tryz.prog (Instr.indexAt 84 y_17 (Value.int IntKind.i64 8)) (fun t67_64 w =>
   opW Tryz.prog (Instr.loadAt 3 t67_64) (fun t68_65 w =>
   callW Tryz.prog (Value.func (Fn.func 38) #[] #[]) #[t68_65, (Value.int IntKind.i64 6)] (fun t69_66 w =>
   opW Tryz.prog (binS BinOp.lss 3 (Operand.tmp 69) (Operand.const (Value.int IntKind.i64 5)) t69_66 (Value.int IntKind.i64 5)) (fun t70_67 w =>
   condW t70_67
   (opW Tryz.prog (Instr.indexAt 84 y_17 (Value.int IntKind.i64 2)) (fun t71_68 w =>
   opW Tryz.prog (Instr.loadAt 3 t71_68) (fun t72_69 w =>
   callW Tryz.prog (Value.func (Fn.func 38) #[] #[]) #[t72_69, (Value.int IntKind.i64 60)] (fun t73_70 w =>
   opW Tryz.prog (Instr.fieldAt 63 item_41 1) (fun t74_71 w =>
   opW Tryz.prog (Instr.fieldAt 61 t74_71 0) (fun t75_72 w =>
   opU Tryz.prog (Instr.storeAt 3 t75_72 t73_70) (fun _ w =>
   J_42 w) w) w) w) w) w) w)
   (J_42 w)) w) w) w) w) w) w) w) w) w) w) w) w) w) w) w) w) w) w) w) w) w) w)
   (J_42 w)) w) w) w) w)) ∧
   (∀ w, Ψ w → opW Tryz.prog (Instr.indexAt 84 y_17 (Value.int IntKind.i64 0)) (fun t24_76 w_1 => bagK Φ Ψ 0 w t24_76 w_1) w) ∧
   (∀ w, Ψ w → ∀ t24_19, Φ 0 t24_19 w → opW Tryz.prog (Instr.loadAt 3 t24_19) (fun t25_77 w_1 => bagK Φ Ψ 1 w t25_77 w_1) w) ∧
   (∀ w, Ψ w → ∀ t25_20, Φ 1 t25_20 w → callW Tryz.prog (Value.func (Fn.func 38) #[] #[]) #[t25_20, (Value.int IntKind.i64 40)] (fun t26_78 w_1 => bagK Φ Ψ 2 w t26_78 w_1) w) ∧
   (∀ w, Ψ w → callW Tryz.prog (Value.func (Fn.func 40) #[] #[]) #[] (fun t27_79 w_1 => bagK Φ Ψ 3 w t27_79 w_1) w) ∧
   (∀ w, Ψ w → opW Tryz.prog (Instr.indexAt 84 y_17 (Value.int IntKind.i64 1)) (fun t28_80 w_1 => bagK Φ Ψ 4 w t28_80 w_1) w) ∧
   (∀ w, Ψ w → ∀ t28_23, Φ 4 t28_23 w → opW Tryz.prog (Instr.loadAt 3 t28_23) (fun t29_81 w_1 => bagK Φ Ψ 5 w t29_81 w_1) w) ∧
   (∀ w, Ψ w → ∀ t29_24, Φ 5 t29_24 w → callW Tryz.prog (Value.func (Fn.func 38) #[] #[]) #[t29_24, (Value.int IntKind.i64 3)] (fun t30_82 w_1 => bagK Φ Ψ 6 w t30_82 w_1) w) ∧
   (∀ w, Ψ w → ∀ t30_25, Φ 6 t30_25 w → opW Tryz.prog (binS BinOp.add 3 (Operand.const (Value.int IntKind.i64 1)) (Operand.tmp 30) (Value.int IntKind.i64 1) t30_25) (fun t31_83 w_1 => bagK Φ Ψ 7 w t31_83 w_1) w) ∧
   (∀ w, Ψ w → opW Tryz.prog (Instr.buildSlice 31 5 #[(0, (Value.string { data := #[114, 97, 105, 110] })), (1, (Value.string { data := #[119, 97, 114] })), (2, (Value.string { data := #[120] })), (3, (Value.string { data := #[97, 32, 102, 108, 97, 115, 104, 32, 111, 102, 32, 115, 111, 109, 101, 32, 108, 101, 110, 103, 116, 104] })), (4, (Value.string { data := #[0, 1] }))]) (fun t32_84 w_1 => bagK Φ Ψ 8 w t32_84 w_1) w) ∧
   (∀ w, Ψ w → opW Tryz.prog (Instr.indexAt 84 y_17 (Value.int IntKind.i64 1)) (fun t33_85 w_1 => bagK Φ Ψ 9 w t33_85 w_1) w) ∧
   (∀ w, Ψ w → ∀ t33_28, Φ 9 t33_28 w → opW Tryz.prog (Instr.loadAt 3 t33_28) (fun t34_86 w_1 => bagK Φ Ψ 10 w t34_86 w_1) w) ∧
   (∀ w, Ψ w → ∀ t34_29, Φ 10 t34_29 w → opW Tryz.prog (binS BinOp.quo 3 (Operand.tmp 34) (Operand.const (Value.int IntKind.i64 3)) t34_29 (Value.int IntKind.i64 3)) (fun t35_87 w_1 => bagK Φ Ψ 11 w t35_87 w_1) w) ∧
   (∀ w, Ψ w → ∀ t35_30, Φ 11 t35_30 w → callW Tryz.prog (Value.func (Fn.func 38) #[] #[]) #[t35_30, (Value.int IntKind.i64 5)] (fun t36_88 w_1 => bagK Φ Ψ 12 w t36_88 w_1) w) ∧
   (∀ w, Ψ w → ∀ t32_27, Φ 8 t32_27 w → ∀ t36_31, Φ 12 t36_31 w → opW Tryz.prog (Instr.indexAt 31 t32_27 t36_31) (fun t37_89 w_1 => bagK Φ Ψ 13 w t37_89 w_1) w) ∧
   (∀ w, Ψ w → ∀ t37_32, Φ 13 t37_32 w → opW Tryz.prog (Instr.loadAt 9 t37_32) (fun t38_90 w_1 => bagK Φ Ψ 14 w t38_90 w_1) w) ∧
   (∀ w, Ψ w → (fun t39_91 w_1 => bagK Φ Ψ 15 w t39_91 w_1) i_5 w) ∧
   (∀ w, Ψ w → ∀ t39_34, Φ 15 t39_34 w → opW Tryz.prog (binS BinOp.add 3 (Operand.const (Value.int IntKind.i64 97)) (Operand.tmp 39) (Value.int IntKind.i64 97) t39_34) (fun t40_92 w_1 => bagK Φ Ψ 16 w t40_92 w_1) w) ∧
   (∀ w, Ψ w → ∀ t40_35, Φ 16 t40_35 w → opW Tryz.prog (convert 3 5 t40_35) (fun t41_93 w_1 => bagK Φ Ψ 17 w t41_93 w_1) w) ∧
   (∀ w, Ψ w → ∀ t41_36, Φ 17 t41_36 w → opW Tryz.prog (Instr.buildSlice 85 1 #[(0, t41_36)]) (fun t42_94 w_1 => bagK Φ Ψ 18 w t42_94 w_1) w) ∧
   (∀ w, Ψ w → ∀ t42_37, Φ 18 t42_37 w → opW Tryz.prog (convert 85 9 t42_37) (fun t43_95 w_1 => bagK Φ Ψ 19 w t43_95 w_1) w) ∧
   (∀ w, Ψ w → ∀ t38_33, Φ 14 t38_33 w → ∀ t43_38, Φ 19 t43_38 w → opW Tryz.prog (binS BinOp.add 9 (Operand.tmp 38) (Operand.tmp 43) t38_33 t43_38) (fun t44_96 w_1 => bagK Φ Ψ 20 w t44_96 w_1) w) ∧
   (∀ w, Ψ w → ∀ t26_21, Φ 2 t26_21 w → ∀ t27_22, Φ 3 t27_22 w → ∀ t31_26, Φ 7 t31_26 w → ∀ t44_39, Φ 20 t44_39 w → opW Tryz.prog (Instr.build 63 #[(0, t26_21), (1, t27_22), (2, t31_26), (3, t44_39)]) (fun t45_97 w_1 => bagK Φ Ψ 21 w t45_97 w_1) w) ∧
   (∀ w, Ψ w → opW Tryz.prog (Instr.alloc 63 true (Value.tuple #[])) (fun item_98 w_1 => bagK Φ Ψ 22 w item_98 w_1) w) ∧
   (∀ w, Ψ w → ∀ t45_40, Φ 21 t45_40 w → ∀ item_41, Φ 22 item_41 w → opU Tryz.prog (Instr.storeAt 63 item_41 t45_40) (fun _v w_1 => bagK Φ Ψ 23 w (Value.tuple #[t45_40, item_41]) w_1) w) ∧ True)) w) w) w) w)
   (k out_4 w)) w) w) w) w) w) w) (Value.slice none 0 0) (Value.int IntKind.i64 0) w
theorem S14_vc (x_1 most_2 : Value) (k : Value → World → Prop) (w : World) : vc Tryz.prog Tryz.f14.ntmps ann14 none ((Tryz.f14.body).getD Code.skip) 1 (params 0 [x_1, most_2]) [] (finQ Tryz.prog Tryz.f14.results.toList k) w = S14 x_1 most_2 k w := by kernel_rfl
theorem S14_calls (x_1 most_2 : Value) (k : Value → World → Prop) (w : World) (h : S14 x_1 most_2 k w) : Calls Tryz.prog 14 #[x_1, most_2] w (retP k) :=
  calls_of_vc (fn := Tryz.f14) (c := (Tryz.f14.body).getD Code.skip) ann14 Tryz.func14 (by kernel_rfl) [x_1, most_2] w k (by kernel_rfl) ((S14_vc x_1 most_2 k w).symm ▸ h)
theorem C14 (x_1 most_2 : Value) (k : Value → World → Prop) (w : World) (h : S14 x_1 most_2 k w) : callW Tryz.prog (.func (.func 14) #[] #[]) #[x_1, most_2] k w :=
  callW_calls ok14 (by simpa using S14_calls x_1 most_2 k w h)

/-! newswire/newswirelaw26.few -/
def ann15 : Ann := [(29, Note.keep [3]), (58, Note.loop [3, 4] [0]), (466, Note.keep [0, 3, 4]), (119421, Note.keep [0, 3, 4, 5]), (238842, Note.loop [6] [0, 3, 4, 5]), (1910738, Note.keep [0, 3, 4, 5, 6]), (3821476, Note.plan (Plan.takeP 0 (Plan.takeP 1 (Plan.takeX 2 (Plan.takeP 3 (Plan.takeP 4 (Plan.takeP 5 (Plan.takeX 6 (Plan.takeP 7 (Plan.takeP 8 (Plan.takeP 9 (Plan.takeX 10 (Plan.takeP 11 (Plan.takeP 12 (Plan.takeX 13 (Plan.takeP 14 (Plan.takeP 15 (Plan.takeP 16 (Plan.takeX 17 (Plan.takeP 18 (Plan.takeP 19 (Plan.takeP 20 (Plan.takeP 21 (Plan.takeP 22 (Plan.run 23 Plan.done)))))))))))))))))))))))))]
def S15 (l_1 : Value) (k : Value → World → Prop) (w : World) : Prop :=
   Loop2 (fun out_3 i_4 w K_5 =>
   opW Tryz.prog (Builtin.len_ #[24] 3 #[l_1]) (fun t9_7 w =>
   opW Tryz.prog (binS BinOp.lss 3 (Operand.tmp 7) (Operand.tmp 9) i_4 t9_7) (fun t10_8 w =>
   guardW (some t10_8, true) (fun k w => k i_4 w) (fun t12_9 w =>
   guardW (some t10_8, true) (fun k w => opW Tryz.prog (binS BinOp.lss 3 (Operand.tmp 12) (Operand.const (Value.int IntKind.i64 4)) t12_9 (Value.int IntKind.i64 4)) k w) (fun t13_10 w =>
   pickW t10_8 t13_10 (Value.bool false) (fun t14_11 w =>
   condW t14_11
   (opW Tryz.prog (Instr.indexAt 24 l_1 i_4) (fun t19_13 w =>
   opW Tryz.prog (Instr.loadAt 63 t19_13) (fun t20_14 w =>
   opW Tryz.prog (Instr.alloc 63 true (Value.tuple #[])) (fun x_15 w =>
   opU Tryz.prog (Instr.storeAt 63 x_15 t20_14) (fun _ w =>
   opW Tryz.prog (Instr.fieldAt 63 x_15 3) (fun t21_16 w =>
   opW Tryz.prog (Instr.loadAt 9 t21_16) (fun t22_17 w =>
   opW Tryz.prog (Instr.fieldAt 63 x_15 3) (fun t23_18 w =>
   opW Tryz.prog (Instr.loadAt 9 t23_18) (fun t24_19 w =>
   opW Tryz.prog (Builtin.len_ #[9] 3 #[t24_19]) (fun t25_20 w =>
   opW Tryz.prog (Builtin.min_ #[3, 3] 3 #[t25_20, (Value.int IntKind.i64 62)]) (fun t26_21 w =>
   opW Tryz.prog (Instr.sliceAt 9 t22_17 none (some t26_21) none) (fun t27_22 w =>
   opW Tryz.prog (Instr.fieldAt 63 x_15 3) (fun t28_23 w =>
   opU Tryz.prog (Instr.storeAt 9 t28_23 t27_22) (fun _ w =>
   opW Tryz.prog (Instr.fieldAt 63 x_15 1) (fun t29_24 w =>
   opW Tryz.prog (Instr.fieldAt 61 t29_24 1) (fun t30_25 w =>
   opW Tryz.prog (Instr.loadAt 25 t30_25) (fun t31_26 w =>
   opW Tryz.prog (Instr.fieldAt 63 x_15 1) (fun t32_27 w =>
   opW Tryz.prog (Instr.fieldAt 61 t32_27 1) (fun t33_28 w =>
   opW Tryz.prog (Instr.loadAt 25 t33_28) (fun t34_29 w =>
   opW Tryz.prog (Builtin.len_ #[25] 3 #[t34_29]) (fun t35_30 w =>
   opW Tryz.prog (Builtin.min_ #[3, 3] 3 #[t35_30, (Value.int IntKind.i64 3)]) (fun t36_31 w =>
   opW Tryz.prog (Instr.sliceAt 25 t31_26 none (some t36_31) none) (fun t37_32 w =>
   opW Tryz.prog (Instr.fieldAt 63 x_15 1) (fun t38_33 w =>
   opW Tryz.prog (Instr.fieldAt 61 t38_33 1) (fun t39_34 w =>
   opU Tryz.prog (Instr.storeAt 25 t39_34 t37_32) (fun _ w =>
   opW Tryz.prog (Instr.fieldAt 63 x_15 1) (fun t40_35 w =>
   opW Tryz.prog (Instr.fieldAt 61 t40_35 2) (fun t41_36 w =>
   opW Tryz.prog (Instr.loadAt 26 t41_36) (fun t42_37 w =>
   opW Tryz.prog (Instr.fieldAt 63 x_15 1) (fun t43_38 w =>
   opW Tryz.prog (Instr.fieldAt 61 t43_38 2) (fun t44_39 w =>
   opW Tryz.prog (Instr.loadAt 26 t44_39) (fun t45_40 w =>
   opW Tryz.prog (Builtin.len_ #[26] 3 #[t45_40]) (fun t46_41 w =>
   opW Tryz.prog (Builtin.min_ #[3, 3] 3 #[t46_41, (Value.int IntKind.i64 3)]) (fun t47_42 w =>
   opW Tryz.prog (Instr.sliceAt 26 t42_37 none (some t47_42) none) (fun t48_43 w =>
   opW Tryz.prog (Instr.fieldAt 63 x_15 1) (fun t49_44 w =>
   opW Tryz.prog (Instr.fieldAt 61 t49_44 2) (fun t50_45 w =>
   opU Tryz.prog (Instr.storeAt 26 t50_45 t48_43) (fun _ w =>
   opW Tryz.prog (Instr.buildSlice 59 0 #[]) (fun t51_46 w =>
   opW Tryz.prog (Instr.fieldAt 63 x_15 1) (fun t52_47 w =>
   opW Tryz.prog (Instr.fieldAt 61 t52_47 5) (fun t53_48 w =>
   opW Tryz.prog (Instr.loadAt 59 t53_48) (fun t54_49 w =>
   opW Tryz.prog (Instr.fieldAt 63 x_15 1) (fun t55_50 w =>
   opW Tryz.prog (Instr.fieldAt 61 t55_50 5) (fun t56_51 w =>
   opW Tryz.prog (Instr.loadAt 59 t56_51) (fun t57_52 w =>
   opW Tryz.prog (Builtin.len_ #[59] 3 #[t57_52]) (fun t58_53 w =>
   opW Tryz.prog (Builtin.min_ #[3, 3] 3 #[t58_53, (Value.int IntKind.i64 3)]) (fun t59_54 w =>
   opW Tryz.prog (Instr.sliceAt 59 t54_49 none (some t59_54) none) (fun t60_55 w =>
   opW Tryz.prog (Builtin.append_ #[59, 59] 59 #[t51_46, t60_55]) (fun t61_56 w =>
   opW Tryz.prog (Instr.fieldAt 63 x_15 1) (fun t62_57 w =>
   opW Tryz.prog (Instr.fieldAt 61 t62_57 5) (fun t63_58 w =>
   opU Tryz.prog (Instr.storeAt 59 t63_58 t61_56) (fun _ w =>
   Loop1 (fun k_60 w K_61 =>
   opW Tryz.prog (Instr.fieldAt 63 x_15 1) (fun t65_63 w =>
   opW Tryz.prog (Instr.fieldAt 61 t65_63 5) (fun t66_64 w =>
   opW Tryz.prog (Instr.loadAt 59 t66_64) (fun t67_65 w =>
   opW Tryz.prog (Builtin.len_ #[59] 3 #[t67_65]) (fun t68_66 w =>
   opW Tryz.prog (binS BinOp.lss 3 (Operand.tmp 64) (Operand.tmp 68) k_60 t68_66) (fun t69_67 w =>
   condW t69_67
   (drewW w (fun w =>
   takeW Tryz.prog anyW (Instr.fieldAt 63 x_15 1) (fun t72_70 =>
   takeW Tryz.prog anyW (Instr.fieldAt 61 t72_70 5) (fun t73_71 =>
   takeW Tryz.prog (sameW w) (Instr.loadAt 59 t73_71) (fun t74_72 =>
   takeW Tryz.prog anyW (Instr.fieldAt 63 x_15 1) (fun t76_73 =>
   takeW Tryz.prog anyW (Instr.fieldAt 61 t76_73 5) (fun t77_74 =>
   takeW Tryz.prog (sameW w) (Instr.loadAt 59 t77_74) (fun t78_75 =>
   takeW Tryz.prog anyW (Instr.indexAt 59 t78_75 k_60) (fun t80_76 =>
   takeW Tryz.prog anyW (Instr.fieldAt 87 t80_76 1) (fun t81_77 =>
   takeW Tryz.prog (sameW w) (Instr.loadAt 25 t81_77) (fun t82_78 =>
   takeW Tryz.prog anyW (Instr.fieldAt 63 x_15 1) (fun t83_79 =>
   takeW Tryz.prog anyW (Instr.fieldAt 61 t83_79 5) (fun t84_80 =>
   takeW Tryz.prog (sameW w) (Instr.loadAt 59 t84_80) (fun t85_81 =>
   takeW Tryz.prog anyW (Instr.indexAt 59 t85_81 k_60) (fun t87_82 =>
   takeW Tryz.prog anyW (Instr.fieldAt 87 t87_82 1) (fun t88_83 =>
   takeW Tryz.prog (sameW w) (Instr.loadAt 25 t88_83) (fun t89_84 =>
   takeW Tryz.prog anyW (Builtin.len_ #[25] 3 #[t89_84]) (fun t90_85 =>
   takeW Tryz.prog anyW (Builtin.min_ #[3, 3] 3 #[t90_85, (Value.int IntKind.i64 3)]) (fun t91_86 =>
   takeW Tryz.prog anyW (Instr.sliceAt 25 t82_78 none (some t91_86) none) (fun t92_87 =>
   takeW Tryz.prog anyW (Instr.indexAt 59 t74_72 k_60) (fun t93_88 =>
   takeW Tryz.prog anyW (Instr.fieldAt 87 t93_88 1) (fun t94_89 =>
   opU Tryz.prog (Instr.storeAt 25 t94_89 t92_87) (fun _ w =>
   opW Tryz.prog (binS BinOp.add 3 (Operand.tmp 70) (Operand.const (Value.int IntKind.i64 1)) k_60 (Value.int IntKind.i64 1)) (fun t71_90 w =>
   loopK [] [] [l_1, out_3, i_4, x_15] [l_1, out_3, i_4, x_15] (K_61 t71_90 w)) w) w) w) w) w) w) w) w) w) w) w) w) w) w) w) w) w) w) w) w) w) w))
   (opW Tryz.prog (Instr.loadAt 63 x_15) (fun t96_91 w =>
   opW Tryz.prog (Instr.buildSlice 24 1 #[(0, t96_91)]) (fun t97_92 w =>
   opW Tryz.prog (Builtin.append_ #[24, 24] 24 #[out_3, t97_92]) (fun t98_93 w =>
   opW Tryz.prog (binS BinOp.add 3 (Operand.tmp 15) (Operand.const (Value.int IntKind.i64 1)) i_4 (Value.int IntKind.i64 1)) (fun t16_94 w =>
   loopK [] [] [l_1] [l_1] (K_5 t98_93 t16_94 w)) w) w) w) w)) w) w) w) w) w) (Value.int IntKind.i64 0) w) w) w) w) w) w) w) w) w) w) w) w) w) w) w) w) w) w) w) w) w) w) w) w) w) w) w) w) w) w) w) w) w) w) w) w) w) w) w) w) w) w) w) w) w) w) w) w) w) w) w) w)
   (k out_3 w)) w) w) w) w) w) (Value.slice none 0 0) (Value.int IntKind.i64 0) w
theorem S15_vc (l_1 : Value) (k : Value → World → Prop) (w : World) : vc Tryz.prog Tryz.f15.ntmps ann15 none ((Tryz.f15.body).getD Code.skip) 1 (params 0 [l_1]) [] (finQ Tryz.prog Tryz.f15.results.toList k) w = S15 l_1 k w := by kernel_rfl
theorem S15_calls (l_1 : Value) (k : Value → World → Prop) (w : World) (h : S15 l_1 k w) : Calls Tryz.prog 15 #[l_1] w (retP k) :=
  calls_of_vc (fn := Tryz.f15) (c := (Tryz.f15.body).getD Code.skip) ann15 Tryz.func15 (by kernel_rfl) [l_1] w k (by kernel_rfl) ((S15_vc l_1 k w).symm ▸ h)
theorem C15 (l_1 : Value) (k : Value → World → Prop) (w : World) (h : S15 l_1 k w) : callW Tryz.prog (.func (.func 15) #[] #[]) #[l_1] k w :=
  callW_calls ok15 (by simpa using S15_calls l_1 k w h)

/-! newswire/flow.Seen -/
def ann16 : Ann := [(61, Note.keep [0, 8]), (245, Note.keep []), (253, Note.keep [13]), (506, Note.loop [13, 48] [8, 46, 47]), (981, Note.keep []), (1962, Note.loop [32] [8, 30, 31]), (8102, Note.keep [8, 13, 46, 47, 48]), (31398, Note.keep [8, 30, 31, 32]), (125593, Note.plan (Plan.takeX 0 (Plan.takeP 1 (Plan.takeP 2 (Plan.takeP 3 (Plan.takeP 4 (Plan.takeX 5 (Plan.takeP 6 (Plan.takeP 7 (Plan.run 8 Plan.done))))))))))]
def S16 (l_1 reader_2 moments_3 : Value) (k : Value → World → Prop) (w : World) : Prop :=
   opW Tryz.prog (Instr.box 30 reader_2) (fun reader_4 w =>
   opW Tryz.prog (Instr.loadAt 30 reader_4) (fun t17_6 w =>
   callW Tryz.prog (Value.func (Fn.func 41) #[] #[]) #[l_1, t17_6, moments_3] (fun t19_7 w =>
   opW Tryz.prog (Op.unary UnOp.not t19_7) (fun t20_8 w =>
   condW t20_8
   (k (Value.tuple #[(Value.slice none 0 0), (Value.int IntKind.i64 260)]) w)
   (opW Tryz.prog (Builtin.len_ #[24] 3 #[l_1]) (fun t22_9 w =>
   opW Tryz.prog (Instr.makeSlice 89 t22_9 t22_9) (fun t23_10 w =>
   opW Tryz.prog (Instr.alloc 89 true (Value.tuple #[])) (fun is_11 w =>
   opU Tryz.prog (Instr.storeAt 89 is_11 t23_10) (fun _ w =>
   opW Tryz.prog (Instr.loadAt 30 reader_4) (fun t25_12 w =>
   callW Tryz.prog (Value.func (Fn.func 42) #[] #[]) #[l_1, t25_12, moments_3] (fun t27_13 w =>
   rangeW Tryz.prog t27_13 2 (fun l_15 ready_15 busy_15 args_15 w k_15 =>
   ready_15 w ∧ (fun w => opW Tryz.prog (Builtin.len_ #[95] 3 #[(args_15.tail.headD undef)]) (fun t31_17 w =>
   Loop1 (fun t32_19 w K_20 =>
   opW Tryz.prog (binS BinOp.lss 3 (Operand.tmp 32) (Operand.tmp 31) t32_19 t31_17) (fun t33_21 w =>
   condW t33_21
   (opW Tryz.prog (Instr.indexAt 95 (args_15.tail.headD undef) t32_19) (fun t35_24 w =>
   opW Tryz.prog (Instr.loadAt 96 t35_24) (fun t36_25 w =>
   drewW w (fun w =>
   takeW Tryz.prog (sameW w) (Instr.loadAt 89 is_11) (fun t37_27 =>
   nilT t36_25 (fun t40_28 =>
   takeW Tryz.prog anyW (Instr.fieldAt 98 t40_28 2) (fun t41_29 =>
   takeW Tryz.prog (sameW w) (Instr.loadAt 3 t41_29) (fun t42_30 =>
   takeW Tryz.prog anyW (binS BinOp.geq 3 (Operand.tmp 42) (Operand.const (Value.int IntKind.i64 0)) t42_30 (Value.int IntKind.i64 0)) (fun t43_31 =>
   takeW Tryz.prog anyW (Instr.indexAt 89 t37_27 t32_19) (fun t44_32 =>
   opU Tryz.prog (Instr.storeAt 4 t44_32 t43_31) (fun _ w =>
   opW Tryz.prog (binS BinOp.add 3 (Operand.tmp 32) (Operand.const (Value.int IntKind.i64 1)) t32_19 (Value.int IntKind.i64 1)) (fun t45_33 w =>
   loopK [] [] [is_11, (args_15.tail.headD undef), t31_17] [is_11, (args_15.tail.headD undef), t31_17] (K_20 t45_33 w)) w) w) w) w) w) w)) w)) w) w)
   (k_15 none w)) w) (Value.int IntKind.i64 0) w) w) (busy_15 w)) (fun d_15 j_15 w => jumpW j_15
   (opW Tryz.prog (Builtin.len_ #[24] 3 #[l_1]) (fun t47_34 w =>
   Loop2 (fun out_36 t48_37 w K_38 =>
   opW Tryz.prog (binS BinOp.lss 3 (Operand.tmp 48) (Operand.tmp 47) t48_37 t47_34) (fun t49_39 w =>
   condW t49_39
   (joinW (fun out_52 w =>
   opW Tryz.prog (binS BinOp.add 3 (Operand.tmp 48) (Operand.const (Value.int IntKind.i64 1)) t48_37 (Value.int IntKind.i64 1)) (fun t62_53 w =>
   loopK [{ target := Target.collected d_15, args := #[] }] [{ target := Target.collected d_15, args := #[] }] [is_11, l_1, t47_34] [is_11, l_1, t47_34] (K_38 out_52 t62_53 w)) w) (fun J_41 =>
   opW Tryz.prog (Instr.indexAt 24 l_1 t48_37) (fun t51_42 w =>
   opW Tryz.prog (Instr.loadAt 63 t51_42) (fun t52_43 w =>
   opW Tryz.prog (Instr.alloc 63 true (Value.tuple #[])) (fun x_44 w =>
   opU Tryz.prog (Instr.storeAt 63 x_44 t52_43) (fun _ w =>
   opW Tryz.prog (Instr.loadAt 89 is_11) (fun t53_45 w =>
   opW Tryz.prog (Instr.indexAt 89 t53_45 t48_37) (fun t55_46 w =>
   opW Tryz.prog (Instr.loadAt 4 t55_46) (fun t56_47 w =>
   condW t56_47
   (opW Tryz.prog (Instr.loadAt 63 x_44) (fun t58_48 w =>
   callW Tryz.prog (Value.func (Fn.func 43) #[] #[]) #[t58_48] (fun t59_49 w =>
   opW Tryz.prog (Instr.buildSlice 24 1 #[(0, t59_49)]) (fun t60_50 w =>
   opW Tryz.prog (Builtin.append_ #[24, 24] 24 #[out_36, t60_50]) (fun t61_51 w =>
   J_41 t61_51 w) w) w) w) w)
   (J_41 out_36 w)) w) w) w) w) w) w) w))
   (leaveW [{ target := Target.collected d_15, args := #[] }] (fun w => k (Value.tuple #[out_36, (Value.int IntKind.i64 0)]) w) w)) w) (Value.slice none 0 0) (Value.int IntKind.i64 0) w) w)
   (leaveW [{ target := Target.collected d_15, args := #[] }] (fun w => k (Value.tuple #[(Value.slice none 0 0), (Value.int IntKind.i64 0)]) w) w)
   (fun x => False)) w) w) w) w) w) w) w)) w) w) w) w
theorem S16_vc (l_1 reader_2 moments_3 : Value) (k : Value → World → Prop) (w : World) : vc Tryz.prog Tryz.f16.ntmps ann16 none ((Tryz.f16.body).getD Code.skip) 1 (params 0 [l_1, reader_2, moments_3]) [] (finQ Tryz.prog Tryz.f16.results.toList k) w = S16 l_1 reader_2 moments_3 k w := by kernel_rfl
theorem S16_calls (l_1 reader_2 moments_3 : Value) (k : Value → World → Prop) (w : World) (h : S16 l_1 reader_2 moments_3 k w) : Calls Tryz.prog 16 #[l_1, reader_2, moments_3] w (retP k) :=
  calls_of_vc (fn := Tryz.f16) (c := (Tryz.f16.body).getD Code.skip) ann16 Tryz.func16 (by kernel_rfl) [l_1, reader_2, moments_3] w k (by kernel_rfl) ((S16_vc l_1 reader_2 moments_3 k w).symm ▸ h)
theorem C16 (l_1 reader_2 moments_3 : Value) (k : Value → World → Prop) (w : World) (h : S16 l_1 reader_2 moments_3 k w) : callW Tryz.prog (.func (.func 16) #[] #[]) #[l_1, reader_2, moments_3] k w :=
  callW_calls ok16 (by simpa using S16_calls l_1 reader_2 moments_3 k w h)

/-! newswire/newswireref26.Seen -/
def ann17 : Ann := [(61, Note.keep [8]), (122, Note.loop [8, 9] [0, 2, 4]), (978, Note.keep [0, 2, 4, 8, 9]), (3912, Note.plan (Plan.takeP 0 (Plan.takeP 1 (Plan.takeP 2 (Plan.takeX 3 (Plan.takeX 4 (Plan.takeP 5 (Plan.run 6 (Plan.takeP 7 Plan.done)))))))))]
def S17 (l_1 r_2 moments_3 : Value) (k : Value → World → Prop) (w : World) : Prop :=
   opW Tryz.prog (Instr.box 30 r_2) (fun r_4 w =>
   opW Tryz.prog (Instr.loadAt 30 r_4) (fun t11_6 w =>
   callW Tryz.prog (Value.func (Fn.func 44) #[] #[]) #[l_1, t11_6, moments_3] (fun t13_7 w =>
   opW Tryz.prog (Op.unary UnOp.not t13_7) (fun t14_8 w =>
   condW t14_8
   (k (Value.tuple #[(Value.slice none 0 0), (Value.int IntKind.i64 260)]) w)
   (Loop2 (fun out_10 i_11 w K_12 =>
   opW Tryz.prog (Builtin.len_ #[24] 3 #[l_1]) (fun t17_14 w =>
   opW Tryz.prog (binS BinOp.lss 3 (Operand.tmp 15) (Operand.tmp 17) i_11 t17_14) (fun t18_15 w =>
   condW t18_15
   (joinW (fun out_27 w =>
   opW Tryz.prog (binS BinOp.add 3 (Operand.tmp 19) (Operand.const (Value.int IntKind.i64 1)) i_11 (Value.int IntKind.i64 1)) (fun t20_28 w =>
   loopK [] [] [l_1, moments_3, r_4] [l_1, moments_3, r_4] (K_12 out_27 t20_28 w)) w) (fun J_16 =>
   drewW w (fun w =>
   takeW Tryz.prog anyW (Instr.indexAt 24 l_1 i_11) (fun t23_18 =>
   takeW Tryz.prog (sameW w) (Instr.loadAt 63 t23_18) (fun t24_19 =>
   takeW Tryz.prog (sameW w) (Instr.loadAt 30 r_4) (fun t25_20 =>
   callW Tryz.prog (Value.func (Fn.func 30) #[] #[]) #[t24_19, t25_20, moments_3] (fun t27_21 w =>
   takeW Tryz.prog anyW (binS BinOp.geq 3 (Operand.tmp 27) (Operand.const (Value.int IntKind.i64 0)) t27_21 (Value.int IntKind.i64 0)) (fun t28_22 =>
   condW t28_22
   (opW Tryz.prog (Instr.indexAt 24 l_1 i_11) (fun t32_23 w =>
   opW Tryz.prog (Instr.loadAt 63 t32_23) (fun t33_24 w =>
   opW Tryz.prog (Instr.buildSlice 24 1 #[(0, t33_24)]) (fun t34_25 w =>
   opW Tryz.prog (Builtin.append_ #[24, 24] 24 #[out_10, t34_25]) (fun t35_26 w =>
   J_16 t35_26 w) w) w) w) w)
   (J_16 out_10 w)) w) w) w) w) w)))
   (k (Value.tuple #[out_10, (Value.int IntKind.i64 0)]) w)) w) w) (Value.slice none 0 0) (Value.int IntKind.i64 0) w)) w) w) w) w
theorem S17_vc (l_1 r_2 moments_3 : Value) (k : Value → World → Prop) (w : World) : vc Tryz.prog Tryz.f17.ntmps ann17 none ((Tryz.f17.body).getD Code.skip) 1 (params 0 [l_1, r_2, moments_3]) [] (finQ Tryz.prog Tryz.f17.results.toList k) w = S17 l_1 r_2 moments_3 k w := by kernel_rfl
theorem S17_calls (l_1 r_2 moments_3 : Value) (k : Value → World → Prop) (w : World) (h : S17 l_1 r_2 moments_3 k w) : Calls Tryz.prog 17 #[l_1, r_2, moments_3] w (retP k) :=
  calls_of_vc (fn := Tryz.f17) (c := (Tryz.f17.body).getD Code.skip) ann17 Tryz.func17 (by kernel_rfl) [l_1, r_2, moments_3] w k (by kernel_rfl) ((S17_vc l_1 r_2 moments_3 k w).symm ▸ h)
theorem C17 (l_1 r_2 moments_3 : Value) (k : Value → World → Prop) (w : World) (h : S17 l_1 r_2 moments_3 k w) : callW Tryz.prog (.func (.func 17) #[] #[]) #[l_1, r_2, moments_3] k w :=
  callW_calls ok17 (by simpa using S17_calls l_1 r_2 moments_3 k w h)

/-! newswire/newswireref26.SameItems -/
def ann18 : Ann := [(29, Note.keep []), (58, Note.loop [5] [0, 1]), (466, Note.keep [0, 1, 5]), (1864, Note.plan (Plan.takeP 0 (Plan.takeP 1 (Plan.takeP 2 (Plan.takeP 3 (Plan.takeU 4 (Plan.takeP 5 (Plan.takeP 6 (Plan.takeP 7 (Plan.takeP 8 (Plan.takeU 9 (Plan.takeP 10 (Plan.takeP 11 (Plan.takeP 12 (Plan.takeP 13 (Plan.takeP 14 (Plan.takeP 15 (Plan.takeU 16 (Plan.takeP 17 (Plan.takeP 18 (Plan.takeP 19 (Plan.takeP 20 (Plan.takeU 21 (Plan.takeP 22 (Plan.takeP 23 (Plan.takeP 24 (Plan.takeP 25 (Plan.takeP 26 (Plan.takeP 27 (Plan.takeP 28 (Plan.takeU 29 (Plan.takeP 30 (Plan.takeP 31 (Plan.takeP 32 (Plan.takeP 33 (Plan.takeU 34 (Plan.takeP 35 (Plan.takeP 36 (Plan.takeP 37 (Plan.takeP 38 (Plan.takeP 39 (Plan.takeP 40 (Plan.takeP 41 (Plan.takeX 42 (Plan.takeP 43 (Plan.takeP 44 (Plan.takeP 45 (Plan.takeP 46 (Plan.takeX 47 (Plan.run 48 (Plan.takeP 49 (Plan.takeP 50 Plan.done))))))))))))))))))))))))))))))))))))))))))))))))))))]
def S18 (a_1 b_2 : Value) (k : Value → World → Prop) (w : World) : Prop :=
   opW Tryz.prog (Builtin.len_ #[24] 3 #[a_1]) (fun t7_4 w =>
   opW Tryz.prog (Builtin.len_ #[24] 3 #[b_2]) (fun t9_5 w =>
   opW Tryz.prog (binS BinOp.neq 3 (Operand.tmp 7) (Operand.tmp 9) t7_4 t9_5) (fun t10_6 w =>
   condW t10_6
   (k (Value.bool false) w)
   (Loop1 (fun i_8 w K_9 =>
   opW Tryz.prog (Builtin.len_ #[24] 3 #[a_1]) (fun t13_11 w =>
   opW Tryz.prog (binS BinOp.lss 3 (Operand.tmp 11) (Operand.tmp 13) i_8 t13_11) (fun t14_12 w =>
   condW t14_12
   (drewW w (fun w =>
   ∃ S : World → Prop, S w ∧
   takeW Tryz.prog anyW (Instr.indexAt 24 a_1 i_8) (fun t19_15 =>
   takeW Tryz.prog anyW (Instr.fieldAt 63 t19_15 0) (fun t20_16 =>
   takeW Tryz.prog S (Instr.loadAt 3 t20_16) (fun t21_17 =>
   takeW Tryz.prog anyW (Instr.indexAt 24 b_2 i_8) (fun t24_18 =>
   takeW Tryz.prog anyW (Instr.fieldAt 63 t24_18 0) (fun t25_19 =>
   takeW Tryz.prog S (Instr.loadAt 3 t25_19) (fun t26_20 =>
   takeW Tryz.prog anyW (binS BinOp.neq 3 (Operand.tmp 21) (Operand.tmp 26) t21_17 t26_20) (fun t27_21 =>
   guardT (some t27_21, false) (fun k => k a_1) (fun t29_22 =>
   guardT (some t27_21, false) (fun k => k i_8) (fun t30_23 =>
   guardT (some t27_21, false) (fun k => takeW Tryz.prog anyW (Instr.indexAt 24 t29_22 t30_23) k w) (fun t31_24 =>
   guardT (some t27_21, false) (fun k => takeW Tryz.prog anyW (Instr.fieldAt 63 t31_24 2) k w) (fun t32_25 =>
   guardT (some t27_21, false) (fun k => takeW Tryz.prog S (Instr.loadAt 3 t32_25) k w) (fun t33_26 =>
   guardT (some t27_21, false) (fun k => k b_2) (fun t34_27 =>
   guardT (some t27_21, false) (fun k => k i_8) (fun t35_28 =>
   guardT (some t27_21, false) (fun k => takeW Tryz.prog anyW (Instr.indexAt 24 t34_27 t35_28) k w) (fun t36_29 =>
   guardT (some t27_21, false) (fun k => takeW Tryz.prog anyW (Instr.fieldAt 63 t36_29 2) k w) (fun t37_30 =>
   guardT (some t27_21, false) (fun k => takeW Tryz.prog S (Instr.loadAt 3 t37_30) k w) (fun t38_31 =>
   guardT (some t27_21, false) (fun k => takeW Tryz.prog anyW (binS BinOp.neq 3 (Operand.tmp 33) (Operand.tmp 38) t33_26 t38_31) k w) (fun t39_32 =>
   pickT t27_21 (Value.bool true) t39_32 (fun t40_33 =>
   guardT (some t40_33, false) (fun k => k a_1) (fun t42_34 =>
   guardT (some t40_33, false) (fun k => k i_8) (fun t43_35 =>
   guardT (some t40_33, false) (fun k => takeW Tryz.prog anyW (Instr.indexAt 24 t42_34 t43_35) k w) (fun t44_36 =>
   guardT (some t40_33, false) (fun k => takeW Tryz.prog anyW (Instr.fieldAt 63 t44_36 3) k w) (fun t45_37 =>
   guardT (some t40_33, false) (fun k => takeW Tryz.prog S (Instr.loadAt 9 t45_37) k w) (fun t46_38 =>
   guardT (some t40_33, false) (fun k => k b_2) (fun t47_39 =>
   guardT (some t40_33, false) (fun k => k i_8) (fun t48_40 =>
   guardT (some t40_33, false) (fun k => takeW Tryz.prog anyW (Instr.indexAt 24 t47_39 t48_40) k w) (fun t49_41 =>
   guardT (some t40_33, false) (fun k => takeW Tryz.prog anyW (Instr.fieldAt 63 t49_41 3) k w) (fun t50_42 =>
   guardT (some t40_33, false) (fun k => takeW Tryz.prog S (Instr.loadAt 9 t50_42) k w) (fun t51_43 =>
   guardT (some t40_33, false) (fun k => takeW Tryz.prog anyW (binS BinOp.neq 9 (Operand.tmp 46) (Operand.tmp 51) t46_38 t51_43) k w) (fun t52_44 =>
   pickT t40_33 (Value.bool true) t52_44 (fun t53_45 =>
   guardT (some t53_45, false) (fun k => k a_1) (fun t55_46 =>
   guardT (some t53_45, false) (fun k => k i_8) (fun t56_47 =>
   guardT (some t53_45, false) (fun k => takeW Tryz.prog anyW (Instr.indexAt 24 t55_46 t56_47) k w) (fun t57_48 =>
   guardT (some t53_45, false) (fun k => takeW Tryz.prog anyW (Instr.fieldAt 63 t57_48 1) k w) (fun t58_49 =>
   guardT (some t53_45, false) (fun k => takeW Tryz.prog (sameW w) (Instr.loadAt 61 t58_49) k w) (fun t59_50 =>
   guardT (some t53_45, false) (fun k => k b_2) (fun t60_51 =>
   guardT (some t53_45, false) (fun k => k i_8) (fun t61_52 =>
   guardT (some t53_45, false) (fun k => takeW Tryz.prog anyW (Instr.indexAt 24 t60_51 t61_52) k w) (fun t62_53 =>
   guardT (some t53_45, false) (fun k => takeW Tryz.prog anyW (Instr.fieldAt 63 t62_53 1) k w) (fun t63_54 =>
   guardT (some t53_45, false) (fun k => takeW Tryz.prog (sameW w) (Instr.loadAt 61 t63_54) k w) (fun t64_55 =>
   guardW (some t53_45, false) (fun k w => callW Tryz.prog (Value.func (Fn.func 45) #[] #[]) #[t59_50, t64_55] k w) (fun t65_56 w => keepS S (fun w =>
   guardT (some t53_45, false) (fun k => takeW Tryz.prog anyW (Op.unary UnOp.not t65_56) k w) (fun t66_57 =>
   pickT t53_45 (Value.bool true) t66_57 (fun t67_58 =>
   condW t67_58
   (k (Value.bool false) w)
   (opW Tryz.prog (binS BinOp.add 3 (Operand.tmp 15) (Operand.const (Value.int IntKind.i64 1)) i_8 (Value.int IntKind.i64 1)) (fun t16_59 w =>
   loopK [] [] [a_1, b_2] [a_1, b_2] (K_9 t16_59 w)) w)))) w) w))))))))))))))))))))))))))))))))))) w) w) w) w) w) w) w))
   (k (Value.bool true) w)) w) w) (Value.int IntKind.i64 0) w)) w) w) w
theorem S18_vc (a_1 b_2 : Value) (k : Value → World → Prop) (w : World) : vc Tryz.prog Tryz.f18.ntmps ann18 none ((Tryz.f18.body).getD Code.skip) 1 (params 0 [a_1, b_2]) [] (finQ Tryz.prog Tryz.f18.results.toList k) w = S18 a_1 b_2 k w := by kernel_rfl
theorem S18_calls (a_1 b_2 : Value) (k : Value → World → Prop) (w : World) (h : S18 a_1 b_2 k w) : Calls Tryz.prog 18 #[a_1, b_2] w (retP k) :=
  calls_of_vc (fn := Tryz.f18) (c := (Tryz.f18.body).getD Code.skip) ann18 Tryz.func18 (by kernel_rfl) [a_1, b_2] w k (by kernel_rfl) ((S18_vc a_1 b_2 k w).symm ▸ h)
theorem C18 (a_1 b_2 : Value) (k : Value → World → Prop) (w : World) (h : S18 a_1 b_2 k w) : callW Tryz.prog (.func (.func 18) #[] #[]) #[a_1, b_2] k w :=
  callW_calls ok18 (by simpa using S18_calls a_1 b_2 k w h)

/-! newswire/flow.Valid -/
def ann19 : Ann := []
def S19 (l_1 : Value) (k : Value → World → Prop) (w : World) : Prop :=
   opW Tryz.prog (Instr.alloc 101 true (Value.tuple #[])) (fun isIn_2 w =>
   opU Tryz.prog (Instr.storeAt 101 isIn_2 (Value.func (Fn.func 46) #[] #[])) (fun _ w =>
   opW Tryz.prog (Instr.makeFunc (Fn.func 47) #[] #[isIn_2]) (fun t5_3 w =>
   opW Tryz.prog (Builtin.len_ #[24] 3 #[l_1]) (fun t7_4 w =>
   opW Tryz.prog (binS BinOp.leq 3 (Operand.tmp 7) (Operand.const (Value.int IntKind.i64 12)) t7_4 (Value.int IntKind.i64 12)) (fun t8_5 w =>
   guardW (some t8_5, true) (fun k w => k l_1 w) (fun t10_6 w =>
   guardW (some t8_5, true) (fun k w => k t5_3 w) (fun t11_7 w =>
   guardW (some t8_5, true) (fun k w => callW Tryz.prog (Value.func (Fn.func 49) #[] #[]) #[t10_6, t11_7] k w) (fun t12_8 w =>
   guardW (some t8_5, true) (fun k w => opW Tryz.prog (Op.unary UnOp.not t12_8) k w) (fun t13_9 w =>
   pickW t8_5 t13_9 (Value.bool false) (fun t14_10 w =>
   k t14_10 w) w) w) w) w) w) w) w) w) w) w
theorem S19_vc (l_1 : Value) (k : Value → World → Prop) (w : World) : vc Tryz.prog Tryz.f19.ntmps ann19 none ((Tryz.f19.body).getD Code.skip) 1 (params 0 [l_1]) [] (finQ Tryz.prog Tryz.f19.results.toList k) w = S19 l_1 k w := by kernel_rfl
theorem S19_calls (l_1 : Value) (k : Value → World → Prop) (w : World) (h : S19 l_1 k w) : Calls Tryz.prog 19 #[l_1] w (retP k) :=
  calls_of_vc (fn := Tryz.f19) (c := (Tryz.f19.body).getD Code.skip) ann19 Tryz.func19 (by kernel_rfl) [l_1] w k (by kernel_rfl) ((S19_vc l_1 k w).symm ▸ h)
theorem C19 (l_1 : Value) (k : Value → World → Prop) (w : World) (h : S19 l_1 k w) : callW Tryz.prog (.func (.func 19) #[] #[]) #[l_1] k w :=
  callW_calls ok19 (by simpa using S19_calls l_1 k w h)

/-! newswire/newswireref26.Valid -/
def ann20 : Ann := [(13, Note.keep [0]), (26, Note.loop [3] [0]), (210, Note.keep [0, 3])]
def S20 (l_1 : Value) (k : Value → World → Prop) (w : World) : Prop :=
   Loop1 (fun i_3 w K_4 =>
   opW Tryz.prog (Builtin.len_ #[24] 3 #[l_1]) (fun t7_6 w =>
   opW Tryz.prog (binS BinOp.lss 3 (Operand.tmp 5) (Operand.tmp 7) i_3 t7_6) (fun t8_7 w =>
   guardW (some t8_7, true) (fun k w => k i_3 w) (fun t10_8 w =>
   guardW (some t8_7, true) (fun k w => opW Tryz.prog (binS BinOp.lss 3 (Operand.tmp 10) (Operand.const (Value.int IntKind.i64 13)) t10_8 (Value.int IntKind.i64 13)) k w) (fun t11_9 w =>
   pickW t8_7 t11_9 (Value.bool false) (fun t12_10 w =>
   condW t12_10
   (opW Tryz.prog (Instr.indexAt 24 l_1 i_3) (fun t17_12 w =>
   opW Tryz.prog (Instr.loadAt 63 t17_12) (fun t18_13 w =>
   opW Tryz.prog (Instr.alloc 63 true (Value.tuple #[])) (fun x_14 w =>
   opU Tryz.prog (Instr.storeAt 63 x_14 t18_13) (fun _ w =>
   opW Tryz.prog (Instr.fieldAt 63 x_14 0) (fun t19_15 w =>
   opW Tryz.prog (Instr.loadAt 3 t19_15) (fun t20_16 w =>
   opW Tryz.prog (binS BinOp.lss 3 (Operand.tmp 20) (Operand.const (Value.int IntKind.i64 0)) t20_16 (Value.int IntKind.i64 0)) (fun t21_17 w =>
   guardW (some t21_17, false) (fun k w => opW Tryz.prog (Instr.fieldAt 63 x_14 0) k w) (fun t23_18 w =>
   guardW (some t21_17, false) (fun k w => opW Tryz.prog (Instr.loadAt 3 t23_18) k w) (fun t24_19 w =>
   guardW (some t21_17, false) (fun k w => opW Tryz.prog (binS BinOp.gtr 3 (Operand.tmp 24) (Operand.const (Value.int IntKind.i64 50000000)) t24_19 (Value.int IntKind.i64 50000000)) k w) (fun t25_20 w =>
   pickW t21_17 (Value.bool true) t25_20 (fun t26_21 w =>
   guardW (some t26_21, false) (fun k w => opW Tryz.prog (Instr.fieldAt 63 x_14 1) k w) (fun t28_22 w =>
   guardW (some t26_21, false) (fun k w => opW Tryz.prog (Instr.loadAt 61 t28_22) k w) (fun t29_23 w =>
   guardW (some t26_21, false) (fun k w => callW Tryz.prog (Value.func (Fn.func 50) #[] #[]) #[t29_23] k w) (fun t30_24 w =>
   guardW (some t26_21, false) (fun k w => opW Tryz.prog (Op.unary UnOp.not t30_24) k w) (fun t31_25 w =>
   pickW t26_21 (Value.bool true) t31_25 (fun t32_26 w =>
   guardW (some t32_26, false) (fun k w => opW Tryz.prog (Instr.fieldAt 63 x_14 2) k w) (fun t34_27 w =>
   guardW (some t32_26, false) (fun k w => opW Tryz.prog (Instr.loadAt 3 t34_27) k w) (fun t35_28 w =>
   guardW (some t32_26, false) (fun k w => opW Tryz.prog (binS BinOp.lss 3 (Operand.tmp 35) (Operand.const (Value.int IntKind.i64 1)) t35_28 (Value.int IntKind.i64 1)) k w) (fun t36_29 w =>
   pickW t32_26 (Value.bool true) t36_29 (fun t37_30 w =>
   guardW (some t37_30, false) (fun k w => opW Tryz.prog (Instr.fieldAt 63 x_14 2) k w) (fun t39_31 w =>
   guardW (some t37_30, false) (fun k w => opW Tryz.prog (Instr.loadAt 3 t39_31) k w) (fun t40_32 w =>
   guardW (some t37_30, false) (fun k w => opW Tryz.prog (binS BinOp.gtr 3 (Operand.tmp 40) (Operand.const (Value.int IntKind.i64 3)) t40_32 (Value.int IntKind.i64 3)) k w) (fun t41_33 w =>
   pickW t37_30 (Value.bool true) t41_33 (fun t42_34 w =>
   guardW (some t42_34, false) (fun k w => opW Tryz.prog (Instr.fieldAt 63 x_14 3) k w) (fun t44_35 w =>
   guardW (some t42_34, false) (fun k w => opW Tryz.prog (Instr.loadAt 9 t44_35) k w) (fun t45_36 w =>
   guardW (some t42_34, false) (fun k w => opW Tryz.prog (Builtin.len_ #[9] 3 #[t45_36]) k w) (fun t46_37 w =>
   guardW (some t42_34, false) (fun k w => opW Tryz.prog (binS BinOp.lss 3 (Operand.tmp 46) (Operand.const (Value.int IntKind.i64 1)) t46_37 (Value.int IntKind.i64 1)) k w) (fun t47_38 w =>
   pickW t42_34 (Value.bool true) t47_38 (fun t48_39 w =>
   guardW (some t48_39, false) (fun k w => opW Tryz.prog (Instr.fieldAt 63 x_14 3) k w) (fun t50_40 w =>
   guardW (some t48_39, false) (fun k w => opW Tryz.prog (Instr.loadAt 9 t50_40) k w) (fun t51_41 w =>
   guardW (some t48_39, false) (fun k w => opW Tryz.prog (Builtin.len_ #[9] 3 #[t51_41]) k w) (fun t52_42 w =>
   guardW (some t48_39, false) (fun k w => opW Tryz.prog (binS BinOp.gtr 3 (Operand.tmp 52) (Operand.const (Value.int IntKind.i64 60)) t52_42 (Value.int IntKind.i64 60)) k w) (fun t53_43 w =>
   pickW t48_39 (Value.bool true) t53_43 (fun t54_44 w =>
   condW t54_44
   (k (Value.bool false) w)
   (opW Tryz.prog (binS BinOp.add 3 (Operand.tmp 13) (Operand.const (Value.int IntKind.i64 1)) i_3 (Value.int IntKind.i64 1)) (fun t14_45 w =>
   loopK [] [] [l_1] [l_1] (K_4 t14_45 w)) w)) w) w) w) w) w) w) w) w) w) w) w) w) w) w) w) w) w) w) w) w) w) w) w) w) w) w) w) w) w) w) w) w) w) w)
   (opW Tryz.prog (Builtin.len_ #[24] 3 #[l_1]) (fun t56_46 w =>
   opW Tryz.prog (binS BinOp.leq 3 (Operand.tmp 56) (Operand.const (Value.int IntKind.i64 12)) t56_46 (Value.int IntKind.i64 12)) (fun t57_47 w =>
   k t57_47 w) w) w)) w) w) w) w) w) (Value.int IntKind.i64 0) w
theorem S20_vc (l_1 : Value) (k : Value → World → Prop) (w : World) : vc Tryz.prog Tryz.f20.ntmps ann20 none ((Tryz.f20.body).getD Code.skip) 1 (params 0 [l_1]) [] (finQ Tryz.prog Tryz.f20.results.toList k) w = S20 l_1 k w := by kernel_rfl
theorem S20_calls (l_1 : Value) (k : Value → World → Prop) (w : World) (h : S20 l_1 k w) : Calls Tryz.prog 20 #[l_1] w (retP k) :=
  calls_of_vc (fn := Tryz.f20) (c := (Tryz.f20.body).getD Code.skip) ann20 Tryz.func20 (by kernel_rfl) [l_1] w k (by kernel_rfl) ((S20_vc l_1 k w).symm ▸ h)
theorem C20 (l_1 : Value) (k : Value → World → Prop) (w : World) (h : S20 l_1 k w) : callW Tryz.prog (.func (.func 20) #[] #[]) #[l_1] k w :=
  callW_calls ok20 (by simpa using S20_calls l_1 k w h)

/-! newswire/flow.Alike -/
def ann21 : Ann := []
def S21 (a_1 b_2 reader_3 moments_4 : Value) (k : Value → World → Prop) (w : World) : Prop :=
   opW Tryz.prog (Instr.box 30 reader_3) (fun reader_5 w =>
   opW Tryz.prog (Instr.loadAt 30 reader_5) (fun t15_6 w =>
   callW Tryz.prog (Value.func (Fn.func 16) #[] #[]) #[a_1, t15_6, moments_4] (fun t17_7 w =>
   opW Tryz.prog (Instr.extract t17_7 0) (fun t18_8 w =>
   opW Tryz.prog (Instr.extract t17_7 1) (fun t19_9 w =>
   opW Tryz.prog (Instr.loadAt 30 reader_5) (fun t22_10 w =>
   callW Tryz.prog (Value.func (Fn.func 16) #[] #[]) #[b_2, t22_10, moments_4] (fun t24_11 w =>
   opW Tryz.prog (Instr.extract t24_11 0) (fun t25_12 w =>
   opW Tryz.prog (Instr.extract t24_11 1) (fun t26_13 w =>
   opW Tryz.prog (binS BinOp.eql 42 (Operand.tmp 27) (Operand.const (Value.int IntKind.i64 0)) t19_9 (Value.int IntKind.i64 0)) (fun t28_14 w =>
   guardW (some t28_14, true) (fun k w => k t26_13 w) (fun t30_15 w =>
   guardW (some t28_14, true) (fun k w => opW Tryz.prog (binS BinOp.eql 42 (Operand.tmp 30) (Operand.const (Value.int IntKind.i64 0)) t30_15 (Value.int IntKind.i64 0)) k w) (fun t31_16 w =>
   pickW t28_14 t31_16 (Value.bool false) (fun t32_17 w =>
   guardW (some t32_17, true) (fun k w => k t18_8 w) (fun t34_18 w =>
   guardW (some t32_17, true) (fun k w => k t25_12 w) (fun t35_19 w =>
   guardW (some t32_17, true) (fun k w => callW Tryz.prog (Value.func (Fn.func 51) #[] #[]) #[t34_18, t35_19, (Value.func (Fn.func 52) #[] #[])] k w) (fun t36_20 w =>
   pickW t32_17 t36_20 (Value.bool false) (fun t37_21 w =>
   k t37_21 w) w) w) w) w) w) w) w) w) w) w) w) w) w) w) w) w) w
theorem S21_vc (a_1 b_2 reader_3 moments_4 : Value) (k : Value → World → Prop) (w : World) : vc Tryz.prog Tryz.f21.ntmps ann21 none ((Tryz.f21.body).getD Code.skip) 1 (params 0 [a_1, b_2, reader_3, moments_4]) [] (finQ Tryz.prog Tryz.f21.results.toList k) w = S21 a_1 b_2 reader_3 moments_4 k w := by kernel_rfl
theorem S21_calls (a_1 b_2 reader_3 moments_4 : Value) (k : Value → World → Prop) (w : World) (h : S21 a_1 b_2 reader_3 moments_4 k w) : Calls Tryz.prog 21 #[a_1, b_2, reader_3, moments_4] w (retP k) :=
  calls_of_vc (fn := Tryz.f21) (c := (Tryz.f21.body).getD Code.skip) ann21 Tryz.func21 (by kernel_rfl) [a_1, b_2, reader_3, moments_4] w k (by kernel_rfl) ((S21_vc a_1 b_2 reader_3 moments_4 k w).symm ▸ h)
theorem C21 (a_1 b_2 reader_3 moments_4 : Value) (k : Value → World → Prop) (w : World) (h : S21 a_1 b_2 reader_3 moments_4 k w) : callW Tryz.prog (.func (.func 21) #[] #[]) #[a_1, b_2, reader_3, moments_4] k w :=
  callW_calls ok21 (by simpa using S21_calls a_1 b_2 reader_3 moments_4 k w h)

/-! newswire/newswireref26.Alike -/
def ann22 : Ann := []
def S22 (a_1 b_2 r_3 moments_4 : Value) (k : Value → World → Prop) (w : World) : Prop :=
   opW Tryz.prog (Instr.box 30 r_3) (fun r_5 w =>
   opW Tryz.prog (Instr.loadAt 30 r_5) (fun t15_6 w =>
   callW Tryz.prog (Value.func (Fn.func 17) #[] #[]) #[a_1, t15_6, moments_4] (fun t17_7 w =>
   opW Tryz.prog (Instr.extract t17_7 0) (fun t18_8 w =>
   opW Tryz.prog (Instr.extract t17_7 1) (fun t19_9 w =>
   opW Tryz.prog (Instr.loadAt 30 r_5) (fun t22_10 w =>
   callW Tryz.prog (Value.func (Fn.func 17) #[] #[]) #[b_2, t22_10, moments_4] (fun t24_11 w =>
   opW Tryz.prog (Instr.extract t24_11 0) (fun t25_12 w =>
   opW Tryz.prog (Instr.extract t24_11 1) (fun t26_13 w =>
   opW Tryz.prog (binS BinOp.eql 42 (Operand.tmp 27) (Operand.const (Value.int IntKind.i64 0)) t19_9 (Value.int IntKind.i64 0)) (fun t28_14 w =>
   guardW (some t28_14, true) (fun k w => k t26_13 w) (fun t30_15 w =>
   guardW (some t28_14, true) (fun k w => opW Tryz.prog (binS BinOp.eql 42 (Operand.tmp 30) (Operand.const (Value.int IntKind.i64 0)) t30_15 (Value.int IntKind.i64 0)) k w) (fun t31_16 w =>
   pickW t28_14 t31_16 (Value.bool false) (fun t32_17 w =>
   guardW (some t32_17, true) (fun k w => k t18_8 w) (fun t34_18 w =>
   guardW (some t32_17, true) (fun k w => k t25_12 w) (fun t35_19 w =>
   guardW (some t32_17, true) (fun k w => callW Tryz.prog (Value.func (Fn.func 18) #[] #[]) #[t34_18, t35_19] k w) (fun t36_20 w =>
   pickW t32_17 t36_20 (Value.bool false) (fun t37_21 w =>
   k t37_21 w) w) w) w) w) w) w) w) w) w) w) w) w) w) w) w) w) w
theorem S22_vc (a_1 b_2 r_3 moments_4 : Value) (k : Value → World → Prop) (w : World) : vc Tryz.prog Tryz.f22.ntmps ann22 none ((Tryz.f22.body).getD Code.skip) 1 (params 0 [a_1, b_2, r_3, moments_4]) [] (finQ Tryz.prog Tryz.f22.results.toList k) w = S22 a_1 b_2 r_3 moments_4 k w := by kernel_rfl
theorem S22_calls (a_1 b_2 r_3 moments_4 : Value) (k : Value → World → Prop) (w : World) (h : S22 a_1 b_2 r_3 moments_4 k w) : Calls Tryz.prog 22 #[a_1, b_2, r_3, moments_4] w (retP k) :=
  calls_of_vc (fn := Tryz.f22) (c := (Tryz.f22.body).getD Code.skip) ann22 Tryz.func22 (by kernel_rfl) [a_1, b_2, r_3, moments_4] w k (by kernel_rfl) ((S22_vc a_1 b_2 r_3 moments_4 k w).symm ▸ h)
theorem C22 (a_1 b_2 r_3 moments_4 : Value) (k : Value → World → Prop) (w : World) (h : S22 a_1 b_2 r_3 moments_4 k w) : callW Tryz.prog (.func (.func 22) #[] #[]) #[a_1, b_2, r_3, moments_4] k w :=
  callW_calls ok22 (by simpa using S22_calls a_1 b_2 r_3 moments_4 k w h)

/-! newswire/flow.Feed -/
def ann23 : Ann := [(125, Note.keep [11]), (501, Note.keep []), (4011, Note.plan (Plan.takeU 0 (Plan.takeP 1 (Plan.takeU 2 (Plan.takeU 3 (Plan.takeP 4 (Plan.run 5 (Plan.run 6 (Plan.run 7 (Plan.run 8 Plan.done))))))))))]
def S23 (mode_1 l_2 reader_3 moments_4 : Value) (k : Value → World → Prop) (w : World) : Prop :=
   opW Tryz.prog (Instr.box 30 reader_3) (fun reader_5 w =>
   opW Tryz.prog (Instr.loadAt 30 reader_5) (fun t16_7 w =>
   callW Tryz.prog (Value.func (Fn.func 41) #[] #[]) #[l_2, t16_7, moments_4] (fun t18_8 w =>
   opW Tryz.prog (Op.unary UnOp.not t18_8) (fun t19_9 w =>
   guardW (some t19_9, false) (fun k w => k mode_1 w) (fun t21_10 w =>
   guardW (some t19_9, false) (fun k w => opW Tryz.prog (binS BinOp.lss 3 (Operand.tmp 21) (Operand.const (Value.int IntKind.i64 1)) t21_10 (Value.int IntKind.i64 1)) k w) (fun t22_11 w =>
   pickW t19_9 (Value.bool true) t22_11 (fun t23_12 w =>
   guardW (some t23_12, false) (fun k w => k mode_1 w) (fun t25_13 w =>
   guardW (some t23_12, false) (fun k w => opW Tryz.prog (binS BinOp.gtr 3 (Operand.tmp 25) (Operand.const (Value.int IntKind.i64 2)) t25_13 (Value.int IntKind.i64 2)) k w) (fun t26_14 w =>
   pickW t23_12 (Value.bool true) t26_14 (fun t27_15 w =>
   condW t27_15
   (k (Value.tuple #[(Value.slice none 0 0), (Value.int IntKind.i64 260)]) w)
   (opW Tryz.prog (Instr.indexAt 112 (Value.pointer (some ⟨0, 0, none⟩)) mode_1) (fun t29_16 w =>
   opW Tryz.prog (Instr.loadAt 111 t29_16) (fun t30_17 w =>
   opW Tryz.prog (Instr.alloc 111 true (Value.tuple #[])) (fun m_18 w =>
   opU Tryz.prog (Instr.storeAt 111 m_18 t30_17) (fun _ w =>
   opW Tryz.prog (Instr.alloc 31 true (Value.tuple #[])) (fun out_19 w =>
   opW Tryz.prog (Instr.loadAt 30 reader_5) (fun t32_20 w =>
   callW Tryz.prog (Value.func (Fn.func 42) #[] #[]) #[l_2, t32_20, moments_4] (fun t34_21 w =>
   rangeW Tryz.prog t34_21 2 (fun l_23 ready_23 busy_23 args_23 w k_23 =>
   opW Tryz.prog (Instr.alloc 94 true (Value.tuple #[])) (fun s_24 w =>
   opU Tryz.prog (Instr.storeAt 94 s_24 (args_23.headD undef)) (fun _ w =>
   ready_23 w ∧ (fun w => opW Tryz.prog (Instr.makeFunc (Fn.func 54) #[] #[m_18, s_24]) (fun t38_26 w =>
   callW Tryz.prog (Value.func (Fn.func 53) #[] #[]) #[(args_23.tail.headD undef), t38_26] (fun t39_27 w =>
   opW Tryz.prog (Instr.fieldAt 111 m_18 1) (fun t41_28 w =>
   opW Tryz.prog (Instr.loadAt 108 t41_28) (fun t42_29 w =>
   callW Tryz.prog (Value.func (Fn.func 55) #[] #[]) #[t39_27, t42_29] (fun t43_30 w =>
   drewW w (fun w =>
   ∃ S : World → Prop, S w ∧
   takeW Tryz.prog S (Instr.loadAt 31 out_19) (fun t44_32 =>
   takeW Tryz.prog anyW (Instr.fieldAt 111 m_18 2) (fun t45_33 =>
   takeW Tryz.prog S (Instr.loadAt 109 t45_33) (fun t46_34 =>
   takeW Tryz.prog S (Instr.loadAt 94 s_24) (fun t47_35 =>
   callW Tryz.prog t46_34 #[t47_35, t39_27] (fun t49_36 w => keepS S (fun w =>
   opW Tryz.prog (Instr.buildSlice 31 1 #[(0, t49_36)]) (fun t50_37 w => keepS S (fun w =>
   opW Tryz.prog (Builtin.append_ #[31, 31] 31 #[t44_32, t50_37]) (fun t51_38 w => keepS S (fun w =>
   opU Tryz.prog (Instr.storeAt 31 out_19 t51_38) (fun _ w =>
   k_23 none w) w) w) w) w) w) w) w) w) w) w) w)) w) w) w) w) w) (busy_23 w)) w) w) (fun d_23 j_23 w => jumpW j_23
   (opW Tryz.prog (Instr.loadAt 31 out_19) (fun t52_39 w =>
   leaveW [{ target := Target.collected d_23, args := #[] }] (fun w => k (Value.tuple #[t52_39, (Value.int IntKind.i64 0)]) w) w) w)
   (leaveW [{ target := Target.collected d_23, args := #[] }] (fun w => k (Value.tuple #[(Value.slice none 0 0), (Value.int IntKind.i64 0)]) w) w)
   (fun x => False)) w) w) w) w) w) w) w) w)) w) w) w) w) w) w) w) w) w) w
theorem S23_vc (mode_1 l_2 reader_3 moments_4 : Value) (k : Value → World → Prop) (w : World) : vc Tryz.prog Tryz.f23.ntmps ann23 none ((Tryz.f23.body).getD Code.skip) 1 (params 0 [mode_1, l_2, reader_3, moments_4]) [] (finQ Tryz.prog Tryz.f23.results.toList k) w = S23 mode_1 l_2 reader_3 moments_4 k w := by kernel_rfl
theorem S23_calls (mode_1 l_2 reader_3 moments_4 : Value) (k : Value → World → Prop) (w : World) (h : S23 mode_1 l_2 reader_3 moments_4 k w) : Calls Tryz.prog 23 #[mode_1, l_2, reader_3, moments_4] w (retP k) :=
  calls_of_vc (fn := Tryz.f23) (c := (Tryz.f23.body).getD Code.skip) ann23 Tryz.func23 (by kernel_rfl) [mode_1, l_2, reader_3, moments_4] w k (by kernel_rfl) ((S23_vc mode_1 l_2 reader_3 moments_4 k w).symm ▸ h)
theorem C23 (mode_1 l_2 reader_3 moments_4 : Value) (k : Value → World → Prop) (w : World) (h : S23 mode_1 l_2 reader_3 moments_4 k w) : callW Tryz.prog (.func (.func 23) #[] #[]) #[mode_1, l_2, reader_3, moments_4] k w :=
  callW_calls ok23 (by simpa using S23_calls mode_1 l_2 reader_3 moments_4 k w h)

/-! newswire/newswireref26.Feed -/
def ann24 : Ann := [(125, Note.keep [11]), (250, Note.loop [11, 12] [0, 1, 3, 6, 10]), (2002, Note.keep [0, 1, 3, 6, 10, 11, 12]), (64077, Note.keep [0, 1, 3, 6, 10, 11, 12, 16]), (128154, Note.loop [16, 17] [0, 1, 3, 6, 10, 11, 12]), (128159, Note.plan (Plan.takeP 0 (Plan.takeP 1 (Plan.takeP 2 (Plan.takeP 3 (Plan.takeP 4 (Plan.takeU 5 (Plan.takeP 7 (Plan.takeP 8 (Plan.takeP 9 (Plan.takeP 10 (Plan.takeU 11 (Plan.takeP 12 (Plan.takeP 13 (Plan.run 6 (Plan.run 14 (Plan.takeP 15 (Plan.run 16 (Plan.run 17 (Plan.takeP 18 Plan.done)))))))))))))))))))), (256277, Note.keep [0, 1, 3, 6, 10, 11, 12, 13]), (512554, Note.loop [13, 14] [0, 1, 3, 6, 10, 11, 12]), (1025234, Note.keep [0, 1, 3, 6, 10, 11, 12, 16, 17]), (4100434, Note.keep [0, 1, 3, 6, 10, 11, 12, 13, 14]), (4100936, Note.plan (Plan.takeP 0 (Plan.takeP 1 (Plan.takeP 2 (Plan.takeX 3 (Plan.takeX 4 (Plan.takeP 5 (Plan.run 6 (Plan.takeP 7 Plan.done))))))))), (16403750, Note.plan (Plan.takeP 0 (Plan.takeP 1 (Plan.takeP 2 (Plan.takeP 3 (Plan.takeP 4 (Plan.takeP 5 (Plan.takeP 6 (Plan.takeU 7 (Plan.takeP 8 (Plan.takeP 9 (Plan.takeP 10 (Plan.takeP 11 (Plan.takeU 12 (Plan.takeP 13 (Plan.takeP 14 (Plan.takeP 15 (Plan.takeP 16 (Plan.takeP 17 (Plan.takeP 18 (Plan.takeP 19 (Plan.takeU 20 (Plan.takeP 21 (Plan.takeP 22 (Plan.takeP 23 (Plan.takeP 24 (Plan.takeU 25 (Plan.takeP 26 (Plan.takeP 27 (Plan.takeP 28 (Plan.takeP 29 (Plan.takeP 30 (Plan.takeP 31 (Plan.takeX 32 (Plan.takeX 33 (Plan.takeP 34 (Plan.run 35 (Plan.takeP 36 (Plan.takeP 37 (Plan.takeP 38 Plan.done)))))))))))))))))))))))))))))))))))))))), (65606948, Note.plan (Plan.takeP 0 (Plan.takeP 1 (Plan.takeP 2 (Plan.takeX 3 (Plan.takeP 4 (Plan.takeP 5 (Plan.takeP 6 (Plan.takeP 7 (Plan.takeP 8 (Plan.takeX 9 (Plan.takeP 10 (Plan.takeP 11 (Plan.takeP 12 (Plan.takeP 13 (Plan.takeP 14 (Plan.takeP 15 (Plan.takeP 16 (Plan.takeP 17 (Plan.takeP 18 (Plan.takeP 19 (Plan.takeP 20 (Plan.takeP 21 (Plan.takeX 22 (Plan.takeP 23 (Plan.takeP 24 (Plan.takeP 25 (Plan.takeP 26 (Plan.takeX 27 (Plan.takeP 28 (Plan.takeP 29 Plan.done))))))))))))))))))))))))))))))), (131213900, Note.plan (Plan.takeP 0 (Plan.takeP 1 (Plan.takeP 2 (Plan.takeX 3 (Plan.takeX 4 (Plan.takeP 5 (Plan.takeP 6 (Plan.takeP 7 (Plan.takeX 8 (Plan.run 9 Plan.done)))))))))))]
def S24 (mode_1 l_2 r_3 moments_4 : Value) (k : Value → World → Prop) (w : World) : Prop :=
   opW Tryz.prog (Instr.box 30 r_3) (fun r_5 w =>
   opW Tryz.prog (Instr.loadAt 30 r_5) (fun t20_7 w =>
   callW Tryz.prog (Value.func (Fn.func 44) #[] #[]) #[l_2, t20_7, moments_4] (fun t22_8 w =>
   opW Tryz.prog (Op.unary UnOp.not t22_8) (fun t23_9 w =>
   guardW (some t23_9, false) (fun k w => k mode_1 w) (fun t25_10 w =>
   guardW (some t23_9, false) (fun k w => opW Tryz.prog (binS BinOp.neq 3 (Operand.tmp 25) (Operand.const (Value.int IntKind.i64 1)) t25_10 (Value.int IntKind.i64 1)) k w) (fun t26_11 w =>
   guardW (some t23_9, false) (fun k w => k t26_11 w) (fun t27_12 w =>
   guardW (some t27_12, true) (fun k w => k mode_1 w) (fun t28_13 w =>
   guardW (some t27_12, true) (fun k w => opW Tryz.prog (binS BinOp.neq 3 (Operand.tmp 28) (Operand.const (Value.int IntKind.i64 2)) t28_13 (Value.int IntKind.i64 2)) k w) (fun t29_14 w =>
   guardW (some t23_9, false) (fun k w => pickW t27_12 t29_14 (Value.bool false) k w) (fun t30_15 w =>
   pickW t23_9 (Value.bool true) t30_15 (fun t31_16 w =>
   condW t31_16
   (k (Value.tuple #[(Value.slice none 0 0), (Value.int IntKind.i64 260)]) w)
   (opW Tryz.prog (Builtin.len_ #[24] 3 #[l_2]) (fun t33_17 w =>
   opW Tryz.prog (Instr.makeSlice 89 t33_17 t33_17) (fun t34_18 w =>
   Loop2 (fun out_20 k_21 w K_22 =>
   opW Tryz.prog (Builtin.len_ #[33] 3 #[moments_4]) (fun t37_24 w =>
   opW Tryz.prog (binS BinOp.lss 3 (Operand.tmp 35) (Operand.tmp 37) k_21 t37_24) (fun t38_25 w =>
   condW t38_25
   (joinW (fun out_171 w =>
   opW Tryz.prog (binS BinOp.add 3 (Operand.tmp 39) (Operand.const (Value.int IntKind.i64 1)) k_21 (Value.int IntKind.i64 1)) (fun t40_172 w =>
   loopK [] [] [mode_1, l_2, moments_4, r_5, t34_18] [mode_1, l_2, moments_4, r_5, t34_18] (K_22 out_171 t40_172 w)) w) (fun J_26 =>
   opW Tryz.prog (binS BinOp.eql 3 (Operand.tmp 41) (Operand.const (Value.int IntKind.i64 2)) mode_1 (Value.int IntKind.i64 2)) (fun t42_28 w =>
   condW t42_28
   (joinW (fun packet_86 w =>
   opW Tryz.prog (Instr.buildSlice 31 1 #[(0, packet_86)]) (fun t110_87 w =>
   opW Tryz.prog (Builtin.append_ #[31, 31] 31 #[out_20, t110_87]) (fun t111_88 w =>
   J_26 t111_88 w) w) w) (fun J_29 =>
   Loop2 (fun packet_30 place_31 w K_32 =>
   opW Tryz.prog (Builtin.len_ #[24] 3 #[l_2]) (fun t45_34 w =>
   opW Tryz.prog (binS BinOp.mul 3 (Operand.const (Value.int IntKind.i64 3)) (Operand.tmp 45) (Value.int IntKind.i64 3) t45_34) (fun t46_35 w =>
   opW Tryz.prog (binS BinOp.lss 3 (Operand.tmp 43) (Operand.tmp 46) place_31 t46_35) (fun t47_36 w =>
   condW t47_36
   (joinW (fun packet_84 w =>
   opW Tryz.prog (binS BinOp.add 3 (Operand.tmp 48) (Operand.const (Value.int IntKind.i64 1)) place_31 (Value.int IntKind.i64 1)) (fun t49_85 w =>
   loopK [] [] [mode_1, l_2, moments_4, r_5, t34_18, out_20, k_21] [mode_1, l_2, moments_4, r_5, t34_18, out_20, k_21] (K_32 packet_84 t49_85 w)) w) (fun J_37 =>
   opW Tryz.prog (Builtin.len_ #[24] 3 #[l_2]) (fun t52_38 w =>
   opW Tryz.prog (binS BinOp.rem 3 (Operand.tmp 50) (Operand.tmp 52) place_31 t52_38) (fun t53_39 w =>
   drewW w (fun w =>
   takeW Tryz.prog anyW (Instr.indexAt 89 t34_18 t53_39) (fun t56_42 =>
   takeW Tryz.prog (sameW w) (Instr.loadAt 4 t56_42) (fun t57_43 =>
   guardT (some t57_43, false) (fun k => k l_2) (fun t59_44 =>
   guardT (some t57_43, false) (fun k => k t53_39) (fun t60_45 =>
   guardT (some t57_43, false) (fun k => takeW Tryz.prog anyW (Instr.indexAt 24 t59_44 t60_45) k w) (fun t61_46 =>
   guardT (some t57_43, false) (fun k => takeW Tryz.prog anyW (Instr.fieldAt 63 t61_46 2) k w) (fun t62_47 =>
   guardT (some t57_43, false) (fun k => takeW Tryz.prog (sameW w) (Instr.loadAt 3 t62_47) k w) (fun t63_48 =>
   guardT (some t57_43, false) (fun k => k place_31) (fun t64_49 =>
   guardT (some t57_43, false) (fun k => k l_2) (fun t65_50 =>
   guardT (some t57_43, false) (fun k => takeW Tryz.prog anyW (Builtin.len_ #[24] 3 #[t65_50]) k w) (fun t66_51 =>
   guardT (some t57_43, false) (fun k => takeW Tryz.prog anyW (binS BinOp.quo 3 (Operand.tmp 64) (Operand.tmp 66) t64_49 t66_51) k w) (fun t67_52 =>
   guardT (some t57_43, false) (fun k => takeW Tryz.prog anyW (binS BinOp.add 3 (Operand.const (Value.int IntKind.i64 1)) (Operand.tmp 67) (Value.int IntKind.i64 1) t67_52) k w) (fun t68_53 =>
   guardT (some t57_43, false) (fun k => takeW Tryz.prog anyW (binS BinOp.neq 3 (Operand.tmp 63) (Operand.tmp 68) t63_48 t68_53) k w) (fun t69_54 =>
   pickT t57_43 (Value.bool true) t69_54 (fun t70_55 =>
   guardT (some t70_55, false) (fun k => k l_2) (fun t72_56 =>
   guardT (some t70_55, false) (fun k => k t53_39) (fun t73_57 =>
   guardT (some t70_55, false) (fun k => takeW Tryz.prog anyW (Instr.indexAt 24 t72_56 t73_57) k w) (fun t74_58 =>
   guardT (some t70_55, false) (fun k => takeW Tryz.prog anyW (Instr.fieldAt 63 t74_58 0) k w) (fun t75_59 =>
   guardT (some t70_55, false) (fun k => takeW Tryz.prog (sameW w) (Instr.loadAt 3 t75_59) k w) (fun t76_60 =>
   guardT (some t70_55, false) (fun k => k moments_4) (fun t77_61 =>
   guardT (some t70_55, false) (fun k => k k_21) (fun t78_62 =>
   guardT (some t70_55, false) (fun k => takeW Tryz.prog anyW (Instr.indexAt 33 t77_61 t78_62) k w) (fun t79_63 =>
   guardT (some t70_55, false) (fun k => takeW Tryz.prog anyW (Instr.fieldAt 28 t79_63 0) k w) (fun t80_64 =>
   guardT (some t70_55, false) (fun k => takeW Tryz.prog (sameW w) (Instr.loadAt 3 t80_64) k w) (fun t81_65 =>
   guardT (some t70_55, false) (fun k => takeW Tryz.prog anyW (binS BinOp.gtr 3 (Operand.tmp 76) (Operand.tmp 81) t76_60 t81_65) k w) (fun t82_66 =>
   pickT t70_55 (Value.bool true) t82_66 (fun t83_67 =>
   condW t83_67
   (J_37 packet_30 w)
   (drewW w (fun w =>
   takeW Tryz.prog anyW (Instr.indexAt 24 l_2 t53_39) (fun t86_70 =>
   takeW Tryz.prog (sameW w) (Instr.loadAt 63 t86_70) (fun t87_71 =>
   takeW Tryz.prog (sameW w) (Instr.loadAt 30 r_5) (fun t88_72 =>
   takeW Tryz.prog anyW (Instr.indexAt 33 moments_4 k_21) (fun t91_73 =>
   takeW Tryz.prog (sameW w) (Instr.loadAt 28 t91_73) (fun t92_74 =>
   callW Tryz.prog (Value.func (Fn.func 56) #[] #[]) #[t87_71, t88_72, t92_74] (fun t93_75 w =>
   condW t93_75
   (opW Tryz.prog (Instr.indexAt 24 l_2 t53_39) (fun t97_76 w =>
   opW Tryz.prog (Instr.fieldAt 63 t97_76 3) (fun t98_77 w =>
   opW Tryz.prog (Instr.loadAt 9 t98_77) (fun t99_78 w =>
   callW Tryz.prog (Value.func (Fn.func 57) #[] #[]) #[t99_78] (fun t100_79 w =>
   opW Tryz.prog (binS BinOp.add 9 (Operand.tmp 94) (Operand.tmp 100) packet_30 t100_79) (fun t101_80 w =>
   opW Tryz.prog (Instr.indexAt 89 t34_18 t53_39) (fun t104_81 w =>
   opU Tryz.prog (Instr.storeAt 4 t104_81 (Value.bool true)) (fun _ w =>
   J_29 t101_80 w) w) w) w) w) w) w) w)
   (callW Tryz.prog (Value.func (Fn.func 58) #[] #[]) #[(Value.int IntKind.i64 1)] (fun t106_82 w =>
   opW Tryz.prog (binS BinOp.add 9 (Operand.tmp 105) (Operand.tmp 106) packet_30 t106_82) (fun t107_83 w =>
   J_37 t107_83 w) w) w)) w) w) w) w) w) w))))))))))))))))))))))))))) w) w)) w) w))
   (J_29 packet_30 w)) w) w) w) (Value.string { data := #[] }) (Value.int IntKind.i64 0) w))
   (Loop2 (fun best_90 i_91 w K_92 =>
   opW Tryz.prog (Builtin.len_ #[24] 3 #[l_2]) (fun t114_94 w =>
   opW Tryz.prog (binS BinOp.lss 3 (Operand.tmp 112) (Operand.tmp 114) i_91 t114_94) (fun t115_95 w =>
   condW t115_95
   (joinW (fun best_149 w =>
   opW Tryz.prog (binS BinOp.add 3 (Operand.tmp 116) (Operand.const (Value.int IntKind.i64 1)) i_91 (Value.int IntKind.i64 1)) (fun t117_150 w =>
   loopK [] [] [mode_1, l_2, moments_4, r_5, t34_18, out_20, k_21] [mode_1, l_2, moments_4, r_5, t34_18, out_20, k_21] (K_92 best_149 t117_150 w)) w) (fun J_96 =>
   drewW w (fun w =>
   takeW Tryz.prog anyW (Instr.indexAt 24 l_2 i_91) (fun t120_98 =>
   takeW Tryz.prog (sameW w) (Instr.loadAt 63 t120_98) (fun t121_99 =>
   takeW Tryz.prog (sameW w) (Instr.loadAt 30 r_5) (fun t122_100 =>
   callW Tryz.prog (Value.func (Fn.func 30) #[] #[]) #[t121_99, t122_100, moments_4] (fun t124_101 w =>
   opW Tryz.prog (Instr.indexAt 89 t34_18 i_91) (fun t127_103 w =>
   opW Tryz.prog (Instr.loadAt 4 t127_103) (fun t128_104 w =>
   guardW (some t128_104, false) (fun k w => k t124_101 w) (fun t130_105 w =>
   guardW (some t128_104, false) (fun k w => opW Tryz.prog (binS BinOp.lss 3 (Operand.tmp 130) (Operand.const (Value.int IntKind.i64 0)) t130_105 (Value.int IntKind.i64 0)) k w) (fun t131_106 w =>
   pickW t128_104 (Value.bool true) t131_106 (fun t132_107 w =>
   guardW (some t132_107, false) (fun k w => k t124_101 w) (fun t134_108 w =>
   guardW (some t132_107, false) (fun k w => k k_21 w) (fun t135_109 w =>
   guardW (some t132_107, false) (fun k w => opW Tryz.prog (binS BinOp.gtr 3 (Operand.tmp 134) (Operand.tmp 135) t134_108 t135_109) k w) (fun t136_110 w =>
   pickW t132_107 (Value.bool true) t136_110 (fun t137_111 w =>
   condW t137_111
   (J_96 best_90 w)
   (drewW w (fun w =>
   ∃ S : World → Prop, S w ∧
   takeW Tryz.prog anyW (binS BinOp.lss 3 (Operand.tmp 138) (Operand.const (Value.int IntKind.i64 0)) best_90 (Value.int IntKind.i64 0)) (fun t139_113 =>
   guardT (some t139_113, false) (fun k => k l_2) (fun t141_114 =>
   guardT (some t139_113, false) (fun k => k i_91) (fun t142_115 =>
   guardT (some t139_113, false) (fun k => takeW Tryz.prog anyW (Instr.indexAt 24 t141_114 t142_115) k w) (fun t143_116 =>
   guardT (some t139_113, false) (fun k => takeW Tryz.prog anyW (Instr.fieldAt 63 t143_116 2) k w) (fun t144_117 =>
   guardT (some t139_113, false) (fun k => takeW Tryz.prog S (Instr.loadAt 3 t144_117) k w) (fun t145_118 =>
   guardT (some t139_113, false) (fun k => k l_2) (fun t146_119 =>
   guardT (some t139_113, false) (fun k => k best_90) (fun t147_120 =>
   guardT (some t139_113, false) (fun k => takeW Tryz.prog anyW (Instr.indexAt 24 t146_119 t147_120) k w) (fun t148_121 =>
   guardT (some t139_113, false) (fun k => takeW Tryz.prog anyW (Instr.fieldAt 63 t148_121 2) k w) (fun t149_122 =>
   guardT (some t139_113, false) (fun k => takeW Tryz.prog S (Instr.loadAt 3 t149_122) k w) (fun t150_123 =>
   guardT (some t139_113, false) (fun k => takeW Tryz.prog anyW (binS BinOp.lss 3 (Operand.tmp 145) (Operand.tmp 150) t145_118 t150_123) k w) (fun t151_124 =>
   pickT t139_113 (Value.bool true) t151_124 (fun t152_125 =>
   guardT (some t152_125, false) (fun k => k l_2) (fun t154_126 =>
   guardT (some t152_125, false) (fun k => k i_91) (fun t155_127 =>
   guardT (some t152_125, false) (fun k => takeW Tryz.prog anyW (Instr.indexAt 24 t154_126 t155_127) k w) (fun t156_128 =>
   guardT (some t152_125, false) (fun k => takeW Tryz.prog anyW (Instr.fieldAt 63 t156_128 2) k w) (fun t157_129 =>
   guardT (some t152_125, false) (fun k => takeW Tryz.prog S (Instr.loadAt 3 t157_129) k w) (fun t158_130 =>
   guardT (some t152_125, false) (fun k => k l_2) (fun t159_131 =>
   guardT (some t152_125, false) (fun k => k best_90) (fun t160_132 =>
   guardT (some t152_125, false) (fun k => takeW Tryz.prog anyW (Instr.indexAt 24 t159_131 t160_132) k w) (fun t161_133 =>
   guardT (some t152_125, false) (fun k => takeW Tryz.prog anyW (Instr.fieldAt 63 t161_133 2) k w) (fun t162_134 =>
   guardT (some t152_125, false) (fun k => takeW Tryz.prog S (Instr.loadAt 3 t162_134) k w) (fun t163_135 =>
   guardT (some t152_125, false) (fun k => takeW Tryz.prog anyW (binS BinOp.eql 3 (Operand.tmp 158) (Operand.tmp 163) t158_130 t163_135) k w) (fun t164_136 =>
   guardT (some t152_125, false) (fun k => k t164_136) (fun t165_137 =>
   guardT (some t165_137, true) (fun k => k t124_101) (fun t166_138 =>
   guardT (some t165_137, true) (fun k => k l_2) (fun t167_139 =>
   guardT (some t165_137, true) (fun k => k best_90) (fun t168_140 =>
   guardT (some t165_137, true) (fun k => takeW Tryz.prog anyW (Instr.indexAt 24 t167_139 t168_140) k w) (fun t169_141 =>
   guardT (some t165_137, true) (fun k => takeW Tryz.prog (sameW w) (Instr.loadAt 63 t169_141) k w) (fun t170_142 =>
   guardT (some t165_137, true) (fun k => takeW Tryz.prog (sameW w) (Instr.loadAt 30 r_5) k w) (fun t171_143 =>
   guardT (some t165_137, true) (fun k => k moments_4) (fun t172_144 =>
   guardW (some t165_137, true) (fun k w => callW Tryz.prog (Value.func (Fn.func 30) #[] #[]) #[t170_142, t171_143, t172_144] k w) (fun t173_145 w => keepS S (fun w =>
   guardT (some t165_137, true) (fun k => takeW Tryz.prog anyW (binS BinOp.lss 3 (Operand.tmp 166) (Operand.tmp 173) t166_138 t173_145) k w) (fun t174_146 =>
   guardT (some t152_125, false) (fun k => pickT t165_137 t174_146 (Value.bool false) k) (fun t175_147 =>
   pickT t152_125 (Value.bool true) t175_147 (fun t176_148 =>
   condW t176_148
   (J_96 i_91 w)
   (J_96 best_90 w))))) w) w)))))))))))))))))))))))))))))))) w))) w) w) w) w) w) w) w) w) w) w) w) w) w)))
   (opW Tryz.prog (binS BinOp.lss 3 (Operand.tmp 178) (Operand.const (Value.int IntKind.i64 0)) best_90 (Value.int IntKind.i64 0)) (fun t179_152 w =>
   condW t179_152
   (callW Tryz.prog (Value.func (Fn.func 58) #[] #[]) #[(Value.int IntKind.i64 64)] (fun t181_153 w =>
   opW Tryz.prog (Instr.buildSlice 31 1 #[(0, t181_153)]) (fun t182_154 w =>
   opW Tryz.prog (Builtin.append_ #[31, 31] 31 #[out_20, t182_154]) (fun t183_155 w =>
   J_26 t183_155 w) w) w) w)
   (opW Tryz.prog (Instr.indexAt 89 t34_18 best_90) (fun t186_156 w =>
   opU Tryz.prog (Instr.storeAt 4 t186_156 (Value.bool true)) (fun _ w =>
   drewW w (fun w =>
   ∃ S : World → Prop, S w ∧
   takeW Tryz.prog anyW (Instr.indexAt 24 l_2 best_90) (fun t190_158 =>
   takeW Tryz.prog anyW (Instr.fieldAt 63 t190_158 3) (fun t191_159 =>
   takeW Tryz.prog S (Instr.loadAt 9 t191_159) (fun t192_160 =>
   takeW Tryz.prog anyW (Instr.indexAt 24 l_2 best_90) (fun t196_161 =>
   takeW Tryz.prog anyW (Instr.fieldAt 63 t196_161 3) (fun t197_162 =>
   takeW Tryz.prog S (Instr.loadAt 9 t197_162) (fun t198_163 =>
   takeW Tryz.prog anyW (Builtin.len_ #[9] 3 #[t198_163]) (fun t199_164 =>
   takeW Tryz.prog anyW (binS BinOp.sub 3 (Operand.const (Value.int IntKind.i64 63)) (Operand.tmp 199) (Value.int IntKind.i64 63) t199_164) (fun t200_165 =>
   callW Tryz.prog (Value.func (Fn.func 57) #[] #[]) #[t192_160] (fun t193_166 w => keepS S (fun w =>
   callW Tryz.prog (Value.func (Fn.func 58) #[] #[]) #[t200_165] (fun t201_167 w => keepS S (fun w =>
   takeW Tryz.prog anyW (binS BinOp.add 9 (Operand.tmp 193) (Operand.tmp 201) t193_166 t201_167) (fun t202_168 =>
   opW Tryz.prog (Instr.buildSlice 31 1 #[(0, t202_168)]) (fun t203_169 w => keepS S (fun w =>
   opW Tryz.prog (Builtin.append_ #[31, 31] 31 #[out_20, t203_169]) (fun t204_170 w => keepS S (fun w =>
   J_26 t204_170 w) w) w) w) w) w) w) w) w) w) w) w) w) w) w) w) w) w)) w) w)) w)) w) w) (Value.int IntKind.i64 (-1)) (Value.int IntKind.i64 0) w)) w))
   (k (Value.tuple #[out_20, (Value.int IntKind.i64 0)]) w)) w) w) (Value.slice none 0 0) (Value.int IntKind.i64 0) w) w) w)) w) w) w) w) w) w) w) w) w) w) w
theorem S24_vc (mode_1 l_2 r_3 moments_4 : Value) (k : Value → World → Prop) (w : World) : vc Tryz.prog Tryz.f24.ntmps ann24 none ((Tryz.f24.body).getD Code.skip) 1 (params 0 [mode_1, l_2, r_3, moments_4]) [] (finQ Tryz.prog Tryz.f24.results.toList k) w = S24 mode_1 l_2 r_3 moments_4 k w := by kernel_rfl
theorem S24_calls (mode_1 l_2 r_3 moments_4 : Value) (k : Value → World → Prop) (w : World) (h : S24 mode_1 l_2 r_3 moments_4 k w) : Calls Tryz.prog 24 #[mode_1, l_2, r_3, moments_4] w (retP k) :=
  calls_of_vc (fn := Tryz.f24) (c := (Tryz.f24.body).getD Code.skip) ann24 Tryz.func24 (by kernel_rfl) [mode_1, l_2, r_3, moments_4] w k (by kernel_rfl) ((S24_vc mode_1 l_2 r_3 moments_4 k w).symm ▸ h)
theorem C24 (mode_1 l_2 r_3 moments_4 : Value) (k : Value → World → Prop) (w : World) (h : S24 mode_1 l_2 r_3 moments_4 k w) : callW Tryz.prog (.func (.func 24) #[] #[]) #[mode_1, l_2, r_3, moments_4] k w :=
  callW_calls ok24 (by simpa using S24_calls mode_1 l_2 r_3 moments_4 k w h)

end
end Go.Proofs.YtfkfkldhcignbaaGreatDoor
