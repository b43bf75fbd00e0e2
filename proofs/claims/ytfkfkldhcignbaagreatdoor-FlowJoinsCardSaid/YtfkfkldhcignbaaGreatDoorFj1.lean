/- Part 2 of the proof of flowJoins: lemmas for it; no condition beyond the statement. -/
import Derived.Test.YtfkfkldhcignbaaGreatDoorFj0
import Derived.Test.YtfkfkldhcignbaaGreatDoorRows
/- The laws of single operations at this program's types, printed by program. -/
set_option linter.unusedVariables false
namespace Go.Proofs.YtfkfkldhcignbaaGreatDoor
open Go Go.V Go.RowKit
section
variable {k : Value → World → Prop} {w : World} {S : World → Prop} {K : Value → Prop}
theorem hz101 : hasZero Tryz.prog 101 = true := by kernel_rfl
theorem zc101 : (zeroT Tryz.prog 101).cells.toList = [Value.nilFunc] := by kernel_rfl
theorem al101 (hk : ∀ w', Below w.heap.size w w' → w'.heap.size = w.heap.size + 1 → RowAt w' w.heap.size 101 [Value.nilFunc] → k (.pointer (some ⟨w.heap.size, 0, none⟩)) w') : opW Tryz.prog (Instr.alloc 101 true (.tuple #[])) k w := w_allocN hz101 (by rw [zc101]; exact hk)
theorem hz111 : hasZero Tryz.prog 111 = true := by kernel_rfl
theorem zc111 : (zeroT Tryz.prog 111).cells.toList = [Value.nilFunc, Value.nilFunc, Value.nilFunc] := by kernel_rfl
theorem al111 (hk : ∀ w', Below w.heap.size w w' → w'.heap.size = w.heap.size + 1 → RowAt w' w.heap.size 111 [Value.nilFunc, Value.nilFunc, Value.nilFunc] → k (.pointer (some ⟨w.heap.size, 0, none⟩)) w') : opW Tryz.prog (Instr.alloc 111 true (.tuple #[])) k w := w_allocN hz111 (by rw [zc111]; exact hk)
theorem hz121 : hasZero Tryz.prog 121 = true := by kernel_rfl
theorem zc121 : (zeroT Tryz.prog 121).cells.toList = [(Value.int IntKind.i64 0), (Value.int IntKind.i64 0)] := by kernel_rfl
theorem al121 (hk : ∀ w', Below w.heap.size w w' → w'.heap.size = w.heap.size + 1 → RowAt w' w.heap.size 121 [(Value.int IntKind.i64 0), (Value.int IntKind.i64 0)] → k (.pointer (some ⟨w.heap.size, 0, none⟩)) w') : opW Tryz.prog (Instr.alloc 121 true (.tuple #[])) k w := w_allocN hz121 (by rw [zc121]; exact hk)
theorem hz161 : hasZero Tryz.prog 161 = true := by kernel_rfl
theorem zc161 : (zeroT Tryz.prog 161).cells.toList = [(Value.int IntKind.i64 0), Value.nilFunc] := by kernel_rfl
theorem hz28 : hasZero Tryz.prog 28 = true := by kernel_rfl
theorem zc28 : (zeroT Tryz.prog 28).cells.toList = [(Value.int IntKind.i64 0), (Value.int IntKind.i64 0), (Value.slice none 0 0), (Value.slice none 0 0), (Value.slice none 0 0)] := by kernel_rfl
theorem al28 (hk : ∀ w', Below w.heap.size w w' → w'.heap.size = w.heap.size + 1 → RowAt w' w.heap.size 28 [(Value.int IntKind.i64 0), (Value.int IntKind.i64 0), (Value.slice none 0 0), (Value.slice none 0 0), (Value.slice none 0 0)] → k (.pointer (some ⟨w.heap.size, 0, none⟩)) w') : opW Tryz.prog (Instr.alloc 28 true (.tuple #[])) k w := w_allocN hz28 (by rw [zc28]; exact hk)
theorem hz30 : hasZero Tryz.prog 30 = true := by kernel_rfl
theorem zc30 : (zeroT Tryz.prog 30).cells.toList = [(Value.int IntKind.i64 0), (Value.int IntKind.i64 0)] := by kernel_rfl
theorem al30 (hk : ∀ w', Below w.heap.size w w' → w'.heap.size = w.heap.size + 1 → RowAt w' w.heap.size 30 [(Value.int IntKind.i64 0), (Value.int IntKind.i64 0)] → k (.pointer (some ⟨w.heap.size, 0, none⟩)) w') : opW Tryz.prog (Instr.alloc 30 true (.tuple #[])) k w := w_allocN hz30 (by rw [zc30]; exact hk)
theorem hz31 : hasZero Tryz.prog 31 = true := by kernel_rfl
theorem zc31 : (zeroT Tryz.prog 31).cells.toList = [(Value.slice none 0 0)] := by kernel_rfl
theorem al31 (hk : ∀ w', Below w.heap.size w w' → w'.heap.size = w.heap.size + 1 → RowAt w' w.heap.size 31 [(Value.slice none 0 0)] → k (.pointer (some ⟨w.heap.size, 0, none⟩)) w') : opW Tryz.prog (Instr.alloc 31 true (.tuple #[])) k w := w_allocN hz31 (by rw [zc31]; exact hk)
theorem hz61 : hasZero Tryz.prog 61 = true := by kernel_rfl
theorem zc61 : (zeroT Tryz.prog 61).cells.toList = [(Value.int IntKind.i64 0), (Value.slice none 0 0), (Value.slice none 0 0), (Value.int IntKind.i64 0), (Value.int IntKind.i64 0), (Value.slice none 0 0)] := by kernel_rfl
theorem al61 (hk : ∀ w', Below w.heap.size w w' → w'.heap.size = w.heap.size + 1 → RowAt w' w.heap.size 61 [(Value.int IntKind.i64 0), (Value.slice none 0 0), (Value.slice none 0 0), (Value.int IntKind.i64 0), (Value.int IntKind.i64 0), (Value.slice none 0 0)] → k (.pointer (some ⟨w.heap.size, 0, none⟩)) w') : opW Tryz.prog (Instr.alloc 61 true (.tuple #[])) k w := w_allocN hz61 (by rw [zc61]; exact hk)
theorem hz63 : hasZero Tryz.prog 63 = true := by kernel_rfl
theorem zc63 : (zeroT Tryz.prog 63).cells.toList = [(Value.int IntKind.i64 0), (Value.int IntKind.i64 0), (Value.slice none 0 0), (Value.slice none 0 0), (Value.int IntKind.i64 0), (Value.int IntKind.i64 0), (Value.slice none 0 0), (Value.int IntKind.i64 0), (Value.string ⟨#[]⟩)] := by kernel_rfl
theorem al63 (hk : ∀ w', Below w.heap.size w w' → w'.heap.size = w.heap.size + 1 → RowAt w' w.heap.size 63 [(Value.int IntKind.i64 0), (Value.int IntKind.i64 0), (Value.slice none 0 0), (Value.slice none 0 0), (Value.int IntKind.i64 0), (Value.int IntKind.i64 0), (Value.slice none 0 0), (Value.int IntKind.i64 0), (Value.string ⟨#[]⟩)] → k (.pointer (some ⟨w.heap.size, 0, none⟩)) w') : opW Tryz.prog (Instr.alloc 63 true (.tuple #[])) k w := w_allocN hz63 (by rw [zc63]; exact hk)
theorem hz87 : hasZero Tryz.prog 87 = true := by kernel_rfl
theorem zc87 : (zeroT Tryz.prog 87).cells.toList = [(Value.int IntKind.i64 0), (Value.slice none 0 0)] := by kernel_rfl
theorem al87 (hk : ∀ w', Below w.heap.size w w' → w'.heap.size = w.heap.size + 1 → RowAt w' w.heap.size 87 [(Value.int IntKind.i64 0), (Value.slice none 0 0)] → k (.pointer (some ⟨w.heap.size, 0, none⟩)) w') : opW Tryz.prog (Instr.alloc 87 true (.tuple #[])) k w := w_allocN hz87 (by rw [zc87]; exact hk)
theorem hz89 : hasZero Tryz.prog 89 = true := by kernel_rfl
theorem zc89 : (zeroT Tryz.prog 89).cells.toList = [(Value.slice none 0 0)] := by kernel_rfl
theorem al89 (hk : ∀ w', Below w.heap.size w w' → w'.heap.size = w.heap.size + 1 → RowAt w' w.heap.size 89 [(Value.slice none 0 0)] → k (.pointer (some ⟨w.heap.size, 0, none⟩)) w') : opW Tryz.prog (Instr.alloc 89 true (.tuple #[])) k w := w_allocN hz89 (by rw [zc89]; exact hk)
theorem hz94 : hasZero Tryz.prog 94 = true := by kernel_rfl
theorem zc94 : (zeroT Tryz.prog 94).cells.toList = [(Value.int IntKind.i64 0), (Value.int IntKind.i64 0), (Value.int IntKind.i64 0), (Value.slice none 0 0), (Value.slice none 0 0), (Value.slice none 0 0), (Value.int IntKind.i64 0), (Value.int IntKind.i64 0)] := by kernel_rfl
theorem al94 (hk : ∀ w', Below w.heap.size w w' → w'.heap.size = w.heap.size + 1 → RowAt w' w.heap.size 94 [(Value.int IntKind.i64 0), (Value.int IntKind.i64 0), (Value.int IntKind.i64 0), (Value.slice none 0 0), (Value.slice none 0 0), (Value.slice none 0 0), (Value.int IntKind.i64 0), (Value.int IntKind.i64 0)] → k (.pointer (some ⟨w.heap.size, 0, none⟩)) w') : opW Tryz.prog (Instr.alloc 94 true (.tuple #[])) k w := w_allocN hz94 (by rw [zc94]; exact hk)
theorem sty24 : STy Tryz.prog 24 63 9 128 (Value.agg #[(Value.int IntKind.i64 0), (Value.int IntKind.i64 0), (Value.slice none 0 0), (Value.slice none 0 0), (Value.int IntKind.i64 0), (Value.int IntKind.i64 0), (Value.slice none 0 0), (Value.int IntKind.i64 0), (Value.string ⟨#[]⟩)]) := ⟨by kernel_rfl, by kernel_rfl, by kernel_rfl, by decide⟩
theorem sty25 : STy Tryz.prog 25 3 1 8 (Value.int IntKind.i64 0) := ⟨by kernel_rfl, by kernel_rfl, by kernel_rfl, by decide⟩
theorem sty26 : STy Tryz.prog 26 121 2 16 (Value.agg #[(Value.int IntKind.i64 0), (Value.int IntKind.i64 0)]) := ⟨by kernel_rfl, by kernel_rfl, by kernel_rfl, by decide⟩
theorem sty31 : STy Tryz.prog 31 9 1 16 (Value.string ⟨#[]⟩) := ⟨by kernel_rfl, by kernel_rfl, by kernel_rfl, by decide⟩
theorem sty33 : STy Tryz.prog 33 28 5 88 (Value.agg #[(Value.int IntKind.i64 0), (Value.int IntKind.i64 0), (Value.slice none 0 0), (Value.slice none 0 0), (Value.slice none 0 0)]) := ⟨by kernel_rfl, by kernel_rfl, by kernel_rfl, by decide⟩
theorem sty59 : STy Tryz.prog 59 87 2 32 (Value.agg #[(Value.int IntKind.i64 0), (Value.slice none 0 0)]) := ⟨by kernel_rfl, by kernel_rfl, by kernel_rfl, by decide⟩
theorem sty85 : STy Tryz.prog 85 5 1 1 (Value.int IntKind.u8 0) := ⟨by kernel_rfl, by kernel_rfl, by kernel_rfl, by decide⟩
theorem sty95 : STy Tryz.prog 95 96 1 8 (Value.pointer none) := ⟨by kernel_rfl, by kernel_rfl, by kernel_rfl, by decide⟩
theorem fo111_2 : fieldOff Tryz.prog 111 2 = some 2 := by kernel_rfl
theorem tfl111_2 {b o : Nat} : takeW Tryz.prog S (Instr.fieldAt 111 (.pointer (some ⟨b, o, none⟩)) 2) K w = K (.pointer (some ⟨b, o + 2, none⟩)) := t_field fo111_2
theorem fo121_0 : fieldOff Tryz.prog 121 0 = some 0 := by kernel_rfl
theorem fl121_0 {b o : Nat} : opW Tryz.prog (Instr.fieldAt 121 (.pointer (some ⟨b, o, none⟩)) 0) k w = k (.pointer (some ⟨b, o, none⟩)) w := w_field fo121_0
theorem fo121_1 : fieldOff Tryz.prog 121 1 = some 1 := by kernel_rfl
theorem fl121_1 {b o : Nat} : opW Tryz.prog (Instr.fieldAt 121 (.pointer (some ⟨b, o, none⟩)) 1) k w = k (.pointer (some ⟨b, o + 1, none⟩)) w := w_field fo121_1
theorem fo157_0 : fieldOff Tryz.prog 157 0 = some 0 := by kernel_rfl
theorem fl157_0 {b o : Nat} : opW Tryz.prog (Instr.fieldAt 157 (.pointer (some ⟨b, o, none⟩)) 0) k w = k (.pointer (some ⟨b, o, none⟩)) w := w_field fo157_0
theorem tfl157_0 {b o : Nat} : takeW Tryz.prog S (Instr.fieldAt 157 (.pointer (some ⟨b, o, none⟩)) 0) K w = K (.pointer (some ⟨b, o, none⟩)) := t_field fo157_0
theorem fo157_1 : fieldOff Tryz.prog 157 1 = some 6 := by kernel_rfl
theorem tfl157_1 {b o : Nat} : takeW Tryz.prog S (Instr.fieldAt 157 (.pointer (some ⟨b, o, none⟩)) 1) K w = K (.pointer (some ⟨b, o + 6, none⟩)) := t_field fo157_1
theorem fo157_2 : fieldOff Tryz.prog 157 2 = some 8 := by kernel_rfl
theorem fl157_2 {b o : Nat} : opW Tryz.prog (Instr.fieldAt 157 (.pointer (some ⟨b, o, none⟩)) 2) k w = k (.pointer (some ⟨b, o + 8, none⟩)) w := w_field fo157_2
theorem tfl157_2 {b o : Nat} : takeW Tryz.prog S (Instr.fieldAt 157 (.pointer (some ⟨b, o, none⟩)) 2) K w = K (.pointer (some ⟨b, o + 8, none⟩)) := t_field fo157_2
theorem fo28_0 : fieldOff Tryz.prog 28 0 = some 0 := by kernel_rfl
theorem tfl28_0 {b o : Nat} : takeW Tryz.prog S (Instr.fieldAt 28 (.pointer (some ⟨b, o, none⟩)) 0) K w = K (.pointer (some ⟨b, o, none⟩)) := t_field fo28_0
theorem fo28_1 : fieldOff Tryz.prog 28 1 = some 1 := by kernel_rfl
theorem fl28_1 {b o : Nat} : opW Tryz.prog (Instr.fieldAt 28 (.pointer (some ⟨b, o, none⟩)) 1) k w = k (.pointer (some ⟨b, o + 1, none⟩)) w := w_field fo28_1
theorem fo28_2 : fieldOff Tryz.prog 28 2 = some 2 := by kernel_rfl
theorem fl28_2 {b o : Nat} : opW Tryz.prog (Instr.fieldAt 28 (.pointer (some ⟨b, o, none⟩)) 2) k w = k (.pointer (some ⟨b, o + 2, none⟩)) w := w_field fo28_2
theorem fo28_3 : fieldOff Tryz.prog 28 3 = some 3 := by kernel_rfl
theorem fl28_3 {b o : Nat} : opW Tryz.prog (Instr.fieldAt 28 (.pointer (some ⟨b, o, none⟩)) 3) k w = k (.pointer (some ⟨b, o + 3, none⟩)) w := w_field fo28_3
theorem tfl28_3 {b o : Nat} : takeW Tryz.prog S (Instr.fieldAt 28 (.pointer (some ⟨b, o, none⟩)) 3) K w = K (.pointer (some ⟨b, o + 3, none⟩)) := t_field fo28_3
theorem fo28_4 : fieldOff Tryz.prog 28 4 = some 4 := by kernel_rfl
theorem fl28_4 {b o : Nat} : opW Tryz.prog (Instr.fieldAt 28 (.pointer (some ⟨b, o, none⟩)) 4) k w = k (.pointer (some ⟨b, o + 4, none⟩)) w := w_field fo28_4
theorem fo61_0 : fieldOff Tryz.prog 61 0 = some 0 := by kernel_rfl
theorem fl61_0 {b o : Nat} : opW Tryz.prog (Instr.fieldAt 61 (.pointer (some ⟨b, o, none⟩)) 0) k w = k (.pointer (some ⟨b, o, none⟩)) w := w_field fo61_0
theorem fo61_1 : fieldOff Tryz.prog 61 1 = some 1 := by kernel_rfl
theorem fl61_1 {b o : Nat} : opW Tryz.prog (Instr.fieldAt 61 (.pointer (some ⟨b, o, none⟩)) 1) k w = k (.pointer (some ⟨b, o + 1, none⟩)) w := w_field fo61_1
theorem fo61_2 : fieldOff Tryz.prog 61 2 = some 2 := by kernel_rfl
theorem fl61_2 {b o : Nat} : opW Tryz.prog (Instr.fieldAt 61 (.pointer (some ⟨b, o, none⟩)) 2) k w = k (.pointer (some ⟨b, o + 2, none⟩)) w := w_field fo61_2
theorem tfl61_2 {b o : Nat} : takeW Tryz.prog S (Instr.fieldAt 61 (.pointer (some ⟨b, o, none⟩)) 2) K w = K (.pointer (some ⟨b, o + 2, none⟩)) := t_field fo61_2
theorem fo61_5 : fieldOff Tryz.prog 61 5 = some 5 := by kernel_rfl
theorem fl61_5 {b o : Nat} : opW Tryz.prog (Instr.fieldAt 61 (.pointer (some ⟨b, o, none⟩)) 5) k w = k (.pointer (some ⟨b, o + 5, none⟩)) w := w_field fo61_5
theorem tfl61_5 {b o : Nat} : takeW Tryz.prog S (Instr.fieldAt 61 (.pointer (some ⟨b, o, none⟩)) 5) K w = K (.pointer (some ⟨b, o + 5, none⟩)) := t_field fo61_5
theorem fo63_1 : fieldOff Tryz.prog 63 1 = some 1 := by kernel_rfl
theorem fl63_1 {b o : Nat} : opW Tryz.prog (Instr.fieldAt 63 (.pointer (some ⟨b, o, none⟩)) 1) k w = k (.pointer (some ⟨b, o + 1, none⟩)) w := w_field fo63_1
theorem tfl63_1 {b o : Nat} : takeW Tryz.prog S (Instr.fieldAt 63 (.pointer (some ⟨b, o, none⟩)) 1) K w = K (.pointer (some ⟨b, o + 1, none⟩)) := t_field fo63_1
theorem fo94_1 : fieldOff Tryz.prog 94 1 = some 1 := by kernel_rfl
theorem tfl94_1 {b o : Nat} : takeW Tryz.prog S (Instr.fieldAt 94 (.pointer (some ⟨b, o, none⟩)) 1) K w = K (.pointer (some ⟨b, o + 1, none⟩)) := t_field fo94_1
theorem fo94_2 : fieldOff Tryz.prog 94 2 = some 6 := by kernel_rfl
theorem tfl94_2 {b o : Nat} : takeW Tryz.prog S (Instr.fieldAt 94 (.pointer (some ⟨b, o, none⟩)) 2) K w = K (.pointer (some ⟨b, o + 6, none⟩)) := t_field fo94_2
theorem fo98_0 : fieldOff Tryz.prog 98 0 = some 0 := by kernel_rfl
theorem tfl98_0 {b o : Nat} : takeW Tryz.prog S (Instr.fieldAt 98 (.pointer (some ⟨b, o, none⟩)) 0) K w = K (.pointer (some ⟨b, o, none⟩)) := t_field fo98_0
theorem fo98_2 : fieldOff Tryz.prog 98 2 = some 10 := by kernel_rfl
theorem fl98_2 {b o : Nat} : opW Tryz.prog (Instr.fieldAt 98 (.pointer (some ⟨b, o, none⟩)) 2) k w = k (.pointer (some ⟨b, o + 10, none⟩)) w := w_field fo98_2
theorem fo98_3 : fieldOff Tryz.prog 98 3 = some 11 := by kernel_rfl
theorem fl98_3 {b o : Nat} : opW Tryz.prog (Instr.fieldAt 98 (.pointer (some ⟨b, o, none⟩)) 3) k w = k (.pointer (some ⟨b, o + 11, none⟩)) w := w_field fo98_3
theorem isl158 : isSliceT Tryz.prog 158 = true := by kernel_rfl
theorem known161 : known Tryz.prog 161 = true := by kernel_rfl
theorem size161 : sizeT Tryz.prog 161 = 2 := by kernel_rfl
theorem isl23 : isSliceT Tryz.prog 23 = true := by kernel_rfl
theorem isl24 : isSliceT Tryz.prog 24 = true := by kernel_rfl
theorem known63 : known Tryz.prog 63 = true := by kernel_rfl
theorem size63 : sizeT Tryz.prog 63 = 9 := by kernel_rfl
theorem isl25 : isSliceT Tryz.prog 25 = true := by kernel_rfl
theorem known3 : known Tryz.prog 3 = true := by kernel_rfl
theorem size3 : sizeT Tryz.prog 3 = 1 := by kernel_rfl
theorem isl26 : isSliceT Tryz.prog 26 = true := by kernel_rfl
theorem known121 : known Tryz.prog 121 = true := by kernel_rfl
theorem size121 : sizeT Tryz.prog 121 = 2 := by kernel_rfl
theorem isl31 : isSliceT Tryz.prog 31 = true := by kernel_rfl
theorem isl33 : isSliceT Tryz.prog 33 = true := by kernel_rfl
theorem known28 : known Tryz.prog 28 = true := by kernel_rfl
theorem size28 : sizeT Tryz.prog 28 = 5 := by kernel_rfl
theorem known24 : known Tryz.prog 24 = true := by kernel_rfl
theorem known33 : known Tryz.prog 33 = true := by kernel_rfl
theorem known30 : known Tryz.prog 30 = true := by kernel_rfl
theorem size30 : sizeT Tryz.prog 30 = 2 := by kernel_rfl
theorem isl59 : isSliceT Tryz.prog 59 = true := by kernel_rfl
theorem known87 : known Tryz.prog 87 = true := by kernel_rfl
theorem size87 : sizeT Tryz.prog 87 = 2 := by kernel_rfl
theorem known4 : known Tryz.prog 4 = true := by kernel_rfl
theorem size4 : sizeT Tryz.prog 4 = 1 := by kernel_rfl
theorem isl95 : isSliceT Tryz.prog 95 = true := by kernel_rfl
theorem known96 : known Tryz.prog 96 = true := by kernel_rfl
theorem size96 : sizeT Tryz.prog 96 = 1 := by kernel_rfl
theorem agg101 : isAggT Tryz.prog 101 = false := by kernel_rfl
theorem known101 : known Tryz.prog 101 = true := by kernel_rfl
theorem ld101 {a : Addr} {v : Value} (hc : w.cell? a = some v) : opW Tryz.prog (Instr.loadAt 101 (.pointer (some a))) k w = k v w := w_load agg101 known101 hc
theorem agg111 : isAggT Tryz.prog 111 = true := by kernel_rfl
theorem known111 : known Tryz.prog 111 = true := by kernel_rfl
theorem size111 : sizeT Tryz.prog 111 = 3 := by kernel_rfl
theorem ld111 {b o : Nat} {vs : List Value} (hl : vs.length = 3) (hc : Cells w b o vs) : opW Tryz.prog (Instr.loadAt 111 (.pointer (some ⟨b, o, none⟩))) k w = k (.agg vs.toArray) w := w_loadAgg agg111 known111 (by rw [size111, hl]) hc
theorem agg155 : isAggT Tryz.prog 155 = false := by kernel_rfl
theorem known155 : known Tryz.prog 155 = true := by kernel_rfl
theorem ld155 {a : Addr} {v : Value} (hc : w.cell? a = some v) : opW Tryz.prog (Instr.loadAt 155 (.pointer (some a))) k w = k v w := w_load agg155 known155 hc
theorem agg158 : isAggT Tryz.prog 158 = false := by kernel_rfl
theorem known158 : known Tryz.prog 158 = true := by kernel_rfl
theorem ld158 {a : Addr} {v : Value} (hc : w.cell? a = some v) : opW Tryz.prog (Instr.loadAt 158 (.pointer (some a))) k w = k v w := w_load agg158 known158 hc
theorem agg24 : isAggT Tryz.prog 24 = false := by kernel_rfl
theorem ld24 {a : Addr} {v : Value} (hc : w.cell? a = some v) : opW Tryz.prog (Instr.loadAt 24 (.pointer (some a))) k w = k v w := w_load agg24 known24 hc
theorem agg25 : isAggT Tryz.prog 25 = false := by kernel_rfl
theorem known25 : known Tryz.prog 25 = true := by kernel_rfl
theorem ld25 {a : Addr} {v : Value} (hc : w.cell? a = some v) : opW Tryz.prog (Instr.loadAt 25 (.pointer (some a))) k w = k v w := w_load agg25 known25 hc
theorem known26 : known Tryz.prog 26 = true := by kernel_rfl
theorem agg28 : isAggT Tryz.prog 28 = true := by kernel_rfl
theorem ld28 {b o : Nat} {vs : List Value} (hl : vs.length = 5) (hc : Cells w b o vs) : opW Tryz.prog (Instr.loadAt 28 (.pointer (some ⟨b, o, none⟩))) k w = k (.agg vs.toArray) w := w_loadAgg agg28 known28 (by rw [size28, hl]) hc
theorem xld28 {b o : Nat} {vs : List Value} (hl : vs.length = 5) (hc : Cells w b o vs) : takeW Tryz.prog (sameW w) (Instr.loadAt 28 (.pointer (some ⟨b, o, none⟩))) K w = K (.agg vs.toArray) := x_loadAgg agg28 known28 (by rw [size28, hl]) hc
theorem agg3 : isAggT Tryz.prog 3 = false := by kernel_rfl
theorem ld3 {a : Addr} {v : Value} (hc : w.cell? a = some v) : opW Tryz.prog (Instr.loadAt 3 (.pointer (some a))) k w = k v w := w_load agg3 known3 hc
theorem agg30 : isAggT Tryz.prog 30 = true := by kernel_rfl
theorem ld30 {b o : Nat} {vs : List Value} (hl : vs.length = 2) (hc : Cells w b o vs) : opW Tryz.prog (Instr.loadAt 30 (.pointer (some ⟨b, o, none⟩))) k w = k (.agg vs.toArray) w := w_loadAgg agg30 known30 (by rw [size30, hl]) hc
theorem xld30 {b o : Nat} {vs : List Value} (hl : vs.length = 2) (hc : Cells w b o vs) : takeW Tryz.prog (sameW w) (Instr.loadAt 30 (.pointer (some ⟨b, o, none⟩))) K w = K (.agg vs.toArray) := x_loadAgg agg30 known30 (by rw [size30, hl]) hc
theorem agg31 : isAggT Tryz.prog 31 = false := by kernel_rfl
theorem known31 : known Tryz.prog 31 = true := by kernel_rfl
theorem ld31 {a : Addr} {v : Value} (hc : w.cell? a = some v) : opW Tryz.prog (Instr.loadAt 31 (.pointer (some a))) k w = k v w := w_load agg31 known31 hc
theorem agg33 : isAggT Tryz.prog 33 = false := by kernel_rfl
theorem ld33 {a : Addr} {v : Value} (hc : w.cell? a = some v) : opW Tryz.prog (Instr.loadAt 33 (.pointer (some a))) k w = k v w := w_load agg33 known33 hc
theorem agg4 : isAggT Tryz.prog 4 = false := by kernel_rfl
theorem ld4 {a : Addr} {v : Value} (hc : w.cell? a = some v) : opW Tryz.prog (Instr.loadAt 4 (.pointer (some a))) k w = k v w := w_load agg4 known4 hc
theorem known59 : known Tryz.prog 59 = true := by kernel_rfl
theorem agg61 : isAggT Tryz.prog 61 = true := by kernel_rfl
theorem known61 : known Tryz.prog 61 = true := by kernel_rfl
theorem size61 : sizeT Tryz.prog 61 = 6 := by kernel_rfl
theorem ld61 {b o : Nat} {vs : List Value} (hl : vs.length = 6) (hc : Cells w b o vs) : opW Tryz.prog (Instr.loadAt 61 (.pointer (some ⟨b, o, none⟩))) k w = k (.agg vs.toArray) w := w_loadAgg agg61 known61 (by rw [size61, hl]) hc
theorem xld61 {b o : Nat} {vs : List Value} (hl : vs.length = 6) (hc : Cells w b o vs) : takeW Tryz.prog (sameW w) (Instr.loadAt 61 (.pointer (some ⟨b, o, none⟩))) K w = K (.agg vs.toArray) := x_loadAgg agg61 known61 (by rw [size61, hl]) hc
theorem agg63 : isAggT Tryz.prog 63 = true := by kernel_rfl
theorem ld63 {b o : Nat} {vs : List Value} (hl : vs.length = 9) (hc : Cells w b o vs) : opW Tryz.prog (Instr.loadAt 63 (.pointer (some ⟨b, o, none⟩))) k w = k (.agg vs.toArray) w := w_loadAgg agg63 known63 (by rw [size63, hl]) hc
theorem agg71 : isAggT Tryz.prog 71 = true := by kernel_rfl
theorem known71 : known Tryz.prog 71 = true := by kernel_rfl
theorem size71 : sizeT Tryz.prog 71 = 7 := by kernel_rfl
theorem ld71 {b o : Nat} {vs : List Value} (hl : vs.length = 7) (hc : Cells w b o vs) : opW Tryz.prog (Instr.loadAt 71 (.pointer (some ⟨b, o, none⟩))) k w = k (.agg vs.toArray) w := w_loadAgg agg71 known71 (by rw [size71, hl]) hc
theorem agg87 : isAggT Tryz.prog 87 = true := by kernel_rfl
theorem ld87 {b o : Nat} {vs : List Value} (hl : vs.length = 2) (hc : Cells w b o vs) : opW Tryz.prog (Instr.loadAt 87 (.pointer (some ⟨b, o, none⟩))) k w = k (.agg vs.toArray) w := w_loadAgg agg87 known87 (by rw [size87, hl]) hc
theorem xld87 {b o : Nat} {vs : List Value} (hl : vs.length = 2) (hc : Cells w b o vs) : takeW Tryz.prog (sameW w) (Instr.loadAt 87 (.pointer (some ⟨b, o, none⟩))) K w = K (.agg vs.toArray) := x_loadAgg agg87 known87 (by rw [size87, hl]) hc
theorem agg89 : isAggT Tryz.prog 89 = false := by kernel_rfl
theorem known89 : known Tryz.prog 89 = true := by kernel_rfl
theorem ld89 {a : Addr} {v : Value} (hc : w.cell? a = some v) : opW Tryz.prog (Instr.loadAt 89 (.pointer (some a))) k w = k v w := w_load agg89 known89 hc
theorem xld89 {a : Addr} {v : Value} (hc : w.cell? a = some v) : takeW Tryz.prog (sameW w) (Instr.loadAt 89 (.pointer (some a))) K w = K v := x_load agg89 known89 hc
theorem agg94 : isAggT Tryz.prog 94 = true := by kernel_rfl
theorem known94 : known Tryz.prog 94 = true := by kernel_rfl
theorem size94 : sizeT Tryz.prog 94 = 8 := by kernel_rfl
theorem ld94 {b o : Nat} {vs : List Value} (hl : vs.length = 8) (hc : Cells w b o vs) : opW Tryz.prog (Instr.loadAt 94 (.pointer (some ⟨b, o, none⟩))) k w = k (.agg vs.toArray) w := w_loadAgg agg94 known94 (by rw [size94, hl]) hc
theorem sty89 : STy Tryz.prog 89 4 1 1 (Value.bool false) := ⟨by kernel_rfl, by kernel_rfl, by kernel_rfl, by decide⟩
theorem size101 : sizeT Tryz.prog 101 = 1 := by kernel_rfl
theorem st101 {a : Addr} {v old : Value} (hv : v.oneCell' = true) (hc : w.cell? a = some old) (hf : w.frozen? a = false) : opU Tryz.prog (Instr.storeAt 101 (.pointer (some a)) v) k w = k undef (w.setCell a v) := w_store hv size101 known101 hc hf
theorem size25 : sizeT Tryz.prog 25 = 1 := by kernel_rfl
theorem st25 {a : Addr} {v old : Value} (hv : v.oneCell' = true) (hc : w.cell? a = some old) (hf : w.frozen? a = false) : opU Tryz.prog (Instr.storeAt 25 (.pointer (some a)) v) k w = k undef (w.setCell a v) := w_store hv size25 known25 hc hf
theorem size26 : sizeT Tryz.prog 26 = 1 := by kernel_rfl
theorem st26 {a : Addr} {v old : Value} (hv : v.oneCell' = true) (hc : w.cell? a = some old) (hf : w.frozen? a = false) : opU Tryz.prog (Instr.storeAt 26 (.pointer (some a)) v) k w = k undef (w.setCell a v) := w_store hv size26 known26 hc hf
theorem st3 {a : Addr} {v old : Value} (hv : v.oneCell' = true) (hc : w.cell? a = some old) (hf : w.frozen? a = false) : opU Tryz.prog (Instr.storeAt 3 (.pointer (some a)) v) k w = k undef (w.setCell a v) := w_store hv size3 known3 hc hf
theorem size31 : sizeT Tryz.prog 31 = 1 := by kernel_rfl
theorem st31 {a : Addr} {v old : Value} (hv : v.oneCell' = true) (hc : w.cell? a = some old) (hf : w.frozen? a = false) : opU Tryz.prog (Instr.storeAt 31 (.pointer (some a)) v) k w = k undef (w.setCell a v) := w_store hv size31 known31 hc hf
theorem st4 {a : Addr} {v old : Value} (hv : v.oneCell' = true) (hc : w.cell? a = some old) (hf : w.frozen? a = false) : opU Tryz.prog (Instr.storeAt 4 (.pointer (some a)) v) k w = k undef (w.setCell a v) := w_store hv size4 known4 hc hf
theorem size59 : sizeT Tryz.prog 59 = 1 := by kernel_rfl
theorem st59 {a : Addr} {v old : Value} (hv : v.oneCell' = true) (hc : w.cell? a = some old) (hf : w.frozen? a = false) : opU Tryz.prog (Instr.storeAt 59 (.pointer (some a)) v) k w = k undef (w.setCell a v) := w_store hv size59 known59 hc hf
theorem size89 : sizeT Tryz.prog 89 = 1 := by kernel_rfl
theorem st89 {a : Addr} {v old : Value} (hv : v.oneCell' = true) (hc : w.cell? a = some old) (hf : w.frozen? a = false) : opU Tryz.prog (Instr.storeAt 89 (.pointer (some a)) v) k w = k undef (w.setCell a v) := w_store hv size89 known89 hc hf
theorem len158 {α : Type} {F : Fl α} {v : Value} {l : List α} (hs : IsSl F w v l) : opW Tryz.prog (Builtin.len_ #[158] 3 #[v]) k w = k (.int .i64 l.length) w := w_lenS isl158 hs
theorem len23 {α : Type} {F : Fl α} {v : Value} {l : List α} (hs : IsSl F w v l) : opW Tryz.prog (Builtin.len_ #[23] 3 #[v]) k w = k (.int .i64 l.length) w := w_lenS isl23 hs
theorem len24 {α : Type} {F : Fl α} {v : Value} {l : List α} (hs : IsSl F w v l) : opW Tryz.prog (Builtin.len_ #[24] 3 #[v]) k w = k (.int .i64 l.length) w := w_lenS isl24 hs
theorem len25 {α : Type} {F : Fl α} {v : Value} {l : List α} (hs : IsSl F w v l) : opW Tryz.prog (Builtin.len_ #[25] 3 #[v]) k w = k (.int .i64 l.length) w := w_lenS isl25 hs
theorem tlen25 {α : Type} {F : Fl α} {v : Value} {l : List α} (hs : IsSl F w v l) : takeW Tryz.prog S (Builtin.len_ #[25] 3 #[v]) K w = K (.int .i64 l.length) := t_lenS isl25 hs
theorem len26 {α : Type} {F : Fl α} {v : Value} {l : List α} (hs : IsSl F w v l) : opW Tryz.prog (Builtin.len_ #[26] 3 #[v]) k w = k (.int .i64 l.length) w := w_lenS isl26 hs
theorem len31 {α : Type} {F : Fl α} {v : Value} {l : List α} (hs : IsSl F w v l) : opW Tryz.prog (Builtin.len_ #[31] 3 #[v]) k w = k (.int .i64 l.length) w := w_lenS isl31 hs
theorem len33 {α : Type} {F : Fl α} {v : Value} {l : List α} (hs : IsSl F w v l) : opW Tryz.prog (Builtin.len_ #[33] 3 #[v]) k w = k (.int .i64 l.length) w := w_lenS isl33 hs
theorem len59 {α : Type} {F : Fl α} {v : Value} {l : List α} (hs : IsSl F w v l) : opW Tryz.prog (Builtin.len_ #[59] 3 #[v]) k w = k (.int .i64 l.length) w := w_lenS isl59 hs
theorem tlen59 {α : Type} {F : Fl α} {v : Value} {l : List α} (hs : IsSl F w v l) : takeW Tryz.prog S (Builtin.len_ #[59] 3 #[v]) K w = K (.int .i64 l.length) := t_lenS isl59 hs
theorem len95 {α : Type} {F : Fl α} {v : Value} {l : List α} (hs : IsSl F w v l) : opW Tryz.prog (Builtin.len_ #[95] 3 #[v]) k w = k (.int .i64 l.length) w := w_lenS isl95 hs
theorem ok10 : callOk Tryz.prog 10 = true := by kernel_rfl
theorem ok11 : callOk Tryz.prog 11 = true := by kernel_rfl
theorem ok13 : callOk Tryz.prog 13 = true := by kernel_rfl
theorem ok16 : callOk Tryz.prog 16 = true := by kernel_rfl
theorem ok18 : callOk Tryz.prog 18 = true := by kernel_rfl
theorem ok19 : callOk Tryz.prog 19 = true := by kernel_rfl
theorem ok21 : callOk Tryz.prog 21 = true := by kernel_rfl
theorem ok23 : callOk Tryz.prog 23 = true := by kernel_rfl
theorem ok25 : callOk Tryz.prog 25 = true := by kernel_rfl
theorem ok27 : callOk Tryz.prog 27 = true := by kernel_rfl
theorem ok28 : callOk Tryz.prog 28 = true := by kernel_rfl
theorem ok31 : callOk Tryz.prog 31 = true := by kernel_rfl
theorem ok32 : callOk Tryz.prog 32 = true := by kernel_rfl
theorem ok33 : callOk Tryz.prog 33 = true := by kernel_rfl
theorem ok34 : callOk Tryz.prog 34 = true := by kernel_rfl
theorem ok35 : callOk Tryz.prog 35 = true := by kernel_rfl
theorem ok36 : callOk Tryz.prog 36 = true := by kernel_rfl
theorem ok37 : callOk Tryz.prog 37 = true := by kernel_rfl
theorem ok38 : callOk Tryz.prog 38 = true := by kernel_rfl
theorem ok39 : callOk Tryz.prog 39 = true := by kernel_rfl
theorem ok41 : callOk Tryz.prog 41 = true := by kernel_rfl
theorem ok42 : callOk Tryz.prog 42 = true := by kernel_rfl
theorem ok43 : callOk Tryz.prog 43 = true := by kernel_rfl
theorem ok45 : callOk Tryz.prog 45 = true := by kernel_rfl
theorem ok46 : callOk Tryz.prog 46 = true := by kernel_rfl
theorem ok47 : callOk Tryz.prog 47 = true := by kernel_rfl
theorem ok48 : callOk Tryz.prog 48 = true := by kernel_rfl
theorem ok49 : callOk Tryz.prog 49 = true := by kernel_rfl
theorem ok51 : callOk Tryz.prog 51 = true := by kernel_rfl
theorem ok52 : callOk Tryz.prog 52 = true := by kernel_rfl
theorem ok53 : callOk Tryz.prog 53 = true := by kernel_rfl
theorem ok54 : callOk Tryz.prog 54 = true := by kernel_rfl
theorem ok55 : callOk Tryz.prog 55 = true := by kernel_rfl
theorem ok59 : callOk Tryz.prog 59 = true := by kernel_rfl
theorem ok60 : callOk Tryz.prog 60 = true := by kernel_rfl
theorem ok61 : callOk Tryz.prog 61 = true := by kernel_rfl
theorem ok62 : callOk Tryz.prog 62 = true := by kernel_rfl
theorem ok63 : callOk Tryz.prog 63 = true := by kernel_rfl
theorem ok64 : callOk Tryz.prog 64 = true := by kernel_rfl
theorem ok65 : callOk Tryz.prog 65 = true := by kernel_rfl
theorem ok66 : callOk Tryz.prog 66 = true := by kernel_rfl
theorem ok67 : callOk Tryz.prog 67 = true := by kernel_rfl
theorem ok68 : callOk Tryz.prog 68 = true := by kernel_rfl
theorem ok69 : callOk Tryz.prog 69 = true := by kernel_rfl
theorem ok70 : callOk Tryz.prog 70 = true := by kernel_rfl
theorem ok71 : callOk Tryz.prog 71 = true := by kernel_rfl
theorem ok72 : callOk Tryz.prog 72 = true := by kernel_rfl
theorem ok73 : callOk Tryz.prog 73 = true := by kernel_rfl
theorem ok74 : callOk Tryz.prog 74 = true := by kernel_rfl
theorem ok75 : callOk Tryz.prog 75 = true := by kernel_rfl
theorem ok76 : callOk Tryz.prog 76 = true := by kernel_rfl
theorem ok77 : callOk Tryz.prog 77 = true := by kernel_rfl
theorem ok78 : callOk Tryz.prog 78 = true := by kernel_rfl
theorem ok79 : callOk Tryz.prog 79 = true := by kernel_rfl
theorem ok80 : callOk Tryz.prog 80 = true := by kernel_rfl
theorem ok81 : callOk Tryz.prog 81 = true := by kernel_rfl
theorem ok82 : callOk Tryz.prog 82 = true := by kernel_rfl
theorem ok84 : callOk Tryz.prog 84 = true := by kernel_rfl
theorem ok85 : callOk Tryz.prog 85 = true := by kernel_rfl
theorem ok86 : callOk Tryz.prog 86 = true := by kernel_rfl
theorem ok87 : callOk Tryz.prog 87 = true := by kernel_rfl
theorem ok88 : callOk Tryz.prog 88 = true := by kernel_rfl
theorem ok89 : callOk Tryz.prog 89 = true := by kernel_rfl
theorem ok93 : callOk Tryz.prog 93 = true := by kernel_rfl
theorem ok94 : callOk Tryz.prog 94 = true := by kernel_rfl
theorem ok95 : callOk Tryz.prog 95 = true := by kernel_rfl
theorem ok96 : callOk Tryz.prog 96 = true := by kernel_rfl
theorem ok105 : callOk Tryz.prog 105 = true := by kernel_rfl
theorem ok106 : callOk Tryz.prog 106 = true := by kernel_rfl
theorem ok107 : callOk Tryz.prog 107 = true := by kernel_rfl
theorem ok108 : callOk Tryz.prog 108 = true := by kernel_rfl
theorem ok109 : callOk Tryz.prog 109 = true := by kernel_rfl
theorem ok110 : callOk Tryz.prog 110 = true := by kernel_rfl
theorem ok111 : callOk Tryz.prog 111 = true := by kernel_rfl
theorem ok112 : callOk Tryz.prog 112 = true := by kernel_rfl
theorem ok113 : callOk Tryz.prog 113 = true := by kernel_rfl
theorem ok114 : callOk Tryz.prog 114 = true := by kernel_rfl
theorem ok161 : callOk Tryz.prog 161 = true := by kernel_rfl
theorem ok163 : callOk Tryz.prog 163 = true := by kernel_rfl
theorem ok164 : callOk Tryz.prog 164 = true := by kernel_rfl
theorem ok165 : callOk Tryz.prog 165 = true := by kernel_rfl
theorem ok166 : callOk Tryz.prog 166 = true := by kernel_rfl
theorem ok167 : callOk Tryz.prog 167 = true := by kernel_rfl
theorem ok168 : callOk Tryz.prog 168 = true := by kernel_rfl
theorem ok183 : callOk Tryz.prog 183 = true := by kernel_rfl
theorem ok184 : callOk Tryz.prog 184 = true := by kernel_rfl
theorem ok185 : callOk Tryz.prog 185 = true := by kernel_rfl
theorem ok186 : callOk Tryz.prog 186 = true := by kernel_rfl
theorem ok187 : callOk Tryz.prog 187 = true := by kernel_rfl
theorem ok188 : callOk Tryz.prog 188 = true := by kernel_rfl
theorem ok189 : callOk Tryz.prog 189 = true := by kernel_rfl
theorem ok190 : callOk Tryz.prog 190 = true := by kernel_rfl
theorem ok191 : callOk Tryz.prog 191 = true := by kernel_rfl
theorem ok192 : callOk Tryz.prog 192 = true := by kernel_rfl
theorem ok193 : callOk Tryz.prog 193 = true := by kernel_rfl
theorem ok194 : callOk Tryz.prog 194 = true := by kernel_rfl
theorem ok195 : callOk Tryz.prog 195 = true := by kernel_rfl
theorem ok196 : callOk Tryz.prog 196 = true := by kernel_rfl
theorem ok197 : callOk Tryz.prog 197 = true := by kernel_rfl
theorem ok198 : callOk Tryz.prog 198 = true := by kernel_rfl
theorem ok199 : callOk Tryz.prog 199 = true := by kernel_rfl
theorem ok200 : callOk Tryz.prog 200 = true := by kernel_rfl
theorem ok201 : callOk Tryz.prog 201 = true := by kernel_rfl
theorem ok202 : callOk Tryz.prog 202 = true := by kernel_rfl
end
end Go.Proofs.YtfkfkldhcignbaaGreatDoor
/- The conditions of the functions, printed by program out of the loaded code, each with the contract that follows from it. -/
set_option linter.unusedVariables false
set_option maxRecDepth 100000
namespace Go.Proofs.YtfkfkldhcignbaaGreatDoor
open Go Go.V
noncomputable section

/-! newswire/newswirelaw26.FlowJoins -/
def ann9 : Ann := [(30, Note.plan (Plan.takeP 0 (Plan.takeU 1 (Plan.takeP 3 (Plan.takeU 4 (Plan.alt (Plan.run 2 (Plan.alt (Plan.run 5 (Plan.alt (Plan.run 6 (Plan.run 7 (Plan.run 8 Plan.done))) (Plan.run 7 (Plan.run 6 (Plan.run 8 Plan.done))))) (Plan.run 7 (Plan.run 5 (Plan.run 6 (Plan.run 8 Plan.done)))))) (Plan.run 7 (Plan.run 2 (Plan.run 5 (Plan.run 6 (Plan.run 8 Plan.done))))))))))), (32765, Note.keep [2, 9, 10, 11, 12, 13, 14, 16]), (32766, Note.plan (Plan.takeP 0 (Plan.takeU 2 (Plan.run 1 (Plan.run 3 (Plan.run 4 (Plan.takeP 5 Plan.done))))))), (65530, Note.loop [16, 17] [2, 9, 10, 11, 12, 13, 14]), (524242, Note.keep [2, 9, 10, 11, 12, 13, 14, 16, 17]), (524285, Note.keep [2, 9, 10, 11, 12, 13, 16, 20]), (524286, Note.plan (Plan.takeP 0 (Plan.takeU 2 (Plan.run 1 (Plan.run 3 (Plan.run 4 (Plan.takeP 5 Plan.done))))))), (1048570, Note.loop [23] [2, 9, 10, 11, 12, 13, 16, 20, 21]), (1048574, Note.plan (Plan.takeP 0 (Plan.takeU 2 (Plan.run 1 (Plan.run 3 (Plan.run 4 (Plan.takeP 5 Plan.done))))))), (2096968, Note.plan (Plan.takeX 0 (Plan.takeX 1 (Plan.takeP 2 (Plan.takeP 3 (Plan.takeP 4 (Plan.takeX 5 (Plan.run 6 (Plan.takeP 7 Plan.done))))))))), (4193938, Note.plan (Plan.takeX 0 (Plan.takeX 1 (Plan.takeP 2 (Plan.takeP 3 (Plan.takeP 4 (Plan.takeX 5 (Plan.run 6 (Plan.takeP 7 Plan.done))))))))), (8387878, Note.plan (Plan.takeP 0 (Plan.takeP 1 (Plan.takeP 2 (Plan.takeP 3 (Plan.takeP 4 (Plan.takeP 5 (Plan.takeP 6 (Plan.takeP 7 (Plan.takeP 8 (Plan.takeU 9 (Plan.takeP 10 (Plan.run 11 (Plan.takeP 12 (Plan.takeP 13 Plan.done))))))))))))))), (8388562, Note.keep [2, 9, 10, 11, 12, 13, 16, 20, 21, 23]), (33554248, Note.plan (Plan.takeP 0 (Plan.takeP 1 (Plan.takeP 2 (Plan.takeU 3 (Plan.run 4 (Plan.takeP 5 (Plan.takeP 6 Plan.done))))))))]
def S9 (x_1 z_2 at_3 r_4 : Value) (k : Value → World → Prop) (w : World) : Prop :=
   opW Tryz.prog (Instr.box 72 x_1) (fun x_5 w =>
   opW Tryz.prog (Instr.box 30 r_4) (fun r_6 w =>
   callW Tryz.prog (Value.func (Fn.func 10) #[] #[]) #[] (fun t33_7 w =>
   opW Tryz.prog (Op.unary UnOp.not t33_7) (fun t35_9 w =>
   condW t35_9
   (k (Value.bool false) w)
   (joinW (fun p_28 w =>
   callW Tryz.prog (Value.func (Fn.func 11) #[] #[]) #[z_2] (fun t44_29 w =>
   opW Tryz.prog (Instr.indexAt 72 x_5 (Value.int IntKind.i64 0)) (fun t45_30 w =>
   opW Tryz.prog (Instr.loadAt 71 t45_30) (fun t46_31 w =>
   callW Tryz.prog (Value.func (Fn.func 32) #[] #[]) #[t46_31] (fun t47_32 w =>
   opW Tryz.prog (Instr.alloc 61 true (Value.tuple #[])) (fun a_33 w =>
   opU Tryz.prog (Instr.storeAt 61 a_33 t47_32) (fun _ w =>
   opW Tryz.prog (Instr.indexAt 72 x_5 (Value.int IntKind.i64 1)) (fun t48_34 w =>
   opW Tryz.prog (Instr.loadAt 71 t48_34) (fun t49_35 w =>
   callW Tryz.prog (Value.func (Fn.func 32) #[] #[]) #[t49_35] (fun t50_36 w =>
   opW Tryz.prog (Instr.alloc 61 true (Value.tuple #[])) (fun b_37 w =>
   opU Tryz.prog (Instr.storeAt 61 b_37 t50_36) (fun _ w =>
   opW Tryz.prog (Instr.fieldAt 61 a_33 0) (fun t51_38 w =>
   opW Tryz.prog (Instr.loadAt 3 t51_38) (fun t52_39 w =>
   opW Tryz.prog (binS BinOp.quo 3 (Operand.tmp 52) (Operand.const (Value.int IntKind.i64 5)) t52_39 (Value.int IntKind.i64 5)) (fun t53_40 w =>
   opW Tryz.prog (Instr.fieldAt 61 a_33 0) (fun t54_41 w =>
   opU Tryz.prog (Instr.storeAt 3 t54_41 t53_40) (fun _ w =>
   opW Tryz.prog (Instr.fieldAt 61 b_37 0) (fun t55_42 w =>
   opW Tryz.prog (Instr.loadAt 3 t55_42) (fun t56_43 w =>
   opW Tryz.prog (binS BinOp.quo 3 (Operand.tmp 56) (Operand.const (Value.int IntKind.i64 5)) t56_43 (Value.int IntKind.i64 5)) (fun t57_44 w =>
   opW Tryz.prog (Instr.fieldAt 61 b_37 0) (fun t58_45 w =>
   opU Tryz.prog (Instr.storeAt 3 t58_45 t57_44) (fun _ w =>
   opW Tryz.prog (Instr.loadAt 61 a_33) (fun t60_46 w =>
   opW Tryz.prog (Instr.loadAt 61 b_37) (fun t61_47 w =>
   callW Tryz.prog (Value.func (Fn.func 33) #[] #[]) #[t60_46, t61_47] (fun t62_48 w =>
   opW Tryz.prog (Instr.extract t62_48 0) (fun t63_49 w =>
   opW Tryz.prog (Instr.extract t62_48 1) (fun t64_50 w =>
   opW Tryz.prog (Instr.alloc 61 true (Value.tuple #[])) (fun both_51 w =>
   opU Tryz.prog (Instr.storeAt 61 both_51 t63_49) (fun _ w =>
   opW Tryz.prog (binS BinOp.neq 42 (Operand.tmp 65) (Operand.const (Value.int IntKind.i64 0)) t64_50 (Value.int IntKind.i64 0)) (fun t66_53 w =>
   condW t66_53
   (guardW (some t33_7, true) (fun k w => opW Tryz.prog (Instr.fieldAt 61 a_33 5) k w) (fun t69_54 w =>
   guardW (some t33_7, true) (fun k w => opW Tryz.prog (Instr.loadAt 59 t69_54) k w) (fun t70_55 w =>
   guardW (some t33_7, true) (fun k w => opW Tryz.prog (Builtin.len_ #[59] 3 #[t70_55]) k w) (fun t71_56 w =>
   guardW (some t33_7, true) (fun k w => opW Tryz.prog (Instr.fieldAt 61 b_37 5) k w) (fun t72_57 w =>
   guardW (some t33_7, true) (fun k w => opW Tryz.prog (Instr.loadAt 59 t72_57) k w) (fun t73_58 w =>
   guardW (some t33_7, true) (fun k w => opW Tryz.prog (Builtin.len_ #[59] 3 #[t73_58]) k w) (fun t74_59 w =>
   guardW (some t33_7, true) (fun k w => opW Tryz.prog (binS BinOp.add 3 (Operand.tmp 71) (Operand.tmp 74) t71_56 t74_59) k w) (fun t75_60 w =>
   guardW (some t33_7, true) (fun k w => opW Tryz.prog (binS BinOp.gtr 3 (Operand.tmp 75) (Operand.const (Value.int IntKind.i64 4)) t75_60 (Value.int IntKind.i64 4)) k w) (fun t76_61 w =>
   pickW t33_7 t76_61 (Value.bool false) (fun t77_62 w =>
   k t77_62 w) w) w) w) w) w) w) w) w) w)
   (opW Tryz.prog (Builtin.len_ #[33] 3 #[t44_29]) (fun t79_63 w =>
   opW Tryz.prog (binS BinOp.sub 3 (Operand.tmp 79) (Operand.const (Value.int IntKind.i64 1)) t79_63 (Value.int IntKind.i64 1)) (fun t80_64 w =>
   Loop2 (fun first_66 k_67 w K_68 =>
   opW Tryz.prog (binS BinOp.geq 3 (Operand.tmp 81) (Operand.const (Value.int IntKind.i64 0)) k_67 (Value.int IntKind.i64 0)) (fun t82_70 w =>
   condW t82_70
   (joinW (fun first_96 w =>
   opW Tryz.prog (binS BinOp.sub 3 (Operand.tmp 83) (Operand.const (Value.int IntKind.i64 1)) k_67 (Value.int IntKind.i64 1)) (fun t84_97 w =>
   loopK [] [] [at_3, t33_7, p_28, t44_29, a_33, b_37, both_51] [at_3, t33_7, p_28, t44_29, a_33, b_37, both_51] (K_68 first_96 t84_97 w)) w) (fun J_71 =>
   drewW w (fun w =>
   takeW Tryz.prog (sameW w) (Instr.loadAt 61 a_33) (fun t85_73 =>
   takeW Tryz.prog (sameW w) (Instr.loadAt 30 p_28) (fun t86_74 =>
   takeW Tryz.prog anyW (Instr.indexAt 33 t44_29 k_67) (fun t89_75 =>
   takeW Tryz.prog (sameW w) (Instr.loadAt 28 t89_75) (fun t90_76 =>
   callW Tryz.prog (Value.func (Fn.func 34) #[] #[]) #[t85_73, t86_74, t90_76] (fun t91_77 w =>
   drewW w (fun w =>
   takeW Tryz.prog (sameW w) (Instr.loadAt 61 b_37) (fun t92_79 =>
   takeW Tryz.prog (sameW w) (Instr.loadAt 30 p_28) (fun t93_80 =>
   takeW Tryz.prog anyW (Instr.indexAt 33 t44_29 k_67) (fun t96_81 =>
   takeW Tryz.prog (sameW w) (Instr.loadAt 28 t96_81) (fun t97_82 =>
   callW Tryz.prog (Value.func (Fn.func 34) #[] #[]) #[t92_79, t93_80, t97_82] (fun t98_83 w =>
   drewW w (fun w =>
   ∃ S : World → Prop, S w ∧
   guardT (some t91_77, true) (fun k => k t98_83) (fun t101_85 =>
   pickT t91_77 t101_85 (Value.bool false) (fun t102_86 =>
   guardT (some t102_86, true) (fun k => k t44_29) (fun t104_87 =>
   guardT (some t102_86, true) (fun k => k k_67) (fun t105_88 =>
   guardT (some t102_86, true) (fun k => takeW Tryz.prog anyW (Instr.indexAt 33 t104_87 t105_88) k w) (fun t106_89 =>
   guardT (some t102_86, true) (fun k => takeW Tryz.prog anyW (Instr.fieldAt 28 t106_89 0) k w) (fun t107_90 =>
   guardT (some t102_86, true) (fun k => takeW Tryz.prog S (Instr.loadAt 3 t107_90) k w) (fun t108_91 =>
   guardT (some t102_86, true) (fun k => k at_3) (fun t109_92 =>
   guardW (some t102_86, true) (fun k w => callW Tryz.prog (Value.func (Fn.func 13) #[] #[]) #[t109_92, (Value.int IntKind.i64 30)] k w) (fun t110_93 w => keepS S (fun w =>
   guardT (some t102_86, true) (fun k => takeW Tryz.prog anyW (binS BinOp.geq 3 (Operand.tmp 108) (Operand.tmp 110) t108_91 t110_93) k w) (fun t111_94 =>
   pickT t102_86 t111_94 (Value.bool false) (fun t112_95 =>
   condW t112_95
   (J_71 k_67 w)
   (J_71 first_66 w)))) w) w)))))))))) w) w) w) w) w)) w) w) w) w) w)))
   (drewW w (fun w =>
   ∃ S : World → Prop, S w ∧
   takeW Tryz.prog S (Instr.loadAt 61 both_51) (fun t116_99 =>
   callW Tryz.prog (Value.func (Fn.func 13) #[] #[]) #[at_3, (Value.int IntKind.i64 30)] (fun t115_100 w => keepS S (fun w =>
   opW Tryz.prog (Instr.build 63 #[(0, t115_100), (1, t116_99), (2, (Value.int IntKind.i64 2)), (3, (Value.string { data := #[98, 111, 116, 104] }))]) (fun t117_101 w =>
   opW Tryz.prog (Instr.buildSlice 24 1 #[(0, t117_101)]) (fun t118_102 w => keepS S (fun w =>
   opW Tryz.prog (Instr.loadAt 30 p_28) (fun t121_103 w =>
   callW Tryz.prog (Value.func (Fn.func 23) #[] #[]) #[(Value.int IntKind.i64 1), t118_102, t121_103, t44_29] (fun t123_104 w =>
   opW Tryz.prog (Instr.extract t123_104 0) (fun t124_105 w =>
   opW Tryz.prog (Instr.extract t123_104 1) (fun t125_106 w =>
   opW Tryz.prog (binS BinOp.neq 42 (Operand.tmp 126) (Operand.const (Value.int IntKind.i64 0)) t125_106 (Value.int IntKind.i64 0)) (fun t127_108 w =>
   guardW (some t127_108, false) (fun k w => k t124_105 w) (fun t129_109 w =>
   guardW (some t127_108, false) (fun k w => opW Tryz.prog (Builtin.len_ #[31] 3 #[t129_109]) k w) (fun t130_110 w =>
   guardW (some t127_108, false) (fun k w => k t44_29 w) (fun t131_111 w =>
   guardW (some t127_108, false) (fun k w => opW Tryz.prog (Builtin.len_ #[33] 3 #[t131_111]) k w) (fun t132_112 w =>
   guardW (some t127_108, false) (fun k w => opW Tryz.prog (binS BinOp.neq 3 (Operand.tmp 130) (Operand.tmp 132) t130_110 t132_112) k w) (fun t133_113 w =>
   pickW t127_108 (Value.bool true) t133_113 (fun t134_114 w =>
   condW t134_114
   (k (Value.bool false) w)
   (Loop1 (fun k_116 w K_117 =>
   opW Tryz.prog (Builtin.len_ #[33] 3 #[t44_29]) (fun t137_119 w =>
   opW Tryz.prog (binS BinOp.lss 3 (Operand.tmp 135) (Operand.tmp 137) k_116 t137_119) (fun t138_120 w =>
   condW t138_120
   (drewW w (fun w =>
   ∃ S : World → Prop, S w ∧
   takeW Tryz.prog anyW (Instr.indexAt 31 t124_105 k_116) (fun t143_123 =>
   takeW Tryz.prog S (Instr.loadAt 9 t143_123) (fun t144_124 =>
   callW Tryz.prog (Value.func (Fn.func 35) #[] #[]) #[(Value.int IntKind.i64 64)] (fun t145_125 w => keepS S (fun w =>
   takeW Tryz.prog anyW (binS BinOp.eql 9 (Operand.tmp 144) (Operand.tmp 145) t144_124 t145_125) (fun t146_126 =>
   opW Tryz.prog (binS BinOp.eql 3 (Operand.tmp 148) (Operand.tmp 149) k_116 first_66) (fun t150_127 w =>
   opW Tryz.prog (binS BinOp.eql 4 (Operand.tmp 147) (Operand.tmp 150) t146_126 t150_127) (fun t151_128 w =>
   condW t151_128
   (k (Value.bool false) w)
   (opW Tryz.prog (binS BinOp.add 3 (Operand.tmp 139) (Operand.const (Value.int IntKind.i64 1)) k_116 (Value.int IntKind.i64 1)) (fun t140_129 w =>
   loopK [] [] [at_3, t33_7, p_28, t44_29, a_33, b_37, first_66, t118_102, t124_105] [at_3, t33_7, p_28, t44_29, a_33, b_37, first_66, t118_102, t124_105] (K_117 t140_129 w)) w)) w) w) w) w) w) w) w))
   (drewW w (fun w =>
   ∃ S : World → Prop, S w ∧
   takeW Tryz.prog S (Instr.loadAt 61 a_33) (fun t154_131 =>
   callW Tryz.prog (Value.func (Fn.func 13) #[] #[]) #[at_3, (Value.int IntKind.i64 30)] (fun t153_132 w => keepS S (fun w =>
   opW Tryz.prog (Instr.build 63 #[(0, t153_132), (1, t154_131), (2, (Value.int IntKind.i64 2)), (3, (Value.string { data := #[111, 110, 101] }))]) (fun t155_133 w =>
   opW Tryz.prog (Instr.buildSlice 24 1 #[(0, t155_133)]) (fun t156_134 w => keepS S (fun w =>
   drewW w (fun w =>
   ∃ S : World → Prop, S w ∧
   takeW Tryz.prog S (Instr.loadAt 61 b_37) (fun t159_136 =>
   callW Tryz.prog (Value.func (Fn.func 13) #[] #[]) #[at_3, (Value.int IntKind.i64 30)] (fun t158_137 w => keepS S (fun w =>
   opW Tryz.prog (Instr.build 63 #[(0, t158_137), (1, t159_136), (2, (Value.int IntKind.i64 2)), (3, (Value.string { data := #[116, 119, 111] }))]) (fun t160_138 w =>
   opW Tryz.prog (Instr.buildSlice 24 1 #[(0, t160_138)]) (fun t161_139 w => keepS S (fun w =>
   opW Tryz.prog (Instr.loadAt 30 p_28) (fun t164_140 w =>
   callW Tryz.prog (Value.func (Fn.func 16) #[] #[]) #[t156_134, t164_140, t44_29] (fun t166_141 w =>
   opW Tryz.prog (Instr.extract t166_141 0) (fun t167_142 w =>
   opW Tryz.prog (Instr.extract t166_141 1) (fun t168_143 w =>
   opW Tryz.prog (Instr.loadAt 30 p_28) (fun t171_144 w =>
   callW Tryz.prog (Value.func (Fn.func 16) #[] #[]) #[t161_139, t171_144, t44_29] (fun t173_145 w =>
   opW Tryz.prog (Instr.extract t173_145 0) (fun t174_146 w =>
   opW Tryz.prog (Instr.extract t173_145 1) (fun t175_147 w =>
   opW Tryz.prog (Instr.loadAt 30 p_28) (fun t178_148 w =>
   callW Tryz.prog (Value.func (Fn.func 16) #[] #[]) #[t118_102, t178_148, t44_29] (fun t180_149 w =>
   opW Tryz.prog (Instr.extract t180_149 0) (fun t181_150 w =>
   opW Tryz.prog (Instr.extract t180_149 1) (fun t182_151 w =>
   guardW (some t33_7, true) (fun k w => k t168_143 w) (fun t185_152 w =>
   guardW (some t33_7, true) (fun k w => opW Tryz.prog (binS BinOp.eql 42 (Operand.tmp 185) (Operand.const (Value.int IntKind.i64 0)) t185_152 (Value.int IntKind.i64 0)) k w) (fun t186_153 w =>
   pickW t33_7 t186_153 (Value.bool false) (fun t187_154 w =>
   guardW (some t187_154, true) (fun k w => k t175_147 w) (fun t189_155 w =>
   guardW (some t187_154, true) (fun k w => opW Tryz.prog (binS BinOp.eql 42 (Operand.tmp 189) (Operand.const (Value.int IntKind.i64 0)) t189_155 (Value.int IntKind.i64 0)) k w) (fun t190_156 w =>
   pickW t187_154 t190_156 (Value.bool false) (fun t191_157 w =>
   guardW (some t191_157, true) (fun k w => k t182_151 w) (fun t193_158 w =>
   guardW (some t191_157, true) (fun k w => opW Tryz.prog (binS BinOp.eql 42 (Operand.tmp 193) (Operand.const (Value.int IntKind.i64 0)) t193_158 (Value.int IntKind.i64 0)) k w) (fun t194_159 w =>
   pickW t191_157 t194_159 (Value.bool false) (fun t195_160 w =>
   guardW (some t195_160, true) (fun k w => k t181_150 w) (fun t197_161 w =>
   guardW (some t195_160, true) (fun k w => opW Tryz.prog (Builtin.len_ #[24] 3 #[t197_161]) k w) (fun t198_162 w =>
   guardW (some t195_160, true) (fun k w => opW Tryz.prog (binS BinOp.eql 3 (Operand.tmp 198) (Operand.const (Value.int IntKind.i64 1)) t198_162 (Value.int IntKind.i64 1)) k w) (fun t199_163 w =>
   guardW (some t195_160, true) (fun k w => k first_66 w) (fun t200_164 w =>
   guardW (some t195_160, true) (fun k w => opW Tryz.prog (binS BinOp.geq 3 (Operand.tmp 200) (Operand.const (Value.int IntKind.i64 0)) t200_164 (Value.int IntKind.i64 0)) k w) (fun t201_165 w =>
   guardW (some t195_160, true) (fun k w => opW Tryz.prog (binS BinOp.eql 4 (Operand.tmp 199) (Operand.tmp 201) t199_163 t201_165) k w) (fun t202_166 w =>
   pickW t195_160 t202_166 (Value.bool false) (fun t203_167 w =>
   guardW (some t203_167, true) (fun k w => k t181_150 w) (fun t205_168 w =>
   guardW (some t203_167, true) (fun k w => opW Tryz.prog (Builtin.len_ #[24] 3 #[t205_168]) k w) (fun t206_169 w =>
   guardW (some t203_167, true) (fun k w => opW Tryz.prog (binS BinOp.eql 3 (Operand.tmp 206) (Operand.const (Value.int IntKind.i64 0)) t206_169 (Value.int IntKind.i64 0)) k w) (fun t207_170 w =>
   guardW (some t203_167, true) (fun k w => k t207_170 w) (fun t208_171 w =>
   guardW (some t208_171, false) (fun k w => k t167_142 w) (fun t209_172 w =>
   guardW (some t208_171, false) (fun k w => opW Tryz.prog (Builtin.len_ #[24] 3 #[t209_172]) k w) (fun t210_173 w =>
   guardW (some t208_171, false) (fun k w => opW Tryz.prog (binS BinOp.eql 3 (Operand.tmp 210) (Operand.const (Value.int IntKind.i64 1)) t210_173 (Value.int IntKind.i64 1)) k w) (fun t211_174 w =>
   guardW (some t208_171, false) (fun k w => k t211_174 w) (fun t212_175 w =>
   guardW (some t212_175, true) (fun k w => k t174_146 w) (fun t213_176 w =>
   guardW (some t212_175, true) (fun k w => opW Tryz.prog (Builtin.len_ #[24] 3 #[t213_176]) k w) (fun t214_177 w =>
   guardW (some t212_175, true) (fun k w => opW Tryz.prog (binS BinOp.eql 3 (Operand.tmp 214) (Operand.const (Value.int IntKind.i64 1)) t214_177 (Value.int IntKind.i64 1)) k w) (fun t215_178 w =>
   guardW (some t208_171, false) (fun k w => pickW t212_175 t215_178 (Value.bool false) k w) (fun t216_179 w =>
   guardW (some t203_167, true) (fun k w => pickW t208_171 (Value.bool true) t216_179 k w) (fun t217_180 w =>
   pickW t203_167 t217_180 (Value.bool false) (fun t218_181 w =>
   k t218_181 w) w) w) w) w) w) w) w) w) w) w) w) w) w) w) w) w) w) w) w) w) w) w) w) w) w) w) w) w) w) w) w) w) w) w) w) w) w) w) w) w) w) w) w) w) w) w) w) w)) w) w) w) w) w) w))) w) w) (Value.int IntKind.i64 0) w)) w) w) w) w) w) w) w) w) w) w) w) w) w) w) w) w) w))) w) (Value.int IntKind.i64 (-1)) t80_64 w) w) w)) w) w) w) w) w) w) w) w) w) w) w) w) w) w) w) w) w) w) w) w) w) w) w) w) w) w) w) w) w) (fun J_10 =>
   drewW w (fun w =>
   ∃ S : World → Prop, S w ∧
   takeW Tryz.prog anyW (Instr.fieldAt 30 r_6 0) (fun t36_11 =>
   takeW Tryz.prog S (Instr.loadAt 3 t36_11) (fun t37_12 =>
   takeW Tryz.prog anyW (Instr.fieldAt 30 r_6 1) (fun t39_13 =>
   takeW Tryz.prog S (Instr.loadAt 3 t39_13) (fun t40_14 =>
   (callW Tryz.prog (Value.func (Fn.func 13) #[] #[]) #[t37_12, (Value.int IntKind.i64 8)] (fun t38_15 w => keepS S (fun w =>
   (callW Tryz.prog (Value.func (Fn.func 13) #[] #[]) #[t40_14, (Value.int IntKind.i64 8)] (fun t41_16 w => keepS S (fun w =>
   (opW Tryz.prog (Instr.build 30 #[(0, t38_15), (1, t41_16)]) (fun t42_17 w => keepS S (fun w =>
   opW Tryz.prog (Instr.alloc 30 true (Value.tuple #[])) (fun p_18 w => keepS S (fun w =>
   opU Tryz.prog (Instr.storeAt 30 p_18 t42_17) (fun _ w =>
   J_10 p_18 w) w) w) w) w) w) ∧ (opW Tryz.prog (Instr.alloc 30 true (Value.tuple #[])) (fun p_19 w => keepS S (fun w =>
   opW Tryz.prog (Instr.build 30 #[(0, t38_15), (1, t41_16)]) (fun t42_20 w => keepS S (fun w =>
   opU Tryz.prog (Instr.storeAt 30 p_19 t42_20) (fun _ w =>
   J_10 p_19 w) w) w) w) w) w)) w) w) ∧ (opW Tryz.prog (Instr.alloc 30 true (Value.tuple #[])) (fun p_21 w => keepS S (fun w =>
   callW Tryz.prog (Value.func (Fn.func 13) #[] #[]) #[t40_14, (Value.int IntKind.i64 8)] (fun t41_22 w => keepS S (fun w =>
   opW Tryz.prog (Instr.build 30 #[(0, t38_15), (1, t41_22)]) (fun t42_23 w => keepS S (fun w =>
   opU Tryz.prog (Instr.storeAt 30 p_21 t42_23) (fun _ w =>
   J_10 p_21 w) w) w) w) w) w) w) w)) w) w) ∧ (opW Tryz.prog (Instr.alloc 30 true (Value.tuple #[])) (fun p_24 w => keepS S (fun w =>
   callW Tryz.prog (Value.func (Fn.func 13) #[] #[]) #[t37_12, (Value.int IntKind.i64 8)] (fun t38_25 w => keepS S (fun w =>
   callW Tryz.prog (Value.func (Fn.func 13) #[] #[]) #[t40_14, (Value.int IntKind.i64 8)] (fun t41_26 w => keepS S (fun w =>
   opW Tryz.prog (Instr.build 30 #[(0, t38_25), (1, t41_26)]) (fun t42_27 w => keepS S (fun w =>
   opU Tryz.prog (Instr.storeAt 30 p_24 t42_27) (fun _ w =>
   J_10 p_24 w) w) w) w) w) w) w) w) w) w)) w) w) w) w)))) w) w) w) w
theorem S9_vc (x_1 z_2 at_3 r_4 : Value) (k : Value → World → Prop) (w : World) : vc Tryz.prog Tryz.f9.ntmps ann9 none ((Tryz.f9.body).getD Code.skip) 1 (params 0 [x_1, z_2, at_3, r_4]) [] (finQ Tryz.prog Tryz.f9.results.toList k) w = S9 x_1 z_2 at_3 r_4 k w := by kernel_rfl
theorem S9_calls (x_1 z_2 at_3 r_4 : Value) (k : Value → World → Prop) (w : World) (h : S9 x_1 z_2 at_3 r_4 k w) : Calls Tryz.prog 9 #[x_1, z_2, at_3, r_4] w (retP k) :=
  calls_of_vc (fn := Tryz.f9) (c := (Tryz.f9.body).getD Code.skip) ann9 Tryz.func9 (by kernel_rfl) [x_1, z_2, at_3, r_4] w k (by kernel_rfl) ((S9_vc x_1 z_2 at_3 r_4 k w).symm ▸ h)
/-! newswire/newswirelaw26.sane -/
def ann10 : Ann := []
def S10 (k : Value → World → Prop) (w : World) : Prop :=
   callW Tryz.prog (Value.func (Fn.func 36) #[] #[]) #[] (fun t25_1 w =>
   opW Tryz.prog (Instr.extract t25_1 0) (fun t26_2 w =>
   opW Tryz.prog (Instr.extract t25_1 1) (fun t27_3 w =>
   opW Tryz.prog (Instr.extract t25_1 2) (fun t28_4 w =>
   opW Tryz.prog (Instr.build 30 #[]) (fun t29_5 w =>
   opW Tryz.prog (Instr.alloc 30 true (Value.tuple #[])) (fun r_6 w =>
   opU Tryz.prog (Instr.storeAt 30 r_6 t29_5) (fun _ w =>
   opW Tryz.prog (Instr.loadAt 30 r_6) (fun t32_7 w =>
   callW Tryz.prog (Value.func (Fn.func 16) #[] #[]) #[t26_2, t32_7, t28_4] (fun t34_8 w =>
   opW Tryz.prog (Instr.extract t34_8 0) (fun t35_9 w =>
   opW Tryz.prog (Instr.extract t34_8 1) (fun t36_10 w =>
   opW Tryz.prog (Instr.loadAt 30 r_6) (fun t39_11 w =>
   callW Tryz.prog (Value.func (Fn.func 23) #[] #[]) #[(Value.int IntKind.i64 1), t26_2, t39_11, t28_4] (fun t41_12 w =>
   opW Tryz.prog (Instr.extract t41_12 0) (fun t42_13 w =>
   opW Tryz.prog (Instr.extract t41_12 1) (fun t43_14 w =>
   opW Tryz.prog (Instr.loadAt 30 r_6) (fun t46_15 w =>
   callW Tryz.prog (Value.func (Fn.func 23) #[] #[]) #[(Value.int IntKind.i64 2), t26_2, t46_15, t28_4] (fun t48_16 w =>
   opW Tryz.prog (Instr.extract t48_16 0) (fun t49_17 w =>
   opW Tryz.prog (Instr.extract t48_16 1) (fun t50_18 w =>
   opW Tryz.prog (Instr.loadAt 30 r_6) (fun t53_19 w =>
   callW Tryz.prog (Value.func (Fn.func 23) #[] #[]) #[(Value.int IntKind.i64 2), t27_3, t53_19, t28_4] (fun t55_20 w =>
   opW Tryz.prog (Instr.extract t55_20 0) (fun t56_21 w =>
   opW Tryz.prog (Instr.extract t55_20 1) (fun t57_22 w =>
   opW Tryz.prog (Instr.loadAt 30 r_6) (fun t61_23 w =>
   callW Tryz.prog (Value.func (Fn.func 25) #[] #[]) #[(Value.int IntKind.i64 1), t26_2, t27_3, t61_23, t28_4] (fun t63_24 w =>
   opW Tryz.prog (Instr.extract t63_24 0) (fun t64_25 w =>
   opW Tryz.prog (Instr.extract t63_24 1) (fun t65_26 w =>
   opW Tryz.prog (Instr.loadAt 30 r_6) (fun t69_27 w =>
   callW Tryz.prog (Value.func (Fn.func 25) #[] #[]) #[(Value.int IntKind.i64 2), t26_2, t27_3, t69_27, t28_4] (fun t71_28 w =>
   opW Tryz.prog (Instr.extract t71_28 0) (fun t72_29 w =>
   opW Tryz.prog (Instr.extract t71_28 1) (fun t73_30 w =>
   callW Tryz.prog (Value.func (Fn.func 28) #[] #[]) #[t42_13] (fun t76_31 w =>
   opW Tryz.prog (Instr.extract t76_31 0) (fun t77_32 w =>
   opW Tryz.prog (Instr.extract t76_31 1) (fun t78_33 w =>
   opW Tryz.prog (Instr.buildSlice 31 1 #[(0, (Value.string { data := #[] }))]) (fun t80_34 w =>
   callW Tryz.prog (Value.func (Fn.func 28) #[] #[]) #[t80_34] (fun t81_35 w =>
   opW Tryz.prog (Instr.extract t81_35 0) (fun t82_36 w =>
   opW Tryz.prog (Instr.extract t81_35 1) (fun t83_37 w =>
   opW Tryz.prog (Instr.loadAt 30 r_6) (fun t86_38 w =>
   callW Tryz.prog (Value.func (Fn.func 23) #[] #[]) #[(Value.int IntKind.i64 3), t26_2, t86_38, t28_4] (fun t88_39 w =>
   opW Tryz.prog (Instr.extract t88_39 0) (fun t89_40 w =>
   opW Tryz.prog (Instr.extract t88_39 1) (fun t90_41 w =>
   opW Tryz.prog (binS BinOp.neq 42 (Operand.tmp 91) (Operand.const (Value.int IntKind.i64 0)) t36_10 (Value.int IntKind.i64 0)) (fun t92_43 w =>
   guardW (some t92_43, false) (fun k w => k t43_14 w) (fun t94_44 w =>
   guardW (some t92_43, false) (fun k w => opW Tryz.prog (binS BinOp.neq 42 (Operand.tmp 94) (Operand.const (Value.int IntKind.i64 0)) t94_44 (Value.int IntKind.i64 0)) k w) (fun t95_45 w =>
   pickW t92_43 (Value.bool true) t95_45 (fun t96_46 w =>
   guardW (some t96_46, false) (fun k w => k t50_18 w) (fun t98_47 w =>
   guardW (some t96_46, false) (fun k w => opW Tryz.prog (binS BinOp.neq 42 (Operand.tmp 98) (Operand.const (Value.int IntKind.i64 0)) t98_47 (Value.int IntKind.i64 0)) k w) (fun t99_48 w =>
   pickW t96_46 (Value.bool true) t99_48 (fun t100_49 w =>
   guardW (some t100_49, false) (fun k w => k t57_22 w) (fun t102_50 w =>
   guardW (some t100_49, false) (fun k w => opW Tryz.prog (binS BinOp.neq 42 (Operand.tmp 102) (Operand.const (Value.int IntKind.i64 0)) t102_50 (Value.int IntKind.i64 0)) k w) (fun t103_51 w =>
   pickW t100_49 (Value.bool true) t103_51 (fun t104_52 w =>
   guardW (some t104_52, false) (fun k w => k t65_26 w) (fun t106_53 w =>
   guardW (some t104_52, false) (fun k w => opW Tryz.prog (binS BinOp.neq 42 (Operand.tmp 106) (Operand.const (Value.int IntKind.i64 0)) t106_53 (Value.int IntKind.i64 0)) k w) (fun t107_54 w =>
   pickW t104_52 (Value.bool true) t107_54 (fun t108_55 w =>
   guardW (some t108_55, false) (fun k w => k t73_30 w) (fun t110_56 w =>
   guardW (some t108_55, false) (fun k w => opW Tryz.prog (binS BinOp.neq 42 (Operand.tmp 110) (Operand.const (Value.int IntKind.i64 0)) t110_56 (Value.int IntKind.i64 0)) k w) (fun t111_57 w =>
   pickW t108_55 (Value.bool true) t111_57 (fun t112_58 w =>
   guardW (some t112_58, false) (fun k w => k t78_33 w) (fun t114_59 w =>
   guardW (some t112_58, false) (fun k w => opW Tryz.prog (binS BinOp.neq 42 (Operand.tmp 114) (Operand.const (Value.int IntKind.i64 0)) t114_59 (Value.int IntKind.i64 0)) k w) (fun t115_60 w =>
   pickW t112_58 (Value.bool true) t115_60 (fun t116_61 w =>
   guardW (some t116_61, false) (fun k w => k t83_37 w) (fun t118_62 w =>
   guardW (some t116_61, false) (fun k w => opW Tryz.prog (binS BinOp.neq 42 (Operand.tmp 118) (Operand.const (Value.int IntKind.i64 260)) t118_62 (Value.int IntKind.i64 260)) k w) (fun t119_63 w =>
   pickW t116_61 (Value.bool true) t119_63 (fun t120_64 w =>
   guardW (some t120_64, false) (fun k w => k t90_41 w) (fun t122_65 w =>
   guardW (some t120_64, false) (fun k w => opW Tryz.prog (binS BinOp.neq 42 (Operand.tmp 122) (Operand.const (Value.int IntKind.i64 260)) t122_65 (Value.int IntKind.i64 260)) k w) (fun t123_66 w =>
   pickW t120_64 (Value.bool true) t123_66 (fun t124_67 w =>
   condW t124_67
   (k (Value.bool false) w)
   (callW Tryz.prog (Value.func (Fn.func 18) #[] #[]) #[t35_9, t27_3] (fun t127_68 w =>
   guardW (some t127_68, true) (fun k w => k t42_13 w) (fun t129_69 w =>
   guardW (some t127_68, true) (fun k w => callW Tryz.prog (Value.func (Fn.func 35) #[] #[]) #[(Value.int IntKind.i64 59)] k w) (fun t130_70 w =>
   guardW (some t127_68, true) (fun k w => opW Tryz.prog (binS BinOp.add 9 (Operand.const (Value.string { data := #[4, 114, 97, 105, 110] })) (Operand.tmp 130) (Value.string { data := #[4, 114, 97, 105, 110] }) t130_70) k w) (fun t131_71 w =>
   guardW (some t127_68, true) (fun k w => callW Tryz.prog (Value.func (Fn.func 35) #[] #[]) #[(Value.int IntKind.i64 64)] k w) (fun t132_72 w =>
   guardW (some t127_68, true) (fun k w => callW Tryz.prog (Value.func (Fn.func 35) #[] #[]) #[(Value.int IntKind.i64 64)] k w) (fun t133_73 w =>
   guardW (some t127_68, true) (fun k w => opW Tryz.prog (Instr.buildSlice 31 3 #[(0, t131_71), (1, t132_72), (2, t133_73)]) k w) (fun t134_74 w =>
   guardW (some t127_68, true) (fun k w => callW Tryz.prog (Value.func (Fn.func 27) #[] #[]) #[t129_69, t134_74] k w) (fun t135_75 w =>
   pickW t127_68 t135_75 (Value.bool false) (fun t136_76 w =>
   guardW (some t136_76, true) (fun k w => k t49_17 w) (fun t138_77 w =>
   guardW (some t136_76, true) (fun k w => opW Tryz.prog (Instr.buildSlice 31 3 #[(0, (Value.string { data := #[0, 4, 114, 97, 105, 110] })), (1, (Value.string { data := #[0] })), (2, (Value.string { data := #[0] }))]) k w) (fun t139_78 w =>
   guardW (some t136_76, true) (fun k w => callW Tryz.prog (Value.func (Fn.func 27) #[] #[]) #[t138_77, t139_78] k w) (fun t140_79 w =>
   pickW t136_76 t140_79 (Value.bool false) (fun t141_80 w =>
   guardW (some t141_80, true) (fun k w => k t56_21 w) (fun t143_81 w =>
   guardW (some t141_80, true) (fun k w => opW Tryz.prog (Instr.buildSlice 31 3 #[(0, (Value.string { data := #[4, 114, 97, 105, 110] })), (1, (Value.string { data := #[] })), (2, (Value.string { data := #[] }))]) k w) (fun t144_82 w =>
   guardW (some t141_80, true) (fun k w => callW Tryz.prog (Value.func (Fn.func 27) #[] #[]) #[t143_81, t144_82] k w) (fun t145_83 w =>
   pickW t141_80 t145_83 (Value.bool false) (fun t146_84 w =>
   guardW (some t146_84, true) (fun k w => k t64_25 w) (fun t149_85 w =>
   guardW (some t146_84, true) (fun k w => opW Tryz.prog (binS BinOp.eql 3 (Operand.tmp 149) (Operand.const (Value.int IntKind.i64 (-1))) t149_85 (Value.int IntKind.i64 (-1))) k w) (fun t150_86 w =>
   pickW t146_84 t150_86 (Value.bool false) (fun t151_87 w =>
   guardW (some t151_87, true) (fun k w => k t72_29 w) (fun t153_88 w =>
   guardW (some t151_87, true) (fun k w => opW Tryz.prog (binS BinOp.eql 3 (Operand.tmp 153) (Operand.const (Value.int IntKind.i64 0)) t153_88 (Value.int IntKind.i64 0)) k w) (fun t154_89 w =>
   pickW t151_87 t154_89 (Value.bool false) (fun t155_90 w =>
   guardW (some t155_90, true) (fun k w => k t77_32 w) (fun t157_91 w =>
   guardW (some t155_90, true) (fun k w => opW Tryz.prog (Instr.buildSlice 31 1 #[(0, (Value.string { data := #[114, 97, 105, 110] }))]) k w) (fun t158_92 w =>
   guardW (some t155_90, true) (fun k w => callW Tryz.prog (Value.func (Fn.func 27) #[] #[]) #[t157_91, t158_92] k w) (fun t159_93 w =>
   pickW t155_90 t159_93 (Value.bool false) (fun t160_94 w =>
   guardW (some t160_94, true) (fun k w => k t26_2 w) (fun t162_95 w =>
   guardW (some t160_94, true) (fun k w => k t27_3 w) (fun t163_96 w =>
   guardW (some t160_94, true) (fun k w => opW Tryz.prog (Instr.loadAt 30 r_6) k w) (fun t164_97 w =>
   guardW (some t160_94, true) (fun k w => k t28_4 w) (fun t165_98 w =>
   guardW (some t160_94, true) (fun k w => callW Tryz.prog (Value.func (Fn.func 21) #[] #[]) #[t162_95, t163_96, t164_97, t165_98] k w) (fun t166_99 w =>
   pickW t160_94 t166_99 (Value.bool false) (fun t167_100 w =>
   guardW (some t167_100, true) (fun k w => k t26_2 w) (fun t169_101 w =>
   guardW (some t167_100, true) (fun k w => opW Tryz.prog (Instr.loadAt 30 r_6) k w) (fun t170_102 w =>
   guardW (some t167_100, true) (fun k w => k t28_4 w) (fun t171_103 w =>
   guardW (some t167_100, true) (fun k w => callW Tryz.prog (Value.func (Fn.func 21) #[] #[]) #[t169_101, (Value.slice none 0 0), t170_102, t171_103] k w) (fun t172_104 w =>
   guardW (some t167_100, true) (fun k w => opW Tryz.prog (Op.unary UnOp.not t172_104) k w) (fun t173_105 w =>
   pickW t167_100 t173_105 (Value.bool false) (fun t174_106 w =>
   guardW (some t174_106, true) (fun k w => k t26_2 w) (fun t176_107 w =>
   guardW (some t174_106, true) (fun k w => callW Tryz.prog (Value.func (Fn.func 19) #[] #[]) #[t176_107] k w) (fun t177_108 w =>
   pickW t174_106 t177_108 (Value.bool false) (fun t178_109 w =>
   guardW (some t178_109, true) (fun k w => opW Tryz.prog (Instr.build 63 #[]) k w) (fun t180_110 w =>
   guardW (some t178_109, true) (fun k w => opW Tryz.prog (Instr.buildSlice 24 1 #[(0, t180_110)]) k w) (fun t181_111 w =>
   guardW (some t178_109, true) (fun k w => callW Tryz.prog (Value.func (Fn.func 19) #[] #[]) #[t181_111] k w) (fun t182_112 w =>
   guardW (some t178_109, true) (fun k w => opW Tryz.prog (Op.unary UnOp.not t182_112) k w) (fun t183_113 w =>
   pickW t178_109 t183_113 (Value.bool false) (fun t184_114 w =>
   k t184_114 w) w) w) w) w) w) w) w) w) w) w) w) w) w) w) w) w) w) w) w) w) w) w) w) w) w) w) w) w) w) w) w) w) w) w) w) w) w) w) w) w) w) w) w) w) w) w) w)) w) w) w) w) w) w) w) w) w) w) w) w) w) w) w) w) w) w) w) w) w) w) w) w) w) w) w) w) w) w) w) w) w) w) w) w) w) w) w) w) w) w) w) w) w) w) w) w) w) w) w) w) w) w) w) w) w) w) w) w) w) w) w) w) w) w) w
theorem S10_vc (k : Value → World → Prop) (w : World) : vc Tryz.prog Tryz.f10.ntmps ann10 none ((Tryz.f10.body).getD Code.skip) 1 (params 0 []) [] (finQ Tryz.prog Tryz.f10.results.toList k) w = S10 k w := by kernel_rfl
theorem S10_calls (k : Value → World → Prop) (w : World) (h : S10 k w) : Calls Tryz.prog 10 #[] w (retP k) :=
  calls_of_vc (fn := Tryz.f10) (c := (Tryz.f10.body).getD Code.skip) ann10 Tryz.func10 (by kernel_rfl) [] w k (by kernel_rfl) ((S10_vc k w).symm ▸ h)
theorem C10 (k : Value → World → Prop) (w : World) (h : S10 k w) : callW Tryz.prog (.func (.func 10) #[] #[]) #[] k w :=
  callW_calls ok10 (by simpa using S10_calls k w h)

/-! newswire/newswireref26.Moments -/
def ann11 : Ann := [(61, Note.keep [3]), (122, Note.loop [3, 5] [0, 4]), (978, Note.keep [0, 3, 4, 5]), (7826, Note.plan (Plan.takeP 0 (Plan.takeU 1 (Plan.takeP 2 (Plan.takeP 3 (Plan.takeP 4 (Plan.takeP 5 (Plan.takeX 6 (Plan.run 7 (Plan.takeP 8 (Plan.takeP 9 (Plan.run 10 Plan.done)))))))))))), (125247, Note.plan (Plan.takeP 0 (Plan.takeP 1 (Plan.takeU 2 (Plan.takeP 3 (Plan.takeU 4 (Plan.takeP 6 (Plan.takeU 7 (Plan.takeP 10 (Plan.takeU 11 (Plan.takeP 14 (Plan.takeU 15 (Plan.alt (Plan.alt (Plan.run 5 (Plan.alt (Plan.alt (Plan.run 8 (Plan.alt (Plan.run 9 (Plan.alt (Plan.run 12 (Plan.run 13 (Plan.run 16 (Plan.run 17 (Plan.run 18 (Plan.run 19 (Plan.takeP 20 Plan.done))))))) (Plan.run 13 (Plan.run 12 (Plan.run 16 (Plan.run 17 (Plan.run 18 (Plan.run 19 (Plan.takeP 20 Plan.done))))))))) (Plan.run 13 (Plan.run 9 (Plan.run 12 (Plan.run 16 (Plan.run 17 (Plan.run 18 (Plan.run 19 (Plan.takeP 20 Plan.done)))))))))) (Plan.run 9 (Plan.alt (Plan.run 8 (Plan.alt (Plan.run 12 (Plan.run 13 (Plan.run 16 (Plan.run 17 (Plan.run 18 (Plan.run 19 (Plan.takeP 20 Plan.done))))))) (Plan.run 13 (Plan.run 12 (Plan.run 16 (Plan.run 17 (Plan.run 18 (Plan.run 19 (Plan.takeP 20 Plan.done))))))))) (Plan.run 13 (Plan.run 8 (Plan.run 12 (Plan.run 16 (Plan.run 17 (Plan.run 18 (Plan.run 19 (Plan.takeP 20 Plan.done))))))))))) (Plan.run 13 (Plan.alt (Plan.run 8 (Plan.run 9 (Plan.run 12 (Plan.run 16 (Plan.run 17 (Plan.run 18 (Plan.run 19 (Plan.takeP 20 Plan.done)))))))) (Plan.run 9 (Plan.run 8 (Plan.run 12 (Plan.run 16 (Plan.run 17 (Plan.run 18 (Plan.run 19 (Plan.takeP 20 Plan.done)))))))))))) (Plan.run 9 (Plan.alt (Plan.run 5 (Plan.alt (Plan.run 8 (Plan.alt (Plan.run 12 (Plan.run 13 (Plan.run 16 (Plan.run 17 (Plan.run 18 (Plan.run 19 (Plan.takeP 20 Plan.done))))))) (Plan.run 13 (Plan.run 12 (Plan.run 16 (Plan.run 17 (Plan.run 18 (Plan.run 19 (Plan.takeP 20 Plan.done))))))))) (Plan.run 13 (Plan.run 8 (Plan.run 12 (Plan.run 16 (Plan.run 17 (Plan.run 18 (Plan.run 19 (Plan.takeP 20 Plan.done)))))))))) (Plan.run 13 (Plan.run 5 (Plan.run 8 (Plan.run 12 (Plan.run 16 (Plan.run 17 (Plan.run 18 (Plan.run 19 (Plan.takeP 20 Plan.done)))))))))))) (Plan.run 13 (Plan.alt (Plan.run 5 (Plan.alt (Plan.run 8 (Plan.run 9 (Plan.run 12 (Plan.run 16 (Plan.run 17 (Plan.run 18 (Plan.run 19 (Plan.takeP 20 Plan.done)))))))) (Plan.run 9 (Plan.run 8 (Plan.run 12 (Plan.run 16 (Plan.run 17 (Plan.run 18 (Plan.run 19 (Plan.takeP 20 Plan.done)))))))))) (Plan.run 9 (Plan.run 5 (Plan.run 8 (Plan.run 12 (Plan.run 16 (Plan.run 17 (Plan.run 18 (Plan.run 19 (Plan.takeP 20 Plan.done))))))))))))))))))))))))]
def S11 (x_1 : Value) (k : Value → World → Prop) (w : World) : Prop :=
   opW Tryz.prog (Instr.build 28 #[]) (fun t7_2 w =>
   opW Tryz.prog (Instr.alloc 28 true (Value.tuple #[])) (fun m_3 w =>
   opU Tryz.prog (Instr.storeAt 28 m_3 t7_2) (fun _ w =>
   Loop2 (fun out_5 i_6 w K_7 =>
   opW Tryz.prog (Builtin.len_ #[23] 3 #[x_1]) (fun t10_9 w =>
   opW Tryz.prog (binS BinOp.lss 3 (Operand.tmp 8) (Operand.tmp 10) i_6 t10_9) (fun t11_10 w =>
   guardW (some t11_10, true) (fun k w => k i_6 w) (fun t13_11 w =>
   guardW (some t11_10, true) (fun k w => opW Tryz.prog (binS BinOp.lss 3 (Operand.tmp 13) (Operand.const (Value.int IntKind.i64 14)) t13_11 (Value.int IntKind.i64 14)) k w) (fun t14_12 w =>
   pickW t11_10 t14_12 (Value.bool false) (fun t15_13 w =>
   condW t15_13
   (opW Tryz.prog (Instr.indexAt 23 x_1 i_6) (fun t20_15 w =>
   opW Tryz.prog (Instr.loadAt 82 t20_15) (fun t21_16 w =>
   callW Tryz.prog (Value.func (Fn.func 37) #[] #[]) #[t21_16] (fun t22_17 w =>
   opW Tryz.prog (Instr.alloc 28 true (Value.tuple #[])) (fun y_18 w =>
   opU Tryz.prog (Instr.storeAt 28 y_18 t22_17) (fun _ w =>
   drewW w (fun w =>
   ∃ S : World → Prop, S w ∧
   takeW Tryz.prog anyW (Instr.fieldAt 28 m_3 0) (fun t23_20 =>
   takeW Tryz.prog S (Instr.loadAt 3 t23_20) (fun t24_21 =>
   takeW Tryz.prog anyW (Instr.indexAt 23 x_1 i_6) (fun t27_22 =>
   takeW Tryz.prog anyW (Instr.indexAt 82 t27_22 (Value.int IntKind.i64 0)) (fun t28_23 =>
   takeW Tryz.prog (sameW w) (Instr.loadAt 3 t28_23) (fun t29_24 =>
   callW Tryz.prog (Value.func (Fn.func 38) #[] #[]) #[t29_24, (Value.int IntKind.i64 8)] (fun t30_25 w => keepS S (fun w =>
   takeW Tryz.prog anyW (binS BinOp.add 3 (Operand.tmp 24) (Operand.tmp 30) t24_21 t30_25) (fun t31_26 =>
   takeW Tryz.prog anyW (Instr.fieldAt 28 m_3 0) (fun t32_27 =>
   opU Tryz.prog (Instr.storeAt 3 t32_27 t31_26) (fun _ w =>
   opW Tryz.prog (Instr.indexAt 23 x_1 i_6) (fun t35_28 w =>
   opW Tryz.prog (Instr.indexAt 82 t35_28 (Value.int IntKind.i64 1)) (fun t36_29 w =>
   opW Tryz.prog (Instr.loadAt 3 t36_29) (fun t37_30 w =>
   callW Tryz.prog (Value.func (Fn.func 38) #[] #[]) #[t37_30, (Value.int IntKind.i64 3)] (fun t38_31 w =>
   opW Tryz.prog (Instr.fieldAt 28 m_3 1) (fun t39_32 w =>
   opU Tryz.prog (Instr.storeAt 3 t39_32 t38_31) (fun _ w =>
   opW Tryz.prog (Instr.fieldAt 28 m_3 2) (fun t40_33 w =>
   opW Tryz.prog (Instr.loadAt 25 t40_33) (fun t41_34 w =>
   opW Tryz.prog (Instr.fieldAt 28 y_18 2) (fun t42_35 w =>
   opW Tryz.prog (Instr.loadAt 25 t42_35) (fun t43_36 w =>
   callW Tryz.prog (Value.func (Fn.func 39) #[] #[]) #[t41_34, t43_36] (fun t44_37 w =>
   opW Tryz.prog (Instr.fieldAt 28 m_3 2) (fun t45_38 w =>
   opU Tryz.prog (Instr.storeAt 25 t45_38 t44_37) (fun _ w =>
   opW Tryz.prog (Instr.fieldAt 28 m_3 4) (fun t46_39 w =>
   opW Tryz.prog (Instr.loadAt 25 t46_39) (fun t47_40 w =>
   opW Tryz.prog (Instr.fieldAt 28 y_18 4) (fun t48_41 w =>
   opW Tryz.prog (Instr.loadAt 25 t48_41) (fun t49_42 w =>
   callW Tryz.prog (Value.func (Fn.func 39) #[] #[]) #[t47_40, t49_42] (fun t50_43 w =>
   opW Tryz.prog (Instr.fieldAt 28 m_3 4) (fun t51_44 w =>
   opU Tryz.prog (Instr.storeAt 25 t51_44 t50_43) (fun _ w =>
   joinW (fun w =>
   joinW (fun out_181 w =>
   opW Tryz.prog (binS BinOp.add 3 (Operand.tmp 16) (Operand.const (Value.int IntKind.i64 1)) i_6 (Value.int IntKind.i64 1)) (fun t17_182 w =>
   loopK [] [] [x_1, m_3] [x_1, m_3] (K_7 out_181 t17_182 w)) w) (fun J_58 =>
   drewW w (fun w =>
   ∃ S : World → Prop, S w ∧
   takeW Tryz.prog anyW (Instr.fieldAt 28 m_3 0) (fun t66_59 =>
   takeW Tryz.prog S (Instr.loadAt 3 t66_59) (fun t67_60 =>
   takeW Tryz.prog anyW (Instr.fieldAt 28 m_3 1) (fun t68_61 =>
   takeW Tryz.prog S (Instr.loadAt 3 t68_61) (fun t69_62 =>
   takeW Tryz.prog anyW (Instr.fieldAt 28 m_3 2) (fun t71_63 =>
   takeW Tryz.prog S (Instr.loadAt 25 t71_63) (fun t72_64 =>
   takeW Tryz.prog anyW (Instr.fieldAt 28 m_3 3) (fun t75_65 =>
   takeW Tryz.prog S (Instr.loadAt 26 t75_65) (fun t76_66 =>
   takeW Tryz.prog anyW (Instr.fieldAt 28 m_3 4) (fun t79_67 =>
   takeW Tryz.prog S (Instr.loadAt 25 t79_67) (fun t80_68 =>
   ((opW Tryz.prog (Instr.buildSlice 25 0 #[]) (fun t70_69 w => keepS S (fun w =>
   ((opW Tryz.prog (Builtin.append_ #[25, 25] 25 #[t70_69, t72_64]) (fun t73_70 w => keepS S (fun w =>
   (opW Tryz.prog (Instr.buildSlice 26 0 #[]) (fun t74_71 w => keepS S (fun w =>
   (opW Tryz.prog (Builtin.append_ #[26, 26] 26 #[t74_71, t76_66]) (fun t77_72 w => keepS S (fun w =>
   opW Tryz.prog (Instr.buildSlice 25 0 #[]) (fun t78_73 w => keepS S (fun w =>
   opW Tryz.prog (Builtin.append_ #[25, 25] 25 #[t78_73, t80_68]) (fun t81_74 w => keepS S (fun w =>
   opW Tryz.prog (Instr.build 28 #[(0, t67_60), (1, t69_62), (2, t73_70), (3, t77_72), (4, t81_74)]) (fun t82_75 w => keepS S (fun w =>
   opW Tryz.prog (Instr.buildSlice 33 1 #[(0, t82_75)]) (fun t83_76 w => keepS S (fun w =>
   opW Tryz.prog (Builtin.append_ #[33, 33] 33 #[out_5, t83_76]) (fun t84_77 w => keepS S (fun w =>
   J_58 t84_77 w) w) w) w) w) w) w) w) w) w) w) w) w) ∧ (opW Tryz.prog (Instr.buildSlice 25 0 #[]) (fun t78_78 w => keepS S (fun w =>
   opW Tryz.prog (Builtin.append_ #[26, 26] 26 #[t74_71, t76_66]) (fun t77_79 w => keepS S (fun w =>
   opW Tryz.prog (Builtin.append_ #[25, 25] 25 #[t78_78, t80_68]) (fun t81_80 w => keepS S (fun w =>
   opW Tryz.prog (Instr.build 28 #[(0, t67_60), (1, t69_62), (2, t73_70), (3, t77_79), (4, t81_80)]) (fun t82_81 w => keepS S (fun w =>
   opW Tryz.prog (Instr.buildSlice 33 1 #[(0, t82_81)]) (fun t83_82 w => keepS S (fun w =>
   opW Tryz.prog (Builtin.append_ #[33, 33] 33 #[out_5, t83_82]) (fun t84_83 w => keepS S (fun w =>
   J_58 t84_83 w) w) w) w) w) w) w) w) w) w) w) w) w)) w) w) ∧ (opW Tryz.prog (Instr.buildSlice 25 0 #[]) (fun t78_84 w => keepS S (fun w =>
   opW Tryz.prog (Instr.buildSlice 26 0 #[]) (fun t74_85 w => keepS S (fun w =>
   opW Tryz.prog (Builtin.append_ #[26, 26] 26 #[t74_85, t76_66]) (fun t77_86 w => keepS S (fun w =>
   opW Tryz.prog (Builtin.append_ #[25, 25] 25 #[t78_84, t80_68]) (fun t81_87 w => keepS S (fun w =>
   opW Tryz.prog (Instr.build 28 #[(0, t67_60), (1, t69_62), (2, t73_70), (3, t77_86), (4, t81_87)]) (fun t82_88 w => keepS S (fun w =>
   opW Tryz.prog (Instr.buildSlice 33 1 #[(0, t82_88)]) (fun t83_89 w => keepS S (fun w =>
   opW Tryz.prog (Builtin.append_ #[33, 33] 33 #[out_5, t83_89]) (fun t84_90 w => keepS S (fun w =>
   J_58 t84_90 w) w) w) w) w) w) w) w) w) w) w) w) w) w) w)) w) w) ∧ (opW Tryz.prog (Instr.buildSlice 26 0 #[]) (fun t74_91 w => keepS S (fun w =>
   (opW Tryz.prog (Builtin.append_ #[25, 25] 25 #[t70_69, t72_64]) (fun t73_92 w => keepS S (fun w =>
   (opW Tryz.prog (Builtin.append_ #[26, 26] 26 #[t74_91, t76_66]) (fun t77_93 w => keepS S (fun w =>
   opW Tryz.prog (Instr.buildSlice 25 0 #[]) (fun t78_94 w => keepS S (fun w =>
   opW Tryz.prog (Builtin.append_ #[25, 25] 25 #[t78_94, t80_68]) (fun t81_95 w => keepS S (fun w =>
   opW Tryz.prog (Instr.build 28 #[(0, t67_60), (1, t69_62), (2, t73_92), (3, t77_93), (4, t81_95)]) (fun t82_96 w => keepS S (fun w =>
   opW Tryz.prog (Instr.buildSlice 33 1 #[(0, t82_96)]) (fun t83_97 w => keepS S (fun w =>
   opW Tryz.prog (Builtin.append_ #[33, 33] 33 #[out_5, t83_97]) (fun t84_98 w => keepS S (fun w =>
   J_58 t84_98 w) w) w) w) w) w) w) w) w) w) w) w) w) ∧ (opW Tryz.prog (Instr.buildSlice 25 0 #[]) (fun t78_99 w => keepS S (fun w =>
   opW Tryz.prog (Builtin.append_ #[26, 26] 26 #[t74_91, t76_66]) (fun t77_100 w => keepS S (fun w =>
   opW Tryz.prog (Builtin.append_ #[25, 25] 25 #[t78_99, t80_68]) (fun t81_101 w => keepS S (fun w =>
   opW Tryz.prog (Instr.build 28 #[(0, t67_60), (1, t69_62), (2, t73_92), (3, t77_100), (4, t81_101)]) (fun t82_102 w => keepS S (fun w =>
   opW Tryz.prog (Instr.buildSlice 33 1 #[(0, t82_102)]) (fun t83_103 w => keepS S (fun w =>
   opW Tryz.prog (Builtin.append_ #[33, 33] 33 #[out_5, t83_103]) (fun t84_104 w => keepS S (fun w =>
   J_58 t84_104 w) w) w) w) w) w) w) w) w) w) w) w) w)) w) w) ∧ (opW Tryz.prog (Instr.buildSlice 25 0 #[]) (fun t78_105 w => keepS S (fun w =>
   opW Tryz.prog (Builtin.append_ #[25, 25] 25 #[t70_69, t72_64]) (fun t73_106 w => keepS S (fun w =>
   opW Tryz.prog (Builtin.append_ #[26, 26] 26 #[t74_91, t76_66]) (fun t77_107 w => keepS S (fun w =>
   opW Tryz.prog (Builtin.append_ #[25, 25] 25 #[t78_105, t80_68]) (fun t81_108 w => keepS S (fun w =>
   opW Tryz.prog (Instr.build 28 #[(0, t67_60), (1, t69_62), (2, t73_106), (3, t77_107), (4, t81_108)]) (fun t82_109 w => keepS S (fun w =>
   opW Tryz.prog (Instr.buildSlice 33 1 #[(0, t82_109)]) (fun t83_110 w => keepS S (fun w =>
   opW Tryz.prog (Builtin.append_ #[33, 33] 33 #[out_5, t83_110]) (fun t84_111 w => keepS S (fun w =>
   J_58 t84_111 w) w) w) w) w) w) w) w) w) w) w) w) w) w) w)) w) w)) ∧ (opW Tryz.prog (Instr.buildSlice 25 0 #[]) (fun t78_112 w => keepS S (fun w =>
   (opW Tryz.prog (Builtin.append_ #[25, 25] 25 #[t70_69, t72_64]) (fun t73_113 w => keepS S (fun w =>
   opW Tryz.prog (Instr.buildSlice 26 0 #[]) (fun t74_114 w => keepS S (fun w =>
   opW Tryz.prog (Builtin.append_ #[26, 26] 26 #[t74_114, t76_66]) (fun t77_115 w => keepS S (fun w =>
   opW Tryz.prog (Builtin.append_ #[25, 25] 25 #[t78_112, t80_68]) (fun t81_116 w => keepS S (fun w =>
   opW Tryz.prog (Instr.build 28 #[(0, t67_60), (1, t69_62), (2, t73_113), (3, t77_115), (4, t81_116)]) (fun t82_117 w => keepS S (fun w =>
   opW Tryz.prog (Instr.buildSlice 33 1 #[(0, t82_117)]) (fun t83_118 w => keepS S (fun w =>
   opW Tryz.prog (Builtin.append_ #[33, 33] 33 #[out_5, t83_118]) (fun t84_119 w => keepS S (fun w =>
   J_58 t84_119 w) w) w) w) w) w) w) w) w) w) w) w) w) w) w) ∧ (opW Tryz.prog (Instr.buildSlice 26 0 #[]) (fun t74_120 w => keepS S (fun w =>
   opW Tryz.prog (Builtin.append_ #[25, 25] 25 #[t70_69, t72_64]) (fun t73_121 w => keepS S (fun w =>
   opW Tryz.prog (Builtin.append_ #[26, 26] 26 #[t74_120, t76_66]) (fun t77_122 w => keepS S (fun w =>
   opW Tryz.prog (Builtin.append_ #[25, 25] 25 #[t78_112, t80_68]) (fun t81_123 w => keepS S (fun w =>
   opW Tryz.prog (Instr.build 28 #[(0, t67_60), (1, t69_62), (2, t73_121), (3, t77_122), (4, t81_123)]) (fun t82_124 w => keepS S (fun w =>
   opW Tryz.prog (Instr.buildSlice 33 1 #[(0, t82_124)]) (fun t83_125 w => keepS S (fun w =>
   opW Tryz.prog (Builtin.append_ #[33, 33] 33 #[out_5, t83_125]) (fun t84_126 w => keepS S (fun w =>
   J_58 t84_126 w) w) w) w) w) w) w) w) w) w) w) w) w) w) w)) w) w)) w) w) ∧ (opW Tryz.prog (Instr.buildSlice 26 0 #[]) (fun t74_127 w => keepS S (fun w =>
   (opW Tryz.prog (Instr.buildSlice 25 0 #[]) (fun t70_128 w => keepS S (fun w =>
   (opW Tryz.prog (Builtin.append_ #[25, 25] 25 #[t70_128, t72_64]) (fun t73_129 w => keepS S (fun w =>
   (opW Tryz.prog (Builtin.append_ #[26, 26] 26 #[t74_127, t76_66]) (fun t77_130 w => keepS S (fun w =>
   opW Tryz.prog (Instr.buildSlice 25 0 #[]) (fun t78_131 w => keepS S (fun w =>
   opW Tryz.prog (Builtin.append_ #[25, 25] 25 #[t78_131, t80_68]) (fun t81_132 w => keepS S (fun w =>
   opW Tryz.prog (Instr.build 28 #[(0, t67_60), (1, t69_62), (2, t73_129), (3, t77_130), (4, t81_132)]) (fun t82_133 w => keepS S (fun w =>
   opW Tryz.prog (Instr.buildSlice 33 1 #[(0, t82_133)]) (fun t83_134 w => keepS S (fun w =>
   opW Tryz.prog (Builtin.append_ #[33, 33] 33 #[out_5, t83_134]) (fun t84_135 w => keepS S (fun w =>
   J_58 t84_135 w) w) w) w) w) w) w) w) w) w) w) w) w) ∧ (opW Tryz.prog (Instr.buildSlice 25 0 #[]) (fun t78_136 w => keepS S (fun w =>
   opW Tryz.prog (Builtin.append_ #[26, 26] 26 #[t74_127, t76_66]) (fun t77_137 w => keepS S (fun w =>
   opW Tryz.prog (Builtin.append_ #[25, 25] 25 #[t78_136, t80_68]) (fun t81_138 w => keepS S (fun w =>
   opW Tryz.prog (Instr.build 28 #[(0, t67_60), (1, t69_62), (2, t73_129), (3, t77_137), (4, t81_138)]) (fun t82_139 w => keepS S (fun w =>
   opW Tryz.prog (Instr.buildSlice 33 1 #[(0, t82_139)]) (fun t83_140 w => keepS S (fun w =>
   opW Tryz.prog (Builtin.append_ #[33, 33] 33 #[out_5, t83_140]) (fun t84_141 w => keepS S (fun w =>
   J_58 t84_141 w) w) w) w) w) w) w) w) w) w) w) w) w)) w) w) ∧ (opW Tryz.prog (Instr.buildSlice 25 0 #[]) (fun t78_142 w => keepS S (fun w =>
   opW Tryz.prog (Builtin.append_ #[25, 25] 25 #[t70_128, t72_64]) (fun t73_143 w => keepS S (fun w =>
   opW Tryz.prog (Builtin.append_ #[26, 26] 26 #[t74_127, t76_66]) (fun t77_144 w => keepS S (fun w =>
   opW Tryz.prog (Builtin.append_ #[25, 25] 25 #[t78_142, t80_68]) (fun t81_145 w => keepS S (fun w =>
   opW Tryz.prog (Instr.build 28 #[(0, t67_60), (1, t69_62), (2, t73_143), (3, t77_144), (4, t81_145)]) (fun t82_146 w => keepS S (fun w =>
   opW Tryz.prog (Instr.buildSlice 33 1 #[(0, t82_146)]) (fun t83_147 w => keepS S (fun w =>
   opW Tryz.prog (Builtin.append_ #[33, 33] 33 #[out_5, t83_147]) (fun t84_148 w => keepS S (fun w =>
   J_58 t84_148 w) w) w) w) w) w) w) w) w) w) w) w) w) w) w)) w) w) ∧ (opW Tryz.prog (Instr.buildSlice 25 0 #[]) (fun t78_149 w => keepS S (fun w =>
   opW Tryz.prog (Instr.buildSlice 25 0 #[]) (fun t70_150 w => keepS S (fun w =>
   opW Tryz.prog (Builtin.append_ #[25, 25] 25 #[t70_150, t72_64]) (fun t73_151 w => keepS S (fun w =>
   opW Tryz.prog (Builtin.append_ #[26, 26] 26 #[t74_127, t76_66]) (fun t77_152 w => keepS S (fun w =>
   opW Tryz.prog (Builtin.append_ #[25, 25] 25 #[t78_149, t80_68]) (fun t81_153 w => keepS S (fun w =>
   opW Tryz.prog (Instr.build 28 #[(0, t67_60), (1, t69_62), (2, t73_151), (3, t77_152), (4, t81_153)]) (fun t82_154 w => keepS S (fun w =>
   opW Tryz.prog (Instr.buildSlice 33 1 #[(0, t82_154)]) (fun t83_155 w => keepS S (fun w =>
   opW Tryz.prog (Builtin.append_ #[33, 33] 33 #[out_5, t83_155]) (fun t84_156 w => keepS S (fun w =>
   J_58 t84_156 w) w) w) w) w) w) w) w) w) w) w) w) w) w) w) w) w)) w) w)) ∧ (opW Tryz.prog (Instr.buildSlice 25 0 #[]) (fun t78_157 w => keepS S (fun w =>
   (opW Tryz.prog (Instr.buildSlice 25 0 #[]) (fun t70_158 w => keepS S (fun w =>
   (opW Tryz.prog (Builtin.append_ #[25, 25] 25 #[t70_158, t72_64]) (fun t73_159 w => keepS S (fun w =>
   opW Tryz.prog (Instr.buildSlice 26 0 #[]) (fun t74_160 w => keepS S (fun w =>
   opW Tryz.prog (Builtin.append_ #[26, 26] 26 #[t74_160, t76_66]) (fun t77_161 w => keepS S (fun w =>
   opW Tryz.prog (Builtin.append_ #[25, 25] 25 #[t78_157, t80_68]) (fun t81_162 w => keepS S (fun w =>
   opW Tryz.prog (Instr.build 28 #[(0, t67_60), (1, t69_62), (2, t73_159), (3, t77_161), (4, t81_162)]) (fun t82_163 w => keepS S (fun w =>
   opW Tryz.prog (Instr.buildSlice 33 1 #[(0, t82_163)]) (fun t83_164 w => keepS S (fun w =>
   opW Tryz.prog (Builtin.append_ #[33, 33] 33 #[out_5, t83_164]) (fun t84_165 w => keepS S (fun w =>
   J_58 t84_165 w) w) w) w) w) w) w) w) w) w) w) w) w) w) w) ∧ (opW Tryz.prog (Instr.buildSlice 26 0 #[]) (fun t74_166 w => keepS S (fun w =>
   opW Tryz.prog (Builtin.append_ #[25, 25] 25 #[t70_158, t72_64]) (fun t73_167 w => keepS S (fun w =>
   opW Tryz.prog (Builtin.append_ #[26, 26] 26 #[t74_166, t76_66]) (fun t77_168 w => keepS S (fun w =>
   opW Tryz.prog (Builtin.append_ #[25, 25] 25 #[t78_157, t80_68]) (fun t81_169 w => keepS S (fun w =>
   opW Tryz.prog (Instr.build 28 #[(0, t67_60), (1, t69_62), (2, t73_167), (3, t77_168), (4, t81_169)]) (fun t82_170 w => keepS S (fun w =>
   opW Tryz.prog (Instr.buildSlice 33 1 #[(0, t82_170)]) (fun t83_171 w => keepS S (fun w =>
   opW Tryz.prog (Builtin.append_ #[33, 33] 33 #[out_5, t83_171]) (fun t84_172 w => keepS S (fun w =>
   J_58 t84_172 w) w) w) w) w) w) w) w) w) w) w) w) w) w) w)) w) w) ∧ (opW Tryz.prog (Instr.buildSlice 26 0 #[]) (fun t74_173 w => keepS S (fun w =>
   opW Tryz.prog (Instr.buildSlice 25 0 #[]) (fun t70_174 w => keepS S (fun w =>
   opW Tryz.prog (Builtin.append_ #[25, 25] 25 #[t70_174, t72_64]) (fun t73_175 w => keepS S (fun w =>
   opW Tryz.prog (Builtin.append_ #[26, 26] 26 #[t74_173, t76_66]) (fun t77_176 w => keepS S (fun w =>
   opW Tryz.prog (Builtin.append_ #[25, 25] 25 #[t78_157, t80_68]) (fun t81_177 w => keepS S (fun w =>
   opW Tryz.prog (Instr.build 28 #[(0, t67_60), (1, t69_62), (2, t73_175), (3, t77_176), (4, t81_177)]) (fun t82_178 w => keepS S (fun w =>
   opW Tryz.prog (Instr.buildSlice 33 1 #[(0, t82_178)]) (fun t83_179 w => keepS S (fun w =>
   opW Tryz.prog (Builtin.append_ #[33, 33] 33 #[out_5, t83_179]) (fun t84_180 w => keepS S (fun w =>
   J_58 t84_180 w) w) w) w) w) w) w) w) w) w) w) w) w) w) w) w) w)) w) w)) w) w) w) w) w) w) w) w) w) w))) (fun J_45 =>
   opW Tryz.prog (Instr.fieldAt 28 y_18 3) (fun t52_46 w =>
   opW Tryz.prog (Instr.loadAt 26 t52_46) (fun t53_47 w =>
   opW Tryz.prog (Builtin.len_ #[26] 3 #[t53_47]) (fun t54_48 w =>
   opW Tryz.prog (binS BinOp.gtr 3 (Operand.tmp 54) (Operand.const (Value.int IntKind.i64 0)) t54_48 (Value.int IntKind.i64 0)) (fun t55_49 w =>
   guardW (some t55_49, true) (fun k w => opW Tryz.prog (Instr.fieldAt 28 m_3 3) k w) (fun t57_50 w =>
   guardW (some t55_49, true) (fun k w => opW Tryz.prog (Instr.loadAt 26 t57_50) k w) (fun t58_51 w =>
   guardW (some t55_49, true) (fun k w => opW Tryz.prog (Builtin.len_ #[26] 3 #[t58_51]) k w) (fun t59_52 w =>
   guardW (some t55_49, true) (fun k w => opW Tryz.prog (binS BinOp.eql 3 (Operand.tmp 59) (Operand.const (Value.int IntKind.i64 0)) t59_52 (Value.int IntKind.i64 0)) k w) (fun t60_53 w =>
   pickW t55_49 t60_53 (Value.bool false) (fun t61_54 w =>
   condW t61_54
   (opW Tryz.prog (Instr.fieldAt 28 y_18 3) (fun t62_55 w =>
   opW Tryz.prog (Instr.loadAt 26 t62_55) (fun t63_56 w =>
   opW Tryz.prog (Instr.fieldAt 28 m_3 3) (fun t64_57 w =>
   opU Tryz.prog (Instr.storeAt 26 t64_57 t63_56) (fun _ w =>
   J_45 w) w) w) w) w)
   (J_45 w)) w) w) w) w) w) w) w) w) w)) w) w) w) w) w) w) w) w) w) w) w) w) w) w) w) w) w) w) w) w) w) w) w) w) w) w) w) w) w) w)) w) w) w) w) w)
   (k out_5 w)) w) w) w) w) w) (Value.slice none 0 0) (Value.int IntKind.i64 0) w) w) w) w
theorem S11_vc (x_1 : Value) (k : Value → World → Prop) (w : World) : vc Tryz.prog Tryz.f11.ntmps ann11 none ((Tryz.f11.body).getD Code.skip) 1 (params 0 [x_1]) [] (finQ Tryz.prog Tryz.f11.results.toList k) w = S11 x_1 k w := by kernel_rfl
theorem S11_calls (x_1 : Value) (k : Value → World → Prop) (w : World) (h : S11 x_1 k w) : Calls Tryz.prog 11 #[x_1] w (retP k) :=
  calls_of_vc (fn := Tryz.f11) (c := (Tryz.f11.body).getD Code.skip) ann11 Tryz.func11 (by kernel_rfl) [x_1] w k (by kernel_rfl) ((S11_vc x_1 k w).symm ▸ h)
theorem C11 (x_1 : Value) (k : Value → World → Prop) (w : World) (h : S11 x_1 k w) : callW Tryz.prog (.func (.func 11) #[] #[]) #[x_1] k w :=
  callW_calls ok11 (by simpa using S11_calls x_1 k w h)

/-! newswire/newswirelaw26.pick -/
def ann13 : Ann := []
def S13 (c_1 n_2 : Value) (k : Value → World → Prop) (w : World) : Prop :=
   joinW (fun c_7 w =>
   opW Tryz.prog (binS BinOp.rem 3 (Operand.tmp 10) (Operand.tmp 11) c_7 n_2) (fun t12_8 w =>
   k t12_8 w) w) (fun J_3 =>
   opW Tryz.prog (binS BinOp.lss 3 (Operand.tmp 5) (Operand.const (Value.int IntKind.i64 0)) c_1 (Value.int IntKind.i64 0)) (fun t6_4 w =>
   condW t6_4
   (opW Tryz.prog (binS BinOp.add 3 (Operand.tmp 7) (Operand.const (Value.int IntKind.i64 1)) c_1 (Value.int IntKind.i64 1)) (fun t8_5 w =>
   opW Tryz.prog (Op.unary UnOp.neg t8_5) (fun t9_6 w =>
   J_3 t9_6 w) w) w)
   (J_3 c_1 w)) w)
theorem S13_vc (c_1 n_2 : Value) (k : Value → World → Prop) (w : World) : vc Tryz.prog Tryz.f13.ntmps ann13 none ((Tryz.f13.body).getD Code.skip) 1 (params 0 [c_1, n_2]) [] (finQ Tryz.prog Tryz.f13.results.toList k) w = S13 c_1 n_2 k w := by kernel_rfl
theorem S13_calls (c_1 n_2 : Value) (k : Value → World → Prop) (w : World) (h : S13 c_1 n_2 k w) : Calls Tryz.prog 13 #[c_1, n_2] w (retP k) :=
  calls_of_vc (fn := Tryz.f13) (c := (Tryz.f13.body).getD Code.skip) ann13 Tryz.func13 (by kernel_rfl) [c_1, n_2] w k (by kernel_rfl) ((S13_vc c_1 n_2 k w).symm ▸ h)
theorem C13 (c_1 n_2 : Value) (k : Value → World → Prop) (w : World) (h : S13 c_1 n_2 k w) : callW Tryz.prog (.func (.func 13) #[] #[]) #[c_1, n_2] k w :=
  callW_calls ok13 (by simpa using S13_calls c_1 n_2 k w h)

/-! newswire/flow.Seen -/
def ann16 : Ann := [(61, Note.keep [0, 8]), (245, Note.keep []), (253, Note.keep [13]), (506, Note.loop [13, 48] [8, 46, 47]), (981, Note.keep []), (1962, Note.loop [32] [8, 30, 31]), (8102, Note.keep [8, 13, 46, 47, 48]), (31398, Note.keep [8, 30, 31, 32]), (125593, Note.plan (Plan.takeX 0 (Plan.takeP 1 (Plan.takeP 2 (Plan.takeP 3 (Plan.takeP 4 (Plan.takeX 5 (Plan.takeP 6 (Plan.takeP 7 (Plan.run 8 Plan.done))))))))))]
def S16 (l_1 reader_2 moments_3 : Value) (k : Value → World → Prop) (w : World) : Prop :=
   opW Tryz.prog (Instr.box 30 reader_2) (fun reader_4 w =>
   opW Tryz.prog (Instr.loadAt 30 reader_4) (fun t17_6 w =>
   callW Tryz.prog (Value.func (Fn.func 41) #[] #[]) #[l_1, t17_6, moments_3] (fun t19_7 w =>
   opW Tryz.prog (Op.unary UnOp.not t19_7) (fun t20_8 w =>
   condW t20_8
   (k (Value.tuple #[(Value.slice none 0 0), (Value.int IntKind.i64 260)]) w)
   (opW Tryz.prog (Builtin.len_ #[24] 3 #[l_1]) (fun t22_9 w =>
   opW Tryz.prog (Instr.makeSlice 89 t22_9 t22_9) (fun t23_10 w =>
   opW Tryz.prog (Instr.alloc 89 true (Value.tuple #[])) (fun is_11 w =>
   opU Tryz.prog (Instr.storeAt 89 is_11 t23_10) (fun _ w =>
   opW Tryz.prog (Instr.loadAt 30 reader_4) (fun t25_12 w =>
   callW Tryz.prog (Value.func (Fn.func 42) #[] #[]) #[l_1, t25_12, moments_3] (fun t27_13 w =>
   rangeW Tryz.prog t27_13 2 (fun l_15 ready_15 busy_15 args_15 w k_15 =>
   ready_15 w ∧ (fun w => opW Tryz.prog (Builtin.len_ #[95] 3 #[(args_15.tail.headD undef)]) (fun t31_17 w =>
   Loop1 (fun t32_19 w K_20 =>
   opW Tryz.prog (binS BinOp.lss 3 (Operand.tmp 32) (Operand.tmp 31) t32_19 t31_17) (fun t33_21 w =>
   condW t33_21
   (opW Tryz.prog (Instr.indexAt 95 (args_15.tail.headD undef) t32_19) (fun t35_24 w =>
   opW Tryz.prog (Instr.loadAt 96 t35_24) (fun t36_25 w =>
   drewW w (fun w =>
   takeW Tryz.prog (sameW w) (Instr.loadAt 89 is_11) (fun t37_27 =>
   nilT t36_25 (fun t40_28 =>
   takeW Tryz.prog anyW (Instr.fieldAt 98 t40_28 2) (fun t41_29 =>
   takeW Tryz.prog (sameW w) (Instr.loadAt 3 t41_29) (fun t42_30 =>
   takeW Tryz.prog anyW (binS BinOp.geq 3 (Operand.tmp 42) (Operand.const (Value.int IntKind.i64 0)) t42_30 (Value.int IntKind.i64 0)) (fun t43_31 =>
   takeW Tryz.prog anyW (Instr.indexAt 89 t37_27 t32_19) (fun t44_32 =>
   opU Tryz.prog (Instr.storeAt 4 t44_32 t43_31) (fun _ w =>
   opW Tryz.prog (binS BinOp.add 3 (Operand.tmp 32) (Operand.const (Value.int IntKind.i64 1)) t32_19 (Value.int IntKind.i64 1)) (fun t45_33 w =>
   loopK [] [] [is_11, (args_15.tail.headD undef), t31_17] [is_11, (args_15.tail.headD undef), t31_17] (K_20 t45_33 w)) w) w) w) w) w) w)) w)) w) w)
   (k_15 none w)) w) (Value.int IntKind.i64 0) w) w) (busy_15 w)) (fun d_15 j_15 w => jumpW j_15
   (opW Tryz.prog (Builtin.len_ #[24] 3 #[l_1]) (fun t47_34 w =>
   Loop2 (fun out_36 t48_37 w K_38 =>
   opW Tryz.prog (binS BinOp.lss 3 (Operand.tmp 48) (Operand.tmp 47) t48_37 t47_34) (fun t49_39 w =>
   condW t49_39
   (joinW (fun out_52 w =>
   opW Tryz.prog (binS BinOp.add 3 (Operand.tmp 48) (Operand.const (Value.int IntKind.i64 1)) t48_37 (Value.int IntKind.i64 1)) (fun t62_53 w =>
   loopK [{ target := Target.collected d_15, args := #[] }] [{ target := Target.collected d_15, args := #[] }] [is_11, l_1, t47_34] [is_11, l_1, t47_34] (K_38 out_52 t62_53 w)) w) (fun J_41 =>
   opW Tryz.prog (Instr.indexAt 24 l_1 t48_37) (fun t51_42 w =>
   opW Tryz.prog (Instr.loadAt 63 t51_42) (fun t52_43 w =>
   opW Tryz.prog (Instr.alloc 63 true (Value.tuple #[])) (fun x_44 w =>
   opU Tryz.prog (Instr.storeAt 63 x_44 t52_43) (fun _ w =>
   opW Tryz.prog (Instr.loadAt 89 is_11) (fun t53_45 w =>
   opW Tryz.prog (Instr.indexAt 89 t53_45 t48_37) (fun t55_46 w =>
   opW Tryz.prog (Instr.loadAt 4 t55_46) (fun t56_47 w =>
   condW t56_47
   (opW Tryz.prog (Instr.loadAt 63 x_44) (fun t58_48 w =>
   callW Tryz.prog (Value.func (Fn.func 43) #[] #[]) #[t58_48] (fun t59_49 w =>
   opW Tryz.prog (Instr.buildSlice 24 1 #[(0, t59_49)]) (fun t60_50 w =>
   opW Tryz.prog (Builtin.append_ #[24, 24] 24 #[out_36, t60_50]) (fun t61_51 w =>
   J_41 t61_51 w) w) w) w) w)
   (J_41 out_36 w)) w) w) w) w) w) w) w))
   (leaveW [{ target := Target.collected d_15, args := #[] }] (fun w => k (Value.tuple #[out_36, (Value.int IntKind.i64 0)]) w) w)) w) (Value.slice none 0 0) (Value.int IntKind.i64 0) w) w)
   (leaveW [{ target := Target.collected d_15, args := #[] }] (fun w => k (Value.tuple #[(Value.slice none 0 0), (Value.int IntKind.i64 0)]) w) w)
   (fun x => False)) w) w) w) w) w) w) w)) w) w) w) w
theorem S16_vc (l_1 reader_2 moments_3 : Value) (k : Value → World → Prop) (w : World) : vc Tryz.prog Tryz.f16.ntmps ann16 none ((Tryz.f16.body).getD Code.skip) 1 (params 0 [l_1, reader_2, moments_3]) [] (finQ Tryz.prog Tryz.f16.results.toList k) w = S16 l_1 reader_2 moments_3 k w := by kernel_rfl
theorem S16_calls (l_1 reader_2 moments_3 : Value) (k : Value → World → Prop) (w : World) (h : S16 l_1 reader_2 moments_3 k w) : Calls Tryz.prog 16 #[l_1, reader_2, moments_3] w (retP k) :=
  calls_of_vc (fn := Tryz.f16) (c := (Tryz.f16.body).getD Code.skip) ann16 Tryz.func16 (by kernel_rfl) [l_1, reader_2, moments_3] w k (by kernel_rfl) ((S16_vc l_1 reader_2 moments_3 k w).symm ▸ h)
theorem C16 (l_1 reader_2 moments_3 : Value) (k : Value → World → Prop) (w : World) (h : S16 l_1 reader_2 moments_3 k w) : callW Tryz.prog (.func (.func 16) #[] #[]) #[l_1, reader_2, moments_3] k w :=
  callW_calls ok16 (by simpa using S16_calls l_1 reader_2 moments_3 k w h)

/-! newswire/newswireref26.SameItems -/
def ann18 : Ann := [(29, Note.keep []), (58, Note.loop [5] [0, 1]), (466, Note.keep [0, 1, 5]), (1864, Note.plan (Plan.takeP 0 (Plan.takeP 1 (Plan.takeP 2 (Plan.takeP 3 (Plan.takeU 4 (Plan.takeP 5 (Plan.takeP 6 (Plan.takeP 7 (Plan.takeP 8 (Plan.takeU 9 (Plan.takeP 10 (Plan.takeP 11 (Plan.takeP 12 (Plan.takeP 13 (Plan.takeP 14 (Plan.takeP 15 (Plan.takeU 16 (Plan.takeP 17 (Plan.takeP 18 (Plan.takeP 19 (Plan.takeP 20 (Plan.takeU 21 (Plan.takeP 22 (Plan.takeP 23 (Plan.takeP 24 (Plan.takeP 25 (Plan.takeP 26 (Plan.takeP 27 (Plan.takeP 28 (Plan.takeU 29 (Plan.takeP 30 (Plan.takeP 31 (Plan.takeP 32 (Plan.takeP 33 (Plan.takeU 34 (Plan.takeP 35 (Plan.takeP 36 (Plan.takeP 37 (Plan.takeP 38 (Plan.takeP 39 (Plan.takeP 40 (Plan.takeP 41 (Plan.takeX 42 (Plan.takeP 43 (Plan.takeP 44 (Plan.takeP 45 (Plan.takeP 46 (Plan.takeX 47 (Plan.run 48 (Plan.takeP 49 (Plan.takeP 50 Plan.done))))))))))))))))))))))))))))))))))))))))))))))))))))]
def S18 (a_1 b_2 : Value) (k : Value → World → Prop) (w : World) : Prop :=
   opW Tryz.prog (Builtin.len_ #[24] 3 #[a_1]) (fun t7_4 w =>
   opW Tryz.prog (Builtin.len_ #[24] 3 #[b_2]) (fun t9_5 w =>
   opW Tryz.prog (binS BinOp.neq 3 (Operand.tmp 7) (Operand.tmp 9) t7_4 t9_5) (fun t10_6 w =>
   condW t10_6
   (k (Value.bool false) w)
   (Loop1 (fun i_8 w K_9 =>
   opW Tryz.prog (Builtin.len_ #[24] 3 #[a_1]) (fun t13_11 w =>
   opW Tryz.prog (binS BinOp.lss 3 (Operand.tmp 11) (Operand.tmp 13) i_8 t13_11) (fun t14_12 w =>
   condW t14_12
   (drewW w (fun w =>
   ∃ S : World → Prop, S w ∧
   takeW Tryz.prog anyW (Instr.indexAt 24 a_1 i_8) (fun t19_15 =>
   takeW Tryz.prog anyW (Instr.fieldAt 63 t19_15 0) (fun t20_16 =>
   takeW Tryz.prog S (Instr.loadAt 3 t20_16) (fun t21_17 =>
   takeW Tryz.prog anyW (Instr.indexAt 24 b_2 i_8) (fun t24_18 =>
   takeW Tryz.prog anyW (Instr.fieldAt 63 t24_18 0) (fun t25_19 =>
   takeW Tryz.prog S (Instr.loadAt 3 t25_19) (fun t26_20 =>
   takeW Tryz.prog anyW (binS BinOp.neq 3 (Operand.tmp 21) (Operand.tmp 26) t21_17 t26_20) (fun t27_21 =>
   guardT (some t27_21, false) (fun k => k a_1) (fun t29_22 =>
   guardT (some t27_21, false) (fun k => k i_8) (fun t30_23 =>
   guardT (some t27_21, false) (fun k => takeW Tryz.prog anyW (Instr.indexAt 24 t29_22 t30_23) k w) (fun t31_24 =>
   guardT (some t27_21, false) (fun k => takeW Tryz.prog anyW (Instr.fieldAt 63 t31_24 2) k w) (fun t32_25 =>
   guardT (some t27_21, false) (fun k => takeW Tryz.prog S (Instr.loadAt 3 t32_25) k w) (fun t33_26 =>
   guardT (some t27_21, false) (fun k => k b_2) (fun t34_27 =>
   guardT (some t27_21, false) (fun k => k i_8) (fun t35_28 =>
   guardT (some t27_21, false) (fun k => takeW Tryz.prog anyW (Instr.indexAt 24 t34_27 t35_28) k w) (fun t36_29 =>
   guardT (some t27_21, false) (fun k => takeW Tryz.prog anyW (Instr.fieldAt 63 t36_29 2) k w) (fun t37_30 =>
   guardT (some t27_21, false) (fun k => takeW Tryz.prog S (Instr.loadAt 3 t37_30) k w) (fun t38_31 =>
   guardT (some t27_21, false) (fun k => takeW Tryz.prog anyW (binS BinOp.neq 3 (Operand.tmp 33) (Operand.tmp 38) t33_26 t38_31) k w) (fun t39_32 =>
   pickT t27_21 (Value.bool true) t39_32 (fun t40_33 =>
   guardT (some t40_33, false) (fun k => k a_1) (fun t42_34 =>
   guardT (some t40_33, false) (fun k => k i_8) (fun t43_35 =>
   guardT (some t40_33, false) (fun k => takeW Tryz.prog anyW (Instr.indexAt 24 t42_34 t43_35) k w) (fun t44_36 =>
   guardT (some t40_33, false) (fun k => takeW Tryz.prog anyW (Instr.fieldAt 63 t44_36 3) k w) (fun t45_37 =>
   guardT (some t40_33, false) (fun k => takeW Tryz.prog S (Instr.loadAt 9 t45_37) k w) (fun t46_38 =>
   guardT (some t40_33, false) (fun k => k b_2) (fun t47_39 =>
   guardT (some t40_33, false) (fun k => k i_8) (fun t48_40 =>
   guardT (some t40_33, false) (fun k => takeW Tryz.prog anyW (Instr.indexAt 24 t47_39 t48_40) k w) (fun t49_41 =>
   guardT (some t40_33, false) (fun k => takeW Tryz.prog anyW (Instr.fieldAt 63 t49_41 3) k w) (fun t50_42 =>
   guardT (some t40_33, false) (fun k => takeW Tryz.prog S (Instr.loadAt 9 t50_42) k w) (fun t51_43 =>
   guardT (some t40_33, false) (fun k => takeW Tryz.prog anyW (binS BinOp.neq 9 (Operand.tmp 46) (Operand.tmp 51) t46_38 t51_43) k w) (fun t52_44 =>
   pickT t40_33 (Value.bool true) t52_44 (fun t53_45 =>
   guardT (some t53_45, false) (fun k => k a_1) (fun t55_46 =>
   guardT (some t53_45, false) (fun k => k i_8) (fun t56_47 =>
   guardT (some t53_45, false) (fun k => takeW Tryz.prog anyW (Instr.indexAt 24 t55_46 t56_47) k w) (fun t57_48 =>
   guardT (some t53_45, false) (fun k => takeW Tryz.prog anyW (Instr.fieldAt 63 t57_48 1) k w) (fun t58_49 =>
   guardT (some t53_45, false) (fun k => takeW Tryz.prog (sameW w) (Instr.loadAt 61 t58_49) k w) (fun t59_50 =>
   guardT (some t53_45, false) (fun k => k b_2) (fun t60_51 =>
   guardT (some t53_45, false) (fun k => k i_8) (fun t61_52 =>
   guardT (some t53_45, false) (fun k => takeW Tryz.prog anyW (Instr.indexAt 24 t60_51 t61_52) k w) (fun t62_53 =>
   guardT (some t53_45, false) (fun k => takeW Tryz.prog anyW (Instr.fieldAt 63 t62_53 1) k w) (fun t63_54 =>
   guardT (some t53_45, false) (fun k => takeW Tryz.prog (sameW w) (Instr.loadAt 61 t63_54) k w) (fun t64_55 =>
   guardW (some t53_45, false) (fun k w => callW Tryz.prog (Value.func (Fn.func 45) #[] #[]) #[t59_50, t64_55] k w) (fun t65_56 w => keepS S (fun w =>
   guardT (some t53_45, false) (fun k => takeW Tryz.prog anyW (Op.unary UnOp.not t65_56) k w) (fun t66_57 =>
   pickT t53_45 (Value.bool true) t66_57 (fun t67_58 =>
   condW t67_58
   (k (Value.bool false) w)
   (opW Tryz.prog (binS BinOp.add 3 (Operand.tmp 15) (Operand.const (Value.int IntKind.i64 1)) i_8 (Value.int IntKind.i64 1)) (fun t16_59 w =>
   loopK [] [] [a_1, b_2] [a_1, b_2] (K_9 t16_59 w)) w)))) w) w))))))))))))))))))))))))))))))))))) w) w) w) w) w) w) w))
   (k (Value.bool true) w)) w) w) (Value.int IntKind.i64 0) w)) w) w) w
theorem S18_vc (a_1 b_2 : Value) (k : Value → World → Prop) (w : World) : vc Tryz.prog Tryz.f18.ntmps ann18 none ((Tryz.f18.body).getD Code.skip) 1 (params 0 [a_1, b_2]) [] (finQ Tryz.prog Tryz.f18.results.toList k) w = S18 a_1 b_2 k w := by kernel_rfl
theorem S18_calls (a_1 b_2 : Value) (k : Value → World → Prop) (w : World) (h : S18 a_1 b_2 k w) : Calls Tryz.prog 18 #[a_1, b_2] w (retP k) :=
  calls_of_vc (fn := Tryz.f18) (c := (Tryz.f18.body).getD Code.skip) ann18 Tryz.func18 (by kernel_rfl) [a_1, b_2] w k (by kernel_rfl) ((S18_vc a_1 b_2 k w).symm ▸ h)
theorem C18 (a_1 b_2 : Value) (k : Value → World → Prop) (w : World) (h : S18 a_1 b_2 k w) : callW Tryz.prog (.func (.func 18) #[] #[]) #[a_1, b_2] k w :=
  callW_calls ok18 (by simpa using S18_calls a_1 b_2 k w h)

/-! newswire/flow.Valid -/
def ann19 : Ann := []
def S19 (l_1 : Value) (k : Value → World → Prop) (w : World) : Prop :=
   opW Tryz.prog (Instr.alloc 101 true (Value.tuple #[])) (fun isIn_2 w =>
   opU Tryz.prog (Instr.storeAt 101 isIn_2 (Value.func (Fn.func 46) #[] #[])) (fun _ w =>
   opW Tryz.prog (Instr.makeFunc (Fn.func 47) #[] #[isIn_2]) (fun t5_3 w =>
   opW Tryz.prog (Builtin.len_ #[24] 3 #[l_1]) (fun t7_4 w =>
   opW Tryz.prog (binS BinOp.leq 3 (Operand.tmp 7) (Operand.const (Value.int IntKind.i64 12)) t7_4 (Value.int IntKind.i64 12)) (fun t8_5 w =>
   guardW (some t8_5, true) (fun k w => k l_1 w) (fun t10_6 w =>
   guardW (some t8_5, true) (fun k w => k t5_3 w) (fun t11_7 w =>
   guardW (some t8_5, true) (fun k w => callW Tryz.prog (Value.func (Fn.func 49) #[] #[]) #[t10_6, t11_7] k w) (fun t12_8 w =>
   guardW (some t8_5, true) (fun k w => opW Tryz.prog (Op.unary UnOp.not t12_8) k w) (fun t13_9 w =>
   pickW t8_5 t13_9 (Value.bool false) (fun t14_10 w =>
   k t14_10 w) w) w) w) w) w) w) w) w) w) w
theorem S19_vc (l_1 : Value) (k : Value → World → Prop) (w : World) : vc Tryz.prog Tryz.f19.ntmps ann19 none ((Tryz.f19.body).getD Code.skip) 1 (params 0 [l_1]) [] (finQ Tryz.prog Tryz.f19.results.toList k) w = S19 l_1 k w := by kernel_rfl
theorem S19_calls (l_1 : Value) (k : Value → World → Prop) (w : World) (h : S19 l_1 k w) : Calls Tryz.prog 19 #[l_1] w (retP k) :=
  calls_of_vc (fn := Tryz.f19) (c := (Tryz.f19.body).getD Code.skip) ann19 Tryz.func19 (by kernel_rfl) [l_1] w k (by kernel_rfl) ((S19_vc l_1 k w).symm ▸ h)
theorem C19 (l_1 : Value) (k : Value → World → Prop) (w : World) (h : S19 l_1 k w) : callW Tryz.prog (.func (.func 19) #[] #[]) #[l_1] k w :=
  callW_calls ok19 (by simpa using S19_calls l_1 k w h)

/-! newswire/flow.Alike -/
def ann21 : Ann := []
def S21 (a_1 b_2 reader_3 moments_4 : Value) (k : Value → World → Prop) (w : World) : Prop :=
   opW Tryz.prog (Instr.box 30 reader_3) (fun reader_5 w =>
   opW Tryz.prog (Instr.loadAt 30 reader_5) (fun t15_6 w =>
   callW Tryz.prog (Value.func (Fn.func 16) #[] #[]) #[a_1, t15_6, moments_4] (fun t17_7 w =>
   opW Tryz.prog (Instr.extract t17_7 0) (fun t18_8 w =>
   opW Tryz.prog (Instr.extract t17_7 1) (fun t19_9 w =>
   opW Tryz.prog (Instr.loadAt 30 reader_5) (fun t22_10 w =>
   callW Tryz.prog (Value.func (Fn.func 16) #[] #[]) #[b_2, t22_10, moments_4] (fun t24_11 w =>
   opW Tryz.prog (Instr.extract t24_11 0) (fun t25_12 w =>
   opW Tryz.prog (Instr.extract t24_11 1) (fun t26_13 w =>
   opW Tryz.prog (binS BinOp.eql 42 (Operand.tmp 27) (Operand.const (Value.int IntKind.i64 0)) t19_9 (Value.int IntKind.i64 0)) (fun t28_14 w =>
   guardW (some t28_14, true) (fun k w => k t26_13 w) (fun t30_15 w =>
   guardW (some t28_14, true) (fun k w => opW Tryz.prog (binS BinOp.eql 42 (Operand.tmp 30) (Operand.const (Value.int IntKind.i64 0)) t30_15 (Value.int IntKind.i64 0)) k w) (fun t31_16 w =>
   pickW t28_14 t31_16 (Value.bool false) (fun t32_17 w =>
   guardW (some t32_17, true) (fun k w => k t18_8 w) (fun t34_18 w =>
   guardW (some t32_17, true) (fun k w => k t25_12 w) (fun t35_19 w =>
   guardW (some t32_17, true) (fun k w => callW Tryz.prog (Value.func (Fn.func 51) #[] #[]) #[t34_18, t35_19, (Value.func (Fn.func 52) #[] #[])] k w) (fun t36_20 w =>
   pickW t32_17 t36_20 (Value.bool false) (fun t37_21 w =>
   k t37_21 w) w) w) w) w) w) w) w) w) w) w) w) w) w) w) w) w) w
theorem S21_vc (a_1 b_2 reader_3 moments_4 : Value) (k : Value → World → Prop) (w : World) : vc Tryz.prog Tryz.f21.ntmps ann21 none ((Tryz.f21.body).getD Code.skip) 1 (params 0 [a_1, b_2, reader_3, moments_4]) [] (finQ Tryz.prog Tryz.f21.results.toList k) w = S21 a_1 b_2 reader_3 moments_4 k w := by kernel_rfl
theorem S21_calls (a_1 b_2 reader_3 moments_4 : Value) (k : Value → World → Prop) (w : World) (h : S21 a_1 b_2 reader_3 moments_4 k w) : Calls Tryz.prog 21 #[a_1, b_2, reader_3, moments_4] w (retP k) :=
  calls_of_vc (fn := Tryz.f21) (c := (Tryz.f21.body).getD Code.skip) ann21 Tryz.func21 (by kernel_rfl) [a_1, b_2, reader_3, moments_4] w k (by kernel_rfl) ((S21_vc a_1 b_2 reader_3 moments_4 k w).symm ▸ h)
theorem C21 (a_1 b_2 reader_3 moments_4 : Value) (k : Value → World → Prop) (w : World) (h : S21 a_1 b_2 reader_3 moments_4 k w) : callW Tryz.prog (.func (.func 21) #[] #[]) #[a_1, b_2, reader_3, moments_4] k w :=
  callW_calls ok21 (by simpa using S21_calls a_1 b_2 reader_3 moments_4 k w h)

/-! newswire/flow.Feed -/
def ann23 : Ann := [(125, Note.keep [11]), (501, Note.keep []), (4011, Note.plan (Plan.takeU 0 (Plan.takeP 1 (Plan.takeU 2 (Plan.takeU 3 (Plan.takeP 4 (Plan.run 5 (Plan.run 6 (Plan.run 7 (Plan.run 8 Plan.done))))))))))]
def S23 (mode_1 l_2 reader_3 moments_4 : Value) (k : Value → World → Prop) (w : World) : Prop :=
   opW Tryz.prog (Instr.box 30 reader_3) (fun reader_5 w =>
   opW Tryz.prog (Instr.loadAt 30 reader_5) (fun t16_7 w =>
   callW Tryz.prog (Value.func (Fn.func 41) #[] #[]) #[l_2, t16_7, moments_4] (fun t18_8 w =>
   opW Tryz.prog (Op.unary UnOp.not t18_8) (fun t19_9 w =>
   guardW (some t19_9, false) (fun k w => k mode_1 w) (fun t21_10 w =>
   guardW (some t19_9, false) (fun k w => opW Tryz.prog (binS BinOp.lss 3 (Operand.tmp 21) (Operand.const (Value.int IntKind.i64 1)) t21_10 (Value.int IntKind.i64 1)) k w) (fun t22_11 w =>
   pickW t19_9 (Value.bool true) t22_11 (fun t23_12 w =>
   guardW (some t23_12, false) (fun k w => k mode_1 w) (fun t25_13 w =>
   guardW (some t23_12, false) (fun k w => opW Tryz.prog (binS BinOp.gtr 3 (Operand.tmp 25) (Operand.const (Value.int IntKind.i64 2)) t25_13 (Value.int IntKind.i64 2)) k w) (fun t26_14 w =>
   pickW t23_12 (Value.bool true) t26_14 (fun t27_15 w =>
   condW t27_15
   (k (Value.tuple #[(Value.slice none 0 0), (Value.int IntKind.i64 260)]) w)
   (opW Tryz.prog (Instr.indexAt 112 (Value.pointer (some ⟨0, 0, none⟩)) mode_1) (fun t29_16 w =>
   opW Tryz.prog (Instr.loadAt 111 t29_16) (fun t30_17 w =>
   opW Tryz.prog (Instr.alloc 111 true (Value.tuple #[])) (fun m_18 w =>
   opU Tryz.prog (Instr.storeAt 111 m_18 t30_17) (fun _ w =>
   opW Tryz.prog (Instr.alloc 31 true (Value.tuple #[])) (fun out_19 w =>
   opW Tryz.prog (Instr.loadAt 30 reader_5) (fun t32_20 w =>
   callW Tryz.prog (Value.func (Fn.func 42) #[] #[]) #[l_2, t32_20, moments_4] (fun t34_21 w =>
   rangeW Tryz.prog t34_21 2 (fun l_23 ready_23 busy_23 args_23 w k_23 =>
   opW Tryz.prog (Instr.alloc 94 true (Value.tuple #[])) (fun s_24 w =>
   opU Tryz.prog (Instr.storeAt 94 s_24 (args_23.headD undef)) (fun _ w =>
   ready_23 w ∧ (fun w => opW Tryz.prog (Instr.makeFunc (Fn.func 54) #[] #[m_18, s_24]) (fun t38_26 w =>
   callW Tryz.prog (Value.func (Fn.func 53) #[] #[]) #[(args_23.tail.headD undef), t38_26] (fun t39_27 w =>
   opW Tryz.prog (Instr.fieldAt 111 m_18 1) (fun t41_28 w =>
   opW Tryz.prog (Instr.loadAt 108 t41_28) (fun t42_29 w =>
   callW Tryz.prog (Value.func (Fn.func 55) #[] #[]) #[t39_27, t42_29] (fun t43_30 w =>
   drewW w (fun w =>
   ∃ S : World → Prop, S w ∧
   takeW Tryz.prog S (Instr.loadAt 31 out_19) (fun t44_32 =>
   takeW Tryz.prog anyW (Instr.fieldAt 111 m_18 2) (fun t45_33 =>
   takeW Tryz.prog S (Instr.loadAt 109 t45_33) (fun t46_34 =>
   takeW Tryz.prog S (Instr.loadAt 94 s_24) (fun t47_35 =>
   callW Tryz.prog t46_34 #[t47_35, t39_27] (fun t49_36 w => keepS S (fun w =>
   opW Tryz.prog (Instr.buildSlice 31 1 #[(0, t49_36)]) (fun t50_37 w => keepS S (fun w =>
   opW Tryz.prog (Builtin.append_ #[31, 31] 31 #[t44_32, t50_37]) (fun t51_38 w => keepS S (fun w =>
   opU Tryz.prog (Instr.storeAt 31 out_19 t51_38) (fun _ w =>
   k_23 none w) w) w) w) w) w) w) w) w) w) w) w)) w) w) w) w) w) (busy_23 w)) w) w) (fun d_23 j_23 w => jumpW j_23
   (opW Tryz.prog (Instr.loadAt 31 out_19) (fun t52_39 w =>
   leaveW [{ target := Target.collected d_23, args := #[] }] (fun w => k (Value.tuple #[t52_39, (Value.int IntKind.i64 0)]) w) w) w)
   (leaveW [{ target := Target.collected d_23, args := #[] }] (fun w => k (Value.tuple #[(Value.slice none 0 0), (Value.int IntKind.i64 0)]) w) w)
   (fun x => False)) w) w) w) w) w) w) w) w)) w) w) w) w) w) w) w) w) w) w
theorem S23_vc (mode_1 l_2 reader_3 moments_4 : Value) (k : Value → World → Prop) (w : World) : vc Tryz.prog Tryz.f23.ntmps ann23 none ((Tryz.f23.body).getD Code.skip) 1 (params 0 [mode_1, l_2, reader_3, moments_4]) [] (finQ Tryz.prog Tryz.f23.results.toList k) w = S23 mode_1 l_2 reader_3 moments_4 k w := by kernel_rfl
theorem S23_calls (mode_1 l_2 reader_3 moments_4 : Value) (k : Value → World → Prop) (w : World) (h : S23 mode_1 l_2 reader_3 moments_4 k w) : Calls Tryz.prog 23 #[mode_1, l_2, reader_3, moments_4] w (retP k) :=
  calls_of_vc (fn := Tryz.f23) (c := (Tryz.f23.body).getD Code.skip) ann23 Tryz.func23 (by kernel_rfl) [mode_1, l_2, reader_3, moments_4] w k (by kernel_rfl) ((S23_vc mode_1 l_2 reader_3 moments_4 k w).symm ▸ h)
theorem C23 (mode_1 l_2 reader_3 moments_4 : Value) (k : Value → World → Prop) (w : World) (h : S23 mode_1 l_2 reader_3 moments_4 k w) : callW Tryz.prog (.func (.func 23) #[] #[]) #[mode_1, l_2, reader_3, moments_4] k w :=
  callW_calls ok23 (by simpa using S23_calls mode_1 l_2 reader_3 moments_4 k w h)

end
end Go.Proofs.YtfkfkldhcignbaaGreatDoor
