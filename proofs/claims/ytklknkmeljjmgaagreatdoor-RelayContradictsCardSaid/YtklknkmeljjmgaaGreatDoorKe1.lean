/- Part 2 of the proof of relayContradicts: lemmas for it; no condition beyond the statement. -/
import Derived.Test.YtklknkmeljjmgaaGreatDoorKe0
import Derived.Test.YtklknkmeljjmgaaGreatDoorRows
/- The laws of single operations at this program's types, printed by program. -/
set_option linter.unusedVariables false
namespace Go.Proofs.YtklknkmeljjmgaaGreatDoor
open Go Go.V Go.RowKit
section
variable {k : Value → World → Prop} {w : World} {S : World → Prop} {K : Value → Prop}
theorem hz120 : hasZero Tryz.prog 120 = true := by kernel_rfl
theorem zc120 : (zeroT Tryz.prog 120).cells.toList = [(Value.int IntKind.u32 0), (Value.int IntKind.u32 0), (Value.int IntKind.u32 0), (Value.int IntKind.u32 0), (Value.int IntKind.u32 0), (Value.int IntKind.u32 0), (Value.int IntKind.u32 0), (Value.int IntKind.u32 0), (Value.int IntKind.u32 0), (Value.int IntKind.u32 0), (Value.int IntKind.u32 0), (Value.int IntKind.u32 0), (Value.int IntKind.u32 0), (Value.int IntKind.u32 0), (Value.int IntKind.u32 0), (Value.int IntKind.u32 0), (Value.int IntKind.u32 0), (Value.int IntKind.u32 0), (Value.int IntKind.u32 0), (Value.int IntKind.u32 0), (Value.int IntKind.u32 0), (Value.int IntKind.u32 0), (Value.int IntKind.u32 0), (Value.int IntKind.u32 0), (Value.int IntKind.u32 0), (Value.int IntKind.u32 0), (Value.int IntKind.u32 0), (Value.int IntKind.u32 0), (Value.int IntKind.u32 0), (Value.int IntKind.u32 0), (Value.int IntKind.u32 0), (Value.int IntKind.u32 0), (Value.int IntKind.u32 0), (Value.int IntKind.u32 0), (Value.int IntKind.u32 0), (Value.int IntKind.u32 0), (Value.int IntKind.u32 0), (Value.int IntKind.u32 0), (Value.int IntKind.u32 0), (Value.int IntKind.u32 0), (Value.int IntKind.u32 0), (Value.int IntKind.u32 0), (Value.int IntKind.u32 0), (Value.int IntKind.u32 0), (Value.int IntKind.u32 0), (Value.int IntKind.u32 0), (Value.int IntKind.u32 0), (Value.int IntKind.u32 0), (Value.int IntKind.u32 0), (Value.int IntKind.u32 0), (Value.int IntKind.u32 0), (Value.int IntKind.u32 0), (Value.int IntKind.u32 0), (Value.int IntKind.u32 0), (Value.int IntKind.u32 0), (Value.int IntKind.u32 0), (Value.int IntKind.u32 0), (Value.int IntKind.u32 0), (Value.int IntKind.u32 0), (Value.int IntKind.u32 0), (Value.int IntKind.u32 0), (Value.int IntKind.u32 0), (Value.int IntKind.u32 0), (Value.int IntKind.u32 0)] := by kernel_rfl
theorem al120 (hk : ∀ w', Below w.heap.size w w' → w'.heap.size = w.heap.size + 1 → RowAt w' w.heap.size 120 [(Value.int IntKind.u32 0), (Value.int IntKind.u32 0), (Value.int IntKind.u32 0), (Value.int IntKind.u32 0), (Value.int IntKind.u32 0), (Value.int IntKind.u32 0), (Value.int IntKind.u32 0), (Value.int IntKind.u32 0), (Value.int IntKind.u32 0), (Value.int IntKind.u32 0), (Value.int IntKind.u32 0), (Value.int IntKind.u32 0), (Value.int IntKind.u32 0), (Value.int IntKind.u32 0), (Value.int IntKind.u32 0), (Value.int IntKind.u32 0), (Value.int IntKind.u32 0), (Value.int IntKind.u32 0), (Value.int IntKind.u32 0), (Value.int IntKind.u32 0), (Value.int IntKind.u32 0), (Value.int IntKind.u32 0), (Value.int IntKind.u32 0), (Value.int IntKind.u32 0), (Value.int IntKind.u32 0), (Value.int IntKind.u32 0), (Value.int IntKind.u32 0), (Value.int IntKind.u32 0), (Value.int IntKind.u32 0), (Value.int IntKind.u32 0), (Value.int IntKind.u32 0), (Value.int IntKind.u32 0), (Value.int IntKind.u32 0), (Value.int IntKind.u32 0), (Value.int IntKind.u32 0), (Value.int IntKind.u32 0), (Value.int IntKind.u32 0), (Value.int IntKind.u32 0), (Value.int IntKind.u32 0), (Value.int IntKind.u32 0), (Value.int IntKind.u32 0), (Value.int IntKind.u32 0), (Value.int IntKind.u32 0), (Value.int IntKind.u32 0), (Value.int IntKind.u32 0), (Value.int IntKind.u32 0), (Value.int IntKind.u32 0), (Value.int IntKind.u32 0), (Value.int IntKind.u32 0), (Value.int IntKind.u32 0), (Value.int IntKind.u32 0), (Value.int IntKind.u32 0), (Value.int IntKind.u32 0), (Value.int IntKind.u32 0), (Value.int IntKind.u32 0), (Value.int IntKind.u32 0), (Value.int IntKind.u32 0), (Value.int IntKind.u32 0), (Value.int IntKind.u32 0), (Value.int IntKind.u32 0), (Value.int IntKind.u32 0), (Value.int IntKind.u32 0), (Value.int IntKind.u32 0), (Value.int IntKind.u32 0)] → k (.pointer (some ⟨w.heap.size, 0, none⟩)) w') : opW Tryz.prog (Instr.alloc 120 true (.tuple #[])) k w := w_allocN hz120 (by rw [zc120]; exact hk)
theorem hz123 : hasZero Tryz.prog 123 = true := by kernel_rfl
theorem zc123 : (zeroT Tryz.prog 123).cells.toList = [(Value.int IntKind.u8 0), (Value.int IntKind.u8 0), (Value.int IntKind.u8 0), (Value.int IntKind.u8 0), (Value.int IntKind.u8 0), (Value.int IntKind.u8 0), (Value.int IntKind.u8 0), (Value.int IntKind.u8 0), (Value.int IntKind.u8 0), (Value.int IntKind.u8 0), (Value.int IntKind.u8 0), (Value.int IntKind.u8 0), (Value.int IntKind.u8 0), (Value.int IntKind.u8 0), (Value.int IntKind.u8 0), (Value.int IntKind.u8 0), (Value.int IntKind.u8 0), (Value.int IntKind.u8 0), (Value.int IntKind.u8 0), (Value.int IntKind.u8 0), (Value.int IntKind.u8 0), (Value.int IntKind.u8 0), (Value.int IntKind.u8 0), (Value.int IntKind.u8 0), (Value.int IntKind.u8 0), (Value.int IntKind.u8 0), (Value.int IntKind.u8 0), (Value.int IntKind.u8 0), (Value.int IntKind.u8 0), (Value.int IntKind.u8 0), (Value.int IntKind.u8 0), (Value.int IntKind.u8 0)] := by kernel_rfl
theorem al123 (hk : ∀ w', Below w.heap.size w w' → w'.heap.size = w.heap.size + 1 → RowAt w' w.heap.size 123 [(Value.int IntKind.u8 0), (Value.int IntKind.u8 0), (Value.int IntKind.u8 0), (Value.int IntKind.u8 0), (Value.int IntKind.u8 0), (Value.int IntKind.u8 0), (Value.int IntKind.u8 0), (Value.int IntKind.u8 0), (Value.int IntKind.u8 0), (Value.int IntKind.u8 0), (Value.int IntKind.u8 0), (Value.int IntKind.u8 0), (Value.int IntKind.u8 0), (Value.int IntKind.u8 0), (Value.int IntKind.u8 0), (Value.int IntKind.u8 0), (Value.int IntKind.u8 0), (Value.int IntKind.u8 0), (Value.int IntKind.u8 0), (Value.int IntKind.u8 0), (Value.int IntKind.u8 0), (Value.int IntKind.u8 0), (Value.int IntKind.u8 0), (Value.int IntKind.u8 0), (Value.int IntKind.u8 0), (Value.int IntKind.u8 0), (Value.int IntKind.u8 0), (Value.int IntKind.u8 0), (Value.int IntKind.u8 0), (Value.int IntKind.u8 0), (Value.int IntKind.u8 0), (Value.int IntKind.u8 0)] → k (.pointer (some ⟨w.heap.size, 0, none⟩)) w') : opW Tryz.prog (Instr.alloc 123 true (.tuple #[])) k w := w_allocN hz123 (by rw [zc123]; exact hk)
theorem hz24 : hasZero Tryz.prog 24 = true := by kernel_rfl
theorem zc24 : (zeroT Tryz.prog 24).cells.toList = [(Value.slice none 0 0)] := by kernel_rfl
theorem al24 (hk : ∀ w', Below w.heap.size w w' → w'.heap.size = w.heap.size + 1 → RowAt w' w.heap.size 24 [(Value.slice none 0 0)] → k (.pointer (some ⟨w.heap.size, 0, none⟩)) w') : opW Tryz.prog (Instr.alloc 24 true (.tuple #[])) k w := w_allocN hz24 (by rw [zc24]; exact hk)
theorem hz25 : hasZero Tryz.prog 25 = true := by kernel_rfl
theorem zc25 : (zeroT Tryz.prog 25).cells.toList = [(Value.slice none 0 0)] := by kernel_rfl
theorem al25 (hk : ∀ w', Below w.heap.size w w' → w'.heap.size = w.heap.size + 1 → RowAt w' w.heap.size 25 [(Value.slice none 0 0)] → k (.pointer (some ⟨w.heap.size, 0, none⟩)) w') : opW Tryz.prog (Instr.alloc 25 true (.tuple #[])) k w := w_allocN hz25 (by rw [zc25]; exact hk)
theorem hz27 : hasZero Tryz.prog 27 = true := by kernel_rfl
theorem zc27 : (zeroT Tryz.prog 27).cells.toList = [(Value.int IntKind.i64 0), (Value.int IntKind.i64 0), (Value.slice none 0 0), (Value.slice none 0 0)] := by kernel_rfl
theorem al27 (hk : ∀ w', Below w.heap.size w w' → w'.heap.size = w.heap.size + 1 → RowAt w' w.heap.size 27 [(Value.int IntKind.i64 0), (Value.int IntKind.i64 0), (Value.slice none 0 0), (Value.slice none 0 0)] → k (.pointer (some ⟨w.heap.size, 0, none⟩)) w') : opW Tryz.prog (Instr.alloc 27 true (.tuple #[])) k w := w_allocN hz27 (by rw [zc27]; exact hk)
theorem hz29 : hasZero Tryz.prog 29 = true := by kernel_rfl
theorem zc29 : (zeroT Tryz.prog 29).cells.toList = [(Value.int IntKind.i64 0), (Value.slice none 0 0), (Value.slice none 0 0)] := by kernel_rfl
theorem al29 (hk : ∀ w', Below w.heap.size w w' → w'.heap.size = w.heap.size + 1 → RowAt w' w.heap.size 29 [(Value.int IntKind.i64 0), (Value.slice none 0 0), (Value.slice none 0 0)] → k (.pointer (some ⟨w.heap.size, 0, none⟩)) w') : opW Tryz.prog (Instr.alloc 29 true (.tuple #[])) k w := w_allocN hz29 (by rw [zc29]; exact hk)
theorem hz3 : hasZero Tryz.prog 3 = true := by kernel_rfl
theorem zc3 : (zeroT Tryz.prog 3).cells.toList = [(Value.int IntKind.i64 0)] := by kernel_rfl
theorem al3 (hk : ∀ w', Below w.heap.size w w' → w'.heap.size = w.heap.size + 1 → RowAt w' w.heap.size 3 [(Value.int IntKind.i64 0)] → k (.pointer (some ⟨w.heap.size, 0, none⟩)) w') : opW Tryz.prog (Instr.alloc 3 true (.tuple #[])) k w := w_allocN hz3 (by rw [zc3]; exact hk)
theorem hz31 : hasZero Tryz.prog 31 = true := by kernel_rfl
theorem zc31 : (zeroT Tryz.prog 31).cells.toList = [(Value.int IntKind.i64 0), (Value.int IntKind.i64 0), (Value.int IntKind.i64 0), (Value.string ⟨#[]⟩)] := by kernel_rfl
theorem al31 (hk : ∀ w', Below w.heap.size w w' → w'.heap.size = w.heap.size + 1 → RowAt w' w.heap.size 31 [(Value.int IntKind.i64 0), (Value.int IntKind.i64 0), (Value.int IntKind.i64 0), (Value.string ⟨#[]⟩)] → k (.pointer (some ⟨w.heap.size, 0, none⟩)) w') : opW Tryz.prog (Instr.alloc 31 true (.tuple #[])) k w := w_allocN hz31 (by rw [zc31]; exact hk)
theorem hz63 : hasZero Tryz.prog 63 = true := by kernel_rfl
theorem zc63 : (zeroT Tryz.prog 63).cells.toList = [(Value.int IntKind.i64 0), (Value.int IntKind.i64 0), (Value.int IntKind.i64 0), (Value.string ⟨#[]⟩)] := by kernel_rfl
theorem al63 (hk : ∀ w', Below w.heap.size w w' → w'.heap.size = w.heap.size + 1 → RowAt w' w.heap.size 63 [(Value.int IntKind.i64 0), (Value.int IntKind.i64 0), (Value.int IntKind.i64 0), (Value.string ⟨#[]⟩)] → k (.pointer (some ⟨w.heap.size, 0, none⟩)) w') : opW Tryz.prog (Instr.alloc 63 true (.tuple #[])) k w := w_allocN hz63 (by rw [zc63]; exact hk)
theorem hz91 : hasZero Tryz.prog 91 = true := by kernel_rfl
theorem zc91 : (zeroT Tryz.prog 91).cells.toList = [(Value.int IntKind.u32 0), (Value.int IntKind.u32 0), (Value.int IntKind.u32 0), (Value.int IntKind.u32 0), (Value.int IntKind.u32 0), (Value.int IntKind.u32 0), (Value.int IntKind.u32 0), (Value.int IntKind.u32 0)] := by kernel_rfl
theorem al91 (hk : ∀ w', Below w.heap.size w w' → w'.heap.size = w.heap.size + 1 → RowAt w' w.heap.size 91 [(Value.int IntKind.u32 0), (Value.int IntKind.u32 0), (Value.int IntKind.u32 0), (Value.int IntKind.u32 0), (Value.int IntKind.u32 0), (Value.int IntKind.u32 0), (Value.int IntKind.u32 0), (Value.int IntKind.u32 0)] → k (.pointer (some ⟨w.heap.size, 0, none⟩)) w') : opW Tryz.prog (Instr.alloc 91 true (.tuple #[])) k w := w_allocN hz91 (by rw [zc91]; exact hk)
theorem sty115 : STy Tryz.prog 115 89 1 4 (Value.int IntKind.u32 0) := ⟨by kernel_rfl, by kernel_rfl, by kernel_rfl, by decide⟩
theorem sty24 : STy Tryz.prog 24 31 4 40 (Value.agg #[(Value.int IntKind.i64 0), (Value.int IntKind.i64 0), (Value.int IntKind.i64 0), (Value.string ⟨#[]⟩)]) := ⟨by kernel_rfl, by kernel_rfl, by kernel_rfl, by decide⟩
theorem sty25 : STy Tryz.prog 25 63 4 40 (Value.agg #[(Value.int IntKind.i64 0), (Value.int IntKind.i64 0), (Value.int IntKind.i64 0), (Value.string ⟨#[]⟩)]) := ⟨by kernel_rfl, by kernel_rfl, by kernel_rfl, by decide⟩
theorem sty34 : STy Tryz.prog 34 27 4 64 (Value.agg #[(Value.int IntKind.i64 0), (Value.int IntKind.i64 0), (Value.slice none 0 0), (Value.slice none 0 0)]) := ⟨by kernel_rfl, by kernel_rfl, by kernel_rfl, by decide⟩
theorem sty54 : STy Tryz.prog 54 3 1 8 (Value.int IntKind.i64 0) := ⟨by kernel_rfl, by kernel_rfl, by kernel_rfl, by decide⟩
theorem sty69 : STy Tryz.prog 69 5 1 1 (Value.int IntKind.u8 0) := ⟨by kernel_rfl, by kernel_rfl, by kernel_rfl, by decide⟩
theorem fo27_1 : fieldOff Tryz.prog 27 1 = some 1 := by kernel_rfl
theorem fl27_1 {b o : Nat} : opW Tryz.prog (Instr.fieldAt 27 (.pointer (some ⟨b, o, none⟩)) 1) k w = k (.pointer (some ⟨b, o + 1, none⟩)) w := w_field fo27_1
theorem tfl27_1 {b o : Nat} : takeW Tryz.prog S (Instr.fieldAt 27 (.pointer (some ⟨b, o, none⟩)) 1) K w = K (.pointer (some ⟨b, o + 1, none⟩)) := t_field fo27_1
theorem fo27_2 : fieldOff Tryz.prog 27 2 = some 2 := by kernel_rfl
theorem fl27_2 {b o : Nat} : opW Tryz.prog (Instr.fieldAt 27 (.pointer (some ⟨b, o, none⟩)) 2) k w = k (.pointer (some ⟨b, o + 2, none⟩)) w := w_field fo27_2
theorem tfl27_2 {b o : Nat} : takeW Tryz.prog S (Instr.fieldAt 27 (.pointer (some ⟨b, o, none⟩)) 2) K w = K (.pointer (some ⟨b, o + 2, none⟩)) := t_field fo27_2
theorem fo27_3 : fieldOff Tryz.prog 27 3 = some 3 := by kernel_rfl
theorem fl27_3 {b o : Nat} : opW Tryz.prog (Instr.fieldAt 27 (.pointer (some ⟨b, o, none⟩)) 3) k w = k (.pointer (some ⟨b, o + 3, none⟩)) w := w_field fo27_3
theorem tfl27_3 {b o : Nat} : takeW Tryz.prog S (Instr.fieldAt 27 (.pointer (some ⟨b, o, none⟩)) 3) K w = K (.pointer (some ⟨b, o + 3, none⟩)) := t_field fo27_3
theorem fo31_1 : fieldOff Tryz.prog 31 1 = some 1 := by kernel_rfl
theorem fl31_1 {b o : Nat} : opW Tryz.prog (Instr.fieldAt 31 (.pointer (some ⟨b, o, none⟩)) 1) k w = k (.pointer (some ⟨b, o + 1, none⟩)) w := w_field fo31_1
theorem fo31_2 : fieldOff Tryz.prog 31 2 = some 2 := by kernel_rfl
theorem fl31_2 {b o : Nat} : opW Tryz.prog (Instr.fieldAt 31 (.pointer (some ⟨b, o, none⟩)) 2) k w = k (.pointer (some ⟨b, o + 2, none⟩)) w := w_field fo31_2
theorem fo31_3 : fieldOff Tryz.prog 31 3 = some 3 := by kernel_rfl
theorem fl31_3 {b o : Nat} : opW Tryz.prog (Instr.fieldAt 31 (.pointer (some ⟨b, o, none⟩)) 3) k w = k (.pointer (some ⟨b, o + 3, none⟩)) w := w_field fo31_3
theorem tfl31_3 {b o : Nat} : takeW Tryz.prog S (Instr.fieldAt 31 (.pointer (some ⟨b, o, none⟩)) 3) K w = K (.pointer (some ⟨b, o + 3, none⟩)) := t_field fo31_3
theorem isl115 : isSliceT Tryz.prog 115 = true := by kernel_rfl
theorem el115 : elemT Tryz.prog 115 = 89 := by kernel_rfl
theorem known89 : known Tryz.prog 89 = true := by kernel_rfl
theorem size89 : sizeT Tryz.prog 89 = 1 := by kernel_rfl
theorem isl22 : isSliceT Tryz.prog 22 = true := by kernel_rfl
theorem isl24 : isSliceT Tryz.prog 24 = true := by kernel_rfl
theorem known31 : known Tryz.prog 31 = true := by kernel_rfl
theorem size31 : sizeT Tryz.prog 31 = 4 := by kernel_rfl
theorem isl25 : isSliceT Tryz.prog 25 = true := by kernel_rfl
theorem known63 : known Tryz.prog 63 = true := by kernel_rfl
theorem size63 : sizeT Tryz.prog 63 = 4 := by kernel_rfl
theorem isl34 : isSliceT Tryz.prog 34 = true := by kernel_rfl
theorem known27 : known Tryz.prog 27 = true := by kernel_rfl
theorem size27 : sizeT Tryz.prog 27 = 4 := by kernel_rfl
theorem known29 : known Tryz.prog 29 = true := by kernel_rfl
theorem size29 : sizeT Tryz.prog 29 = 3 := by kernel_rfl
theorem isl54 : isSliceT Tryz.prog 54 = true := by kernel_rfl
theorem known3 : known Tryz.prog 3 = true := by kernel_rfl
theorem size3 : sizeT Tryz.prog 3 = 1 := by kernel_rfl
theorem isl69 : isSliceT Tryz.prog 69 = true := by kernel_rfl
theorem el69 : elemT Tryz.prog 69 = 5 := by kernel_rfl
theorem known5 : known Tryz.prog 5 = true := by kernel_rfl
theorem size5 : sizeT Tryz.prog 5 = 1 := by kernel_rfl
theorem agg120 : isAggT Tryz.prog 120 = true := by kernel_rfl
theorem known120 : known Tryz.prog 120 = true := by kernel_rfl
theorem size120 : sizeT Tryz.prog 120 = 64 := by kernel_rfl
theorem ld120 {b o : Nat} {vs : List Value} (hl : vs.length = 64) (hc : Cells w b o vs) : opW Tryz.prog (Instr.loadAt 120 (.pointer (some ⟨b, o, none⟩))) k w = k (.agg vs.toArray) w := w_loadAgg agg120 known120 (by rw [size120, hl]) hc
theorem agg23 : isAggT Tryz.prog 23 = true := by kernel_rfl
theorem known23 : known Tryz.prog 23 = true := by kernel_rfl
theorem size23 : sizeT Tryz.prog 23 = 2 := by kernel_rfl
theorem ld23 {b o : Nat} {vs : List Value} (hl : vs.length = 2) (hc : Cells w b o vs) : opW Tryz.prog (Instr.loadAt 23 (.pointer (some ⟨b, o, none⟩))) k w = k (.agg vs.toArray) w := w_loadAgg agg23 known23 (by rw [size23, hl]) hc
theorem agg24 : isAggT Tryz.prog 24 = false := by kernel_rfl
theorem known24 : known Tryz.prog 24 = true := by kernel_rfl
theorem ld24 {a : Addr} {v : Value} (hc : w.cell? a = some v) : opW Tryz.prog (Instr.loadAt 24 (.pointer (some a))) k w = k v w := w_load agg24 known24 hc
theorem agg25 : isAggT Tryz.prog 25 = false := by kernel_rfl
theorem known25 : known Tryz.prog 25 = true := by kernel_rfl
theorem ld25 {a : Addr} {v : Value} (hc : w.cell? a = some v) : opW Tryz.prog (Instr.loadAt 25 (.pointer (some a))) k w = k v w := w_load agg25 known25 hc
theorem agg27 : isAggT Tryz.prog 27 = true := by kernel_rfl
theorem ld27 {b o : Nat} {vs : List Value} (hl : vs.length = 4) (hc : Cells w b o vs) : opW Tryz.prog (Instr.loadAt 27 (.pointer (some ⟨b, o, none⟩))) k w = k (.agg vs.toArray) w := w_loadAgg agg27 known27 (by rw [size27, hl]) hc
theorem xld27 {b o : Nat} {vs : List Value} (hl : vs.length = 4) (hc : Cells w b o vs) : takeW Tryz.prog (sameW w) (Instr.loadAt 27 (.pointer (some ⟨b, o, none⟩))) K w = K (.agg vs.toArray) := x_loadAgg agg27 known27 (by rw [size27, hl]) hc
theorem agg29 : isAggT Tryz.prog 29 = true := by kernel_rfl
theorem ld29 {b o : Nat} {vs : List Value} (hl : vs.length = 3) (hc : Cells w b o vs) : opW Tryz.prog (Instr.loadAt 29 (.pointer (some ⟨b, o, none⟩))) k w = k (.agg vs.toArray) w := w_loadAgg agg29 known29 (by rw [size29, hl]) hc
theorem xld29 {b o : Nat} {vs : List Value} (hl : vs.length = 3) (hc : Cells w b o vs) : takeW Tryz.prog (sameW w) (Instr.loadAt 29 (.pointer (some ⟨b, o, none⟩))) K w = K (.agg vs.toArray) := x_loadAgg agg29 known29 (by rw [size29, hl]) hc
theorem agg3 : isAggT Tryz.prog 3 = false := by kernel_rfl
theorem ld3 {a : Addr} {v : Value} (hc : w.cell? a = some v) : opW Tryz.prog (Instr.loadAt 3 (.pointer (some a))) k w = k v w := w_load agg3 known3 hc
theorem xld3 {a : Addr} {v : Value} (hc : w.cell? a = some v) : takeW Tryz.prog (sameW w) (Instr.loadAt 3 (.pointer (some a))) K w = K v := x_load agg3 known3 hc
theorem agg31 : isAggT Tryz.prog 31 = true := by kernel_rfl
theorem ld31 {b o : Nat} {vs : List Value} (hl : vs.length = 4) (hc : Cells w b o vs) : opW Tryz.prog (Instr.loadAt 31 (.pointer (some ⟨b, o, none⟩))) k w = k (.agg vs.toArray) w := w_loadAgg agg31 known31 (by rw [size31, hl]) hc
theorem xld31 {b o : Nat} {vs : List Value} (hl : vs.length = 4) (hc : Cells w b o vs) : takeW Tryz.prog (sameW w) (Instr.loadAt 31 (.pointer (some ⟨b, o, none⟩))) K w = K (.agg vs.toArray) := x_loadAgg agg31 known31 (by rw [size31, hl]) hc
theorem agg63 : isAggT Tryz.prog 63 = true := by kernel_rfl
theorem xld63 {b o : Nat} {vs : List Value} (hl : vs.length = 4) (hc : Cells w b o vs) : takeW Tryz.prog (sameW w) (Instr.loadAt 63 (.pointer (some ⟨b, o, none⟩))) K w = K (.agg vs.toArray) := x_loadAgg agg63 known63 (by rw [size63, hl]) hc
theorem agg69 : isAggT Tryz.prog 69 = false := by kernel_rfl
theorem known69 : known Tryz.prog 69 = true := by kernel_rfl
theorem ld69 {a : Addr} {v : Value} (hc : w.cell? a = some v) : opW Tryz.prog (Instr.loadAt 69 (.pointer (some a))) k w = k v w := w_load agg69 known69 hc
theorem xld69 {a : Addr} {v : Value} (hc : w.cell? a = some v) : takeW Tryz.prog (sameW w) (Instr.loadAt 69 (.pointer (some a))) K w = K v := x_load agg69 known69 hc
theorem agg89 : isAggT Tryz.prog 89 = false := by kernel_rfl
theorem ld89 {a : Addr} {v : Value} (hc : w.cell? a = some v) : opW Tryz.prog (Instr.loadAt 89 (.pointer (some a))) k w = k v w := w_load agg89 known89 hc
theorem xld89 {a : Addr} {v : Value} (hc : w.cell? a = some v) : takeW Tryz.prog (sameW w) (Instr.loadAt 89 (.pointer (some a))) K w = K v := x_load agg89 known89 hc
theorem known9 : known Tryz.prog 9 = true := by kernel_rfl
theorem agg91 : isAggT Tryz.prog 91 = true := by kernel_rfl
theorem known91 : known Tryz.prog 91 = true := by kernel_rfl
theorem size91 : sizeT Tryz.prog 91 = 8 := by kernel_rfl
theorem ld91 {b o : Nat} {vs : List Value} (hl : vs.length = 8) (hc : Cells w b o vs) : opW Tryz.prog (Instr.loadAt 91 (.pointer (some ⟨b, o, none⟩))) k w = k (.agg vs.toArray) w := w_loadAgg agg91 known91 (by rw [size91, hl]) hc
theorem sta120 {b o : Nat} {vs : List Value} (hl : vs.length = 64) (hv : ∀ v ∈ vs, v.oneCell' = true) (hc : ∀ j, j < 64 → ∃ old, w.cell? ⟨b, o + j, none⟩ = some old) (hf : ∀ j, j < 64 → w.frozen? ⟨b, o + j, none⟩ = false) : opU Tryz.prog (Instr.storeAt 120 (.pointer (some ⟨b, o, none⟩)) (.agg vs.toArray)) k w = k undef (setCells w b o vs) := w_storeAgg hv (by rw [size120, hl]) known120 (by rw [hl]; exact hc) (by rw [hl]; exact hf)
theorem size24 : sizeT Tryz.prog 24 = 1 := by kernel_rfl
theorem st24 {a : Addr} {v old : Value} (hv : v.oneCell' = true) (hc : w.cell? a = some old) (hf : w.frozen? a = false) : opU Tryz.prog (Instr.storeAt 24 (.pointer (some a)) v) k w = k undef (w.setCell a v) := w_store hv size24 known24 hc hf
theorem size25 : sizeT Tryz.prog 25 = 1 := by kernel_rfl
theorem st25 {a : Addr} {v old : Value} (hv : v.oneCell' = true) (hc : w.cell? a = some old) (hf : w.frozen? a = false) : opU Tryz.prog (Instr.storeAt 25 (.pointer (some a)) v) k w = k undef (w.setCell a v) := w_store hv size25 known25 hc hf
theorem st3 {a : Addr} {v old : Value} (hv : v.oneCell' = true) (hc : w.cell? a = some old) (hf : w.frozen? a = false) : opU Tryz.prog (Instr.storeAt 3 (.pointer (some a)) v) k w = k undef (w.setCell a v) := w_store hv size3 known3 hc hf
theorem st5 {a : Addr} {v old : Value} (hv : v.oneCell' = true) (hc : w.cell? a = some old) (hf : w.frozen? a = false) : opU Tryz.prog (Instr.storeAt 5 (.pointer (some a)) v) k w = k undef (w.setCell a v) := w_store hv size5 known5 hc hf
theorem st89 {a : Addr} {v old : Value} (hv : v.oneCell' = true) (hc : w.cell? a = some old) (hf : w.frozen? a = false) : opU Tryz.prog (Instr.storeAt 89 (.pointer (some a)) v) k w = k undef (w.setCell a v) := w_store hv size89 known89 hc hf
theorem size9 : sizeT Tryz.prog 9 = 1 := by kernel_rfl
theorem st9 {a : Addr} {v old : Value} (hv : v.oneCell' = true) (hc : w.cell? a = some old) (hf : w.frozen? a = false) : opU Tryz.prog (Instr.storeAt 9 (.pointer (some a)) v) k w = k undef (w.setCell a v) := w_store hv size9 known9 hc hf
theorem sta91 {b o : Nat} {vs : List Value} (hl : vs.length = 8) (hv : ∀ v ∈ vs, v.oneCell' = true) (hc : ∀ j, j < 8 → ∃ old, w.cell? ⟨b, o + j, none⟩ = some old) (hf : ∀ j, j < 8 → w.frozen? ⟨b, o + j, none⟩ = false) : opU Tryz.prog (Instr.storeAt 91 (.pointer (some ⟨b, o, none⟩)) (.agg vs.toArray)) k w = k undef (setCells w b o vs) := w_storeAgg hv (by rw [size91, hl]) known91 (by rw [hl]; exact hc) (by rw [hl]; exact hf)
theorem len22 {α : Type} {F : Fl α} {v : Value} {l : List α} (hs : IsSl F w v l) : opW Tryz.prog (Builtin.len_ #[22] 3 #[v]) k w = k (.int .i64 l.length) w := w_lenS isl22 hs
theorem len24 {α : Type} {F : Fl α} {v : Value} {l : List α} (hs : IsSl F w v l) : opW Tryz.prog (Builtin.len_ #[24] 3 #[v]) k w = k (.int .i64 l.length) w := w_lenS isl24 hs
theorem tlen24 {α : Type} {F : Fl α} {v : Value} {l : List α} (hs : IsSl F w v l) : takeW Tryz.prog S (Builtin.len_ #[24] 3 #[v]) K w = K (.int .i64 l.length) := t_lenS isl24 hs
theorem len25 {α : Type} {F : Fl α} {v : Value} {l : List α} (hs : IsSl F w v l) : opW Tryz.prog (Builtin.len_ #[25] 3 #[v]) k w = k (.int .i64 l.length) w := w_lenS isl25 hs
theorem tlen25 {α : Type} {F : Fl α} {v : Value} {l : List α} (hs : IsSl F w v l) : takeW Tryz.prog S (Builtin.len_ #[25] 3 #[v]) K w = K (.int .i64 l.length) := t_lenS isl25 hs
theorem len34 {α : Type} {F : Fl α} {v : Value} {l : List α} (hs : IsSl F w v l) : opW Tryz.prog (Builtin.len_ #[34] 3 #[v]) k w = k (.int .i64 l.length) w := w_lenS isl34 hs
theorem len54 {α : Type} {F : Fl α} {v : Value} {l : List α} (hs : IsSl F w v l) : opW Tryz.prog (Builtin.len_ #[54] 3 #[v]) k w = k (.int .i64 l.length) w := w_lenS isl54 hs
theorem len69 {α : Type} {F : Fl α} {v : Value} {l : List α} (hs : IsSl F w v l) : opW Tryz.prog (Builtin.len_ #[69] 3 #[v]) k w = k (.int .i64 l.length) w := w_lenS isl69 hs
theorem leno69 {a : Option Addr} {n c : Nat} : opW Tryz.prog (Builtin.len_ #[69] 3 #[.slice a n c]) k w = k (.int .i64 n) w := w_len isl69
theorem tleno69 {a : Option Addr} {n c : Nat} : takeW Tryz.prog S (Builtin.len_ #[69] 3 #[.slice a n c]) K w = K (.int .i64 n) := takeW_pure fun w => run_of_eq fun k => leno69
theorem ok10 : callOk Tryz.prog 10 = true := by kernel_rfl
theorem ok12 : callOk Tryz.prog 12 = true := by kernel_rfl
theorem ok13 : callOk Tryz.prog 13 = true := by kernel_rfl
theorem ok15 : callOk Tryz.prog 15 = true := by kernel_rfl
theorem ok16 : callOk Tryz.prog 16 = true := by kernel_rfl
theorem ok17 : callOk Tryz.prog 17 = true := by kernel_rfl
theorem ok20 : callOk Tryz.prog 20 = true := by kernel_rfl
theorem ok21 : callOk Tryz.prog 21 = true := by kernel_rfl
theorem ok22 : callOk Tryz.prog 22 = true := by kernel_rfl
theorem ok23 : callOk Tryz.prog 23 = true := by kernel_rfl
theorem ok24 : callOk Tryz.prog 24 = true := by kernel_rfl
theorem ok25 : callOk Tryz.prog 25 = true := by kernel_rfl
theorem ok26 : callOk Tryz.prog 26 = true := by kernel_rfl
theorem ok27 : callOk Tryz.prog 27 = true := by kernel_rfl
theorem ok28 : callOk Tryz.prog 28 = true := by kernel_rfl
theorem ok29 : callOk Tryz.prog 29 = true := by kernel_rfl
theorem ok30 : callOk Tryz.prog 30 = true := by kernel_rfl
theorem ok31 : callOk Tryz.prog 31 = true := by kernel_rfl
theorem ok33 : callOk Tryz.prog 33 = true := by kernel_rfl
theorem ok34 : callOk Tryz.prog 34 = true := by kernel_rfl
theorem ok35 : callOk Tryz.prog 35 = true := by kernel_rfl
theorem ok36 : callOk Tryz.prog 36 = true := by kernel_rfl
theorem ok39 : callOk Tryz.prog 39 = true := by kernel_rfl
theorem ok41 : callOk Tryz.prog 41 = true := by kernel_rfl
theorem ok42 : callOk Tryz.prog 42 = true := by kernel_rfl
theorem ok43 : callOk Tryz.prog 43 = true := by kernel_rfl
theorem ok44 : callOk Tryz.prog 44 = true := by kernel_rfl
theorem ok45 : callOk Tryz.prog 45 = true := by kernel_rfl
theorem ok46 : callOk Tryz.prog 46 = true := by kernel_rfl
theorem ok47 : callOk Tryz.prog 47 = true := by kernel_rfl
theorem ok48 : callOk Tryz.prog 48 = true := by kernel_rfl
theorem ok49 : callOk Tryz.prog 49 = true := by kernel_rfl
theorem ok50 : callOk Tryz.prog 50 = true := by kernel_rfl
theorem ok51 : callOk Tryz.prog 51 = true := by kernel_rfl
theorem ok52 : callOk Tryz.prog 52 = true := by kernel_rfl
theorem ok53 : callOk Tryz.prog 53 = true := by kernel_rfl
theorem ok54 : callOk Tryz.prog 54 = true := by kernel_rfl
theorem ok55 : callOk Tryz.prog 55 = true := by kernel_rfl
theorem ok56 : callOk Tryz.prog 56 = true := by kernel_rfl
theorem ok57 : callOk Tryz.prog 57 = true := by kernel_rfl
theorem ok58 : callOk Tryz.prog 58 = true := by kernel_rfl
theorem ok59 : callOk Tryz.prog 59 = true := by kernel_rfl
theorem ok60 : callOk Tryz.prog 60 = true := by kernel_rfl
theorem ok61 : callOk Tryz.prog 61 = true := by kernel_rfl
theorem ok62 : callOk Tryz.prog 62 = true := by kernel_rfl
theorem ok63 : callOk Tryz.prog 63 = true := by kernel_rfl
theorem ok64 : callOk Tryz.prog 64 = true := by kernel_rfl
theorem ok65 : callOk Tryz.prog 65 = true := by kernel_rfl
theorem ok66 : callOk Tryz.prog 66 = true := by kernel_rfl
theorem ok67 : callOk Tryz.prog 67 = true := by kernel_rfl
theorem ok68 : callOk Tryz.prog 68 = true := by kernel_rfl
theorem ok69 : callOk Tryz.prog 69 = true := by kernel_rfl
theorem ok70 : callOk Tryz.prog 70 = true := by kernel_rfl
theorem ok71 : callOk Tryz.prog 71 = true := by kernel_rfl
theorem ok72 : callOk Tryz.prog 72 = true := by kernel_rfl
theorem ok73 : callOk Tryz.prog 73 = true := by kernel_rfl
theorem ok74 : callOk Tryz.prog 74 = true := by kernel_rfl
theorem ok75 : callOk Tryz.prog 75 = true := by kernel_rfl
theorem ok76 : callOk Tryz.prog 76 = true := by kernel_rfl
theorem ok77 : callOk Tryz.prog 77 = true := by kernel_rfl
theorem ok78 : callOk Tryz.prog 78 = true := by kernel_rfl
theorem ok79 : callOk Tryz.prog 79 = true := by kernel_rfl
theorem ok80 : callOk Tryz.prog 80 = true := by kernel_rfl
theorem ok81 : callOk Tryz.prog 81 = true := by kernel_rfl
theorem ok82 : callOk Tryz.prog 82 = true := by kernel_rfl
theorem ok83 : callOk Tryz.prog 83 = true := by kernel_rfl
theorem ok84 : callOk Tryz.prog 84 = true := by kernel_rfl
theorem ok85 : callOk Tryz.prog 85 = true := by kernel_rfl
theorem ok86 : callOk Tryz.prog 86 = true := by kernel_rfl
theorem ok87 : callOk Tryz.prog 87 = true := by kernel_rfl
theorem ok88 : callOk Tryz.prog 88 = true := by kernel_rfl
theorem ok89 : callOk Tryz.prog 89 = true := by kernel_rfl
theorem ok90 : callOk Tryz.prog 90 = true := by kernel_rfl
theorem ok99 : callOk Tryz.prog 99 = true := by kernel_rfl
theorem ok100 : callOk Tryz.prog 100 = true := by kernel_rfl
theorem ok101 : callOk Tryz.prog 101 = true := by kernel_rfl
theorem ok102 : callOk Tryz.prog 102 = true := by kernel_rfl
theorem ok103 : callOk Tryz.prog 103 = true := by kernel_rfl
theorem ok104 : callOk Tryz.prog 104 = true := by kernel_rfl
end
end Go.Proofs.YtklknkmeljjmgaaGreatDoor
/- The conditions of the functions, printed by program out of the loaded code, each with the contract that follows from it. -/
set_option linter.unusedVariables false
set_option maxRecDepth 100000
namespace Go.Proofs.YtklknkmeljjmgaaGreatDoor
open Go Go.V
noncomputable section

/-! newswire/newswirelaw25.RelayContradicts -/
def ann8 : Ann := [(62, Note.plan (Plan.takeP 0 (Plan.takeP 1 (Plan.takeU 2 (Plan.takeU 3 (Plan.alt (Plan.run 4 (Plan.takeP 5 (Plan.takeP 6 (Plan.takeP 7 (Plan.run 8 (Plan.run 9 (Plan.takeP 10 Plan.done))))))) (Plan.run 8 (Plan.run 4 (Plan.takeP 5 (Plan.takeP 6 (Plan.takeP 7 (Plan.run 9 (Plan.takeP 10 Plan.done))))))))))))), (1021, Note.keep [2, 9, 11]), (2042, Note.loop [12] [2, 8, 9, 11]), (16338, Note.keep [2, 8, 9, 11, 12]), (65352, Note.plan (Plan.takeP 0 (Plan.takeX 1 (Plan.takeP 2 (Plan.takeP 3 (Plan.takeP 4 (Plan.takeX 5 (Plan.takeP 6 (Plan.takeX 7 (Plan.takeP 8 Plan.done))))))))))]
def S8 (x_1 y_2 how_3 : Value) (k : Value → World → Prop) (w : World) : Prop :=
   opW Tryz.prog (Instr.box 23 y_2) (fun y_4 w =>
   callW Tryz.prog (Value.func (Fn.func 10) #[] #[]) #[] (fun t20_6 w =>
   opW Tryz.prog (Op.unary UnOp.not t20_6) (fun t21_7 w =>
   condW t21_7
   (k (Value.bool false) w)
   (callW Tryz.prog (Value.func (Fn.func 12) #[] #[]) #[x_1] (fun t23_8 w =>
   opW Tryz.prog (Instr.loadAt 23 y_4) (fun t24_9 w =>
   callW Tryz.prog (Value.func (Fn.func 22) #[] #[]) #[t24_9] (fun t25_10 w =>
   opW Tryz.prog (Instr.alloc 31 true (Value.tuple #[])) (fun d_11 w =>
   opU Tryz.prog (Instr.storeAt 31 d_11 t25_10) (fun _ w =>
   joinW (fun r_24 e_25 w =>
   opW Tryz.prog (binS BinOp.neq 37 (Operand.tmp 34) (Operand.const (Value.int IntKind.i64 0)) e_25 (Value.int IntKind.i64 0)) (fun t35_27 w =>
   guardW (some t35_27, false) (fun k w => opW Tryz.prog (Instr.loadAt 27 r_24) k w) (fun t37_28 w =>
   guardW (some t35_27, false) (fun k w => opW Tryz.prog (Instr.fieldAt 31 d_11 0) k w) (fun t38_29 w =>
   guardW (some t35_27, false) (fun k w => opW Tryz.prog (Instr.loadAt 3 t38_29) k w) (fun t39_30 w =>
   guardW (some t35_27, false) (fun k w => callW Tryz.prog (Value.func (Fn.func 39) #[] #[]) #[t37_28, t39_30] k w) (fun t40_31 w =>
   guardW (some t35_27, false) (fun k w => opW Tryz.prog (binS BinOp.eql 3 (Operand.tmp 40) (Operand.const (Value.int IntKind.i64 0)) t40_31 (Value.int IntKind.i64 0)) k w) (fun t41_32 w =>
   pickW t35_27 (Value.bool true) t41_32 (fun t42_33 w =>
   condW t42_33
   (k (Value.bool false) w)
   (opW Tryz.prog (Instr.alloc 31 true (Value.tuple #[])) (fun own_34 w =>
   Loop1 (fun i_36 w K_37 =>
   opW Tryz.prog (Instr.fieldAt 27 r_24 2) (fun t44_39 w =>
   opW Tryz.prog (Instr.loadAt 24 t44_39) (fun t45_40 w =>
   opW Tryz.prog (Builtin.len_ #[24] 3 #[t45_40]) (fun t46_41 w =>
   opW Tryz.prog (binS BinOp.lss 3 (Operand.tmp 43) (Operand.tmp 46) i_36 t46_41) (fun t47_42 w =>
   condW t47_42
   (joinW (fun w =>
   opW Tryz.prog (binS BinOp.add 3 (Operand.tmp 48) (Operand.const (Value.int IntKind.i64 1)) i_36 (Value.int IntKind.i64 1)) (fun t49_57 w =>
   loopK [] [] [how_3, d_11, r_24, own_34] [how_3, d_11, r_24, own_34] (K_37 t49_57 w)) w) (fun J_43 =>
   drewW w (fun w =>
   takeW Tryz.prog anyW (Instr.fieldAt 27 r_24 2) (fun t50_45 =>
   takeW Tryz.prog (sameW w) (Instr.loadAt 24 t50_45) (fun t51_46 =>
   takeW Tryz.prog anyW (Instr.indexAt 24 t51_46 i_36) (fun t53_47 =>
   takeW Tryz.prog anyW (Instr.fieldAt 31 t53_47 0) (fun t54_48 =>
   takeW Tryz.prog (sameW w) (Instr.loadAt 3 t54_48) (fun t55_49 =>
   takeW Tryz.prog anyW (Instr.fieldAt 31 d_11 0) (fun t56_50 =>
   takeW Tryz.prog (sameW w) (Instr.loadAt 3 t56_50) (fun t57_51 =>
   takeW Tryz.prog anyW (binS BinOp.eql 3 (Operand.tmp 55) (Operand.tmp 57) t55_49 t57_51) (fun t58_52 =>
   condW t58_52
   (opW Tryz.prog (Instr.fieldAt 27 r_24 2) (fun t59_53 w =>
   opW Tryz.prog (Instr.loadAt 24 t59_53) (fun t60_54 w =>
   opW Tryz.prog (Instr.indexAt 24 t60_54 i_36) (fun t62_55 w =>
   opW Tryz.prog (Instr.loadAt 31 t62_55) (fun t63_56 w =>
   opU Tryz.prog (Instr.storeAt 31 own_34 t63_56) (fun _ w =>
   J_43 w) w) w) w) w) w)
   (J_43 w)) w) w) w) w) w) w) w) w)))
   (opW Tryz.prog (Instr.loadAt 31 own_34) (fun t64_58 w =>
   opW Tryz.prog (Instr.alloc 31 true (Value.tuple #[])) (fun other_59 w =>
   opU Tryz.prog (Instr.storeAt 31 other_59 t64_58) (fun _ w =>
   joinW (fun w =>
   opW Tryz.prog (Instr.loadAt 27 r_24) (fun t83_76 w =>
   opW Tryz.prog (Instr.loadAt 31 other_59) (fun t84_77 w =>
   callW Tryz.prog (Value.func (Fn.func 23) #[] #[]) #[t83_76, t84_77] (fun t85_78 w =>
   opW Tryz.prog (Instr.extract t85_78 0) (fun t86_79 w =>
   opW Tryz.prog (Instr.extract t85_78 1) (fun t87_80 w =>
   opW Tryz.prog (Instr.alloc 27 true (Value.tuple #[])) (fun __81 w =>
   opU Tryz.prog (Instr.storeAt 27 __81 t86_79) (fun _ w =>
   opW Tryz.prog (Instr.loadAt 27 r_24) (fun t89_82 w =>
   opW Tryz.prog (Instr.loadAt 31 other_59) (fun t90_83 w =>
   opW Tryz.prog (Instr.buildSlice 24 1 #[(0, t90_83)]) (fun t91_84 w =>
   opW Tryz.prog (Instr.build 29 #[(0, (Value.int IntKind.i64 5)), (1, t91_84)]) (fun t92_85 w =>
   callW Tryz.prog (Value.func (Fn.func 27) #[] #[]) #[t89_82, t92_85] (fun t93_86 w =>
   opW Tryz.prog (Instr.extract t93_86 0) (fun t94_87 w =>
   opW Tryz.prog (Instr.extract t93_86 1) (fun t95_88 w =>
   opW Tryz.prog (Instr.alloc 27 true (Value.tuple #[])) (fun __89 w =>
   opU Tryz.prog (Instr.storeAt 27 __89 t94_87) (fun _ w =>
   opW Tryz.prog (Instr.loadAt 31 other_59) (fun t97_90 w =>
   opW Tryz.prog (Instr.buildSlice 24 1 #[(0, t97_90)]) (fun t98_91 w =>
   opW Tryz.prog (Instr.build 27 #[(0, (Value.int IntKind.i64 5)), (2, t98_91)]) (fun t99_92 w =>
   opW Tryz.prog (Instr.fieldAt 27 r_24 0) (fun t100_93 w =>
   opW Tryz.prog (Instr.loadAt 3 t100_93) (fun t101_94 w =>
   opW Tryz.prog (Instr.fieldAt 27 r_24 2) (fun t102_95 w =>
   opW Tryz.prog (Instr.loadAt 24 t102_95) (fun t103_96 w =>
   opW Tryz.prog (Instr.build 29 #[(0, t101_94), (1, t103_96)]) (fun t104_97 w =>
   callW Tryz.prog (Value.func (Fn.func 27) #[] #[]) #[t99_92, t104_97] (fun t105_98 w =>
   opW Tryz.prog (Instr.extract t105_98 0) (fun t106_99 w =>
   opW Tryz.prog (Instr.extract t105_98 1) (fun t107_100 w =>
   opW Tryz.prog (Instr.alloc 27 true (Value.tuple #[])) (fun __101 w =>
   opU Tryz.prog (Instr.storeAt 27 __101 t106_99) (fun _ w =>
   opW Tryz.prog (binS BinOp.eql 37 (Operand.tmp 108) (Operand.const (Value.int IntKind.i64 250)) t87_80 (Value.int IntKind.i64 250)) (fun t109_102 w =>
   guardW (some t109_102, true) (fun k w => k t95_88 w) (fun t111_103 w =>
   guardW (some t109_102, true) (fun k w => opW Tryz.prog (binS BinOp.eql 37 (Operand.tmp 111) (Operand.const (Value.int IntKind.i64 250)) t111_103 (Value.int IntKind.i64 250)) k w) (fun t112_104 w =>
   pickW t109_102 t112_104 (Value.bool false) (fun t113_105 w =>
   guardW (some t113_105, true) (fun k w => k t107_100 w) (fun t115_106 w =>
   guardW (some t113_105, true) (fun k w => opW Tryz.prog (binS BinOp.eql 37 (Operand.tmp 115) (Operand.const (Value.int IntKind.i64 250)) t115_106 (Value.int IntKind.i64 250)) k w) (fun t116_107 w =>
   pickW t113_105 t116_107 (Value.bool false) (fun t117_108 w =>
   k t117_108 w) w) w) w) w) w) w) w) w) w) w) w) w) w) w) w) w) w) w) w) w) w) w) w) w) w) w) w) w) w) w) w) w) w) w) w) w) (fun J_60 =>
   callW Tryz.prog (Value.func (Fn.func 33) #[] #[]) #[how_3, (Value.int IntKind.i64 2)] (fun t66_61 w =>
   opW Tryz.prog (binS BinOp.eql 3 (Operand.tmp 66) (Operand.const (Value.int IntKind.i64 0)) t66_61 (Value.int IntKind.i64 0)) (fun t67_62 w =>
   condW t67_62
   (opW Tryz.prog (Instr.fieldAt 31 other_59 3) (fun t68_63 w =>
   opW Tryz.prog (Instr.loadAt 9 t68_63) (fun t69_64 w =>
   opW Tryz.prog (binS BinOp.add 9 (Operand.tmp 69) (Operand.const (Value.string { data := #[120] })) t69_64 (Value.string { data := #[120] })) (fun t70_65 w =>
   opW Tryz.prog (Instr.fieldAt 31 other_59 3) (fun t71_66 w =>
   opU Tryz.prog (Instr.storeAt 9 t71_66 t70_65) (fun _ w =>
   J_60 w) w) w) w) w) w)
   (opW Tryz.prog (Instr.fieldAt 31 other_59 2) (fun t72_67 w =>
   opW Tryz.prog (Instr.loadAt 3 t72_67) (fun t73_68 w =>
   opW Tryz.prog (binS BinOp.rem 3 (Operand.tmp 73) (Operand.const (Value.int IntKind.i64 3)) t73_68 (Value.int IntKind.i64 3)) (fun t74_69 w =>
   opW Tryz.prog (binS BinOp.add 3 (Operand.const (Value.int IntKind.i64 1)) (Operand.tmp 74) (Value.int IntKind.i64 1) t74_69) (fun t75_70 w =>
   opW Tryz.prog (Instr.fieldAt 31 other_59 2) (fun t76_71 w =>
   opU Tryz.prog (Instr.storeAt 3 t76_71 t75_70) (fun _ w =>
   opW Tryz.prog (binS BinOp.quo 3 (Operand.tmp 77) (Operand.const (Value.int IntKind.i64 2)) how_3 (Value.int IntKind.i64 2)) (fun t78_72 w =>
   callW Tryz.prog (Value.func (Fn.func 33) #[] #[]) #[t78_72, (Value.int IntKind.i64 9)] (fun t79_73 w =>
   opW Tryz.prog (binS BinOp.add 3 (Operand.const (Value.int IntKind.i64 1)) (Operand.tmp 79) (Value.int IntKind.i64 1) t79_73) (fun t80_74 w =>
   opW Tryz.prog (Instr.fieldAt 31 other_59 1) (fun t81_75 w =>
   opU Tryz.prog (Instr.storeAt 3 t81_75 t80_74) (fun _ w =>
   J_60 w) w) w) w) w) w) w) w) w) w) w) w)) w) w)) w) w) w)) w) w) w) w) (Value.int IntKind.i64 0) w) w)) w) w) w) w) w) w) w) (fun J_12 =>
   drewW w (fun w =>
   ∃ S : World → Prop, S w ∧
   takeW Tryz.prog anyW (Instr.indexAt 34 t23_8 (Value.int IntKind.i64 0)) (fun t28_13 =>
   takeW Tryz.prog S (Instr.loadAt 27 t28_13) (fun t29_14 =>
   takeW Tryz.prog S (Instr.loadAt 31 d_11) (fun t30_15 =>
   (callW Tryz.prog (Value.func (Fn.func 23) #[] #[]) #[t29_14, t30_15] (fun t31_16 w =>
   takeW Tryz.prog anyW (Instr.extract t31_16 0) (fun t32_17 =>
   takeW Tryz.prog anyW (Instr.extract t31_16 1) (fun t33_18 =>
   opW Tryz.prog (Instr.alloc 27 true (Value.tuple #[])) (fun r_19 w => keepS S (fun w =>
   opU Tryz.prog (Instr.storeAt 27 r_19 t32_17) (fun _ w =>
   J_12 r_19 t33_18 w) w) w) w) w) w) w) ∧ (opW Tryz.prog (Instr.alloc 27 true (Value.tuple #[])) (fun r_20 w => keepS S (fun w =>
   callW Tryz.prog (Value.func (Fn.func 23) #[] #[]) #[t29_14, t30_15] (fun t31_21 w =>
   takeW Tryz.prog anyW (Instr.extract t31_21 0) (fun t32_22 =>
   takeW Tryz.prog anyW (Instr.extract t31_21 1) (fun t33_23 =>
   opU Tryz.prog (Instr.storeAt 27 r_20 t32_22) (fun _ w =>
   J_12 r_20 t33_23 w) w) w) w) w) w) w)) w) w) w))) w) w) w) w) w)) w) w) w
theorem S8_vc (x_1 y_2 how_3 : Value) (k : Value → World → Prop) (w : World) : vc Tryz.prog Tryz.f8.ntmps ann8 none ((Tryz.f8.body).getD Code.skip) 1 (params 0 [x_1, y_2, how_3]) [] (finQ Tryz.prog Tryz.f8.results.toList k) w = S8 x_1 y_2 how_3 k w := by kernel_rfl
theorem S8_calls (x_1 y_2 how_3 : Value) (k : Value → World → Prop) (w : World) (h : S8 x_1 y_2 how_3 k w) : Calls Tryz.prog 8 #[x_1, y_2, how_3] w (retP k) :=
  calls_of_vc (fn := Tryz.f8) (c := (Tryz.f8.body).getD Code.skip) ann8 Tryz.func8 (by kernel_rfl) [x_1, y_2, how_3] w k (by kernel_rfl) ((S8_vc x_1 y_2 how_3 k w).symm ▸ h)
/-! newswire/newswirelaw25.sane -/
def ann10 : Ann := [(2097150, Note.plan (Plan.takeP 0 (Plan.takeP 1 (Plan.takeU 2 (Plan.takeU 3 (Plan.takeP 4 (Plan.takeP 5 (Plan.takeP 6 (Plan.takeP 7 (Plan.takeU 8 (Plan.takeU 9 (Plan.takeP 10 (Plan.takeP 11 (Plan.takeP 12 (Plan.takeP 13 (Plan.takeU 14 (Plan.takeP 15 (Plan.takeP 16 (Plan.takeP 17 (Plan.takeP 18 (Plan.takeU 19 (Plan.takeP 20 (Plan.takeP 21 (Plan.takeU 22 (Plan.takeP 23 (Plan.takeU 24 (Plan.run 25 (Plan.takeP 26 (Plan.takeP 27 (Plan.takeP 28 (Plan.takeP 29 (Plan.takeU 30 (Plan.takeP 31 (Plan.takeP 32 (Plan.takeP 33 (Plan.takeP 34 (Plan.takeU 35 (Plan.takeP 36 (Plan.takeP 37 (Plan.takeP 38 (Plan.takeU 39 (Plan.run 40 (Plan.takeP 41 (Plan.takeP 42 (Plan.takeP 43 (Plan.takeP 44 (Plan.takeU 45 (Plan.run 46 (Plan.takeP 47 (Plan.takeP 48 (Plan.takeP 49 (Plan.takeU 50 (Plan.run 51 (Plan.takeP 52 (Plan.takeP 53 (Plan.takeU 54 (Plan.takeU 55 (Plan.run 56 (Plan.takeP 57 (Plan.takeP 58 (Plan.takeU 59 (Plan.takeU 60 (Plan.run 61 (Plan.takeP 62 (Plan.takeP 63 (Plan.takeP 64 (Plan.run 65 (Plan.run 66 (Plan.takeP 67 (Plan.takeP 68 (Plan.takeP 69 Plan.done)))))))))))))))))))))))))))))))))))))))))))))))))))))))))))))))))))))))]
def S10 (k : Value → World → Prop) (w : World) : Prop :=
   opW Tryz.prog (Instr.makeSlice 69 (Value.int IntKind.i64 150) (Value.int IntKind.i64 150)) (fun t26_1 w =>
   opW Tryz.prog (convert 69 9 t26_1) (fun t27_2 w =>
   opW Tryz.prog (Instr.build 31 #[(0, (Value.int IntKind.i64 4)), (1, (Value.int IntKind.i64 1)), (2, (Value.int IntKind.i64 3)), (3, t27_2)]) (fun t28_3 w =>
   opW Tryz.prog (Instr.alloc 31 true (Value.tuple #[])) (fun take_4 w =>
   opU Tryz.prog (Instr.storeAt 31 take_4 t28_3) (fun _ w =>
   opW Tryz.prog (Instr.build 31 #[(0, (Value.int IntKind.i64 9)), (1, (Value.int IntKind.i64 2)), (2, (Value.int IntKind.i64 1)), (3, (Value.string { data := #[116, 119, 101, 110, 116, 121, 32, 98, 121, 116, 101, 115, 32, 111, 102, 32, 116, 101, 120, 116] }))]) (fun t29_5 w =>
   opW Tryz.prog (Instr.alloc 31 true (Value.tuple #[])) (fun flash_6 w =>
   opU Tryz.prog (Instr.storeAt 31 flash_6 t29_5) (fun _ w =>
   callW Tryz.prog (Value.func (Fn.func 36) #[] #[]) #[(Value.int IntKind.i64 1), (Value.int IntKind.i64 3)] (fun t31_7 w =>
   opW Tryz.prog (Instr.extract t31_7 0) (fun t32_8 w =>
   opW Tryz.prog (Instr.extract t31_7 1) (fun t33_9 w =>
   opW Tryz.prog (Instr.alloc 27 true (Value.tuple #[])) (fun r_10 w =>
   opU Tryz.prog (Instr.storeAt 27 r_10 t32_8) (fun _ w =>
   opW Tryz.prog (Instr.loadAt 27 r_10) (fun t35_11 w =>
   opW Tryz.prog (Instr.loadAt 31 take_4) (fun t36_12 w =>
   callW Tryz.prog (Value.func (Fn.func 23) #[] #[]) #[t35_11, t36_12] (fun t37_13 w =>
   opW Tryz.prog (Instr.extract t37_13 0) (fun t38_14 w =>
   opW Tryz.prog (Instr.extract t37_13 1) (fun t39_15 w =>
   opU Tryz.prog (Instr.storeAt 27 r_10 t38_14) (fun _ w =>
   opW Tryz.prog (Instr.loadAt 27 r_10) (fun t41_16 w =>
   opW Tryz.prog (Instr.loadAt 31 flash_6) (fun t42_17 w =>
   callW Tryz.prog (Value.func (Fn.func 23) #[] #[]) #[t41_16, t42_17] (fun t43_18 w =>
   opW Tryz.prog (Instr.extract t43_18 0) (fun t44_19 w =>
   opW Tryz.prog (Instr.extract t43_18 1) (fun t45_20 w =>
   opU Tryz.prog (Instr.storeAt 27 r_10 t44_19) (fun _ w =>
   opW Tryz.prog (Instr.loadAt 27 r_10) (fun t46_21 w =>
   callW Tryz.prog (Value.func (Fn.func 20) #[] #[]) #[t46_21] (fun t47_22 w =>
   opW Tryz.prog (Instr.loadAt 27 r_10) (fun t49_23 w =>
   callW Tryz.prog (Value.func (Fn.func 29) #[] #[]) #[t49_23] (fun t50_24 w =>
   opW Tryz.prog (Instr.extract t50_24 0) (fun t51_25 w =>
   opW Tryz.prog (Instr.extract t50_24 1) (fun t52_26 w =>
   opW Tryz.prog (Instr.extract t50_24 2) (fun t53_27 w =>
   opW Tryz.prog (Instr.alloc 27 true (Value.tuple #[])) (fun s_28 w =>
   opU Tryz.prog (Instr.storeAt 27 s_28 t51_25) (fun _ w =>
   opW Tryz.prog (Instr.fieldAt 31 take_4 1) (fun t54_29 w =>
   opU Tryz.prog (Instr.storeAt 3 t54_29 (Value.int IntKind.i64 2)) (fun _ w =>
   opW Tryz.prog (Instr.loadAt 27 s_28) (fun t56_30 w =>
   opW Tryz.prog (Instr.loadAt 31 take_4) (fun t57_31 w =>
   callW Tryz.prog (Value.func (Fn.func 23) #[] #[]) #[t56_30, t57_31] (fun t58_32 w =>
   opW Tryz.prog (Instr.extract t58_32 0) (fun t59_33 w =>
   opW Tryz.prog (Instr.extract t58_32 1) (fun t60_34 w =>
   opW Tryz.prog (Instr.alloc 27 true (Value.tuple #[])) (fun u_35 w =>
   opU Tryz.prog (Instr.storeAt 27 u_35 t59_33) (fun _ w =>
   opW Tryz.prog (Instr.loadAt 27 u_35) (fun t62_36 w =>
   callW Tryz.prog (Value.func (Fn.func 29) #[] #[]) #[t62_36] (fun t63_37 w =>
   opW Tryz.prog (Instr.extract t63_37 0) (fun t64_38 w =>
   opW Tryz.prog (Instr.extract t63_37 1) (fun t65_39 w =>
   opW Tryz.prog (Instr.extract t63_37 2) (fun t66_40 w =>
   opW Tryz.prog (Instr.alloc 27 true (Value.tuple #[])) (fun v_41 w =>
   opU Tryz.prog (Instr.storeAt 27 v_41 t64_38) (fun _ w =>
   opW Tryz.prog (Instr.fieldAt 31 take_4 2) (fun t67_42 w =>
   opU Tryz.prog (Instr.storeAt 3 t67_42 (Value.int IntKind.i64 1)) (fun _ w =>
   opW Tryz.prog (Instr.loadAt 27 s_28) (fun t69_43 w =>
   opW Tryz.prog (Instr.loadAt 31 take_4) (fun t70_44 w =>
   callW Tryz.prog (Value.func (Fn.func 23) #[] #[]) #[t69_43, t70_44] (fun t71_45 w =>
   opW Tryz.prog (Instr.extract t71_45 0) (fun t72_46 w =>
   opW Tryz.prog (Instr.extract t71_45 1) (fun t73_47 w =>
   opW Tryz.prog (Instr.alloc 27 true (Value.tuple #[])) (fun __48 w =>
   opU Tryz.prog (Instr.storeAt 27 __48 t72_46) (fun _ w =>
   opW Tryz.prog (Instr.loadAt 27 v_41) (fun t75_49 w =>
   callW Tryz.prog (Value.func (Fn.func 34) #[] #[]) #[t75_49, (Value.int IntKind.i64 7)] (fun t76_50 w =>
   opW Tryz.prog (Instr.extract t76_50 0) (fun t77_51 w =>
   opW Tryz.prog (Instr.extract t76_50 1) (fun t78_52 w =>
   opW Tryz.prog (Instr.alloc 27 true (Value.tuple #[])) (fun w_53 w =>
   opU Tryz.prog (Instr.storeAt 27 w_53 t77_51) (fun _ w =>
   opW Tryz.prog (Instr.loadAt 27 s_28) (fun t80_54 w =>
   callW Tryz.prog (Value.func (Fn.func 31) #[] #[]) #[t80_54] (fun t81_55 w =>
   opW Tryz.prog (Instr.extract t81_55 0) (fun t82_56 w =>
   opW Tryz.prog (Instr.extract t81_55 1) (fun t83_57 w =>
   opW Tryz.prog (Instr.alloc 29 true (Value.tuple #[])) (fun p_58 w =>
   opU Tryz.prog (Instr.storeAt 29 p_58 t82_56) (fun _ w =>
   opW Tryz.prog (Instr.loadAt 27 r_10) (fun t85_59 w =>
   opW Tryz.prog (Instr.loadAt 29 p_58) (fun t86_60 w =>
   callW Tryz.prog (Value.func (Fn.func 27) #[] #[]) #[t85_59, t86_60] (fun t87_61 w =>
   opW Tryz.prog (Instr.extract t87_61 0) (fun t88_62 w =>
   opW Tryz.prog (Instr.extract t87_61 1) (fun t89_63 w =>
   opW Tryz.prog (Instr.alloc 27 true (Value.tuple #[])) (fun x_64 w =>
   opU Tryz.prog (Instr.storeAt 27 x_64 t88_62) (fun _ w =>
   callW Tryz.prog (Value.func (Fn.func 36) #[] #[]) #[(Value.int IntKind.i64 8), (Value.int IntKind.i64 0)] (fun t91_65 w =>
   opW Tryz.prog (Instr.extract t91_65 0) (fun t92_66 w =>
   opW Tryz.prog (Instr.extract t91_65 1) (fun t93_67 w =>
   opW Tryz.prog (Instr.alloc 27 true (Value.tuple #[])) (fun __68 w =>
   opU Tryz.prog (Instr.storeAt 27 __68 t92_66) (fun _ w =>
   opW Tryz.prog (binS BinOp.neq 37 (Operand.tmp 94) (Operand.const (Value.int IntKind.i64 0)) t33_9 (Value.int IntKind.i64 0)) (fun t95_70 w =>
   guardW (some t95_70, false) (fun k w => k t39_15 w) (fun t97_71 w =>
   guardW (some t95_70, false) (fun k w => opW Tryz.prog (binS BinOp.neq 37 (Operand.tmp 97) (Operand.const (Value.int IntKind.i64 0)) t97_71 (Value.int IntKind.i64 0)) k w) (fun t98_72 w =>
   pickW t95_70 (Value.bool true) t98_72 (fun t99_73 w =>
   guardW (some t99_73, false) (fun k w => k t45_20 w) (fun t101_74 w =>
   guardW (some t99_73, false) (fun k w => opW Tryz.prog (binS BinOp.neq 37 (Operand.tmp 101) (Operand.const (Value.int IntKind.i64 0)) t101_74 (Value.int IntKind.i64 0)) k w) (fun t102_75 w =>
   pickW t99_73 (Value.bool true) t102_75 (fun t103_76 w =>
   guardW (some t103_76, false) (fun k w => k t53_27 w) (fun t105_77 w =>
   guardW (some t103_76, false) (fun k w => opW Tryz.prog (binS BinOp.neq 37 (Operand.tmp 105) (Operand.const (Value.int IntKind.i64 0)) t105_77 (Value.int IntKind.i64 0)) k w) (fun t106_78 w =>
   pickW t103_76 (Value.bool true) t106_78 (fun t107_79 w =>
   guardW (some t107_79, false) (fun k w => k t60_34 w) (fun t109_80 w =>
   guardW (some t107_79, false) (fun k w => opW Tryz.prog (binS BinOp.neq 37 (Operand.tmp 109) (Operand.const (Value.int IntKind.i64 0)) t109_80 (Value.int IntKind.i64 0)) k w) (fun t110_81 w =>
   pickW t107_79 (Value.bool true) t110_81 (fun t111_82 w =>
   guardW (some t111_82, false) (fun k w => k t66_40 w) (fun t113_83 w =>
   guardW (some t111_82, false) (fun k w => opW Tryz.prog (binS BinOp.neq 37 (Operand.tmp 113) (Operand.const (Value.int IntKind.i64 0)) t113_83 (Value.int IntKind.i64 0)) k w) (fun t114_84 w =>
   pickW t111_82 (Value.bool true) t114_84 (fun t115_85 w =>
   guardW (some t115_85, false) (fun k w => k t73_47 w) (fun t117_86 w =>
   guardW (some t115_85, false) (fun k w => opW Tryz.prog (binS BinOp.neq 37 (Operand.tmp 117) (Operand.const (Value.int IntKind.i64 250)) t117_86 (Value.int IntKind.i64 250)) k w) (fun t118_87 w =>
   pickW t115_85 (Value.bool true) t118_87 (fun t119_88 w =>
   guardW (some t119_88, false) (fun k w => k t78_52 w) (fun t121_89 w =>
   guardW (some t119_88, false) (fun k w => opW Tryz.prog (binS BinOp.neq 37 (Operand.tmp 121) (Operand.const (Value.int IntKind.i64 0)) t121_89 (Value.int IntKind.i64 0)) k w) (fun t122_90 w =>
   pickW t119_88 (Value.bool true) t122_90 (fun t123_91 w =>
   guardW (some t123_91, false) (fun k w => k t83_57 w) (fun t125_92 w =>
   guardW (some t123_91, false) (fun k w => opW Tryz.prog (binS BinOp.neq 37 (Operand.tmp 125) (Operand.const (Value.int IntKind.i64 0)) t125_92 (Value.int IntKind.i64 0)) k w) (fun t126_93 w =>
   pickW t123_91 (Value.bool true) t126_93 (fun t127_94 w =>
   guardW (some t127_94, false) (fun k w => k t89_63 w) (fun t129_95 w =>
   guardW (some t127_94, false) (fun k w => opW Tryz.prog (binS BinOp.neq 37 (Operand.tmp 129) (Operand.const (Value.int IntKind.i64 0)) t129_95 (Value.int IntKind.i64 0)) k w) (fun t130_96 w =>
   pickW t127_94 (Value.bool true) t130_96 (fun t131_97 w =>
   guardW (some t131_97, false) (fun k w => k t93_67 w) (fun t133_98 w =>
   guardW (some t131_97, false) (fun k w => opW Tryz.prog (binS BinOp.neq 37 (Operand.tmp 133) (Operand.const (Value.int IntKind.i64 250)) t133_98 (Value.int IntKind.i64 250)) k w) (fun t134_99 w =>
   pickW t131_97 (Value.bool true) t134_99 (fun t135_100 w =>
   condW t135_100
   (k (Value.bool false) w)
   (opW Tryz.prog (Builtin.len_ #[24] 3 #[t47_22]) (fun t137_102 w =>
   opW Tryz.prog (binS BinOp.neq 3 (Operand.tmp 137) (Operand.const (Value.int IntKind.i64 2)) t137_102 (Value.int IntKind.i64 2)) (fun t138_103 w =>
   guardW (some t138_103, false) (fun k w => k t52_26 w) (fun t140_104 w =>
   guardW (some t138_103, false) (fun k w => opW Tryz.prog (Builtin.len_ #[24] 3 #[t140_104]) k w) (fun t141_105 w =>
   guardW (some t138_103, false) (fun k w => opW Tryz.prog (binS BinOp.neq 3 (Operand.tmp 141) (Operand.const (Value.int IntKind.i64 2)) t141_105 (Value.int IntKind.i64 2)) k w) (fun t142_106 w =>
   pickW t138_103 (Value.bool true) t142_106 (fun t143_107 w =>
   guardW (some t143_107, false) (fun k w => k t65_39 w) (fun t145_108 w =>
   guardW (some t143_107, false) (fun k w => opW Tryz.prog (Builtin.len_ #[24] 3 #[t145_108]) k w) (fun t146_109 w =>
   guardW (some t143_107, false) (fun k w => opW Tryz.prog (binS BinOp.neq 3 (Operand.tmp 146) (Operand.const (Value.int IntKind.i64 0)) t146_109 (Value.int IntKind.i64 0)) k w) (fun t147_110 w =>
   pickW t143_107 (Value.bool true) t147_110 (fun t148_111 w =>
   guardW (some t148_111, false) (fun k w => opW Tryz.prog (Instr.fieldAt 27 s_28 3) k w) (fun t150_112 w =>
   guardW (some t148_111, false) (fun k w => opW Tryz.prog (Instr.loadAt 25 t150_112) k w) (fun t151_113 w =>
   guardW (some t148_111, false) (fun k w => opW Tryz.prog (Builtin.len_ #[25] 3 #[t151_113]) k w) (fun t152_114 w =>
   guardW (some t148_111, false) (fun k w => opW Tryz.prog (binS BinOp.neq 3 (Operand.tmp 152) (Operand.const (Value.int IntKind.i64 2)) t152_114 (Value.int IntKind.i64 2)) k w) (fun t153_115 w =>
   pickW t148_111 (Value.bool true) t153_115 (fun t154_116 w =>
   guardW (some t154_116, false) (fun k w => opW Tryz.prog (Instr.fieldAt 27 x_64 3) k w) (fun t156_117 w =>
   guardW (some t154_116, false) (fun k w => opW Tryz.prog (Instr.loadAt 25 t156_117) k w) (fun t157_118 w =>
   guardW (some t154_116, false) (fun k w => opW Tryz.prog (Builtin.len_ #[25] 3 #[t157_118]) k w) (fun t158_119 w =>
   guardW (some t154_116, false) (fun k w => opW Tryz.prog (binS BinOp.neq 3 (Operand.tmp 158) (Operand.const (Value.int IntKind.i64 2)) t158_119 (Value.int IntKind.i64 2)) k w) (fun t159_120 w =>
   pickW t154_116 (Value.bool true) t159_120 (fun t160_121 w =>
   guardW (some t160_121, false) (fun k w => opW Tryz.prog (Instr.fieldAt 29 p_58 1) k w) (fun t162_122 w =>
   guardW (some t160_121, false) (fun k w => opW Tryz.prog (Instr.loadAt 24 t162_122) k w) (fun t163_123 w =>
   guardW (some t160_121, false) (fun k w => opW Tryz.prog (Builtin.len_ #[24] 3 #[t163_123]) k w) (fun t164_124 w =>
   guardW (some t160_121, false) (fun k w => opW Tryz.prog (binS BinOp.neq 3 (Operand.tmp 164) (Operand.const (Value.int IntKind.i64 2)) t164_124 (Value.int IntKind.i64 2)) k w) (fun t165_125 w =>
   pickW t160_121 (Value.bool true) t165_125 (fun t166_126 w =>
   condW t166_126
   (k (Value.bool false) w)
   (drewW w (fun w =>
   ∃ S : World → Prop, S w ∧
   takeW Tryz.prog anyW (Instr.indexAt 24 t47_22 (Value.int IntKind.i64 0)) (fun t168_128 =>
   takeW Tryz.prog S (Instr.loadAt 31 t168_128) (fun t169_129 =>
   takeW Tryz.prog S (Instr.loadAt 31 flash_6) (fun t170_130 =>
   takeW Tryz.prog anyW (binS BinOp.eql 31 (Operand.tmp 169) (Operand.tmp 170) t169_129 t170_130) (fun t171_131 =>
   guardT (some t171_131, true) (fun k => k t52_26) (fun t173_132 =>
   guardT (some t171_131, true) (fun k => takeW Tryz.prog anyW (Instr.indexAt 24 t173_132 (Value.int IntKind.i64 0)) k w) (fun t174_133 =>
   guardT (some t171_131, true) (fun k => takeW Tryz.prog S (Instr.loadAt 31 t174_133) k w) (fun t175_134 =>
   guardT (some t171_131, true) (fun k => takeW Tryz.prog S (Instr.loadAt 31 flash_6) k w) (fun t176_135 =>
   guardT (some t171_131, true) (fun k => takeW Tryz.prog anyW (binS BinOp.eql 31 (Operand.tmp 175) (Operand.tmp 176) t175_134 t176_135) k w) (fun t177_136 =>
   pickT t171_131 t177_136 (Value.bool false) (fun t178_137 =>
   guardT (some t178_137, true) (fun k => takeW Tryz.prog anyW (Instr.fieldAt 27 s_28 1) k w) (fun t180_138 =>
   guardT (some t178_137, true) (fun k => takeW Tryz.prog S (Instr.loadAt 3 t180_138) k w) (fun t181_139 =>
   guardT (some t178_137, true) (fun k => takeW Tryz.prog anyW (binS BinOp.eql 3 (Operand.tmp 181) (Operand.const (Value.int IntKind.i64 0)) t181_139 (Value.int IntKind.i64 0)) k w) (fun t182_140 =>
   pickT t178_137 t182_140 (Value.bool false) (fun t183_141 =>
   guardT (some t183_141, true) (fun k => takeW Tryz.prog anyW (Instr.fieldAt 27 s_28 3) k w) (fun t185_142 =>
   guardT (some t183_141, true) (fun k => takeW Tryz.prog S (Instr.loadAt 25 t185_142) k w) (fun t186_143 =>
   guardT (some t183_141, true) (fun k => takeW Tryz.prog anyW (Instr.indexAt 25 t186_143 (Value.int IntKind.i64 1)) k w) (fun t187_144 =>
   guardT (some t183_141, true) (fun k => takeW Tryz.prog anyW (Instr.fieldAt 63 t187_144 3) k w) (fun t188_145 =>
   guardT (some t183_141, true) (fun k => takeW Tryz.prog S (Instr.loadAt 9 t188_145) k w) (fun t189_146 =>
   guardT (some t183_141, true) (fun k => takeW Tryz.prog anyW (Instr.fieldAt 31 flash_6 3) k w) (fun t190_147 =>
   guardT (some t183_141, true) (fun k => takeW Tryz.prog S (Instr.loadAt 9 t190_147) k w) (fun t191_148 =>
   guardW (some t183_141, true) (fun k w => callW Tryz.prog (Value.func (Fn.func 41) #[] #[]) #[t191_148] k w) (fun t192_149 w => keepS S (fun w =>
   guardT (some t183_141, true) (fun k => takeW Tryz.prog anyW (binS BinOp.eql 9 (Operand.tmp 189) (Operand.tmp 192) t189_146 t192_149) k w) (fun t193_150 =>
   pickT t183_141 t193_150 (Value.bool false) (fun t194_151 =>
   guardT (some t194_151, true) (fun k => takeW Tryz.prog anyW (Instr.fieldAt 27 w_53 1) k w) (fun t196_152 =>
   guardT (some t194_151, true) (fun k => takeW Tryz.prog S (Instr.loadAt 3 t196_152) k w) (fun t197_153 =>
   guardT (some t194_151, true) (fun k => takeW Tryz.prog anyW (binS BinOp.eql 3 (Operand.tmp 197) (Operand.const (Value.int IntKind.i64 7)) t197_153 (Value.int IntKind.i64 7)) k w) (fun t198_154 =>
   pickT t194_151 t198_154 (Value.bool false) (fun t199_155 =>
   guardT (some t199_155, true) (fun k => takeW Tryz.prog anyW (Instr.fieldAt 27 x_64 1) k w) (fun t201_156 =>
   guardT (some t199_155, true) (fun k => takeW Tryz.prog S (Instr.loadAt 3 t201_156) k w) (fun t202_157 =>
   guardT (some t199_155, true) (fun k => takeW Tryz.prog anyW (binS BinOp.eql 3 (Operand.tmp 202) (Operand.const (Value.int IntKind.i64 3)) t202_157 (Value.int IntKind.i64 3)) k w) (fun t203_158 =>
   pickT t199_155 t203_158 (Value.bool false) (fun t204_159 =>
   guardT (some t204_159, true) (fun k => takeW Tryz.prog S (Instr.loadAt 27 x_64) k w) (fun t206_160 =>
   guardW (some t204_159, true) (fun k w => callW Tryz.prog (Value.func (Fn.func 20) #[] #[]) #[t206_160] k w) (fun t207_161 w => keepS S (fun w =>
   guardT (some t204_159, true) (fun k => takeW Tryz.prog anyW (Builtin.len_ #[24] 3 #[t207_161]) k w) (fun t208_162 =>
   guardT (some t204_159, true) (fun k => takeW Tryz.prog anyW (binS BinOp.eql 3 (Operand.tmp 208) (Operand.const (Value.int IntKind.i64 0)) t208_162 (Value.int IntKind.i64 0)) k w) (fun t209_163 =>
   pickT t204_159 t209_163 (Value.bool false) (fun t210_164 =>
   guardT (some t210_164, true) (fun k => takeW Tryz.prog S (Instr.loadAt 31 flash_6) k w) (fun t212_165 =>
   guardW (some t210_164, true) (fun k w => callW Tryz.prog (Value.func (Fn.func 25) #[] #[]) #[t212_165] k w) (fun t213_166 w => keepS S (fun w =>
   guardT (some t210_164, true) (fun k => takeW Tryz.prog anyW (binS BinOp.eql 3 (Operand.tmp 213) (Operand.const (Value.int IntKind.i64 1)) t213_166 (Value.int IntKind.i64 1)) k w) (fun t214_167 =>
   pickT t210_164 t214_167 (Value.bool false) (fun t215_168 =>
   guardT (some t215_168, true) (fun k => takeW Tryz.prog S (Instr.loadAt 27 r_10) k w) (fun t217_169 =>
   guardW (some t215_168, true) (fun k w => callW Tryz.prog (Value.func (Fn.func 15) #[] #[]) #[t217_169] k w) (fun t218_170 w => keepS S (fun w =>
   pickT t215_168 t218_170 (Value.bool false) (fun t219_171 =>
   guardT (some t219_171, true) (fun k => takeW Tryz.prog S (Instr.loadAt 27 r_10) k w) (fun t221_172 =>
   guardT (some t219_171, true) (fun k => takeW Tryz.prog S (Instr.loadAt 27 r_10) k w) (fun t222_173 =>
   guardW (some t219_171, true) (fun k w => callW Tryz.prog (Value.func (Fn.func 17) #[] #[]) #[t221_172, t222_173] k w) (fun t223_174 w => keepS S (fun w =>
   pickT t219_171 t223_174 (Value.bool false) (fun t224_175 =>
   guardT (some t224_175, true) (fun k => takeW Tryz.prog S (Instr.loadAt 27 r_10) k w) (fun t226_176 =>
   guardT (some t224_175, true) (fun k => takeW Tryz.prog S (Instr.loadAt 27 s_28) k w) (fun t227_177 =>
   guardW (some t224_175, true) (fun k w => callW Tryz.prog (Value.func (Fn.func 17) #[] #[]) #[t226_176, t227_177] k w) (fun t228_178 w => keepS S (fun w =>
   guardT (some t224_175, true) (fun k => takeW Tryz.prog anyW (Op.unary UnOp.not t228_178) k w) (fun t229_179 =>
   pickT t224_175 t229_179 (Value.bool false) (fun t230_180 =>
   guardW (some t230_180, true) (fun k w => opW Tryz.prog (Instr.build 27 #[(0, (Value.int IntKind.i64 8))]) k w) (fun t232_181 w => keepS S (fun w =>
   guardW (some t230_180, true) (fun k w => callW Tryz.prog (Value.func (Fn.func 15) #[] #[]) #[t232_181] k w) (fun t233_182 w => keepS S (fun w =>
   guardT (some t230_180, true) (fun k => takeW Tryz.prog anyW (Op.unary UnOp.not t233_182) k w) (fun t234_183 =>
   pickT t230_180 t234_183 (Value.bool false) (fun t235_184 =>
   k t235_184 w))) w) w) w) w))) w) w)))) w) w)))) w) w)))) w) w))))) w) w)))))))))))) w) w)))))))))))))))))) w) w) w) w))) w) w) w) w) w) w) w) w) w) w) w) w) w) w) w) w) w) w) w) w) w) w) w) w) w)) w) w) w) w) w) w) w) w) w) w) w) w) w) w) w) w) w) w) w) w) w) w) w) w) w) w) w) w) w) w) w) w) w) w) w) w) w) w) w) w) w) w) w) w) w) w) w) w) w) w) w) w) w) w) w) w) w) w) w) w) w) w) w) w) w) w) w) w) w) w) w) w) w) w) w) w) w) w) w) w) w) w) w) w) w) w) w) w) w) w) w) w) w) w) w) w) w) w) w) w) w) w) w) w) w) w) w) w) w) w) w) w) w) w
theorem S10_vc (k : Value → World → Prop) (w : World) : vc Tryz.prog Tryz.f10.ntmps ann10 none ((Tryz.f10.body).getD Code.skip) 1 (params 0 []) [] (finQ Tryz.prog Tryz.f10.results.toList k) w = S10 k w := by kernel_rfl
theorem S10_calls (k : Value → World → Prop) (w : World) (h : S10 k w) : Calls Tryz.prog 10 #[] w (retP k) :=
  calls_of_vc (fn := Tryz.f10) (c := (Tryz.f10.body).getD Code.skip) ann10 Tryz.func10 (by kernel_rfl) [] w k (by kernel_rfl) ((S10_vc k w).symm ▸ h)
theorem C10 (k : Value → World → Prop) (w : World) (h : S10 k w) : callW Tryz.prog (.func (.func 10) #[] #[]) #[] k w :=
  callW_calls ok10 (by simpa using S10_calls k w h)

/-! newswire/newswireref25.Relays -/
def ann12 : Ann := [(29, Note.keep [3]), (58, Note.loop [3, 4] [0]), (466, Note.keep [0, 3, 4])]
def S12 (x_1 : Value) (k : Value → World → Prop) (w : World) : Prop :=
   opW Tryz.prog (Instr.build 27 #[(0, (Value.int IntKind.i64 0)), (1, (Value.int IntKind.i64 3))]) (fun t5_2 w =>
   opW Tryz.prog (Instr.build 27 #[(0, (Value.int IntKind.i64 1)), (1, (Value.int IntKind.i64 5))]) (fun t6_3 w =>
   opW Tryz.prog (Instr.build 27 #[(0, (Value.int IntKind.i64 4)), (1, (Value.int IntKind.i64 1))]) (fun t7_4 w =>
   opW Tryz.prog (Instr.buildSlice 34 3 #[(0, t5_2), (1, t6_3), (2, t7_4)]) (fun t8_5 w =>
   Loop2 (fun l_7 i_8 w K_9 =>
   opW Tryz.prog (Builtin.len_ #[22] 3 #[x_1]) (fun t11_11 w =>
   opW Tryz.prog (binS BinOp.lss 3 (Operand.tmp 9) (Operand.tmp 11) i_8 t11_11) (fun t12_12 w =>
   guardW (some t12_12, true) (fun k w => k i_8 w) (fun t14_13 w =>
   guardW (some t12_12, true) (fun k w => opW Tryz.prog (binS BinOp.lss 3 (Operand.tmp 14) (Operand.const (Value.int IntKind.i64 20)) t14_13 (Value.int IntKind.i64 20)) k w) (fun t15_14 w =>
   pickW t12_12 t15_14 (Value.bool false) (fun t16_15 w =>
   condW t16_15
   (opW Tryz.prog (Instr.indexAt 22 x_1 i_8) (fun t22_17 w =>
   opW Tryz.prog (Instr.loadAt 59 t22_17) (fun t23_18 w =>
   callW Tryz.prog (Value.func (Fn.func 42) #[] #[]) #[l_7, t23_18] (fun t24_19 w =>
   opW Tryz.prog (binS BinOp.add 3 (Operand.tmp 17) (Operand.const (Value.int IntKind.i64 1)) i_8 (Value.int IntKind.i64 1)) (fun t18_20 w =>
   loopK [] [] [x_1] [x_1] (K_9 t24_19 t18_20 w)) w) w) w) w)
   (k l_7 w)) w) w) w) w) w) t8_5 (Value.int IntKind.i64 0) w) w) w) w) w
theorem S12_vc (x_1 : Value) (k : Value → World → Prop) (w : World) : vc Tryz.prog Tryz.f12.ntmps ann12 none ((Tryz.f12.body).getD Code.skip) 1 (params 0 [x_1]) [] (finQ Tryz.prog Tryz.f12.results.toList k) w = S12 x_1 k w := by kernel_rfl
theorem S12_calls (x_1 : Value) (k : Value → World → Prop) (w : World) (h : S12 x_1 k w) : Calls Tryz.prog 12 #[x_1] w (retP k) :=
  calls_of_vc (fn := Tryz.f12) (c := (Tryz.f12.body).getD Code.skip) ann12 Tryz.func12 (by kernel_rfl) [x_1] w k (by kernel_rfl) ((S12_vc x_1 k w).symm ▸ h)
theorem C12 (x_1 : Value) (k : Value → World → Prop) (w : World) (h : S12 x_1 k w) : callW Tryz.prog (.func (.func 12) #[] #[]) #[x_1] k w :=
  callW_calls ok12 (by simpa using S12_calls x_1 k w h)

/-! newswire/newswireref25.Tell -/
def ann13 : Ann := [(14, Note.plan (Plan.takeP 0 (Plan.takeU 1 (Plan.takeP 3 (Plan.takeU 4 (Plan.takeP 7 (Plan.takeU 8 (Plan.alt (Plan.run 2 (Plan.alt (Plan.run 5 (Plan.run 6 (Plan.run 9 (Plan.run 10 (Plan.run 11 (Plan.takeP 12 Plan.done)))))) (Plan.run 6 (Plan.run 5 (Plan.run 9 (Plan.run 10 (Plan.run 11 (Plan.takeP 12 Plan.done)))))))) (Plan.run 6 (Plan.run 2 (Plan.run 5 (Plan.run 9 (Plan.run 10 (Plan.run 11 (Plan.takeP 12 Plan.done)))))))))))))))]
def S13 (r_1 : Value) (k : Value → World → Prop) (w : World) : Prop :=
   opW Tryz.prog (Instr.box 27 r_1) (fun r_2 w =>
   opW Tryz.prog (Instr.alloc 29 true (Value.tuple #[])) (fun t2_3 w =>
   opW Tryz.prog (Instr.loadAt 27 r_2) (fun t4_5 w =>
   callW Tryz.prog (Value.func (Fn.func 16) #[] #[]) #[t4_5] (fun t5_6 w =>
   opW Tryz.prog (Op.unary UnOp.not t5_6) (fun t6_7 w =>
   condW t6_7
   (opW Tryz.prog (Instr.build 29 #[]) (fun t7_8 w =>
   opU Tryz.prog (Instr.storeAt 29 t2_3 t7_8) (fun _ w =>
   resCell Tryz.prog 29 t2_3 (fun r_9 => k (Value.tuple #[r_9, (Value.int IntKind.i64 250)]) w) w) w) w)
   (joinW (fun w =>
   resCell Tryz.prog 29 t2_3 (fun r_31 => k (Value.tuple #[r_31, (Value.int IntKind.i64 0)]) w) w) (fun J_10 =>
   drewW w (fun w =>
   ∃ S : World → Prop, S w ∧
   takeW Tryz.prog anyW (Instr.fieldAt 27 r_2 0) (fun t8_11 =>
   takeW Tryz.prog S (Instr.loadAt 3 t8_11) (fun t9_12 =>
   takeW Tryz.prog anyW (Instr.fieldAt 27 r_2 2) (fun t11_13 =>
   takeW Tryz.prog S (Instr.loadAt 24 t11_13) (fun t12_14 =>
   takeW Tryz.prog anyW (Instr.fieldAt 27 r_2 3) (fun t15_15 =>
   takeW Tryz.prog S (Instr.loadAt 25 t15_15) (fun t16_16 =>
   (opW Tryz.prog (Instr.buildSlice 24 0 #[]) (fun t10_17 w => keepS S (fun w =>
   (opW Tryz.prog (Builtin.append_ #[24, 24] 24 #[t10_17, t12_14]) (fun t13_18 w => keepS S (fun w =>
   opW Tryz.prog (Instr.buildSlice 25 0 #[]) (fun t14_19 w => keepS S (fun w =>
   opW Tryz.prog (Builtin.append_ #[25, 25] 25 #[t14_19, t16_16]) (fun t17_20 w => keepS S (fun w =>
   opW Tryz.prog (Instr.build 29 #[(0, t9_12), (1, t13_18), (2, t17_20)]) (fun t18_21 w => keepS S (fun w =>
   opU Tryz.prog (Instr.storeAt 29 t2_3 t18_21) (fun _ w =>
   J_10 w) w) w) w) w) w) w) w) w) w) ∧ (opW Tryz.prog (Instr.buildSlice 25 0 #[]) (fun t14_22 w => keepS S (fun w =>
   opW Tryz.prog (Builtin.append_ #[24, 24] 24 #[t10_17, t12_14]) (fun t13_23 w => keepS S (fun w =>
   opW Tryz.prog (Builtin.append_ #[25, 25] 25 #[t14_22, t16_16]) (fun t17_24 w => keepS S (fun w =>
   opW Tryz.prog (Instr.build 29 #[(0, t9_12), (1, t13_23), (2, t17_24)]) (fun t18_25 w => keepS S (fun w =>
   opU Tryz.prog (Instr.storeAt 29 t2_3 t18_25) (fun _ w =>
   J_10 w) w) w) w) w) w) w) w) w) w)) w) w) ∧ (opW Tryz.prog (Instr.buildSlice 25 0 #[]) (fun t14_26 w => keepS S (fun w =>
   opW Tryz.prog (Instr.buildSlice 24 0 #[]) (fun t10_27 w => keepS S (fun w =>
   opW Tryz.prog (Builtin.append_ #[24, 24] 24 #[t10_27, t12_14]) (fun t13_28 w => keepS S (fun w =>
   opW Tryz.prog (Builtin.append_ #[25, 25] 25 #[t14_26, t16_16]) (fun t17_29 w => keepS S (fun w =>
   opW Tryz.prog (Instr.build 29 #[(0, t9_12), (1, t13_28), (2, t17_29)]) (fun t18_30 w => keepS S (fun w =>
   opU Tryz.prog (Instr.storeAt 29 t2_3 t18_30) (fun _ w =>
   J_10 w) w) w) w) w) w) w) w) w) w) w) w)) w) w) w) w) w) w)))) w) w) w) w) w
theorem S13_vc (r_1 : Value) (k : Value → World → Prop) (w : World) : vc Tryz.prog Tryz.f13.ntmps ann13 none ((Tryz.f13.body).getD Code.skip) 1 (params 0 [r_1]) [] (finQ Tryz.prog Tryz.f13.results.toList k) w = S13 r_1 k w := by kernel_rfl
theorem S13_calls (r_1 : Value) (k : Value → World → Prop) (w : World) (h : S13 r_1 k w) : Calls Tryz.prog 13 #[r_1] w (retP k) :=
  calls_of_vc (fn := Tryz.f13) (c := (Tryz.f13.body).getD Code.skip) ann13 Tryz.func13 (by kernel_rfl) [r_1] w k (by kernel_rfl) ((S13_vc r_1 k w).symm ▸ h)
theorem C13 (r_1 : Value) (k : Value → World → Prop) (w : World) (h : S13 r_1 k w) : callW Tryz.prog (.func (.func 13) #[] #[]) #[r_1] k w :=
  callW_calls ok13 (by simpa using S13_calls r_1 k w h)

/-! newswire/relay.Valid -/
def ann15 : Ann := []
def S15 (r_1 : Value) (k : Value → World → Prop) (w : World) : Prop :=
   opW Tryz.prog (Instr.box 27 r_1) (fun r_2 w =>
   opW Tryz.prog (Instr.fieldAt 27 r_2 0) (fun t3_3 w =>
   opW Tryz.prog (Instr.loadAt 3 t3_3) (fun t4_4 w =>
   callW Tryz.prog (Value.func (Fn.func 43) #[] #[]) #[t4_4, (Value.int IntKind.i64 0), (Value.int IntKind.i64 7)] (fun t5_5 w =>
   guardW (some t5_5, true) (fun k w => opW Tryz.prog (Instr.fieldAt 27 r_2 1) k w) (fun t7_6 w =>
   guardW (some t5_5, true) (fun k w => opW Tryz.prog (Instr.loadAt 3 t7_6) k w) (fun t8_7 w =>
   guardW (some t5_5, true) (fun k w => callW Tryz.prog (Value.func (Fn.func 43) #[] #[]) #[t8_7, (Value.int IntKind.i64 0), (Value.int IntKind.i64 10000)] k w) (fun t9_8 w =>
   pickW t5_5 t9_8 (Value.bool false) (fun t10_9 w =>
   guardW (some t10_9, true) (fun k w => opW Tryz.prog (Instr.fieldAt 27 r_2 2) k w) (fun t12_10 w =>
   guardW (some t10_9, true) (fun k w => opW Tryz.prog (Instr.loadAt 24 t12_10) k w) (fun t13_11 w =>
   guardW (some t10_9, true) (fun k w => opW Tryz.prog (Instr.fieldAt 27 r_2 3) k w) (fun t14_12 w =>
   guardW (some t10_9, true) (fun k w => opW Tryz.prog (Instr.loadAt 25 t14_12) k w) (fun t15_13 w =>
   guardW (some t10_9, true) (fun k w => callW Tryz.prog (Value.func (Fn.func 44) #[] #[]) #[t13_11, t15_13] k w) (fun t16_14 w =>
   pickW t10_9 t16_14 (Value.bool false) (fun t17_15 w =>
   k t17_15 w) w) w) w) w) w) w) w) w) w) w) w) w) w) w
theorem S15_vc (r_1 : Value) (k : Value → World → Prop) (w : World) : vc Tryz.prog Tryz.f15.ntmps ann15 none ((Tryz.f15.body).getD Code.skip) 1 (params 0 [r_1]) [] (finQ Tryz.prog Tryz.f15.results.toList k) w = S15 r_1 k w := by kernel_rfl
theorem S15_calls (r_1 : Value) (k : Value → World → Prop) (w : World) (h : S15 r_1 k w) : Calls Tryz.prog 15 #[r_1] w (retP k) :=
  calls_of_vc (fn := Tryz.f15) (c := (Tryz.f15.body).getD Code.skip) ann15 Tryz.func15 (by kernel_rfl) [r_1] w k (by kernel_rfl) ((S15_vc r_1 k w).symm ▸ h)
theorem C15 (r_1 : Value) (k : Value → World → Prop) (w : World) (h : S15 r_1 k w) : callW Tryz.prog (.func (.func 15) #[] #[]) #[r_1] k w :=
  callW_calls ok15 (by simpa using S15_calls r_1 k w h)

/-! newswire/newswireref25.Valid -/
def ann16 : Ann := []
def S16 (r_1 : Value) (k : Value → World → Prop) (w : World) : Prop :=
   opW Tryz.prog (Instr.box 27 r_1) (fun r_2 w =>
   opW Tryz.prog (Instr.fieldAt 27 r_2 0) (fun t3_3 w =>
   opW Tryz.prog (Instr.loadAt 3 t3_3) (fun t4_4 w =>
   callW Tryz.prog (Value.func (Fn.func 45) #[] #[]) #[t4_4, (Value.int IntKind.i64 0), (Value.int IntKind.i64 7)] (fun t5_5 w =>
   guardW (some t5_5, true) (fun k w => opW Tryz.prog (Instr.fieldAt 27 r_2 1) k w) (fun t7_6 w =>
   guardW (some t5_5, true) (fun k w => opW Tryz.prog (Instr.loadAt 3 t7_6) k w) (fun t8_7 w =>
   guardW (some t5_5, true) (fun k w => callW Tryz.prog (Value.func (Fn.func 45) #[] #[]) #[t8_7, (Value.int IntKind.i64 0), (Value.int IntKind.i64 10000)] k w) (fun t9_8 w =>
   pickW t5_5 t9_8 (Value.bool false) (fun t10_9 w =>
   guardW (some t10_9, true) (fun k w => opW Tryz.prog (Instr.fieldAt 27 r_2 2) k w) (fun t12_10 w =>
   guardW (some t10_9, true) (fun k w => opW Tryz.prog (Instr.loadAt 24 t12_10) k w) (fun t13_11 w =>
   guardW (some t10_9, true) (fun k w => callW Tryz.prog (Value.func (Fn.func 46) #[] #[]) #[t13_11] k w) (fun t14_12 w =>
   pickW t10_9 t14_12 (Value.bool false) (fun t15_13 w =>
   guardW (some t15_13, true) (fun k w => opW Tryz.prog (Instr.fieldAt 27 r_2 3) k w) (fun t17_14 w =>
   guardW (some t15_13, true) (fun k w => opW Tryz.prog (Instr.loadAt 25 t17_14) k w) (fun t18_15 w =>
   guardW (some t15_13, true) (fun k w => callW Tryz.prog (Value.func (Fn.func 47) #[] #[]) #[t18_15] k w) (fun t19_16 w =>
   pickW t15_13 t19_16 (Value.bool false) (fun t20_17 w =>
   k t20_17 w) w) w) w) w) w) w) w) w) w) w) w) w) w) w) w) w
theorem S16_vc (r_1 : Value) (k : Value → World → Prop) (w : World) : vc Tryz.prog Tryz.f16.ntmps ann16 none ((Tryz.f16.body).getD Code.skip) 1 (params 0 [r_1]) [] (finQ Tryz.prog Tryz.f16.results.toList k) w = S16 r_1 k w := by kernel_rfl
theorem S16_calls (r_1 : Value) (k : Value → World → Prop) (w : World) (h : S16 r_1 k w) : Calls Tryz.prog 16 #[r_1] w (retP k) :=
  calls_of_vc (fn := Tryz.f16) (c := (Tryz.f16.body).getD Code.skip) ann16 Tryz.func16 (by kernel_rfl) [r_1] w k (by kernel_rfl) ((S16_vc r_1 k w).symm ▸ h)
theorem C16 (r_1 : Value) (k : Value → World → Prop) (w : World) (h : S16 r_1 k w) : callW Tryz.prog (.func (.func 16) #[] #[]) #[r_1] k w :=
  callW_calls ok16 (by simpa using S16_calls r_1 k w h)

/-! newswire/relay.Same -/
def ann17 : Ann := []
def S17 (a_1 b_2 : Value) (k : Value → World → Prop) (w : World) : Prop :=
   opW Tryz.prog (Instr.box 27 a_1) (fun a_3 w =>
   opW Tryz.prog (Instr.box 27 b_2) (fun b_4 w =>
   opW Tryz.prog (Instr.fieldAt 27 a_3 0) (fun t5_5 w =>
   opW Tryz.prog (Instr.loadAt 3 t5_5) (fun t6_6 w =>
   opW Tryz.prog (Instr.fieldAt 27 b_4 0) (fun t7_7 w =>
   opW Tryz.prog (Instr.loadAt 3 t7_7) (fun t8_8 w =>
   opW Tryz.prog (binS BinOp.eql 3 (Operand.tmp 6) (Operand.tmp 8) t6_6 t8_8) (fun t9_9 w =>
   guardW (some t9_9, true) (fun k w => opW Tryz.prog (Instr.fieldAt 27 a_3 1) k w) (fun t11_10 w =>
   guardW (some t9_9, true) (fun k w => opW Tryz.prog (Instr.loadAt 3 t11_10) k w) (fun t12_11 w =>
   guardW (some t9_9, true) (fun k w => opW Tryz.prog (Instr.fieldAt 27 b_4 1) k w) (fun t13_12 w =>
   guardW (some t9_9, true) (fun k w => opW Tryz.prog (Instr.loadAt 3 t13_12) k w) (fun t14_13 w =>
   guardW (some t9_9, true) (fun k w => opW Tryz.prog (binS BinOp.eql 3 (Operand.tmp 12) (Operand.tmp 14) t12_11 t14_13) k w) (fun t15_14 w =>
   pickW t9_9 t15_14 (Value.bool false) (fun t16_15 w =>
   guardW (some t16_15, true) (fun k w => opW Tryz.prog (Instr.fieldAt 27 a_3 2) k w) (fun t18_16 w =>
   guardW (some t16_15, true) (fun k w => opW Tryz.prog (Instr.loadAt 24 t18_16) k w) (fun t19_17 w =>
   guardW (some t16_15, true) (fun k w => opW Tryz.prog (Instr.fieldAt 27 b_4 2) k w) (fun t20_18 w =>
   guardW (some t16_15, true) (fun k w => opW Tryz.prog (Instr.loadAt 24 t20_18) k w) (fun t21_19 w =>
   guardW (some t16_15, true) (fun k w => callW Tryz.prog (Value.func (Fn.func 48) #[] #[]) #[t19_17, t21_19] k w) (fun t22_20 w =>
   pickW t16_15 t22_20 (Value.bool false) (fun t23_21 w =>
   guardW (some t23_21, true) (fun k w => opW Tryz.prog (Instr.fieldAt 27 a_3 3) k w) (fun t25_22 w =>
   guardW (some t23_21, true) (fun k w => opW Tryz.prog (Instr.loadAt 25 t25_22) k w) (fun t26_23 w =>
   guardW (some t23_21, true) (fun k w => opW Tryz.prog (Instr.fieldAt 27 b_4 3) k w) (fun t27_24 w =>
   guardW (some t23_21, true) (fun k w => opW Tryz.prog (Instr.loadAt 25 t27_24) k w) (fun t28_25 w =>
   guardW (some t23_21, true) (fun k w => callW Tryz.prog (Value.func (Fn.func 49) #[] #[]) #[t26_23, t28_25] k w) (fun t29_26 w =>
   pickW t23_21 t29_26 (Value.bool false) (fun t30_27 w =>
   k t30_27 w) w) w) w) w) w) w) w) w) w) w) w) w) w) w) w) w) w) w) w) w) w) w) w) w) w
theorem S17_vc (a_1 b_2 : Value) (k : Value → World → Prop) (w : World) : vc Tryz.prog Tryz.f17.ntmps ann17 none ((Tryz.f17.body).getD Code.skip) 1 (params 0 [a_1, b_2]) [] (finQ Tryz.prog Tryz.f17.results.toList k) w = S17 a_1 b_2 k w := by kernel_rfl
theorem S17_calls (a_1 b_2 : Value) (k : Value → World → Prop) (w : World) (h : S17 a_1 b_2 k w) : Calls Tryz.prog 17 #[a_1, b_2] w (retP k) :=
  calls_of_vc (fn := Tryz.f17) (c := (Tryz.f17.body).getD Code.skip) ann17 Tryz.func17 (by kernel_rfl) [a_1, b_2] w k (by kernel_rfl) ((S17_vc a_1 b_2 k w).symm ▸ h)
theorem C17 (a_1 b_2 : Value) (k : Value → World → Prop) (w : World) (h : S17 a_1 b_2 k w) : callW Tryz.prog (.func (.func 17) #[] #[]) #[a_1, b_2] k w :=
  callW_calls ok17 (by simpa using S17_calls a_1 b_2 k w h)

/-! newswire/relay.Waiting -/
def ann20 : Ann := [(61, Note.keep [3]), (245, Note.keep [])]
def S20 (r_1 : Value) (k : Value → World → Prop) (w : World) : Prop :=
   opW Tryz.prog (Instr.box 27 r_1) (fun r_2 w =>
   opW Tryz.prog (Instr.loadAt 27 r_2) (fun t5_4 w =>
   callW Tryz.prog (Value.func (Fn.func 15) #[] #[]) #[t5_4] (fun t6_5 w =>
   opW Tryz.prog (Op.unary UnOp.not t6_5) (fun t7_6 w =>
   condW t7_6
   (k (Value.slice none 0 0) w)
   (opW Tryz.prog (Instr.alloc 24 true (Value.tuple #[])) (fun out_7 w =>
   opW Tryz.prog (Instr.loadAt 27 r_2) (fun t8_8 w =>
   callW Tryz.prog (Value.func (Fn.func 50) #[] #[]) #[t8_8] (fun t9_9 w =>
   rangeW Tryz.prog t9_9 1 (fun l_11 ready_11 busy_11 args_11 w k_11 =>
   opW Tryz.prog (Instr.alloc 31 true (Value.tuple #[])) (fun d_12 w =>
   opU Tryz.prog (Instr.storeAt 31 d_12 (args_11.headD undef)) (fun _ w =>
   ready_11 w ∧ (fun w => opW Tryz.prog (Instr.loadAt 24 out_7) (fun t11_14 w =>
   opW Tryz.prog (Instr.loadAt 31 d_12) (fun t12_15 w =>
   opW Tryz.prog (Instr.buildSlice 24 1 #[(0, t12_15)]) (fun t13_16 w =>
   opW Tryz.prog (Builtin.append_ #[24, 24] 24 #[t11_14, t13_16]) (fun t14_17 w =>
   opU Tryz.prog (Instr.storeAt 24 out_7 t14_17) (fun _ w =>
   k_11 none w) w) w) w) w) w) (busy_11 w)) w) w) (fun d_11 j_11 w => jumpW j_11
   (opW Tryz.prog (Instr.loadAt 24 out_7) (fun t15_18 w =>
   leaveW [{ target := Target.collected d_11, args := #[] }] (fun w => k t15_18 w) w) w)
   (leaveW [{ target := Target.collected d_11, args := #[] }] (fun w => k (Value.slice none 0 0) w) w)
   (fun x => False)) w) w) w) w)) w) w) w) w
theorem S20_vc (r_1 : Value) (k : Value → World → Prop) (w : World) : vc Tryz.prog Tryz.f20.ntmps ann20 none ((Tryz.f20.body).getD Code.skip) 1 (params 0 [r_1]) [] (finQ Tryz.prog Tryz.f20.results.toList k) w = S20 r_1 k w := by kernel_rfl
theorem S20_calls (r_1 : Value) (k : Value → World → Prop) (w : World) (h : S20 r_1 k w) : Calls Tryz.prog 20 #[r_1] w (retP k) :=
  calls_of_vc (fn := Tryz.f20) (c := (Tryz.f20.body).getD Code.skip) ann20 Tryz.func20 (by kernel_rfl) [r_1] w k (by kernel_rfl) ((S20_vc r_1 k w).symm ▸ h)
theorem C20 (r_1 : Value) (k : Value → World → Prop) (w : World) (h : S20 r_1 k w) : callW Tryz.prog (.func (.func 20) #[] #[]) #[r_1] k w :=
  callW_calls ok20 (by simpa using S20_calls r_1 k w h)

/-! newswire/newswireref25.Waiting -/
def ann21 : Ann := [(61, Note.keep [3]), (122, Note.loop [3, 4] [1]), (978, Note.keep [1, 3, 4]), (3913, Note.keep [1, 3, 4]), (7826, Note.loop [3, 5] [1, 4]), (62610, Note.keep [1, 3, 4, 5]), (250440, Note.plan (Plan.takeP 0 (Plan.takeU 1 (Plan.takeP 2 (Plan.takeP 3 (Plan.takeP 4 (Plan.takeU 5 (Plan.takeP 6 (Plan.takeP 7 (Plan.takeP 8 (Plan.takeX 9 (Plan.takeP 10 (Plan.takeU 11 (Plan.takeP 12 (Plan.takeP 13 (Plan.takeX 14 (Plan.run 15 (Plan.takeP 16 (Plan.takeP 17 Plan.done)))))))))))))))))))]
def S21 (r_1 : Value) (k : Value → World → Prop) (w : World) : Prop :=
   opW Tryz.prog (Instr.box 27 r_1) (fun r_2 w =>
   opW Tryz.prog (Instr.loadAt 27 r_2) (fun t6_4 w =>
   callW Tryz.prog (Value.func (Fn.func 16) #[] #[]) #[t6_4] (fun t7_5 w =>
   opW Tryz.prog (Op.unary UnOp.not t7_5) (fun t8_6 w =>
   condW t8_6
   (k (Value.slice none 0 0) w)
   (Loop2 (fun out_8 class_9 w K_10 =>
   opW Tryz.prog (binS BinOp.leq 3 (Operand.tmp 9) (Operand.const (Value.int IntKind.i64 3)) class_9 (Value.int IntKind.i64 3)) (fun t10_12 w =>
   condW t10_12
   (Loop2 (fun out_15 i_16 w K_17 =>
   opW Tryz.prog (Instr.fieldAt 27 r_2 2) (fun t14_19 w =>
   opW Tryz.prog (Instr.loadAt 24 t14_19) (fun t15_20 w =>
   opW Tryz.prog (Builtin.len_ #[24] 3 #[t15_20]) (fun t16_21 w =>
   opW Tryz.prog (binS BinOp.lss 3 (Operand.tmp 13) (Operand.tmp 16) i_16 t16_21) (fun t17_22 w =>
   condW t17_22
   (joinW (fun out_46 w =>
   opW Tryz.prog (binS BinOp.add 3 (Operand.tmp 18) (Operand.const (Value.int IntKind.i64 1)) i_16 (Value.int IntKind.i64 1)) (fun t19_47 w =>
   loopK [] [] [r_2, class_9] [r_2, class_9] (K_17 out_46 t19_47 w)) w) (fun J_23 =>
   drewW w (fun w =>
   ∃ S : World → Prop, S w ∧
   takeW Tryz.prog anyW (Instr.fieldAt 27 r_2 2) (fun t20_25 =>
   takeW Tryz.prog S (Instr.loadAt 24 t20_25) (fun t21_26 =>
   takeW Tryz.prog anyW (Instr.indexAt 24 t21_26 i_16) (fun t23_27 =>
   takeW Tryz.prog anyW (Instr.fieldAt 31 t23_27 2) (fun t24_28 =>
   takeW Tryz.prog S (Instr.loadAt 3 t24_28) (fun t25_29 =>
   takeW Tryz.prog anyW (binS BinOp.eql 3 (Operand.tmp 25) (Operand.tmp 26) t25_29 class_9) (fun t27_30 =>
   guardT (some t27_30, true) (fun k => takeW Tryz.prog (sameW w) (Instr.loadAt 27 r_2) k w) (fun t29_31 =>
   guardT (some t27_30, true) (fun k => takeW Tryz.prog anyW (Instr.fieldAt 27 r_2 2) k w) (fun t30_32 =>
   guardT (some t27_30, true) (fun k => takeW Tryz.prog S (Instr.loadAt 24 t30_32) k w) (fun t31_33 =>
   guardT (some t27_30, true) (fun k => k i_16) (fun t32_34 =>
   guardT (some t27_30, true) (fun k => takeW Tryz.prog anyW (Instr.indexAt 24 t31_33 t32_34) k w) (fun t33_35 =>
   guardT (some t27_30, true) (fun k => takeW Tryz.prog (sameW w) (Instr.loadAt 31 t33_35) k w) (fun t34_36 =>
   guardW (some t27_30, true) (fun k w => callW Tryz.prog (Value.func (Fn.func 51) #[] #[]) #[t29_31, t34_36] k w) (fun t35_37 w => keepS S (fun w =>
   guardT (some t27_30, true) (fun k => takeW Tryz.prog anyW (Op.unary UnOp.not t35_37) k w) (fun t36_38 =>
   pickT t27_30 t36_38 (Value.bool false) (fun t37_39 =>
   condW t37_39
   (opW Tryz.prog (Instr.fieldAt 27 r_2 2) (fun t39_40 w =>
   opW Tryz.prog (Instr.loadAt 24 t39_40) (fun t40_41 w =>
   opW Tryz.prog (Instr.indexAt 24 t40_41 i_16) (fun t42_42 w =>
   opW Tryz.prog (Instr.loadAt 31 t42_42) (fun t43_43 w =>
   opW Tryz.prog (Instr.buildSlice 24 1 #[(0, t43_43)]) (fun t44_44 w =>
   opW Tryz.prog (Builtin.append_ #[24, 24] 24 #[out_15, t44_44]) (fun t45_45 w =>
   J_23 t45_45 w) w) w) w) w) w) w)
   (J_23 out_15 w)))) w) w))))))) w) w) w) w) w) w)))
   (opW Tryz.prog (binS BinOp.add 3 (Operand.tmp 11) (Operand.const (Value.int IntKind.i64 1)) class_9 (Value.int IntKind.i64 1)) (fun t12_48 w =>
   loopK [] [] [r_2] [r_2] (K_10 out_15 t12_48 w)) w)) w) w) w) w) out_8 (Value.int IntKind.i64 0) w)
   (k out_8 w)) w) (Value.slice none 0 0) (Value.int IntKind.i64 1) w)) w) w) w) w
theorem S21_vc (r_1 : Value) (k : Value → World → Prop) (w : World) : vc Tryz.prog Tryz.f21.ntmps ann21 none ((Tryz.f21.body).getD Code.skip) 1 (params 0 [r_1]) [] (finQ Tryz.prog Tryz.f21.results.toList k) w = S21 r_1 k w := by kernel_rfl
theorem S21_calls (r_1 : Value) (k : Value → World → Prop) (w : World) (h : S21 r_1 k w) : Calls Tryz.prog 21 #[r_1] w (retP k) :=
  calls_of_vc (fn := Tryz.f21) (c := (Tryz.f21.body).getD Code.skip) ann21 Tryz.func21 (by kernel_rfl) [r_1] w k (by kernel_rfl) ((S21_vc r_1 k w).symm ▸ h)
theorem C21 (r_1 : Value) (k : Value → World → Prop) (w : World) (h : S21 r_1 k w) : callW Tryz.prog (.func (.func 21) #[] #[]) #[r_1] k w :=
  callW_calls ok21 (by simpa using S21_calls r_1 k w h)

/-! newswire/newswireref25.Made -/
def ann22 : Ann := [(6, Note.plan (Plan.takeP 0 (Plan.takeU 1 (Plan.takeP 3 (Plan.takeU 4 (Plan.alt (Plan.run 2 (Plan.alt (Plan.run 5 (Plan.takeP 6 (Plan.alt (Plan.run 7 (Plan.run 8 (Plan.run 9 Plan.done))) (Plan.run 8 (Plan.run 7 (Plan.run 9 Plan.done)))))) (Plan.run 8 (Plan.run 5 (Plan.takeP 6 (Plan.run 7 (Plan.run 9 Plan.done))))))) (Plan.run 8 (Plan.run 2 (Plan.run 5 (Plan.takeP 6 (Plan.run 7 (Plan.run 9 Plan.done)))))))))))), (61, Note.keep [2, 3]), (122, Note.loop [4] [2, 3]), (978, Note.keep [2, 3, 4]), (1956, Note.plan (Plan.takeP 0 (Plan.takeX 1 (Plan.takeP 2 (Plan.takeP 3 (Plan.takeX 4 (Plan.takeP 5 (Plan.takeP 6 (Plan.takeP 7 (Plan.takeP 8 (Plan.takeX 9 (Plan.takeP 10 (Plan.takeP 11 (Plan.takeP 12 (Plan.takeP 13 (Plan.takeP 14 (Plan.takeP 15 (Plan.run 16 Plan.done))))))))))))))))))]
def S22 (x_1 : Value) (k : Value → World → Prop) (w : World) : Prop :=
   opW Tryz.prog (Instr.box 23 x_1) (fun x_2 w =>
   opW Tryz.prog (Instr.alloc 31 true (Value.tuple #[])) (fun t2_3 w =>
   joinW (fun d_25 w =>
   opW Tryz.prog (Instr.fieldAt 31 d_25 0) (fun t13_26 w =>
   opW Tryz.prog (Instr.loadAt 3 t13_26) (fun t14_27 w =>
   opW Tryz.prog (binS BinOp.rem 3 (Operand.tmp 14) (Operand.const (Value.int IntKind.i64 3)) t14_27 (Value.int IntKind.i64 3)) (fun t15_28 w =>
   opW Tryz.prog (binS BinOp.add 3 (Operand.const (Value.int IntKind.i64 1)) (Operand.tmp 15) (Value.int IntKind.i64 1) t15_28) (fun t16_29 w =>
   opW Tryz.prog (Instr.fieldAt 31 d_25 2) (fun t17_30 w =>
   opU Tryz.prog (Instr.storeAt 3 t17_30 t16_29) (fun _ w =>
   Loop1 (fun i_32 w K_33 =>
   opW Tryz.prog (Instr.fieldAt 31 d_25 1) (fun t19_35 w =>
   opW Tryz.prog (Instr.loadAt 3 t19_35) (fun t20_36 w =>
   opW Tryz.prog (binS BinOp.mul 3 (Operand.const (Value.int IntKind.i64 30)) (Operand.tmp 20) (Value.int IntKind.i64 30) t20_36) (fun t21_37 w =>
   opW Tryz.prog (Instr.fieldAt 31 d_25 0) (fun t22_38 w =>
   opW Tryz.prog (Instr.loadAt 3 t22_38) (fun t23_39 w =>
   opW Tryz.prog (binS BinOp.add 3 (Operand.tmp 21) (Operand.tmp 23) t21_37 t23_39) (fun t24_40 w =>
   opW Tryz.prog (binS BinOp.lss 3 (Operand.tmp 18) (Operand.tmp 24) i_32 t24_40) (fun t25_41 w =>
   condW t25_41
   (drewW w (fun w =>
   takeW Tryz.prog anyW (Instr.fieldAt 31 d_25 3) (fun t28_44 =>
   takeW Tryz.prog (sameW w) (Instr.loadAt 9 t28_44) (fun t29_45 =>
   takeW Tryz.prog anyW (Instr.fieldAt 31 d_25 1) (fun t31_46 =>
   takeW Tryz.prog (sameW w) (Instr.loadAt 3 t31_46) (fun t32_47 =>
   takeW Tryz.prog anyW (binS BinOp.add 3 (Operand.tmp 30) (Operand.tmp 32) i_32 t32_47) (fun t33_48 =>
   takeW Tryz.prog anyW (binS BinOp.rem 3 (Operand.tmp 33) (Operand.const (Value.int IntKind.i64 3)) t33_48 (Value.int IntKind.i64 3)) (fun t34_49 =>
   takeW Tryz.prog anyW (Instr.fieldAt 31 d_25 1) (fun t36_50 =>
   takeW Tryz.prog (sameW w) (Instr.loadAt 3 t36_50) (fun t37_51 =>
   takeW Tryz.prog anyW (binS BinOp.add 3 (Operand.tmp 35) (Operand.tmp 37) i_32 t37_51) (fun t38_52 =>
   takeW Tryz.prog anyW (binS BinOp.rem 3 (Operand.tmp 38) (Operand.const (Value.int IntKind.i64 3)) t38_52 (Value.int IntKind.i64 3)) (fun t39_53 =>
   takeW Tryz.prog anyW (binS BinOp.add 3 (Operand.tmp 39) (Operand.const (Value.int IntKind.i64 1)) t39_53 (Value.int IntKind.i64 1)) (fun t40_54 =>
   takeW Tryz.prog anyW (Instr.sliceAt 9 (Value.string { data := #[97, 98, 32] }) (some t34_49) (some t40_54) none) (fun t41_55 =>
   takeW Tryz.prog anyW (binS BinOp.add 9 (Operand.tmp 29) (Operand.tmp 41) t29_45 t41_55) (fun t42_56 =>
   takeW Tryz.prog anyW (Instr.fieldAt 31 d_25 3) (fun t43_57 =>
   opU Tryz.prog (Instr.storeAt 9 t43_57 t42_56) (fun _ w =>
   opW Tryz.prog (binS BinOp.add 3 (Operand.tmp 26) (Operand.const (Value.int IntKind.i64 1)) i_32 (Value.int IntKind.i64 1)) (fun t27_58 w =>
   loopK [] [] [t2_3, d_25] [t2_3, d_25] (K_33 t27_58 w)) w) w) w) w) w) w) w) w) w) w) w) w) w) w) w) w))
   (opW Tryz.prog (Instr.loadAt 31 d_25) (fun t44_59 w =>
   opU Tryz.prog (Instr.storeAt 31 t2_3 t44_59) (fun _ w =>
   resCell Tryz.prog 31 t2_3 (fun r_60 => k r_60 w) w) w) w)) w) w) w) w) w) w) w) (Value.int IntKind.i64 0) w) w) w) w) w) w) w) (fun J_4 =>
   drewW w (fun w =>
   ∃ S : World → Prop, S w ∧
   takeW Tryz.prog anyW (Instr.indexAt 23 x_2 (Value.int IntKind.i64 0)) (fun t5_5 =>
   takeW Tryz.prog S (Instr.loadAt 3 t5_5) (fun t6_6 =>
   takeW Tryz.prog anyW (Instr.indexAt 23 x_2 (Value.int IntKind.i64 1)) (fun t8_7 =>
   takeW Tryz.prog S (Instr.loadAt 3 t8_7) (fun t9_8 =>
   (callW Tryz.prog (Value.func (Fn.func 52) #[] #[]) #[t6_6, (Value.int IntKind.i64 6)] (fun t7_9 w => keepS S (fun w =>
   (callW Tryz.prog (Value.func (Fn.func 52) #[] #[]) #[t9_8, (Value.int IntKind.i64 5)] (fun t10_10 w => keepS S (fun w =>
   takeW Tryz.prog anyW (binS BinOp.add 3 (Operand.const (Value.int IntKind.i64 1)) (Operand.tmp 10) (Value.int IntKind.i64 1) t10_10) (fun t11_11 =>
   (opW Tryz.prog (Instr.build 31 #[(0, t7_9), (1, t11_11)]) (fun t12_12 w => keepS S (fun w =>
   opW Tryz.prog (Instr.alloc 31 true (Value.tuple #[])) (fun d_13 w => keepS S (fun w =>
   opU Tryz.prog (Instr.storeAt 31 d_13 t12_12) (fun _ w =>
   J_4 d_13 w) w) w) w) w) w) ∧ (opW Tryz.prog (Instr.alloc 31 true (Value.tuple #[])) (fun d_14 w => keepS S (fun w =>
   opW Tryz.prog (Instr.build 31 #[(0, t7_9), (1, t11_11)]) (fun t12_15 w => keepS S (fun w =>
   opU Tryz.prog (Instr.storeAt 31 d_14 t12_15) (fun _ w =>
   J_4 d_14 w) w) w) w) w) w)) w) w) w) ∧ (opW Tryz.prog (Instr.alloc 31 true (Value.tuple #[])) (fun d_16 w => keepS S (fun w =>
   callW Tryz.prog (Value.func (Fn.func 52) #[] #[]) #[t9_8, (Value.int IntKind.i64 5)] (fun t10_17 w => keepS S (fun w =>
   takeW Tryz.prog anyW (binS BinOp.add 3 (Operand.const (Value.int IntKind.i64 1)) (Operand.tmp 10) (Value.int IntKind.i64 1) t10_17) (fun t11_18 =>
   opW Tryz.prog (Instr.build 31 #[(0, t7_9), (1, t11_18)]) (fun t12_19 w => keepS S (fun w =>
   opU Tryz.prog (Instr.storeAt 31 d_16 t12_19) (fun _ w =>
   J_4 d_16 w) w) w) w) w) w) w) w) w)) w) w) ∧ (opW Tryz.prog (Instr.alloc 31 true (Value.tuple #[])) (fun d_20 w => keepS S (fun w =>
   callW Tryz.prog (Value.func (Fn.func 52) #[] #[]) #[t6_6, (Value.int IntKind.i64 6)] (fun t7_21 w => keepS S (fun w =>
   callW Tryz.prog (Value.func (Fn.func 52) #[] #[]) #[t9_8, (Value.int IntKind.i64 5)] (fun t10_22 w => keepS S (fun w =>
   takeW Tryz.prog anyW (binS BinOp.add 3 (Operand.const (Value.int IntKind.i64 1)) (Operand.tmp 10) (Value.int IntKind.i64 1) t10_22) (fun t11_23 =>
   opW Tryz.prog (Instr.build 31 #[(0, t7_21), (1, t11_23)]) (fun t12_24 w => keepS S (fun w =>
   opU Tryz.prog (Instr.storeAt 31 d_20 t12_24) (fun _ w =>
   J_4 d_20 w) w) w) w) w) w) w) w) w) w) w)) w) w) w) w))) w) w
theorem S22_vc (x_1 : Value) (k : Value → World → Prop) (w : World) : vc Tryz.prog Tryz.f22.ntmps ann22 none ((Tryz.f22.body).getD Code.skip) 1 (params 0 [x_1]) [] (finQ Tryz.prog Tryz.f22.results.toList k) w = S22 x_1 k w := by kernel_rfl
theorem S22_calls (x_1 : Value) (k : Value → World → Prop) (w : World) (h : S22 x_1 k w) : Calls Tryz.prog 22 #[x_1] w (retP k) :=
  calls_of_vc (fn := Tryz.f22) (c := (Tryz.f22.body).getD Code.skip) ann22 Tryz.func22 (by kernel_rfl) [x_1] w k (by kernel_rfl) ((S22_vc x_1 k w).symm ▸ h)
theorem C22 (x_1 : Value) (k : Value → World → Prop) (w : World) (h : S22 x_1 k w) : callW Tryz.prog (.func (.func 22) #[] #[]) #[x_1] k w :=
  callW_calls ok22 (by simpa using S22_calls x_1 k w h)

/-! newswire/relay.Put -/
def ann23 : Ann := []
def S23 (r_1 d_2 : Value) (k : Value → World → Prop) (w : World) : Prop :=
   opW Tryz.prog (Instr.box 27 r_1) (fun r_3 w =>
   opW Tryz.prog (Instr.box 31 d_2) (fun d_4 w =>
   opW Tryz.prog (Instr.alloc 27 true (Value.tuple #[])) (fun t4_5 w =>
   opW Tryz.prog (Instr.loadAt 27 r_3) (fun t6_7 w =>
   callW Tryz.prog (Value.func (Fn.func 15) #[] #[]) #[t6_7] (fun t7_8 w =>
   opW Tryz.prog (Op.unary UnOp.not t7_8) (fun t8_9 w =>
   guardW (some t8_9, false) (fun k w => opW Tryz.prog (Instr.loadAt 31 d_4) k w) (fun t10_10 w =>
   guardW (some t8_9, false) (fun k w => callW Tryz.prog (Value.func (Fn.func 53) #[] #[]) #[t10_10] k w) (fun t11_11 w =>
   guardW (some t8_9, false) (fun k w => opW Tryz.prog (Op.unary UnOp.not t11_11) k w) (fun t12_12 w =>
   pickW t8_9 (Value.bool true) t12_12 (fun t13_13 w =>
   condW t13_13
   (opW Tryz.prog (Instr.build 27 #[]) (fun t14_14 w =>
   opU Tryz.prog (Instr.storeAt 27 t4_5 t14_14) (fun _ w =>
   resCell Tryz.prog 27 t4_5 (fun r_15 => k (Value.tuple #[r_15, (Value.int IntKind.i64 250)]) w) w) w) w)
   (opW Tryz.prog (Instr.loadAt 27 r_3) (fun t15_16 w =>
   opW Tryz.prog (Instr.loadAt 31 d_4) (fun t16_17 w =>
   opW Tryz.prog (Instr.buildSlice 24 1 #[(0, t16_17)]) (fun t17_18 w =>
   callW Tryz.prog (Value.func (Fn.func 54) #[] #[]) #[t15_16, t17_18, (Value.slice none 0 0)] (fun t18_19 w =>
   opW Tryz.prog (Instr.extract t18_19 0) (fun t19_20 w =>
   opW Tryz.prog (Instr.extract t18_19 1) (fun t20_21 w =>
   opU Tryz.prog (Instr.storeAt 27 t4_5 t19_20) (fun _ w =>
   resCell Tryz.prog 27 t4_5 (fun r_22 => k (Value.tuple #[r_22, t20_21]) w) w) w) w) w) w) w) w) w)) w) w) w) w) w) w) w) w) w) w
theorem S23_vc (r_1 d_2 : Value) (k : Value → World → Prop) (w : World) : vc Tryz.prog Tryz.f23.ntmps ann23 none ((Tryz.f23.body).getD Code.skip) 1 (params 0 [r_1, d_2]) [] (finQ Tryz.prog Tryz.f23.results.toList k) w = S23 r_1 d_2 k w := by kernel_rfl
theorem S23_calls (r_1 d_2 : Value) (k : Value → World → Prop) (w : World) (h : S23 r_1 d_2 k w) : Calls Tryz.prog 23 #[r_1, d_2] w (retP k) :=
  calls_of_vc (fn := Tryz.f23) (c := (Tryz.f23.body).getD Code.skip) ann23 Tryz.func23 (by kernel_rfl) [r_1, d_2] w k (by kernel_rfl) ((S23_vc r_1 d_2 k w).symm ▸ h)
theorem C23 (r_1 d_2 : Value) (k : Value → World → Prop) (w : World) (h : S23 r_1 d_2 k w) : callW Tryz.prog (.func (.func 23) #[] #[]) #[r_1, d_2] k w :=
  callW_calls ok23 (by simpa using S23_calls r_1 d_2 k w h)

/-! newswire/newswireref25.Put -/
def ann24 : Ann := [(62, Note.plan (Plan.takeP 0 (Plan.takeU 1 (Plan.takeP 2 (Plan.takeU 3 (Plan.takeP 4 (Plan.takeP 6 (Plan.takeU 7 (Plan.run 5 (Plan.run 8 (Plan.run 9 (Plan.run 10 (Plan.takeP 11 Plan.done)))))))))))))]
def S24 (r_1 d_2 : Value) (k : Value → World → Prop) (w : World) : Prop :=
   opW Tryz.prog (Instr.box 27 r_1) (fun r_3 w =>
   opW Tryz.prog (Instr.box 31 d_2) (fun d_4 w =>
   opW Tryz.prog (Instr.alloc 27 true (Value.tuple #[])) (fun t4_5 w =>
   opW Tryz.prog (Instr.loadAt 27 r_3) (fun t8_7 w =>
   callW Tryz.prog (Value.func (Fn.func 16) #[] #[]) #[t8_7] (fun t9_8 w =>
   opW Tryz.prog (Op.unary UnOp.not t9_8) (fun t10_9 w =>
   guardW (some t10_9, false) (fun k w => opW Tryz.prog (Instr.loadAt 31 d_4) k w) (fun t12_10 w =>
   guardW (some t10_9, false) (fun k w => callW Tryz.prog (Value.func (Fn.func 55) #[] #[]) #[t12_10] k w) (fun t13_11 w =>
   guardW (some t10_9, false) (fun k w => opW Tryz.prog (Op.unary UnOp.not t13_11) k w) (fun t14_12 w =>
   pickW t10_9 (Value.bool true) t14_12 (fun t15_13 w =>
   condW t15_13
   (opW Tryz.prog (Instr.build 27 #[]) (fun t16_14 w =>
   opU Tryz.prog (Instr.storeAt 27 t4_5 t16_14) (fun _ w =>
   resCell Tryz.prog 27 t4_5 (fun r_15 => k (Value.tuple #[r_15, (Value.int IntKind.i64 250)]) w) w) w) w)
   (opW Tryz.prog (Instr.fieldAt 27 r_3 2) (fun t18_16 w =>
   opW Tryz.prog (Instr.loadAt 24 t18_16) (fun t19_17 w =>
   opW Tryz.prog (Instr.loadAt 31 d_4) (fun t20_18 w =>
   callW Tryz.prog (Value.func (Fn.func 56) #[] #[]) #[t19_17, t20_18] (fun t21_19 w =>
   opW Tryz.prog (Instr.extract t21_19 0) (fun t22_20 w =>
   opW Tryz.prog (Instr.extract t21_19 1) (fun t23_21 w =>
   opW Tryz.prog (Op.unary UnOp.not t23_21) (fun t25_23 w =>
   condW t25_23
   (opW Tryz.prog (Instr.build 27 #[]) (fun t26_24 w =>
   opU Tryz.prog (Instr.storeAt 27 t4_5 t26_24) (fun _ w =>
   resCell Tryz.prog 27 t4_5 (fun r_25 => k (Value.tuple #[r_25, (Value.int IntKind.i64 250)]) w) w) w) w)
   (drewW w (fun w =>
   ∃ S : World → Prop, S w ∧
   takeW Tryz.prog anyW (Instr.fieldAt 27 r_3 0) (fun t27_27 =>
   takeW Tryz.prog S (Instr.loadAt 3 t27_27) (fun t28_28 =>
   takeW Tryz.prog anyW (Instr.fieldAt 27 r_3 1) (fun t29_29 =>
   takeW Tryz.prog S (Instr.loadAt 3 t29_29) (fun t30_30 =>
   takeW Tryz.prog anyW (Instr.fieldAt 27 r_3 3) (fun t33_31 =>
   takeW Tryz.prog S (Instr.loadAt 25 t33_31) (fun t34_32 =>
   opW Tryz.prog (Instr.buildSlice 25 0 #[]) (fun t32_33 w => keepS S (fun w =>
   opW Tryz.prog (Builtin.append_ #[25, 25] 25 #[t32_33, t34_32]) (fun t35_34 w => keepS S (fun w =>
   opW Tryz.prog (Instr.build 27 #[(0, t28_28), (1, t30_30), (2, t22_20), (3, t35_34)]) (fun t36_35 w => keepS S (fun w =>
   opU Tryz.prog (Instr.storeAt 27 t4_5 t36_35) (fun _ w =>
   resCell Tryz.prog 27 t4_5 (fun r_36 => k (Value.tuple #[r_36, (Value.int IntKind.i64 0)]) w) w) w) w) w) w) w) w) w) w) w) w) w) w) w))) w) w) w) w) w) w) w)) w) w) w) w) w) w) w) w) w) w
theorem S24_vc (r_1 d_2 : Value) (k : Value → World → Prop) (w : World) : vc Tryz.prog Tryz.f24.ntmps ann24 none ((Tryz.f24.body).getD Code.skip) 1 (params 0 [r_1, d_2]) [] (finQ Tryz.prog Tryz.f24.results.toList k) w = S24 r_1 d_2 k w := by kernel_rfl
theorem S24_calls (r_1 d_2 : Value) (k : Value → World → Prop) (w : World) (h : S24 r_1 d_2 k w) : Calls Tryz.prog 24 #[r_1, d_2] w (retP k) :=
  calls_of_vc (fn := Tryz.f24) (c := (Tryz.f24.body).getD Code.skip) ann24 Tryz.func24 (by kernel_rfl) [r_1, d_2] w k (by kernel_rfl) ((S24_vc r_1 d_2 k w).symm ▸ h)
theorem C24 (r_1 d_2 : Value) (k : Value → World → Prop) (w : World) (h : S24 r_1 d_2 k w) : callW Tryz.prog (.func (.func 24) #[] #[]) #[r_1, d_2] k w :=
  callW_calls ok24 (by simpa using S24_calls r_1 d_2 k w h)

/-! newswire/relay.Pages -/
def ann25 : Ann := []
def S25 (d_1 : Value) (k : Value → World → Prop) (w : World) : Prop :=
   opW Tryz.prog (Instr.box 31 d_1) (fun d_2 w =>
   opW Tryz.prog (Instr.loadAt 31 d_2) (fun t3_4 w =>
   callW Tryz.prog (Value.func (Fn.func 53) #[] #[]) #[t3_4] (fun t4_5 w =>
   opW Tryz.prog (Op.unary UnOp.not t4_5) (fun t5_6 w =>
   condW t5_6
   (k (Value.int IntKind.i64 0) w)
   (opW Tryz.prog (Instr.fieldAt 31 d_2 3) (fun t6_7 w =>
   opW Tryz.prog (Instr.loadAt 9 t6_7) (fun t7_8 w =>
   opW Tryz.prog (Builtin.len_ #[9] 3 #[t7_8]) (fun t8_9 w =>
   opW Tryz.prog (binS BinOp.quo 3 (Operand.tmp 8) (Operand.const (Value.int IntKind.i64 100)) t8_9 (Value.int IntKind.i64 100)) (fun t9_10 w =>
   opW Tryz.prog (binS BinOp.add 3 (Operand.const (Value.int IntKind.i64 1)) (Operand.tmp 9) (Value.int IntKind.i64 1) t9_10) (fun t10_11 w =>
   k t10_11 w) w) w) w) w) w)) w) w) w) w
theorem S25_vc (d_1 : Value) (k : Value → World → Prop) (w : World) : vc Tryz.prog Tryz.f25.ntmps ann25 none ((Tryz.f25.body).getD Code.skip) 1 (params 0 [d_1]) [] (finQ Tryz.prog Tryz.f25.results.toList k) w = S25 d_1 k w := by kernel_rfl
theorem S25_calls (d_1 : Value) (k : Value → World → Prop) (w : World) (h : S25 d_1 k w) : Calls Tryz.prog 25 #[d_1] w (retP k) :=
  calls_of_vc (fn := Tryz.f25) (c := (Tryz.f25.body).getD Code.skip) ann25 Tryz.func25 (by kernel_rfl) [d_1] w k (by kernel_rfl) ((S25_vc d_1 k w).symm ▸ h)
theorem C25 (d_1 : Value) (k : Value → World → Prop) (w : World) (h : S25 d_1 k w) : callW Tryz.prog (.func (.func 25) #[] #[]) #[d_1] k w :=
  callW_calls ok25 (by simpa using S25_calls d_1 k w h)

/-! newswire/newswireref25.Pages -/
def ann26 : Ann := []
def S26 (d_1 : Value) (k : Value → World → Prop) (w : World) : Prop :=
   opW Tryz.prog (Instr.box 31 d_1) (fun d_2 w =>
   opW Tryz.prog (Instr.loadAt 31 d_2) (fun t3_4 w =>
   callW Tryz.prog (Value.func (Fn.func 55) #[] #[]) #[t3_4] (fun t4_5 w =>
   opW Tryz.prog (Op.unary UnOp.not t4_5) (fun t5_6 w =>
   condW t5_6
   (k (Value.int IntKind.i64 0) w)
   (opW Tryz.prog (Instr.fieldAt 31 d_2 3) (fun t6_7 w =>
   opW Tryz.prog (Instr.loadAt 9 t6_7) (fun t7_8 w =>
   opW Tryz.prog (Builtin.len_ #[9] 3 #[t7_8]) (fun t8_9 w =>
   opW Tryz.prog (binS BinOp.quo 3 (Operand.tmp 8) (Operand.const (Value.int IntKind.i64 100)) t8_9 (Value.int IntKind.i64 100)) (fun t9_10 w =>
   opW Tryz.prog (binS BinOp.add 3 (Operand.const (Value.int IntKind.i64 1)) (Operand.tmp 9) (Value.int IntKind.i64 1) t9_10) (fun t10_11 w =>
   k t10_11 w) w) w) w) w) w)) w) w) w) w
theorem S26_vc (d_1 : Value) (k : Value → World → Prop) (w : World) : vc Tryz.prog Tryz.f26.ntmps ann26 none ((Tryz.f26.body).getD Code.skip) 1 (params 0 [d_1]) [] (finQ Tryz.prog Tryz.f26.results.toList k) w = S26 d_1 k w := by kernel_rfl
theorem S26_calls (d_1 : Value) (k : Value → World → Prop) (w : World) (h : S26 d_1 k w) : Calls Tryz.prog 26 #[d_1] w (retP k) :=
  calls_of_vc (fn := Tryz.f26) (c := (Tryz.f26.body).getD Code.skip) ann26 Tryz.func26 (by kernel_rfl) [d_1] w k (by kernel_rfl) ((S26_vc d_1 k w).symm ▸ h)
theorem C26 (d_1 : Value) (k : Value → World → Prop) (w : World) (h : S26 d_1 k w) : callW Tryz.prog (.func (.func 26) #[] #[]) #[d_1] k w :=
  callW_calls ok26 (by simpa using S26_calls d_1 k w h)

/-! newswire/relay.Hear -/
def ann27 : Ann := []
def S27 (r_1 p_2 : Value) (k : Value → World → Prop) (w : World) : Prop :=
   opW Tryz.prog (Instr.box 27 r_1) (fun r_3 w =>
   opW Tryz.prog (Instr.box 29 p_2) (fun p_4 w =>
   opW Tryz.prog (Instr.alloc 27 true (Value.tuple #[])) (fun t4_5 w =>
   opW Tryz.prog (Instr.loadAt 27 r_3) (fun t6_7 w =>
   callW Tryz.prog (Value.func (Fn.func 15) #[] #[]) #[t6_7] (fun t7_8 w =>
   opW Tryz.prog (Op.unary UnOp.not t7_8) (fun t8_9 w =>
   guardW (some t8_9, false) (fun k w => opW Tryz.prog (Instr.fieldAt 29 p_4 0) k w) (fun t10_10 w =>
   guardW (some t8_9, false) (fun k w => opW Tryz.prog (Instr.loadAt 3 t10_10) k w) (fun t11_11 w =>
   guardW (some t8_9, false) (fun k w => callW Tryz.prog (Value.func (Fn.func 43) #[] #[]) #[t11_11, (Value.int IntKind.i64 0), (Value.int IntKind.i64 7)] k w) (fun t12_12 w =>
   guardW (some t8_9, false) (fun k w => opW Tryz.prog (Op.unary UnOp.not t12_12) k w) (fun t13_13 w =>
   pickW t8_9 (Value.bool true) t13_13 (fun t14_14 w =>
   guardW (some t14_14, false) (fun k w => opW Tryz.prog (Instr.fieldAt 29 p_4 1) k w) (fun t16_15 w =>
   guardW (some t14_14, false) (fun k w => opW Tryz.prog (Instr.loadAt 24 t16_15) k w) (fun t17_16 w =>
   guardW (some t14_14, false) (fun k w => opW Tryz.prog (Instr.fieldAt 29 p_4 2) k w) (fun t18_17 w =>
   guardW (some t14_14, false) (fun k w => opW Tryz.prog (Instr.loadAt 25 t18_17) k w) (fun t19_18 w =>
   guardW (some t14_14, false) (fun k w => callW Tryz.prog (Value.func (Fn.func 44) #[] #[]) #[t17_16, t19_18] k w) (fun t20_19 w =>
   guardW (some t14_14, false) (fun k w => opW Tryz.prog (Op.unary UnOp.not t20_19) k w) (fun t21_20 w =>
   pickW t14_14 (Value.bool true) t21_20 (fun t22_21 w =>
   condW t22_21
   (opW Tryz.prog (Instr.build 27 #[]) (fun t23_22 w =>
   opU Tryz.prog (Instr.storeAt 27 t4_5 t23_22) (fun _ w =>
   resCell Tryz.prog 27 t4_5 (fun r_23 => k (Value.tuple #[r_23, (Value.int IntKind.i64 250)]) w) w) w) w)
   (opW Tryz.prog (Instr.loadAt 27 r_3) (fun t24_24 w =>
   opW Tryz.prog (Instr.fieldAt 29 p_4 1) (fun t25_25 w =>
   opW Tryz.prog (Instr.loadAt 24 t25_25) (fun t26_26 w =>
   opW Tryz.prog (Instr.fieldAt 29 p_4 2) (fun t27_27 w =>
   opW Tryz.prog (Instr.loadAt 25 t27_27) (fun t28_28 w =>
   callW Tryz.prog (Value.func (Fn.func 54) #[] #[]) #[t24_24, t26_26, t28_28] (fun t29_29 w =>
   opW Tryz.prog (Instr.extract t29_29 0) (fun t30_30 w =>
   opW Tryz.prog (Instr.extract t29_29 1) (fun t31_31 w =>
   opU Tryz.prog (Instr.storeAt 27 t4_5 t30_30) (fun _ w =>
   resCell Tryz.prog 27 t4_5 (fun r_32 => k (Value.tuple #[r_32, t31_31]) w) w) w) w) w) w) w) w) w) w) w)) w) w) w) w) w) w) w) w) w) w) w) w) w) w) w) w) w) w
theorem S27_vc (r_1 p_2 : Value) (k : Value → World → Prop) (w : World) : vc Tryz.prog Tryz.f27.ntmps ann27 none ((Tryz.f27.body).getD Code.skip) 1 (params 0 [r_1, p_2]) [] (finQ Tryz.prog Tryz.f27.results.toList k) w = S27 r_1 p_2 k w := by kernel_rfl
theorem S27_calls (r_1 p_2 : Value) (k : Value → World → Prop) (w : World) (h : S27 r_1 p_2 k w) : Calls Tryz.prog 27 #[r_1, p_2] w (retP k) :=
  calls_of_vc (fn := Tryz.f27) (c := (Tryz.f27.body).getD Code.skip) ann27 Tryz.func27 (by kernel_rfl) [r_1, p_2] w k (by kernel_rfl) ((S27_vc r_1 p_2 k w).symm ▸ h)
theorem C27 (r_1 p_2 : Value) (k : Value → World → Prop) (w : World) (h : S27 r_1 p_2 k w) : callW Tryz.prog (.func (.func 27) #[] #[]) #[r_1, p_2] k w :=
  callW_calls ok27 (by simpa using S27_calls r_1 p_2 k w h)

/-! newswire/newswireref25.Hear -/
def ann28 : Ann := [(14, Note.plan (Plan.takeP 0 (Plan.takeU 1 (Plan.takeP 2 (Plan.takeU 3 (Plan.takeP 5 (Plan.takeU 6 (Plan.alt (Plan.run 4 (Plan.alt (Plan.run 7 (Plan.alt (Plan.run 8 (Plan.run 9 (Plan.run 10 Plan.done))) (Plan.run 9 (Plan.run 8 (Plan.run 10 Plan.done))))) (Plan.run 9 (Plan.run 7 (Plan.run 8 (Plan.run 10 Plan.done)))))) (Plan.run 9 (Plan.run 4 (Plan.run 7 (Plan.run 8 (Plan.run 10 Plan.done))))))))))))), (61, Note.keep [2, 3, 4, 6]), (122, Note.loop [7] [2, 3, 4, 6]), (978, Note.keep [2, 3, 4, 6, 7]), (3912, Note.plan (Plan.takeP 0 (Plan.takeX 1 (Plan.takeP 2 (Plan.takeU 3 (Plan.takeP 4 (Plan.takeP 5 (Plan.takeX 6 (Plan.run 7 (Plan.takeP 8 (Plan.takeP 9 (Plan.takeP 10 (Plan.takeP 11 (Plan.takeP 12 Plan.done))))))))))))))]
def S28 (r_1 p_2 : Value) (k : Value → World → Prop) (w : World) : Prop :=
   opW Tryz.prog (Instr.box 27 r_1) (fun r_3 w =>
   opW Tryz.prog (Instr.box 29 p_2) (fun p_4 w =>
   opW Tryz.prog (Instr.alloc 27 true (Value.tuple #[])) (fun t4_5 w =>
   opW Tryz.prog (Instr.loadAt 27 r_3) (fun t12_7 w =>
   callW Tryz.prog (Value.func (Fn.func 16) #[] #[]) #[t12_7] (fun t13_8 w =>
   opW Tryz.prog (Op.unary UnOp.not t13_8) (fun t14_9 w =>
   guardW (some t14_9, false) (fun k w => opW Tryz.prog (Instr.fieldAt 29 p_4 0) k w) (fun t16_10 w =>
   guardW (some t14_9, false) (fun k w => opW Tryz.prog (Instr.loadAt 3 t16_10) k w) (fun t17_11 w =>
   guardW (some t14_9, false) (fun k w => callW Tryz.prog (Value.func (Fn.func 45) #[] #[]) #[t17_11, (Value.int IntKind.i64 0), (Value.int IntKind.i64 7)] k w) (fun t18_12 w =>
   guardW (some t14_9, false) (fun k w => opW Tryz.prog (Op.unary UnOp.not t18_12) k w) (fun t19_13 w =>
   pickW t14_9 (Value.bool true) t19_13 (fun t20_14 w =>
   guardW (some t20_14, false) (fun k w => opW Tryz.prog (Instr.fieldAt 29 p_4 1) k w) (fun t22_15 w =>
   guardW (some t20_14, false) (fun k w => opW Tryz.prog (Instr.loadAt 24 t22_15) k w) (fun t23_16 w =>
   guardW (some t20_14, false) (fun k w => callW Tryz.prog (Value.func (Fn.func 46) #[] #[]) #[t23_16] k w) (fun t24_17 w =>
   guardW (some t20_14, false) (fun k w => opW Tryz.prog (Op.unary UnOp.not t24_17) k w) (fun t25_18 w =>
   pickW t20_14 (Value.bool true) t25_18 (fun t26_19 w =>
   guardW (some t26_19, false) (fun k w => opW Tryz.prog (Instr.fieldAt 29 p_4 2) k w) (fun t28_20 w =>
   guardW (some t26_19, false) (fun k w => opW Tryz.prog (Instr.loadAt 25 t28_20) k w) (fun t29_21 w =>
   guardW (some t26_19, false) (fun k w => callW Tryz.prog (Value.func (Fn.func 47) #[] #[]) #[t29_21] k w) (fun t30_22 w =>
   guardW (some t26_19, false) (fun k w => opW Tryz.prog (Op.unary UnOp.not t30_22) k w) (fun t31_23 w =>
   pickW t26_19 (Value.bool true) t31_23 (fun t32_24 w =>
   condW t32_24
   (opW Tryz.prog (Instr.build 27 #[]) (fun t33_25 w =>
   opU Tryz.prog (Instr.storeAt 27 t4_5 t33_25) (fun _ w =>
   resCell Tryz.prog 27 t4_5 (fun r_26 => k (Value.tuple #[r_26, (Value.int IntKind.i64 250)]) w) w) w) w)
   (joinW (fun out_47 w =>
   Loop1 (fun i_49 w K_50 =>
   opW Tryz.prog (Instr.fieldAt 29 p_4 1) (fun t44_52 w =>
   opW Tryz.prog (Instr.loadAt 24 t44_52) (fun t45_53 w =>
   opW Tryz.prog (Builtin.len_ #[24] 3 #[t45_53]) (fun t46_54 w =>
   opW Tryz.prog (binS BinOp.lss 3 (Operand.tmp 43) (Operand.tmp 46) i_49 t46_54) (fun t47_55 w =>
   condW t47_55
   (drewW w (fun w =>
   ∃ S : World → Prop, S w ∧
   takeW Tryz.prog anyW (Instr.fieldAt 27 out_47 2) (fun t51_58 =>
   takeW Tryz.prog (sameW w) (Instr.loadAt 24 t51_58) (fun t52_59 =>
   takeW Tryz.prog anyW (Instr.fieldAt 29 p_4 1) (fun t53_60 =>
   takeW Tryz.prog S (Instr.loadAt 24 t53_60) (fun t54_61 =>
   takeW Tryz.prog anyW (Instr.indexAt 24 t54_61 i_49) (fun t56_62 =>
   takeW Tryz.prog (sameW w) (Instr.loadAt 31 t56_62) (fun t57_63 =>
   callW Tryz.prog (Value.func (Fn.func 56) #[] #[]) #[t52_59, t57_63] (fun t58_64 w => keepS S (fun w =>
   takeW Tryz.prog anyW (Instr.extract t58_64 0) (fun t59_65 =>
   takeW Tryz.prog anyW (Instr.extract t58_64 1) (fun t60_66 =>
   opW Tryz.prog (Op.unary UnOp.not t60_66) (fun t62_68 w =>
   condW t62_68
   (opW Tryz.prog (Instr.build 27 #[]) (fun t63_69 w =>
   opU Tryz.prog (Instr.storeAt 27 t4_5 t63_69) (fun _ w =>
   resCell Tryz.prog 27 t4_5 (fun r_70 => k (Value.tuple #[r_70, (Value.int IntKind.i64 250)]) w) w) w) w)
   (opW Tryz.prog (Instr.fieldAt 27 out_47 2) (fun t65_71 w =>
   opU Tryz.prog (Instr.storeAt 24 t65_71 t59_65) (fun _ w =>
   opW Tryz.prog (binS BinOp.add 3 (Operand.tmp 48) (Operand.const (Value.int IntKind.i64 1)) i_49 (Value.int IntKind.i64 1)) (fun t49_72 w =>
   loopK [] [] [r_3, p_4, t4_5, out_47] [r_3, p_4, t4_5, out_47] (K_50 t49_72 w)) w) w) w)) w) w) w) w) w) w) w) w) w) w) w))
   (opW Tryz.prog (Instr.fieldAt 27 r_3 3) (fun t67_73 w =>
   opW Tryz.prog (Instr.loadAt 25 t67_73) (fun t68_74 w =>
   opW Tryz.prog (Instr.fieldAt 29 p_4 2) (fun t69_75 w =>
   opW Tryz.prog (Instr.loadAt 25 t69_75) (fun t70_76 w =>
   callW Tryz.prog (Value.func (Fn.func 57) #[] #[]) #[t68_74, t70_76] (fun t71_77 w =>
   opW Tryz.prog (Instr.extract t71_77 0) (fun t72_78 w =>
   opW Tryz.prog (Instr.extract t71_77 1) (fun t73_79 w =>
   opW Tryz.prog (Op.unary UnOp.not t73_79) (fun t75_81 w =>
   condW t75_81
   (opW Tryz.prog (Instr.build 27 #[]) (fun t76_82 w =>
   opU Tryz.prog (Instr.storeAt 27 t4_5 t76_82) (fun _ w =>
   resCell Tryz.prog 27 t4_5 (fun r_83 => k (Value.tuple #[r_83, (Value.int IntKind.i64 250)]) w) w) w) w)
   (opW Tryz.prog (Instr.fieldAt 27 out_47 3) (fun t78_84 w =>
   opU Tryz.prog (Instr.storeAt 25 t78_84 t72_78) (fun _ w =>
   opW Tryz.prog (Instr.loadAt 27 out_47) (fun t79_86 w =>
   callW Tryz.prog (Value.func (Fn.func 16) #[] #[]) #[t79_86] (fun t80_87 w =>
   opW Tryz.prog (Op.unary UnOp.not t80_87) (fun t81_88 w =>
   condW t81_88
   (opW Tryz.prog (Instr.build 27 #[]) (fun t82_89 w =>
   opU Tryz.prog (Instr.storeAt 27 t4_5 t82_89) (fun _ w =>
   resCell Tryz.prog 27 t4_5 (fun r_90 => k (Value.tuple #[r_90, (Value.int IntKind.i64 250)]) w) w) w) w)
   (opW Tryz.prog (Instr.loadAt 27 out_47) (fun t83_91 w =>
   opU Tryz.prog (Instr.storeAt 27 t4_5 t83_91) (fun _ w =>
   resCell Tryz.prog 27 t4_5 (fun r_92 => k (Value.tuple #[r_92, (Value.int IntKind.i64 0)]) w) w) w) w)) w) w) w) w) w)) w) w) w) w) w) w) w) w)) w) w) w) w) (Value.int IntKind.i64 0) w) (fun J_27 =>
   drewW w (fun w =>
   ∃ S : World → Prop, S w ∧
   takeW Tryz.prog anyW (Instr.fieldAt 27 r_3 0) (fun t34_28 =>
   takeW Tryz.prog S (Instr.loadAt 3 t34_28) (fun t35_29 =>
   takeW Tryz.prog anyW (Instr.fieldAt 27 r_3 1) (fun t36_30 =>
   takeW Tryz.prog S (Instr.loadAt 3 t36_30) (fun t37_31 =>
   takeW Tryz.prog anyW (Instr.fieldAt 27 r_3 2) (fun t39_32 =>
   takeW Tryz.prog S (Instr.loadAt 24 t39_32) (fun t40_33 =>
   (opW Tryz.prog (Instr.buildSlice 24 0 #[]) (fun t38_34 w => keepS S (fun w =>
   (opW Tryz.prog (Builtin.append_ #[24, 24] 24 #[t38_34, t40_33]) (fun t41_35 w => keepS S (fun w =>
   (opW Tryz.prog (Instr.build 27 #[(0, t35_29), (1, t37_31), (2, t41_35)]) (fun t42_36 w => keepS S (fun w =>
   opW Tryz.prog (Instr.alloc 27 true (Value.tuple #[])) (fun out_37 w => keepS S (fun w =>
   opU Tryz.prog (Instr.storeAt 27 out_37 t42_36) (fun _ w =>
   J_27 out_37 w) w) w) w) w) w) ∧ (opW Tryz.prog (Instr.alloc 27 true (Value.tuple #[])) (fun out_38 w => keepS S (fun w =>
   opW Tryz.prog (Instr.build 27 #[(0, t35_29), (1, t37_31), (2, t41_35)]) (fun t42_39 w => keepS S (fun w =>
   opU Tryz.prog (Instr.storeAt 27 out_38 t42_39) (fun _ w =>
   J_27 out_38 w) w) w) w) w) w)) w) w) ∧ (opW Tryz.prog (Instr.alloc 27 true (Value.tuple #[])) (fun out_40 w => keepS S (fun w =>
   opW Tryz.prog (Builtin.append_ #[24, 24] 24 #[t38_34, t40_33]) (fun t41_41 w => keepS S (fun w =>
   opW Tryz.prog (Instr.build 27 #[(0, t35_29), (1, t37_31), (2, t41_41)]) (fun t42_42 w => keepS S (fun w =>
   opU Tryz.prog (Instr.storeAt 27 out_40 t42_42) (fun _ w =>
   J_27 out_40 w) w) w) w) w) w) w) w)) w) w) ∧ (opW Tryz.prog (Instr.alloc 27 true (Value.tuple #[])) (fun out_43 w => keepS S (fun w =>
   opW Tryz.prog (Instr.buildSlice 24 0 #[]) (fun t38_44 w => keepS S (fun w =>
   opW Tryz.prog (Builtin.append_ #[24, 24] 24 #[t38_44, t40_33]) (fun t41_45 w => keepS S (fun w =>
   opW Tryz.prog (Instr.build 27 #[(0, t35_29), (1, t37_31), (2, t41_45)]) (fun t42_46 w => keepS S (fun w =>
   opU Tryz.prog (Instr.storeAt 27 out_43 t42_46) (fun _ w =>
   J_27 out_43 w) w) w) w) w) w) w) w) w) w)) w) w) w) w) w) w)))) w) w) w) w) w) w) w) w) w) w) w) w) w) w) w) w) w) w) w) w) w
theorem S28_vc (r_1 p_2 : Value) (k : Value → World → Prop) (w : World) : vc Tryz.prog Tryz.f28.ntmps ann28 none ((Tryz.f28.body).getD Code.skip) 1 (params 0 [r_1, p_2]) [] (finQ Tryz.prog Tryz.f28.results.toList k) w = S28 r_1 p_2 k w := by kernel_rfl
theorem S28_calls (r_1 p_2 : Value) (k : Value → World → Prop) (w : World) (h : S28 r_1 p_2 k w) : Calls Tryz.prog 28 #[r_1, p_2] w (retP k) :=
  calls_of_vc (fn := Tryz.f28) (c := (Tryz.f28.body).getD Code.skip) ann28 Tryz.func28 (by kernel_rfl) [r_1, p_2] w k (by kernel_rfl) ((S28_vc r_1 p_2 k w).symm ▸ h)
theorem C28 (r_1 p_2 : Value) (k : Value → World → Prop) (w : World) (h : S28 r_1 p_2 k w) : callW Tryz.prog (.func (.func 28) #[] #[]) #[r_1, p_2] k w :=
  callW_calls ok28 (by simpa using S28_calls r_1 p_2 k w h)

end
end Go.Proofs.YtklknkmeljjmgaaGreatDoor
