/- Part 2 of the proof of journalMatchesReference: lemmas for it; no condition beyond the statement. -/
import Derived.Test.YtbojglaimdjagaaGreatDoorMr0
import Derived.WideKeyPair
import Derived.Laws.IdiomStrings
import Derived.Laws.IdiomCopy
import Derived.Lib.SliceRun
import Derived.Test.YtbojglaimdjagaaGreatDoorRows
/- Appending to one's own slice: what was there is read as before. -/
set_option linter.unusedSimpArgs false
set_option linter.unusedVariables false
namespace Go.V
open Go Go.RowKit
theorem Mine.base {α : Type} {F : Fl α} {e : Nat} {w : World} {b b' : Nat} {v : Value} {l : List α} (h : Mine F e w b v l) (hb : b' ≤ b) : Mine F e w b' v l := by
  refine ⟨h.1, ?_⟩
  rcases h.2 with h' | ⟨g', cap, cur, h1, h2, h3⟩
  · exact .inl h'
  · exact .inr ⟨g', cap, cur, h1, Nat.le_trans hb h2, h3⟩
section
variable {P : Program} {w w' : World} {α : Type} {F : Fl α} {v u v' : Value} {l m : List α} {t e B ty : Nat}
theorem run_append_keep {size bytes : Nat} {z : Value} (h : STy P t e size bytes z) {n : Nat} {xs : List Value} (hown : w.ownsRow B e size v n xs)
    (a : Addr) (m c : Nat) (news : List Value) (hl : news.length = m * size) (hnews : ∀ j u, news[j]? = some u → w.cell? (a.add j) = some u) (h1 : ∀ u ∈ news, u.oneCell' = true)
    (h63 : n + m ≤ maxLen) (hbytes : (n + m) * bytes ≤ 140737488355328) (hbase : B ≤ w.heap.size)
    (hr : (Builtin.append_ #[t, t] ty #[v, .slice (some a) m c]).run P w = .ok v' w') {g cap : Nat} (hv : v = .slice (some ⟨g, 0, none⟩) n cap) :
    ∀ j x, xs[j]? = some x → w'.cell? ⟨g, j, none⟩ = some x := by
  obtain ⟨i, hi, hz, hs, hby⟩ := h.info
  obtain ⟨v2, w2, hr2, ho, _, _⟩ := run_append_own (P := P) w (ty := ty) B t e i z size bytes h.u hi hz hs hby h.zs h.pos v n xs hown a m c news hl hnews h1 h63 hbytes hbase
  rw [hr] at hr2
  simp only [Result.ok.injEq] at hr2
  obtain ⟨rfl, rfl⟩ := hr2
  intro j x hx
  have hm : maxLen ≤ 9223372036854775807 := by decide
  have hold := hown.cells (g := g) (by rw [hv]; rfl) j x hx
  rcases hown.2 with ⟨rfl, hn⟩ | ⟨g', cap', cur, rfl, hgb, hgg, hnc, hcm, hcs, htk⟩
  · cases hv
  · cases hv
    by_cases hroom : n + m ≤ cap
    · have := run_append_room (P := P) w t ty e i h.u hi g n cap cur hgg a m c news (by rw [hs]; exact hl) hnews h1 hroom (by rw [hs, hl, ← Nat.add_mul, hcs]; exact Nat.mul_le_mul_right _ hroom)
      rw [hr] at this
      simp only [Result.ok.injEq] at this
      have h2 := ho.cells (g := g) (by rw [this.1]; rfl) j x (by rw [List.getElem?_append_left (List.getElem?_eq_some_iff.1 hx).1]; exact hx)
      rw [add_none, Nat.zero_add] at h2; exact h2
    · have := run_append_grow (P := P) w t ty e i z h.u hi hz ⟨g, 0, none⟩ n cap xs (by rw [hown.1, hs]) (fun j y hy => hown.cells (g := g) rfl j y hy) a m c news (by rw [hs]; exact hl) hnews (by omega) (by omega) (growslice_fits (by omega) (by rw [hby]; exact hbytes))
      rw [hr] at this
      simp only [Result.ok.injEq] at this
      rw [add_none, Nat.zero_add] at hold
      rw [this.2, ← hold]
      have hlt := World.block_lt_of_cell? w ⟨g, j, none⟩ hold
      exact World.cell?_of_block (a := ⟨g, j, none⟩) (heap_alloc_old w.drew _ g hlt)
theorem Mine.readAfter (hown : Mine F e w B v l) (hc : ∀ g cap, v = .slice (some ⟨g, 0, none⟩) l.length cap → ∀ j x, (flat F l)[j]? = some x → w'.cell? ⟨g, j, none⟩ = some x) : IsSl F w' v l := by
  rcases hown.2 with ⟨rfl, hn⟩ | ⟨g, cap, cur, rfl, hb, hgg, hnc, _⟩
  · have : l = [] := List.eq_nil_of_length_eq_zero hn
    subst this; exact .nil w'
  · refine ⟨_, _, rfl, hnc, fun i x hi => ⟨g, 0, rfl, fun j u hu => ?_⟩⟩
    have := hc g cap rfl (i * F.sz + j) u (flat_get l i j x u hi hu)
    rw [show 0 + i * F.sz + j = i * F.sz + j by omega]; exact this
/-- one more element; what was there is read as before -/
theorem Mine.pushK {bytes : Nat} {z xv : Value} {x : α} {K : Value → World → Prop} (h : STy P t e F.sz bytes z) (hone : ∀ u ∈ F.e x, u.oneCell' = true) (hxc : xv.cells.toList = F.e x) (hsm : F.sz ≤ 16777216)
    (hown : Mine F e w B v l) (hB : B ≤ w.heap.size) (hl : l.length + 1 ≤ maxLen) (hbytes : (l.length + 1) * bytes ≤ 140737488355328)
    (hk : ∀ v' w', Mine F e w' B v' (l ++ [x]) → Below B w w' → Off (isOf v) w w' → (∀ b, isOf v' b → isOf v b ∨ w.heap.size ≤ b) → IsSl F w' v l → K v' w') :
    opW P (Instr.buildSlice t 1 #[(0, xv)]) (fun s w => opW P (Builtin.append_ #[t, t] ty #[v, s]) (fun r w => K r w) w) w := by
  have hcs : xv.cells.size = F.sz := by rw [← F.len x, ← hxc]; simp
  rw [w_one h hcs hsm]
  have hb1 : Below w.heap.size w (w.alloc (.cells xv.cells e (0, 0))) := (Below.refl _ _).alloc (Nat.le_refl _) _
  have ho1 := hown.below hb1
  have hnews : ∀ j u, (F.e x)[j]? = some u → (w.alloc (.cells xv.cells e (0, 0))).cell? ((⟨w.heap.size, 0, none⟩ : Addr).add j) = some u := fun j u hu => by
    rw [← hxc] at hu
    rw [add_none]
    simp only [World.cell?, World.alloc_heap_new]
    simpa using hu
  obtain ⟨v', w', hr, ho, hg, hnew, _⟩ := run_append_own2 (P := P) (ty := ty) h ho1 ⟨w.heap.size, 0, none⟩ 1 1 (F.e x) (by simp [F.len]) hnews hone hl hbytes (Nat.le_trans hB hb1.size)
  rw [opW_ok hr]
  refine hk v' w' ?_ ?_ ?_ ?_ ?_
  · unfold Mine
    rw [List.length_append, flat_append, flat_one]; exact ho
  · exact (hb1.mono hB).grown hg (Nat.le_trans hB hb1.size) fun b hb => (ho1.ge hb).1
  · exact (Off.below hb1).trans (Off.grown hg fun b hb => hb)
  · intro b hb
    rcases hnew b hb with h | h
    · exact .inl h
    · exact .inr (Nat.le_trans hb1.size h)
  · exact ho1.readAfter fun g cap hv => run_append_keep h ho1 ⟨w.heap.size, 0, none⟩ 1 1 (F.e x) (by simp [F.len]) hnews hone hl hbytes (Nat.le_trans hB hb1.size) hr hv
theorem IsSl.slicedTo {a : Option Addr} {c lo hi mx : Nat} (hs : IsSl F w (.slice a l.length c) l) (h1 : lo ≤ hi) (h2 : hi ≤ l.length) (h3 : hi ≤ mx) : IsSl F w (sliced a lo hi mx F.sz) ((l.drop lo).take (hi - lo)) := by
  obtain ⟨a', c', e, hc, hx⟩ := hs
  cases e
  have hlen : ((l.drop lo).take (hi - lo)).length = hi - lo := by rw [List.length_take, List.length_drop]; omega
  refine ⟨_, _, by rw [hlen]; rfl, by omega, fun i x hi' => ?_⟩
  have hlt := (List.getElem?_eq_some_iff.1 hi').1
  rw [hlen] at hlt
  have hget : l[lo + i]? = some x := by
    rw [List.getElem?_take] at hi'
    rw [if_pos hlt, List.getElem?_drop] at hi'
    exact hi'
  obtain ⟨b, o, rfl, hcl⟩ := hx _ _ hget
  refine ⟨b, o + lo * F.sz, by rw [if_neg (by omega)]; simp [Addr.add_lit], ?_⟩
  rw [Nat.add_assoc, ← Nat.add_mul]; exact hcl
theorem w_mid {k : Value → World → Prop} {q q' : IntKind} {x y : Int} {lo hi : Nat} (hx : x = lo) (hy : y = hi) (ht : P.underlying t = some (.slice (P.elem t))) (hkn : known P (P.elem t) = true) (hz : sizeT P (P.elem t) = F.sz) (hs : IsSl F w v l) (h1 : lo ≤ hi) (h2 : hi ≤ l.length)
    (hk : ∀ v', IsSl F w v' ((l.drop lo).take (hi - lo)) → k v' w) : opW P (Instr.sliceAt t v (some (.int q x)) (some (.int q' y)) none) k w := by
  subst hx; subst hy
  have hs0 := hs
  obtain ⟨a, c, rfl, hc, _⟩ := hs
  rw [opW_ok (show (Instr.sliceAt t (.slice a l.length c) (some (.int q lo)) (some (.int q' hi)) none).run P w = .ok (sliced a lo hi c (sizeT P (P.elem t))) w by
    rw [run_sliceAt_slice _ _ _ _ _ _ ht, run_slice_lh w t _ _ c ht q q' lo hi (by omega) (by omega) (by omega), run_sizeOf hkn]
    simp [Result.andThen])]
  rw [hz]
  exact hk _ (hs0.slicedTo h1 h2 (by omega))
theorem w_from {k : Value → World → Prop} {q : IntKind} {x : Int} {lo : Nat} (hx : x = lo) (ht : P.underlying t = some (.slice (P.elem t))) (hkn : known P (P.elem t) = true) (hz : sizeT P (P.elem t) = F.sz) (hs : IsSl F w v l) (h1 : lo ≤ l.length)
    (hk : ∀ v', IsSl F w v' (l.drop lo) → k v' w) : opW P (Instr.sliceAt t v (some (.int q x)) none none) k w := by
  subst hx
  have hs0 := hs
  obtain ⟨a, c, rfl, hc, _⟩ := hs
  rw [opW_ok (show (Instr.sliceAt t (.slice a l.length c) (some (.int q lo)) none none).run P w = .ok (sliced a lo l.length c (sizeT P (P.elem t))) w by
    rw [run_sliceAt_slice _ _ _ _ _ _ ht, run_slice_l w t _ _ c ht q lo (by omega) (by omega), run_sizeOf hkn]
    simp [Result.andThen])]
  rw [hz]
  have := hs0.slicedTo h1 (Nat.le_refl _) (mx := c) hc
  rw [List.take_of_length_le (by simp)] at this
  exact hk _ this
end
end Go.V
/- Laws of whatever program, gathered. -/
set_option linter.unusedSimpArgs false
set_option linter.unusedVariables false
namespace Go.V
open Go Go.RowKit
def fB : Fl UInt8 := ⟨1, fun b => [.int .u8 b.toNat], fun _ => rfl⟩
def bV (x : UInt8) : Value := .int .u8 x.toNat
theorem wrap8 (n : Int) : IntKind.u8.wrap n = n % 256 := by simp [IntKind.wrap, IntKind.signed, IntKind.bits]
def bI (x : Int) : UInt8 := UInt8.ofNat (x % 256).toNat
theorem conv_bI {x : Int} : Value.int .u8 (IntKind.u8.wrap x) = bV (bI x) := by
  unfold bV bI
  rw [wrap8, UInt8.toNat_ofNat', Nat.mod_eq_of_lt (by omega)]
  congr 1; omega
section
variable {P : Program} {k : Value → World → Prop} {w w0 : World} {α : Type} {F : Fl α} {t e ty : Nat}
end
section
theorem w_indexStr {P : Program} {k : Value → World → Prop} {w : World} {t : TypeId} {s : ByteArray} {q : IntKind} {i : Int} {b : UInt8} (h : P.underlying t = some .string) (h0 : 0 ≤ i) (hb : s[i.toNat]? = some b) : opW P (Instr.index t (.string s) (.int q i)) k w = k (.int .u8 b.toNat) w :=
  opW_ok (by simp [Instr.index, Sem.run_bind, Result.andThen, run_underlying h, asIntOf, h0, hb])
end
section
end
section
end
section
end
section
section
variable {P : Program} {k : Value → World → Prop} {K : Value → Prop} {S : World → Prop} {w w0 : World} {t e ft : TypeId} {b n : Nat} {q : IntKind} {i : Nat} {u : Value} {ox oy : Operand}
theorem t_addStr {x y : ByteArray} (h : x.size + y.size ≤ 9223372036854775807) : takeW P S (binS .add t ox oy (.string x) (.string y)) K w = K (.string (x ++ y)) := takeW_pure fun w => run_of_eq fun k => w_addStr h
theorem t_sliceStr {s : ByteArray} {q q' : IntKind} {i j : Int} (h : P.underlying t = some .string) (h0 : 0 ≤ i) (h1 : i ≤ j) (h2 : j ≤ s.size) : takeW P S (Instr.sliceAt t (.string s) (some (.int q i)) (some (.int q' j)) none) K w = K (.string (s.extract i.toNat j.toNat)) := takeW_pure fun w => run_of_eq fun k => w_sliceStr h h0 h1 h2
end
end
section
section
variable {P : Program} {k : Value → World → Prop} {w : World} {t e d : TypeId}
end
end
section
end
section
end
section
section
variable {P : Program} {k : Value → World → Prop} {K : Value → Prop} {w w0 : World} {α : Type} {F : Fl α} {v u : Value} {l : List α} {t at' e ft : TypeId} {n : Nat} {q q' : IntKind} {i j : Nat} {m : Int} {a : α}
end
end
section
end
section
end
section
theorem w_headX {P : Program} {k : Value → World → Prop} {w : World} {t : TypeId} {α : Type} {F : Fl α} {v : Value} {l : List α} {q : IntKind} {x : Int} {m : Nat} (hx : x = m) (ht : P.underlying t = some (.slice (P.elem t))) (hkn : known P (P.elem t) = true) (hz : sizeT P (P.elem t) = F.sz) (hs : IsSl F w v l) (hm : m ≤ l.length)
    (hk : ∀ v', (∀ w1, IsSl F w1 v l → IsSl F w1 v' (l.take m)) → k v' w) : opW P (Instr.sliceAt t v none (some (.int q x)) none) k w := by
  subst hx
  obtain ⟨a, c, rfl, hc, _⟩ := hs
  rw [opW_ok (show (Instr.sliceAt t (.slice a l.length c) none (some (.int q m)) none).run P w = .ok (sliced a 0 m c (sizeT P (P.elem t))) w by
    rw [run_sliceAt_slice _ _ _ _ _ _ ht, run_slice_h w t _ _ c ht q m (by omega) (by omega), run_sizeOf hkn]
    simp [Result.andThen])]
  rw [hz]
  exact hk _ fun w1 h1 => by simpa using h1.slicedTo (lo := 0) (hi := m) (mx := c) (by omega) hm (by omega)
end
section
variable {P : Program} {k : Value → World → Prop} {w : World} {t d e : TypeId}
theorem w_toStr {v : Value} {l : List UInt8} (hs : P.underlying t = some (.slice e)) (he : P.underlying e = some (.int .u8)) (hd : P.underlying d = some .string) (hv : IsSl fB w v l) (hne : l ≠ []) : opW P (convert t d v) k w = k (.string ⟨l.toArray⟩) w := by
  obtain ⟨a, c, rfl, hc, hx⟩ := hv
  cases a with
  | none =>
    obtain ⟨x, r, rfl⟩ := List.exists_cons_of_ne_nil hne
    obtain ⟨b, o, h, _⟩ := hx 0 x rfl
    cases h
  | some ad =>
    refine opW_ok (run_convert_bytes_back w t d e ad c l hs he hd fun j hj => ?_)
    obtain ⟨b, o, h, hcl⟩ := hx j _ (List.getElem?_eq_getElem hj)
    cases h
    have := hcl 0 _ rfl
    rw [add_none]
    simpa [fB] using this
end
theorem slAlloc {α : Type} {F : Fl α} {e : Nat} {l : List α} {w : World} {cs : Array Value} (h : cs.toList = flat F l) (hl : l.length ≤ maxLen) : Mine F e (w.alloc (.cells cs e (0, 0))) w.heap.size (.slice (some ⟨w.heap.size, 0, none⟩) l.length l.length) l := by
  have hsz : cs.size = l.length * F.sz := by rw [← flat_length, ← h]; simp
  exact ⟨flat_length l, .inr ⟨w.heap.size, l.length, cs, rfl, Nat.le_refl _, World.alloc_heap_new _ _, Nat.le_refl _, hl, hsz, by rw [← flat_length l, ← h]; exact List.take_length⟩⟩
theorem w_parts {P : Program} {k : Value → World → Prop} {w : World} {t e n bytes : Nat} {z : Value} {α : Type} {F : Fl α} {l : List α} {cs : Array Value} {parts : Array (Nat × Value)} (h : STy P t e F.sz bytes z) (hn : l.length = n) (h0 : 0 < n) (hsm : n * F.sz ≤ 16777216)
    (hf : Instr.fill (fun i => some (i * F.sz, F.sz)) ((Array.range (n * F.sz)).map (z.cells[· % z.cells.size]!)) parts.toList = some cs) (hc : cs.toList = flat F l)
    (hk : ∀ w', Below w.heap.size w w' → w'.heap.size = w.heap.size + 1 → Mine F e w' w.heap.size (.slice (some ⟨w.heap.size, 0, none⟩) n n) l → k (.slice (some ⟨w.heap.size, 0, none⟩) n n) w') : opW P (Instr.buildSlice t n parts) k w := by
  obtain ⟨i, hi, hz, hs, hby⟩ := h.info
  have hpos := h.pos
  rw [opW_ok (run_buildSlice (P := P) w t e n parts cs i z h.u hi hz (by rw [hs]; omega) (by rw [hs]; have := Nat.mul_pos h0 hpos; omega) (by rw [hs]; exact hf))]
  have hm := slAlloc (F := F) (e := e) (w := w) hc (by unfold maxLen; have := Nat.mul_le_mul (Nat.le_refl n) (show 1 ≤ F.sz by omega); omega)
  rw [hn] at hm
  exact hk _ ((Below.refl _ _).alloc (Nat.le_refl _) _) (by simp) hm
theorem setCells_eq (b : Nat) : ∀ (vs : List Value) (o : Nat) (w : World), w.setCells b o vs = setCells w b o vs
  | [], _, _ => rfl
  | v :: r, o, w => by rw [World.setCells, setCells_eq b r, setCells]
theorem row_store {w : World} {b t : Nat} {vs old : List Value} (hr : RowAt w b t old) (hl : vs.length = old.length) : RowAt (setCells w b 0 vs) b t vs := by
  have := rowAt_setMid vs [] old [] w (by simpa using hr) hl
  simpa using this
theorem below_setCells {B b : Nat} (h : B ≤ b) : ∀ (vs : List Value) (o : Nat) (w : World), Below B w (setCells w b o vs)
  | [], _, w => Below.refl _ _
  | v :: r, o, w => ((Below.refl B w).setCell (p := ⟨b, o, none⟩) h v).trans (below_setCells h r (o + 1) _)
theorem rowCells {w : World} {b t n : Nat} {vs : List Value} (hr : RowAt w b t vs) (hl : vs.length = n) : ∀ j, j < n → ∃ old, w.cell? ⟨b, 0 + j, none⟩ = some old := fun j hj => ⟨_, hr.cells _ _ (List.getElem?_eq_getElem (by omega))⟩
theorem below_drew (w : World) : Below w.heap.size w w.drew := (Below.refl _ w).drew
end Go.V
/- Clearing a slice's tail; bits of small numbers. -/
set_option linter.unusedSimpArgs false
set_option linter.unusedVariables false
namespace Go.V
open Go Go.RowKit
theorem run_zeroOf {P : Program} {t e : TypeId} {size bytes : Nat} {z : Value} (h : STy P t e size bytes z) (w : World) : (zeroValue e).run P w = .ok z w := by
  obtain ⟨i, hi, hz, hs, hby⟩ := h.info
  simp [zeroValue, run_typeInfo hi, hz, Sem.run_bind, Result.andThen]
theorem ofInt_small (n : Nat) : BitVec.ofInt 64 (n : Int) = BitVec.ofNat 64 n := BitVec.ofInt_natCast 64 n
section
variable {P : Program} {k : Value → World → Prop} {K : Value → Prop} {S : World → Prop} {w : World} {t : TypeId} {ox oy : Operand}
theorem shr_nat (n r : Nat) : (n : Int).fdiv (2 ^ r) = ((n / 2 ^ r : Nat) : Int) := by
  rw [Int.fdiv_eq_ediv_of_nonneg _ (by exact_mod_cast Nat.zero_le (2 ^ r))]
  exact_mod_cast rfl
end

section
variable {P : Program} {k : Value → World → Prop} {K : Value → Prop} {S : World → Prop} {w : World} {t : TypeId} {ox oy : Operand}
end
end Go.V
namespace Go.V
open Go Go.RowKit
end Go.V
namespace Go.V
open Go Go.RowKit
end Go.V
/- The laws of single operations at this program's types, printed by program. -/
set_option linter.unusedVariables false
namespace Go.Proofs.YtbojglaimdjagaaGreatDoor
open Go Go.V Go.RowKit
section
variable {k : Value → World → Prop} {w : World} {S : World → Prop} {K : Value → Prop}
theorem hz193 : hasZero Tryz.prog 193 = true := by kernel_rfl
theorem zc193 : (zeroT Tryz.prog 193).cells.toList = [(Value.int IntKind.u32 0), (Value.int IntKind.u32 0), (Value.int IntKind.u32 0), (Value.int IntKind.u32 0), (Value.int IntKind.u32 0), (Value.int IntKind.u32 0), (Value.int IntKind.u32 0), (Value.int IntKind.u32 0)] := by kernel_rfl
theorem al193 (hk : ∀ w', Below w.heap.size w w' → w'.heap.size = w.heap.size + 1 → RowAt w' w.heap.size 193 [(Value.int IntKind.u32 0), (Value.int IntKind.u32 0), (Value.int IntKind.u32 0), (Value.int IntKind.u32 0), (Value.int IntKind.u32 0), (Value.int IntKind.u32 0), (Value.int IntKind.u32 0), (Value.int IntKind.u32 0)] → k (.pointer (some ⟨w.heap.size, 0, none⟩)) w') : opW Tryz.prog (Instr.alloc 193 true (.tuple #[])) k w := w_allocN hz193 (by rw [zc193]; exact hk)
theorem hz214 : hasZero Tryz.prog 214 = true := by kernel_rfl
theorem zc214 : (zeroT Tryz.prog 214).cells.toList = [(Value.int IntKind.u32 0), (Value.int IntKind.u32 0), (Value.int IntKind.u32 0), (Value.int IntKind.u32 0), (Value.int IntKind.u32 0), (Value.int IntKind.u32 0), (Value.int IntKind.u32 0), (Value.int IntKind.u32 0), (Value.int IntKind.u32 0), (Value.int IntKind.u32 0), (Value.int IntKind.u32 0), (Value.int IntKind.u32 0), (Value.int IntKind.u32 0), (Value.int IntKind.u32 0), (Value.int IntKind.u32 0), (Value.int IntKind.u32 0), (Value.int IntKind.u32 0), (Value.int IntKind.u32 0), (Value.int IntKind.u32 0), (Value.int IntKind.u32 0), (Value.int IntKind.u32 0), (Value.int IntKind.u32 0), (Value.int IntKind.u32 0), (Value.int IntKind.u32 0), (Value.int IntKind.u32 0), (Value.int IntKind.u32 0), (Value.int IntKind.u32 0), (Value.int IntKind.u32 0), (Value.int IntKind.u32 0), (Value.int IntKind.u32 0), (Value.int IntKind.u32 0), (Value.int IntKind.u32 0), (Value.int IntKind.u32 0), (Value.int IntKind.u32 0), (Value.int IntKind.u32 0), (Value.int IntKind.u32 0), (Value.int IntKind.u32 0), (Value.int IntKind.u32 0), (Value.int IntKind.u32 0), (Value.int IntKind.u32 0), (Value.int IntKind.u32 0), (Value.int IntKind.u32 0), (Value.int IntKind.u32 0), (Value.int IntKind.u32 0), (Value.int IntKind.u32 0), (Value.int IntKind.u32 0), (Value.int IntKind.u32 0), (Value.int IntKind.u32 0), (Value.int IntKind.u32 0), (Value.int IntKind.u32 0), (Value.int IntKind.u32 0), (Value.int IntKind.u32 0), (Value.int IntKind.u32 0), (Value.int IntKind.u32 0), (Value.int IntKind.u32 0), (Value.int IntKind.u32 0), (Value.int IntKind.u32 0), (Value.int IntKind.u32 0), (Value.int IntKind.u32 0), (Value.int IntKind.u32 0), (Value.int IntKind.u32 0), (Value.int IntKind.u32 0), (Value.int IntKind.u32 0), (Value.int IntKind.u32 0)] := by kernel_rfl
theorem al214 (hk : ∀ w', Below w.heap.size w w' → w'.heap.size = w.heap.size + 1 → RowAt w' w.heap.size 214 [(Value.int IntKind.u32 0), (Value.int IntKind.u32 0), (Value.int IntKind.u32 0), (Value.int IntKind.u32 0), (Value.int IntKind.u32 0), (Value.int IntKind.u32 0), (Value.int IntKind.u32 0), (Value.int IntKind.u32 0), (Value.int IntKind.u32 0), (Value.int IntKind.u32 0), (Value.int IntKind.u32 0), (Value.int IntKind.u32 0), (Value.int IntKind.u32 0), (Value.int IntKind.u32 0), (Value.int IntKind.u32 0), (Value.int IntKind.u32 0), (Value.int IntKind.u32 0), (Value.int IntKind.u32 0), (Value.int IntKind.u32 0), (Value.int IntKind.u32 0), (Value.int IntKind.u32 0), (Value.int IntKind.u32 0), (Value.int IntKind.u32 0), (Value.int IntKind.u32 0), (Value.int IntKind.u32 0), (Value.int IntKind.u32 0), (Value.int IntKind.u32 0), (Value.int IntKind.u32 0), (Value.int IntKind.u32 0), (Value.int IntKind.u32 0), (Value.int IntKind.u32 0), (Value.int IntKind.u32 0), (Value.int IntKind.u32 0), (Value.int IntKind.u32 0), (Value.int IntKind.u32 0), (Value.int IntKind.u32 0), (Value.int IntKind.u32 0), (Value.int IntKind.u32 0), (Value.int IntKind.u32 0), (Value.int IntKind.u32 0), (Value.int IntKind.u32 0), (Value.int IntKind.u32 0), (Value.int IntKind.u32 0), (Value.int IntKind.u32 0), (Value.int IntKind.u32 0), (Value.int IntKind.u32 0), (Value.int IntKind.u32 0), (Value.int IntKind.u32 0), (Value.int IntKind.u32 0), (Value.int IntKind.u32 0), (Value.int IntKind.u32 0), (Value.int IntKind.u32 0), (Value.int IntKind.u32 0), (Value.int IntKind.u32 0), (Value.int IntKind.u32 0), (Value.int IntKind.u32 0), (Value.int IntKind.u32 0), (Value.int IntKind.u32 0), (Value.int IntKind.u32 0), (Value.int IntKind.u32 0), (Value.int IntKind.u32 0), (Value.int IntKind.u32 0), (Value.int IntKind.u32 0), (Value.int IntKind.u32 0)] → k (.pointer (some ⟨w.heap.size, 0, none⟩)) w') : opW Tryz.prog (Instr.alloc 214 true (.tuple #[])) k w := w_allocN hz214 (by rw [zc214]; exact hk)
theorem hz217 : hasZero Tryz.prog 217 = true := by kernel_rfl
theorem zc217 : (zeroT Tryz.prog 217).cells.toList = [(Value.int IntKind.u8 0), (Value.int IntKind.u8 0), (Value.int IntKind.u8 0), (Value.int IntKind.u8 0), (Value.int IntKind.u8 0), (Value.int IntKind.u8 0), (Value.int IntKind.u8 0), (Value.int IntKind.u8 0), (Value.int IntKind.u8 0), (Value.int IntKind.u8 0), (Value.int IntKind.u8 0), (Value.int IntKind.u8 0), (Value.int IntKind.u8 0), (Value.int IntKind.u8 0), (Value.int IntKind.u8 0), (Value.int IntKind.u8 0), (Value.int IntKind.u8 0), (Value.int IntKind.u8 0), (Value.int IntKind.u8 0), (Value.int IntKind.u8 0), (Value.int IntKind.u8 0), (Value.int IntKind.u8 0), (Value.int IntKind.u8 0), (Value.int IntKind.u8 0), (Value.int IntKind.u8 0), (Value.int IntKind.u8 0), (Value.int IntKind.u8 0), (Value.int IntKind.u8 0), (Value.int IntKind.u8 0), (Value.int IntKind.u8 0), (Value.int IntKind.u8 0), (Value.int IntKind.u8 0)] := by kernel_rfl
theorem al217 (hk : ∀ w', Below w.heap.size w w' → w'.heap.size = w.heap.size + 1 → RowAt w' w.heap.size 217 [(Value.int IntKind.u8 0), (Value.int IntKind.u8 0), (Value.int IntKind.u8 0), (Value.int IntKind.u8 0), (Value.int IntKind.u8 0), (Value.int IntKind.u8 0), (Value.int IntKind.u8 0), (Value.int IntKind.u8 0), (Value.int IntKind.u8 0), (Value.int IntKind.u8 0), (Value.int IntKind.u8 0), (Value.int IntKind.u8 0), (Value.int IntKind.u8 0), (Value.int IntKind.u8 0), (Value.int IntKind.u8 0), (Value.int IntKind.u8 0), (Value.int IntKind.u8 0), (Value.int IntKind.u8 0), (Value.int IntKind.u8 0), (Value.int IntKind.u8 0), (Value.int IntKind.u8 0), (Value.int IntKind.u8 0), (Value.int IntKind.u8 0), (Value.int IntKind.u8 0), (Value.int IntKind.u8 0), (Value.int IntKind.u8 0), (Value.int IntKind.u8 0), (Value.int IntKind.u8 0), (Value.int IntKind.u8 0), (Value.int IntKind.u8 0), (Value.int IntKind.u8 0), (Value.int IntKind.u8 0)] → k (.pointer (some ⟨w.heap.size, 0, none⟩)) w') : opW Tryz.prog (Instr.alloc 217 true (.tuple #[])) k w := w_allocN hz217 (by rw [zc217]; exact hk)
theorem hz39 : hasZero Tryz.prog 39 = true := by kernel_rfl
theorem zc39 : (zeroT Tryz.prog 39).cells.toList = [(Value.slice none 0 0)] := by kernel_rfl
theorem al39 (hk : ∀ w', Below w.heap.size w w' → w'.heap.size = w.heap.size + 1 → RowAt w' w.heap.size 39 [(Value.slice none 0 0)] → k (.pointer (some ⟨w.heap.size, 0, none⟩)) w') : opW Tryz.prog (Instr.alloc 39 true (.tuple #[])) k w := w_allocN hz39 (by rw [zc39]; exact hk)
theorem hz72 : hasZero Tryz.prog 72 = true := by kernel_rfl
theorem zc72 : (zeroT Tryz.prog 72).cells.toList = [(Value.slice none 0 0), (Value.string ⟨#[]⟩), (Value.int IntKind.i64 0)] := by kernel_rfl
theorem al72 (hk : ∀ w', Below w.heap.size w w' → w'.heap.size = w.heap.size + 1 → RowAt w' w.heap.size 72 [(Value.slice none 0 0), (Value.string ⟨#[]⟩), (Value.int IntKind.i64 0)] → k (.pointer (some ⟨w.heap.size, 0, none⟩)) w') : opW Tryz.prog (Instr.alloc 72 true (.tuple #[])) k w := w_allocN hz72 (by rw [zc72]; exact hk)
theorem hz78 : hasZero Tryz.prog 78 = true := by kernel_rfl
theorem zc78 : (zeroT Tryz.prog 78).cells.toList = [(Value.pointer none), (Value.slice none 0 0)] := by kernel_rfl
theorem al78 (hk : ∀ w', Below w.heap.size w w' → w'.heap.size = w.heap.size + 1 → RowAt w' w.heap.size 78 [(Value.pointer none), (Value.slice none 0 0)] → k (.pointer (some ⟨w.heap.size, 0, none⟩)) w') : opW Tryz.prog (Instr.alloc 78 true (.tuple #[])) k w := w_allocN hz78 (by rw [zc78]; exact hk)
theorem hz92 : hasZero Tryz.prog 92 = true := by kernel_rfl
theorem zc92 : (zeroT Tryz.prog 92).cells.toList = [(Value.int IntKind.i64 0), (Value.string ⟨#[]⟩)] := by kernel_rfl
theorem al92 (hk : ∀ w', Below w.heap.size w w' → w'.heap.size = w.heap.size + 1 → RowAt w' w.heap.size 92 [(Value.int IntKind.i64 0), (Value.string ⟨#[]⟩)] → k (.pointer (some ⟨w.heap.size, 0, none⟩)) w') : opW Tryz.prog (Instr.alloc 92 true (.tuple #[])) k w := w_allocN hz92 (by rw [zc92]; exact hk)
theorem sty110 : STy Tryz.prog 110 109 1 4 (Value.int IntKind.u32 0) := ⟨by kernel_rfl, by kernel_rfl, by kernel_rfl, by decide⟩
theorem sty127 : STy Tryz.prog 127 85 1 8 Value.nilFunc := ⟨by kernel_rfl, by kernel_rfl, by kernel_rfl, by decide⟩
theorem sty22 : STy Tryz.prog 22 9 1 16 (Value.string ⟨#[]⟩) := ⟨by kernel_rfl, by kernel_rfl, by kernel_rfl, by decide⟩
theorem sty39 : STy Tryz.prog 39 5 1 1 (Value.int IntKind.u8 0) := ⟨by kernel_rfl, by kernel_rfl, by kernel_rfl, by decide⟩
theorem sty56 : STy Tryz.prog 56 3 1 8 (Value.int IntKind.i64 0) := ⟨by kernel_rfl, by kernel_rfl, by kernel_rfl, by decide⟩
theorem sty65 : STy Tryz.prog 65 100 2 24 (Value.agg #[(Value.int IntKind.i64 0), (Value.string ⟨#[]⟩)]) := ⟨by kernel_rfl, by kernel_rfl, by kernel_rfl, by decide⟩
theorem sty93 : STy Tryz.prog 93 92 2 24 (Value.agg #[(Value.int IntKind.i64 0), (Value.string ⟨#[]⟩)]) := ⟨by kernel_rfl, by kernel_rfl, by kernel_rfl, by decide⟩
theorem fo32_0 : fieldOff Tryz.prog 32 0 = some 0 := by kernel_rfl
theorem tfl32_0 {b o : Nat} : takeW Tryz.prog S (Instr.fieldAt 32 (.pointer (some ⟨b, o, none⟩)) 0) K w = K (.pointer (some ⟨b, o, none⟩)) := t_field fo32_0
theorem fo32_1 : fieldOff Tryz.prog 32 1 = some 1 := by kernel_rfl
theorem fl32_1 {b o : Nat} : opW Tryz.prog (Instr.fieldAt 32 (.pointer (some ⟨b, o, none⟩)) 1) k w = k (.pointer (some ⟨b, o + 1, none⟩)) w := w_field fo32_1
theorem tfl32_1 {b o : Nat} : takeW Tryz.prog S (Instr.fieldAt 32 (.pointer (some ⟨b, o, none⟩)) 1) K w = K (.pointer (some ⟨b, o + 1, none⟩)) := t_field fo32_1
theorem fo32_2 : fieldOff Tryz.prog 32 2 = some 2 := by kernel_rfl
theorem tfl32_2 {b o : Nat} : takeW Tryz.prog S (Instr.fieldAt 32 (.pointer (some ⟨b, o, none⟩)) 2) K w = K (.pointer (some ⟨b, o + 2, none⟩)) := t_field fo32_2
theorem fo32_3 : fieldOff Tryz.prog 32 3 = some 3 := by kernel_rfl
theorem fl32_3 {b o : Nat} : opW Tryz.prog (Instr.fieldAt 32 (.pointer (some ⟨b, o, none⟩)) 3) k w = k (.pointer (some ⟨b, o + 3, none⟩)) w := w_field fo32_3
theorem tfl32_3 {b o : Nat} : takeW Tryz.prog S (Instr.fieldAt 32 (.pointer (some ⟨b, o, none⟩)) 3) K w = K (.pointer (some ⟨b, o + 3, none⟩)) := t_field fo32_3
theorem fo43_1 : fieldOff Tryz.prog 43 1 = some 1 := by kernel_rfl
theorem fl43_1 {b o : Nat} : opW Tryz.prog (Instr.fieldAt 43 (.pointer (some ⟨b, o, none⟩)) 1) k w = k (.pointer (some ⟨b, o + 1, none⟩)) w := w_field fo43_1
theorem tfl43_1 {b o : Nat} : takeW Tryz.prog S (Instr.fieldAt 43 (.pointer (some ⟨b, o, none⟩)) 1) K w = K (.pointer (some ⟨b, o + 1, none⟩)) := t_field fo43_1
theorem fo43_2 : fieldOff Tryz.prog 43 2 = some 2 := by kernel_rfl
theorem fl43_2 {b o : Nat} : opW Tryz.prog (Instr.fieldAt 43 (.pointer (some ⟨b, o, none⟩)) 2) k w = k (.pointer (some ⟨b, o + 2, none⟩)) w := w_field fo43_2
theorem tfl43_2 {b o : Nat} : takeW Tryz.prog S (Instr.fieldAt 43 (.pointer (some ⟨b, o, none⟩)) 2) K w = K (.pointer (some ⟨b, o + 2, none⟩)) := t_field fo43_2
theorem fo43_3 : fieldOff Tryz.prog 43 3 = some 3 := by kernel_rfl
theorem fl43_3 {b o : Nat} : opW Tryz.prog (Instr.fieldAt 43 (.pointer (some ⟨b, o, none⟩)) 3) k w = k (.pointer (some ⟨b, o + 3, none⟩)) w := w_field fo43_3
theorem fo62_0 : fieldOff Tryz.prog 62 0 = some 0 := by kernel_rfl
theorem fl62_0 {b o : Nat} : opW Tryz.prog (Instr.fieldAt 62 (.pointer (some ⟨b, o, none⟩)) 0) k w = k (.pointer (some ⟨b, o, none⟩)) w := w_field fo62_0
theorem fo62_1 : fieldOff Tryz.prog 62 1 = some 1 := by kernel_rfl
theorem tfl62_1 {b o : Nat} : takeW Tryz.prog S (Instr.fieldAt 62 (.pointer (some ⟨b, o, none⟩)) 1) K w = K (.pointer (some ⟨b, o + 1, none⟩)) := t_field fo62_1
theorem fo62_2 : fieldOff Tryz.prog 62 2 = some 2 := by kernel_rfl
theorem tfl62_2 {b o : Nat} : takeW Tryz.prog S (Instr.fieldAt 62 (.pointer (some ⟨b, o, none⟩)) 2) K w = K (.pointer (some ⟨b, o + 2, none⟩)) := t_field fo62_2
theorem fo62_3 : fieldOff Tryz.prog 62 3 = some 3 := by kernel_rfl
theorem fl62_3 {b o : Nat} : opW Tryz.prog (Instr.fieldAt 62 (.pointer (some ⟨b, o, none⟩)) 3) k w = k (.pointer (some ⟨b, o + 3, none⟩)) w := w_field fo62_3
theorem fo67_0 : fieldOff Tryz.prog 67 0 = some 0 := by kernel_rfl
theorem fl67_0 {b o : Nat} : opW Tryz.prog (Instr.fieldAt 67 (.pointer (some ⟨b, o, none⟩)) 0) k w = k (.pointer (some ⟨b, o, none⟩)) w := w_field fo67_0
theorem fo67_1 : fieldOff Tryz.prog 67 1 = some 1 := by kernel_rfl
theorem fl67_1 {b o : Nat} : opW Tryz.prog (Instr.fieldAt 67 (.pointer (some ⟨b, o, none⟩)) 1) k w = k (.pointer (some ⟨b, o + 1, none⟩)) w := w_field fo67_1
theorem tfl67_1 {b o : Nat} : takeW Tryz.prog S (Instr.fieldAt 67 (.pointer (some ⟨b, o, none⟩)) 1) K w = K (.pointer (some ⟨b, o + 1, none⟩)) := t_field fo67_1
theorem fo67_2 : fieldOff Tryz.prog 67 2 = some 2 := by kernel_rfl
theorem fl67_2 {b o : Nat} : opW Tryz.prog (Instr.fieldAt 67 (.pointer (some ⟨b, o, none⟩)) 2) k w = k (.pointer (some ⟨b, o + 2, none⟩)) w := w_field fo67_2
theorem tfl67_2 {b o : Nat} : takeW Tryz.prog S (Instr.fieldAt 67 (.pointer (some ⟨b, o, none⟩)) 2) K w = K (.pointer (some ⟨b, o + 2, none⟩)) := t_field fo67_2
theorem fo67_3 : fieldOff Tryz.prog 67 3 = some 3 := by kernel_rfl
theorem fl67_3 {b o : Nat} : opW Tryz.prog (Instr.fieldAt 67 (.pointer (some ⟨b, o, none⟩)) 3) k w = k (.pointer (some ⟨b, o + 3, none⟩)) w := w_field fo67_3
theorem fo72_0 : fieldOff Tryz.prog 72 0 = some 0 := by kernel_rfl
theorem fl72_0 {b o : Nat} : opW Tryz.prog (Instr.fieldAt 72 (.pointer (some ⟨b, o, none⟩)) 0) k w = k (.pointer (some ⟨b, o, none⟩)) w := w_field fo72_0
theorem fo72_1 : fieldOff Tryz.prog 72 1 = some 1 := by kernel_rfl
theorem fl72_1 {b o : Nat} : opW Tryz.prog (Instr.fieldAt 72 (.pointer (some ⟨b, o, none⟩)) 1) k w = k (.pointer (some ⟨b, o + 1, none⟩)) w := w_field fo72_1
theorem tfl72_1 {b o : Nat} : takeW Tryz.prog S (Instr.fieldAt 72 (.pointer (some ⟨b, o, none⟩)) 1) K w = K (.pointer (some ⟨b, o + 1, none⟩)) := t_field fo72_1
theorem fo72_2 : fieldOff Tryz.prog 72 2 = some 2 := by kernel_rfl
theorem fl72_2 {b o : Nat} : opW Tryz.prog (Instr.fieldAt 72 (.pointer (some ⟨b, o, none⟩)) 2) k w = k (.pointer (some ⟨b, o + 2, none⟩)) w := w_field fo72_2
theorem tfl72_2 {b o : Nat} : takeW Tryz.prog S (Instr.fieldAt 72 (.pointer (some ⟨b, o, none⟩)) 2) K w = K (.pointer (some ⟨b, o + 2, none⟩)) := t_field fo72_2
theorem fo74_0 : fieldOff Tryz.prog 74 0 = some 0 := by kernel_rfl
theorem fl74_0 {b o : Nat} : opW Tryz.prog (Instr.fieldAt 74 (.pointer (some ⟨b, o, none⟩)) 0) k w = k (.pointer (some ⟨b, o, none⟩)) w := w_field fo74_0
theorem tfl74_0 {b o : Nat} : takeW Tryz.prog S (Instr.fieldAt 74 (.pointer (some ⟨b, o, none⟩)) 0) K w = K (.pointer (some ⟨b, o, none⟩)) := t_field fo74_0
theorem fo74_1 : fieldOff Tryz.prog 74 1 = some 3 := by kernel_rfl
theorem tfl74_1 {b o : Nat} : takeW Tryz.prog S (Instr.fieldAt 74 (.pointer (some ⟨b, o, none⟩)) 1) K w = K (.pointer (some ⟨b, o + 3, none⟩)) := t_field fo74_1
theorem fo74_2 : fieldOff Tryz.prog 74 2 = some 4 := by kernel_rfl
theorem fl74_2 {b o : Nat} : opW Tryz.prog (Instr.fieldAt 74 (.pointer (some ⟨b, o, none⟩)) 2) k w = k (.pointer (some ⟨b, o + 4, none⟩)) w := w_field fo74_2
theorem fo92_1 : fieldOff Tryz.prog 92 1 = some 1 := by kernel_rfl
theorem fl92_1 {b o : Nat} : opW Tryz.prog (Instr.fieldAt 92 (.pointer (some ⟨b, o, none⟩)) 1) k w = k (.pointer (some ⟨b, o + 1, none⟩)) w := w_field fo92_1
theorem fo95_0 : fieldOff Tryz.prog 95 0 = some 0 := by kernel_rfl
theorem fl95_0 {b o : Nat} : opW Tryz.prog (Instr.fieldAt 95 (.pointer (some ⟨b, o, none⟩)) 0) k w = k (.pointer (some ⟨b, o, none⟩)) w := w_field fo95_0
theorem fo95_1 : fieldOff Tryz.prog 95 1 = some 1 := by kernel_rfl
theorem fl95_1 {b o : Nat} : opW Tryz.prog (Instr.fieldAt 95 (.pointer (some ⟨b, o, none⟩)) 1) k w = k (.pointer (some ⟨b, o + 1, none⟩)) w := w_field fo95_1
theorem fo97_0 : fieldOff Tryz.prog 97 0 = some 0 := by kernel_rfl
theorem fl97_0 {b o : Nat} : opW Tryz.prog (Instr.fieldAt 97 (.pointer (some ⟨b, o, none⟩)) 0) k w = k (.pointer (some ⟨b, o, none⟩)) w := w_field fo97_0
theorem fo97_3 : fieldOff Tryz.prog 97 3 = some 4 := by kernel_rfl
theorem fl97_3 {b o : Nat} : opW Tryz.prog (Instr.fieldAt 97 (.pointer (some ⟨b, o, none⟩)) 3) k w = k (.pointer (some ⟨b, o + 4, none⟩)) w := w_field fo97_3
theorem tfl97_3 {b o : Nat} : takeW Tryz.prog S (Instr.fieldAt 97 (.pointer (some ⟨b, o, none⟩)) 3) K w = K (.pointer (some ⟨b, o + 4, none⟩)) := t_field fo97_3
theorem isl110 : isSliceT Tryz.prog 110 = true := by kernel_rfl
theorem el110 : elemT Tryz.prog 110 = 109 := by kernel_rfl
theorem known109 : known Tryz.prog 109 = true := by kernel_rfl
theorem size109 : sizeT Tryz.prog 109 = 1 := by kernel_rfl
theorem isl127 : isSliceT Tryz.prog 127 = true := by kernel_rfl
theorem el127 : elemT Tryz.prog 127 = 85 := by kernel_rfl
theorem known85 : known Tryz.prog 85 = true := by kernel_rfl
theorem size85 : sizeT Tryz.prog 85 = 1 := by kernel_rfl
theorem ix127 {α : Type} {F : Fl α} {v : Value} {l : List α} {q : IntKind} {i : Int} {x : α} (hs : IsSl F w v l) (hz : F.sz = 1) (h0 : 0 ≤ i) (hx : l[i.toNat]? = some x) (hk : ∀ b o, Cells w b o (F.e x) → k (.pointer (some ⟨b, o, none⟩)) w) : opW Tryz.prog (Instr.indexAt 127 v (.int q i)) k w :=
  w_indexS isl127 (by rw [el127]; exact known85) (by rw [el127, size85, hz]) hs h0 hx hk
theorem isl22 : isSliceT Tryz.prog 22 = true := by kernel_rfl
theorem el22 : elemT Tryz.prog 22 = 9 := by kernel_rfl
theorem known9 : known Tryz.prog 9 = true := by kernel_rfl
theorem size9 : sizeT Tryz.prog 9 = 1 := by kernel_rfl
theorem ix22 {α : Type} {F : Fl α} {v : Value} {l : List α} {q : IntKind} {i : Int} {x : α} (hs : IsSl F w v l) (hz : F.sz = 1) (h0 : 0 ≤ i) (hx : l[i.toNat]? = some x) (hk : ∀ b o, Cells w b o (F.e x) → k (.pointer (some ⟨b, o, none⟩)) w) : opW Tryz.prog (Instr.indexAt 22 v (.int q i)) k w :=
  w_indexS isl22 (by rw [el22]; exact known9) (by rw [el22, size9, hz]) hs h0 hx hk
theorem isl39 : isSliceT Tryz.prog 39 = true := by kernel_rfl
theorem el39 : elemT Tryz.prog 39 = 5 := by kernel_rfl
theorem known5 : known Tryz.prog 5 = true := by kernel_rfl
theorem size5 : sizeT Tryz.prog 5 = 1 := by kernel_rfl
theorem known22 : known Tryz.prog 22 = true := by kernel_rfl
theorem size22 : sizeT Tryz.prog 22 = 1 := by kernel_rfl
theorem isl56 : isSliceT Tryz.prog 56 = true := by kernel_rfl
theorem el56 : elemT Tryz.prog 56 = 3 := by kernel_rfl
theorem known3 : known Tryz.prog 3 = true := by kernel_rfl
theorem size3 : sizeT Tryz.prog 3 = 1 := by kernel_rfl
theorem ix56 {α : Type} {F : Fl α} {v : Value} {l : List α} {q : IntKind} {i : Int} {x : α} (hs : IsSl F w v l) (hz : F.sz = 1) (h0 : 0 ≤ i) (hx : l[i.toNat]? = some x) (hk : ∀ b o, Cells w b o (F.e x) → k (.pointer (some ⟨b, o, none⟩)) w) : opW Tryz.prog (Instr.indexAt 56 v (.int q i)) k w :=
  w_indexS isl56 (by rw [el56]; exact known3) (by rw [el56, size3, hz]) hs h0 hx hk
theorem isl65 : isSliceT Tryz.prog 65 = true := by kernel_rfl
theorem known92 : known Tryz.prog 92 = true := by kernel_rfl
theorem size92 : sizeT Tryz.prog 92 = 2 := by kernel_rfl
theorem agg109 : isAggT Tryz.prog 109 = false := by kernel_rfl
theorem ld109 {a : Addr} {v : Value} (hc : w.cell? a = some v) : opW Tryz.prog (Instr.loadAt 109 (.pointer (some a))) k w = k v w := w_load agg109 known109 hc
theorem xld109 {a : Addr} {v : Value} (hc : w.cell? a = some v) : takeW Tryz.prog (sameW w) (Instr.loadAt 109 (.pointer (some a))) K w = K v := x_load agg109 known109 hc
theorem agg193 : isAggT Tryz.prog 193 = true := by kernel_rfl
theorem known193 : known Tryz.prog 193 = true := by kernel_rfl
theorem size193 : sizeT Tryz.prog 193 = 8 := by kernel_rfl
theorem ld193 {b o : Nat} {vs : List Value} (hl : vs.length = 8) (hc : Cells w b o vs) : opW Tryz.prog (Instr.loadAt 193 (.pointer (some ⟨b, o, none⟩))) k w = k (.agg vs.toArray) w := w_loadAgg agg193 known193 (by rw [size193, hl]) hc
theorem agg214 : isAggT Tryz.prog 214 = true := by kernel_rfl
theorem known214 : known Tryz.prog 214 = true := by kernel_rfl
theorem size214 : sizeT Tryz.prog 214 = 64 := by kernel_rfl
theorem ld214 {b o : Nat} {vs : List Value} (hl : vs.length = 64) (hc : Cells w b o vs) : opW Tryz.prog (Instr.loadAt 214 (.pointer (some ⟨b, o, none⟩))) k w = k (.agg vs.toArray) w := w_loadAgg agg214 known214 (by rw [size214, hl]) hc
theorem agg22 : isAggT Tryz.prog 22 = false := by kernel_rfl
theorem ld22 {a : Addr} {v : Value} (hc : w.cell? a = some v) : opW Tryz.prog (Instr.loadAt 22 (.pointer (some a))) k w = k v w := w_load agg22 known22 hc
theorem agg27 : isAggT Tryz.prog 27 = false := by kernel_rfl
theorem known27 : known Tryz.prog 27 = true := by kernel_rfl
theorem ld27 {a : Addr} {v : Value} (hc : w.cell? a = some v) : opW Tryz.prog (Instr.loadAt 27 (.pointer (some a))) k w = k v w := w_load agg27 known27 hc
theorem agg28 : isAggT Tryz.prog 28 = false := by kernel_rfl
theorem known28 : known Tryz.prog 28 = true := by kernel_rfl
theorem agg29 : isAggT Tryz.prog 29 = false := by kernel_rfl
theorem known29 : known Tryz.prog 29 = true := by kernel_rfl
theorem agg3 : isAggT Tryz.prog 3 = false := by kernel_rfl
theorem ld3 {a : Addr} {v : Value} (hc : w.cell? a = some v) : opW Tryz.prog (Instr.loadAt 3 (.pointer (some a))) k w = k v w := w_load agg3 known3 hc
theorem xld3 {a : Addr} {v : Value} (hc : w.cell? a = some v) : takeW Tryz.prog (sameW w) (Instr.loadAt 3 (.pointer (some a))) K w = K v := x_load agg3 known3 hc
theorem agg30 : isAggT Tryz.prog 30 = false := by kernel_rfl
theorem known30 : known Tryz.prog 30 = true := by kernel_rfl
theorem agg39 : isAggT Tryz.prog 39 = false := by kernel_rfl
theorem known39 : known Tryz.prog 39 = true := by kernel_rfl
theorem ld39 {a : Addr} {v : Value} (hc : w.cell? a = some v) : opW Tryz.prog (Instr.loadAt 39 (.pointer (some a))) k w = k v w := w_load agg39 known39 hc
theorem xld39 {a : Addr} {v : Value} (hc : w.cell? a = some v) : takeW Tryz.prog (sameW w) (Instr.loadAt 39 (.pointer (some a))) K w = K v := x_load agg39 known39 hc
theorem agg4 : isAggT Tryz.prog 4 = false := by kernel_rfl
theorem known4 : known Tryz.prog 4 = true := by kernel_rfl
theorem ld4 {a : Addr} {v : Value} (hc : w.cell? a = some v) : opW Tryz.prog (Instr.loadAt 4 (.pointer (some a))) k w = k v w := w_load agg4 known4 hc
theorem agg56 : isAggT Tryz.prog 56 = false := by kernel_rfl
theorem known56 : known Tryz.prog 56 = true := by kernel_rfl
theorem ld56 {a : Addr} {v : Value} (hc : w.cell? a = some v) : opW Tryz.prog (Instr.loadAt 56 (.pointer (some a))) k w = k v w := w_load agg56 known56 hc
theorem agg65 : isAggT Tryz.prog 65 = false := by kernel_rfl
theorem known65 : known Tryz.prog 65 = true := by kernel_rfl
theorem agg72 : isAggT Tryz.prog 72 = true := by kernel_rfl
theorem known72 : known Tryz.prog 72 = true := by kernel_rfl
theorem size72 : sizeT Tryz.prog 72 = 3 := by kernel_rfl
theorem ld72 {b o : Nat} {vs : List Value} (hl : vs.length = 3) (hc : Cells w b o vs) : opW Tryz.prog (Instr.loadAt 72 (.pointer (some ⟨b, o, none⟩))) k w = k (.agg vs.toArray) w := w_loadAgg agg72 known72 (by rw [size72, hl]) hc
theorem agg85 : isAggT Tryz.prog 85 = false := by kernel_rfl
theorem ld85 {a : Addr} {v : Value} (hc : w.cell? a = some v) : opW Tryz.prog (Instr.loadAt 85 (.pointer (some a))) k w = k v w := w_load agg85 known85 hc
theorem agg9 : isAggT Tryz.prog 9 = false := by kernel_rfl
theorem ld9 {a : Addr} {v : Value} (hc : w.cell? a = some v) : opW Tryz.prog (Instr.loadAt 9 (.pointer (some a))) k w = k v w := w_load agg9 known9 hc
theorem agg92 : isAggT Tryz.prog 92 = true := by kernel_rfl
theorem xld92 {b o : Nat} {vs : List Value} (hl : vs.length = 2) (hc : Cells w b o vs) : takeW Tryz.prog (sameW w) (Instr.loadAt 92 (.pointer (some ⟨b, o, none⟩))) K w = K (.agg vs.toArray) := x_loadAgg agg92 known92 (by rw [size92, hl]) hc
theorem known93 : known Tryz.prog 93 = true := by kernel_rfl
theorem st109 {a : Addr} {v old : Value} (hv : v.oneCell' = true) (hc : w.cell? a = some old) (hf : w.frozen? a = false) : opU Tryz.prog (Instr.storeAt 109 (.pointer (some a)) v) k w = k undef (w.setCell a v) := w_store hv size109 known109 hc hf
theorem sta193 {b o : Nat} {vs : List Value} (hl : vs.length = 8) (hv : ∀ v ∈ vs, v.oneCell' = true) (hc : ∀ j, j < 8 → ∃ old, w.cell? ⟨b, o + j, none⟩ = some old) (hf : ∀ j, j < 8 → w.frozen? ⟨b, o + j, none⟩ = false) : opU Tryz.prog (Instr.storeAt 193 (.pointer (some ⟨b, o, none⟩)) (.agg vs.toArray)) k w = k undef (setCells w b o vs) := w_storeAgg hv (by rw [size193, hl]) known193 (by rw [hl]; exact hc) (by rw [hl]; exact hf)
theorem sta214 {b o : Nat} {vs : List Value} (hl : vs.length = 64) (hv : ∀ v ∈ vs, v.oneCell' = true) (hc : ∀ j, j < 64 → ∃ old, w.cell? ⟨b, o + j, none⟩ = some old) (hf : ∀ j, j < 64 → w.frozen? ⟨b, o + j, none⟩ = false) : opU Tryz.prog (Instr.storeAt 214 (.pointer (some ⟨b, o, none⟩)) (.agg vs.toArray)) k w = k undef (setCells w b o vs) := w_storeAgg hv (by rw [size214, hl]) known214 (by rw [hl]; exact hc) (by rw [hl]; exact hf)
theorem st22 {a : Addr} {v old : Value} (hv : v.oneCell' = true) (hc : w.cell? a = some old) (hf : w.frozen? a = false) : opU Tryz.prog (Instr.storeAt 22 (.pointer (some a)) v) k w = k undef (w.setCell a v) := w_store hv size22 known22 hc hf
theorem size28 : sizeT Tryz.prog 28 = 1 := by kernel_rfl
theorem st28 {a : Addr} {v old : Value} (hv : v.oneCell' = true) (hc : w.cell? a = some old) (hf : w.frozen? a = false) : opU Tryz.prog (Instr.storeAt 28 (.pointer (some a)) v) k w = k undef (w.setCell a v) := w_store hv size28 known28 hc hf
theorem st3 {a : Addr} {v old : Value} (hv : v.oneCell' = true) (hc : w.cell? a = some old) (hf : w.frozen? a = false) : opU Tryz.prog (Instr.storeAt 3 (.pointer (some a)) v) k w = k undef (w.setCell a v) := w_store hv size3 known3 hc hf
theorem size30 : sizeT Tryz.prog 30 = 1 := by kernel_rfl
theorem st30 {a : Addr} {v old : Value} (hv : v.oneCell' = true) (hc : w.cell? a = some old) (hf : w.frozen? a = false) : opU Tryz.prog (Instr.storeAt 30 (.pointer (some a)) v) k w = k undef (w.setCell a v) := w_store hv size30 known30 hc hf
theorem size39 : sizeT Tryz.prog 39 = 1 := by kernel_rfl
theorem st39 {a : Addr} {v old : Value} (hv : v.oneCell' = true) (hc : w.cell? a = some old) (hf : w.frozen? a = false) : opU Tryz.prog (Instr.storeAt 39 (.pointer (some a)) v) k w = k undef (w.setCell a v) := w_store hv size39 known39 hc hf
theorem size4 : sizeT Tryz.prog 4 = 1 := by kernel_rfl
theorem st4 {a : Addr} {v old : Value} (hv : v.oneCell' = true) (hc : w.cell? a = some old) (hf : w.frozen? a = false) : opU Tryz.prog (Instr.storeAt 4 (.pointer (some a)) v) k w = k undef (w.setCell a v) := w_store hv size4 known4 hc hf
theorem st5 {a : Addr} {v old : Value} (hv : v.oneCell' = true) (hc : w.cell? a = some old) (hf : w.frozen? a = false) : opU Tryz.prog (Instr.storeAt 5 (.pointer (some a)) v) k w = k undef (w.setCell a v) := w_store hv size5 known5 hc hf
theorem size56 : sizeT Tryz.prog 56 = 1 := by kernel_rfl
theorem st56 {a : Addr} {v old : Value} (hv : v.oneCell' = true) (hc : w.cell? a = some old) (hf : w.frozen? a = false) : opU Tryz.prog (Instr.storeAt 56 (.pointer (some a)) v) k w = k undef (w.setCell a v) := w_store hv size56 known56 hc hf
theorem size65 : sizeT Tryz.prog 65 = 1 := by kernel_rfl
theorem st65 {a : Addr} {v old : Value} (hv : v.oneCell' = true) (hc : w.cell? a = some old) (hf : w.frozen? a = false) : opU Tryz.prog (Instr.storeAt 65 (.pointer (some a)) v) k w = k undef (w.setCell a v) := w_store hv size65 known65 hc hf
theorem st9 {a : Addr} {v old : Value} (hv : v.oneCell' = true) (hc : w.cell? a = some old) (hf : w.frozen? a = false) : opU Tryz.prog (Instr.storeAt 9 (.pointer (some a)) v) k w = k undef (w.setCell a v) := w_store hv size9 known9 hc hf
theorem size93 : sizeT Tryz.prog 93 = 1 := by kernel_rfl
theorem st93 {a : Addr} {v old : Value} (hv : v.oneCell' = true) (hc : w.cell? a = some old) (hf : w.frozen? a = false) : opU Tryz.prog (Instr.storeAt 93 (.pointer (some a)) v) k w = k undef (w.setCell a v) := w_store hv size93 known93 hc hf
theorem known95 : known Tryz.prog 95 = true := by kernel_rfl
theorem size95 : sizeT Tryz.prog 95 = 2 := by kernel_rfl
theorem sta95 {b o : Nat} {vs : List Value} (hl : vs.length = 2) (hv : ∀ v ∈ vs, v.oneCell' = true) (hc : ∀ j, j < 2 → ∃ old, w.cell? ⟨b, o + j, none⟩ = some old) (hf : ∀ j, j < 2 → w.frozen? ⟨b, o + j, none⟩ = false) : opU Tryz.prog (Instr.storeAt 95 (.pointer (some ⟨b, o, none⟩)) (.agg vs.toArray)) k w = k undef (setCells w b o vs) := w_storeAgg hv (by rw [size95, hl]) known95 (by rw [hl]; exact hc) (by rw [hl]; exact hf)
theorem len22 {α : Type} {F : Fl α} {v : Value} {l : List α} (hs : IsSl F w v l) : opW Tryz.prog (Builtin.len_ #[22] 3 #[v]) k w = k (.int .i64 l.length) w := w_lenS isl22 hs
theorem len39 {α : Type} {F : Fl α} {v : Value} {l : List α} (hs : IsSl F w v l) : opW Tryz.prog (Builtin.len_ #[39] 3 #[v]) k w = k (.int .i64 l.length) w := w_lenS isl39 hs
theorem leno39 {a : Option Addr} {n c : Nat} : opW Tryz.prog (Builtin.len_ #[39] 3 #[.slice a n c]) k w = k (.int .i64 n) w := w_len isl39
theorem tlen39 {α : Type} {F : Fl α} {v : Value} {l : List α} (hs : IsSl F w v l) : takeW Tryz.prog S (Builtin.len_ #[39] 3 #[v]) K w = K (.int .i64 l.length) := t_lenS isl39 hs
theorem tleno39 {a : Option Addr} {n c : Nat} : takeW Tryz.prog S (Builtin.len_ #[39] 3 #[.slice a n c]) K w = K (.int .i64 n) := takeW_pure fun w => run_of_eq fun k => leno39
theorem len56 {α : Type} {F : Fl α} {v : Value} {l : List α} (hs : IsSl F w v l) : opW Tryz.prog (Builtin.len_ #[56] 3 #[v]) k w = k (.int .i64 l.length) w := w_lenS isl56 hs
theorem len65 {α : Type} {F : Fl α} {v : Value} {l : List α} (hs : IsSl F w v l) : opW Tryz.prog (Builtin.len_ #[65] 3 #[v]) k w = k (.int .i64 l.length) w := w_lenS isl65 hs
theorem tlen65 {α : Type} {F : Fl α} {v : Value} {l : List α} (hs : IsSl F w v l) : takeW Tryz.prog S (Builtin.len_ #[65] 3 #[v]) K w = K (.int .i64 l.length) := t_lenS isl65 hs
theorem ok8 : callOk Tryz.prog 8 = true := by kernel_rfl
theorem ok9 : callOk Tryz.prog 9 = true := by kernel_rfl
theorem ok10 : callOk Tryz.prog 10 = true := by kernel_rfl
theorem ok11 : callOk Tryz.prog 11 = true := by kernel_rfl
theorem ok12 : callOk Tryz.prog 12 = true := by kernel_rfl
theorem ok13 : callOk Tryz.prog 13 = true := by kernel_rfl
theorem ok14 : callOk Tryz.prog 14 = true := by kernel_rfl
theorem ok15 : callOk Tryz.prog 15 = true := by kernel_rfl
theorem ok16 : callOk Tryz.prog 16 = true := by kernel_rfl
theorem ok17 : callOk Tryz.prog 17 = true := by kernel_rfl
theorem ok18 : callOk Tryz.prog 18 = true := by kernel_rfl
theorem ok19 : callOk Tryz.prog 19 = true := by kernel_rfl
theorem ok20 : callOk Tryz.prog 20 = true := by kernel_rfl
theorem ok21 : callOk Tryz.prog 21 = true := by kernel_rfl
theorem ok22 : callOk Tryz.prog 22 = true := by kernel_rfl
theorem ok23 : callOk Tryz.prog 23 = true := by kernel_rfl
theorem ok24 : callOk Tryz.prog 24 = true := by kernel_rfl
theorem ok25 : callOk Tryz.prog 25 = true := by kernel_rfl
theorem ok28 : callOk Tryz.prog 28 = true := by kernel_rfl
theorem ok29 : callOk Tryz.prog 29 = true := by kernel_rfl
theorem ok30 : callOk Tryz.prog 30 = true := by kernel_rfl
theorem ok31 : callOk Tryz.prog 31 = true := by kernel_rfl
theorem ok32 : callOk Tryz.prog 32 = true := by kernel_rfl
theorem ok33 : callOk Tryz.prog 33 = true := by kernel_rfl
theorem ok34 : callOk Tryz.prog 34 = true := by kernel_rfl
theorem ok35 : callOk Tryz.prog 35 = true := by kernel_rfl
theorem ok36 : callOk Tryz.prog 36 = true := by kernel_rfl
theorem ok37 : callOk Tryz.prog 37 = true := by kernel_rfl
theorem ok38 : callOk Tryz.prog 38 = true := by kernel_rfl
theorem ok39 : callOk Tryz.prog 39 = true := by kernel_rfl
theorem ok40 : callOk Tryz.prog 40 = true := by kernel_rfl
theorem ok41 : callOk Tryz.prog 41 = true := by kernel_rfl
theorem ok42 : callOk Tryz.prog 42 = true := by kernel_rfl
theorem ok43 : callOk Tryz.prog 43 = true := by kernel_rfl
theorem ok44 : callOk Tryz.prog 44 = true := by kernel_rfl
theorem ok45 : callOk Tryz.prog 45 = true := by kernel_rfl
theorem ok46 : callOk Tryz.prog 46 = true := by kernel_rfl
theorem ok47 : callOk Tryz.prog 47 = true := by kernel_rfl
theorem ok48 : callOk Tryz.prog 48 = true := by kernel_rfl
theorem ok49 : callOk Tryz.prog 49 = true := by kernel_rfl
theorem ok50 : callOk Tryz.prog 50 = true := by kernel_rfl
theorem ok51 : callOk Tryz.prog 51 = true := by kernel_rfl
theorem ok52 : callOk Tryz.prog 52 = true := by kernel_rfl
theorem ok53 : callOk Tryz.prog 53 = true := by kernel_rfl
theorem ok54 : callOk Tryz.prog 54 = true := by kernel_rfl
theorem ok55 : callOk Tryz.prog 55 = true := by kernel_rfl
theorem ok56 : callOk Tryz.prog 56 = true := by kernel_rfl
theorem ok57 : callOk Tryz.prog 57 = true := by kernel_rfl
theorem ok58 : callOk Tryz.prog 58 = true := by kernel_rfl
theorem ok59 : callOk Tryz.prog 59 = true := by kernel_rfl
theorem ok60 : callOk Tryz.prog 60 = true := by kernel_rfl
theorem ok61 : callOk Tryz.prog 61 = true := by kernel_rfl
theorem ok62 : callOk Tryz.prog 62 = true := by kernel_rfl
theorem ok63 : callOk Tryz.prog 63 = true := by kernel_rfl
theorem ok64 : callOk Tryz.prog 64 = true := by kernel_rfl
theorem ok65 : callOk Tryz.prog 65 = true := by kernel_rfl
theorem ok66 : callOk Tryz.prog 66 = true := by kernel_rfl
theorem ok67 : callOk Tryz.prog 67 = true := by kernel_rfl
theorem ok68 : callOk Tryz.prog 68 = true := by kernel_rfl
theorem ok70 : callOk Tryz.prog 70 = true := by kernel_rfl
theorem ok71 : callOk Tryz.prog 71 = true := by kernel_rfl
theorem ok72 : callOk Tryz.prog 72 = true := by kernel_rfl
theorem ok73 : callOk Tryz.prog 73 = true := by kernel_rfl
theorem ok74 : callOk Tryz.prog 74 = true := by kernel_rfl
theorem ok75 : callOk Tryz.prog 75 = true := by kernel_rfl
theorem ok78 : callOk Tryz.prog 78 = true := by kernel_rfl
theorem ok86 : callOk Tryz.prog 86 = true := by kernel_rfl
theorem ok87 : callOk Tryz.prog 87 = true := by kernel_rfl
theorem ok88 : callOk Tryz.prog 88 = true := by kernel_rfl
theorem ok89 : callOk Tryz.prog 89 = true := by kernel_rfl
theorem ok90 : callOk Tryz.prog 90 = true := by kernel_rfl
theorem ok91 : callOk Tryz.prog 91 = true := by kernel_rfl
theorem ok92 : callOk Tryz.prog 92 = true := by kernel_rfl
theorem ok93 : callOk Tryz.prog 93 = true := by kernel_rfl
theorem ok95 : callOk Tryz.prog 95 = true := by kernel_rfl
theorem ok96 : callOk Tryz.prog 96 = true := by kernel_rfl
theorem ok97 : callOk Tryz.prog 97 = true := by kernel_rfl
theorem ok100 : callOk Tryz.prog 100 = true := by kernel_rfl
theorem ok101 : callOk Tryz.prog 101 = true := by kernel_rfl
theorem ok106 : callOk Tryz.prog 106 = true := by kernel_rfl
theorem ok109 : callOk Tryz.prog 109 = true := by kernel_rfl
theorem ok110 : callOk Tryz.prog 110 = true := by kernel_rfl
theorem ok111 : callOk Tryz.prog 111 = true := by kernel_rfl
theorem ok112 : callOk Tryz.prog 112 = true := by kernel_rfl
theorem ok113 : callOk Tryz.prog 113 = true := by kernel_rfl
theorem ok128 : callOk Tryz.prog 128 = true := by kernel_rfl
theorem ok129 : callOk Tryz.prog 129 = true := by kernel_rfl
theorem ok130 : callOk Tryz.prog 130 = true := by kernel_rfl
theorem ok132 : callOk Tryz.prog 132 = true := by kernel_rfl
theorem ok143 : callOk Tryz.prog 143 = true := by kernel_rfl
theorem ok144 : callOk Tryz.prog 144 = true := by kernel_rfl
theorem ok145 : callOk Tryz.prog 145 = true := by kernel_rfl
theorem ok149 : callOk Tryz.prog 149 = true := by kernel_rfl
end
end Go.Proofs.YtbojglaimdjagaaGreatDoor
/- The conditions of the functions, printed by program out of the loaded code, each with the contract that follows from it. -/
set_option linter.unusedVariables false
set_option maxRecDepth 100000
namespace Go.Proofs.YtbojglaimdjagaaGreatDoor
open Go Go.V
noncomputable section

/-! newswire/newswirelaw34.JournalMatchesReference -/
def ann7 : Ann := [(125, Note.keep [5]), (250, Note.loop [8] [1, 5, 6]), (2002, Note.keep [1, 5, 6, 8]), (32036, Note.plan (Plan.takeP 0 (Plan.takeP 1 (Plan.takeP 2 (Plan.takeP 3 (Plan.takeP 4 (Plan.takeP 5 (Plan.takeU 6 (Plan.takeP 8 (Plan.takeP 9 (Plan.takeP 10 (Plan.takeU 11 (Plan.takeP 12 (Plan.takeP 13 (Plan.takeU 14 (Plan.takeP 15 (Plan.run 7 (Plan.takeP 16 (Plan.takeP 17 (Plan.takeP 18 (Plan.takeP 19 (Plan.takeP 20 (Plan.takeP 21 (Plan.takeU 22 (Plan.takeP 23 (Plan.takeP 24 (Plan.takeU 25 (Plan.takeP 26 (Plan.takeP 27 (Plan.takeP 28 (Plan.takeP 29 (Plan.takeP 30 (Plan.takeU 31 (Plan.takeP 33 (Plan.takeP 34 (Plan.takeP 35 (Plan.takeU 36 (Plan.run 32 (Plan.run 37 (Plan.takeX 38 (Plan.takeP 39 (Plan.takeP 40 (Plan.takeP 41 Plan.done))))))))))))))))))))))))))))))))))))))))))), (32038, Note.plan (Plan.takeP 0 (Plan.takeP 1 (Plan.takeP 2 (Plan.takeU 3 (Plan.takeP 4 (Plan.takeP 5 (Plan.takeP 6 (Plan.takeP 7 (Plan.takeP 8 (Plan.takeU 9 (Plan.takeP 11 (Plan.takeP 12 (Plan.takeP 13 (Plan.takeU 14 (Plan.takeP 15 (Plan.takeP 16 (Plan.takeU 17 (Plan.run 10 (Plan.run 18 (Plan.takeP 19 (Plan.takeP 20 (Plan.takeP 21 (Plan.takeP 22 (Plan.takeP 23 (Plan.takeU 24 (Plan.takeP 26 (Plan.takeP 27 (Plan.takeP 28 (Plan.takeU 29 (Plan.run 25 (Plan.run 30 (Plan.takeP 31 (Plan.takeP 32 (Plan.takeP 33 Plan.done)))))))))))))))))))))))))))))))))))]
def S7 (n_1 l_2 : Value) (k : Value → World → Prop) (w : World) : Prop :=
   callW Tryz.prog (Value.func (Fn.func 8) #[] #[]) #[] (fun t10_3 w =>
   callW Tryz.prog (Value.func (Fn.func 9) #[] #[]) #[n_1] (fun t13_4 w =>
   opW Tryz.prog (Instr.extract t13_4 0) (fun t14_5 w =>
   opW Tryz.prog (Instr.extract t13_4 1) (fun t15_6 w =>
   opW Tryz.prog (Op.unary UnOp.not t15_6) (fun t17_8 w =>
   condW t17_8
   (k (Value.bool false) w)
   (Loop1 (fun i_10 w K_11 =>
   opW Tryz.prog (Builtin.len_ #[60] 3 #[l_2]) (fun t20_13 w =>
   opW Tryz.prog (binS BinOp.lss 3 (Operand.tmp 18) (Operand.tmp 20) i_10 t20_13) (fun t21_14 w =>
   guardW (some t21_14, true) (fun k w => k i_10 w) (fun t23_15 w =>
   guardW (some t21_14, true) (fun k w => opW Tryz.prog (binS BinOp.lss 3 (Operand.tmp 23) (Operand.const (Value.int IntKind.i64 25)) t23_15 (Value.int IntKind.i64 25)) k w) (fun t24_16 w =>
   pickW t21_14 t24_16 (Value.bool false) (fun t25_17 w =>
   condW t25_17
   (opW Tryz.prog (Instr.indexAt 60 l_2 i_10) (fun t31_19 w =>
   opW Tryz.prog (Instr.loadAt 62 t31_19) (fun t32_20 w =>
   callW Tryz.prog (Value.func (Fn.func 31) #[] #[]) #[t14_5, t32_20] (fun t33_21 w =>
   drewW w (fun w =>
   ∃ S : World → Prop, S w ∧
   takeW Tryz.prog anyW (Op.unary UnOp.not t33_21) (fun t35_24 =>
   guardT (some t35_24, false) (fun k => k t14_5) (fun t37_25 =>
   guardT (some t35_24, false) (fun k => nilT t37_25 k) (fun t38_26 =>
   guardT (some t35_24, false) (fun k => takeW Tryz.prog anyW (Instr.fieldAt 32 t38_26 0) k w) (fun t39_27 =>
   guardT (some t35_24, false) (fun k => takeW Tryz.prog S (Instr.loadAt 27 t39_27) k w) (fun t40_28 =>
   guardT (some t35_24, false) (fun k => k t14_5) (fun t42_29 =>
   guardT (some t35_24, false) (fun k => nilT t42_29 k) (fun t43_30 =>
   guardT (some t35_24, false) (fun k => takeW Tryz.prog anyW (Instr.fieldAt 32 t43_30 2) k w) (fun t44_31 =>
   guardT (some t35_24, false) (fun k => takeW Tryz.prog S (Instr.loadAt 29 t44_31) k w) (fun t45_32 =>
   guardT (some t35_24, false) (fun k => nilT t45_32 k) (fun t46_33 =>
   guardT (some t35_24, false) (fun k => takeW Tryz.prog anyW (Instr.fieldAt 67 t46_33 1) k w) (fun t47_34 =>
   guardT (some t35_24, false) (fun k => takeW Tryz.prog S (Instr.loadAt 65 t47_34) k w) (fun t48_35 =>
   guardT (some t35_24, false) (fun k => takeW Tryz.prog anyW (Builtin.len_ #[65] 3 #[t48_35]) k w) (fun t49_36 =>
   guardW (some t35_24, false) (fun k w => callW Tryz.prog (Value.func (Fn.func 32) #[] #[]) #[t40_28] k w) (fun t41_37 w => keepS S (fun w =>
   guardT (some t35_24, false) (fun k => takeW Tryz.prog anyW (binS BinOp.neq 3 (Operand.tmp 41) (Operand.tmp 49) t41_37 t49_36) k w) (fun t50_38 =>
   pickT t35_24 (Value.bool true) t50_38 (fun t51_39 =>
   guardT (some t51_39, false) (fun k => k t14_5) (fun t53_40 =>
   guardT (some t51_39, false) (fun k => nilT t53_40 k) (fun t54_41 =>
   guardT (some t51_39, false) (fun k => takeW Tryz.prog anyW (Instr.fieldAt 32 t54_41 2) k w) (fun t55_42 =>
   guardT (some t51_39, false) (fun k => takeW Tryz.prog S (Instr.loadAt 29 t55_42) k w) (fun t56_43 =>
   guardT (some t51_39, false) (fun k => nilT t56_43 k) (fun t57_44 =>
   guardT (some t51_39, false) (fun k => takeW Tryz.prog anyW (Instr.fieldAt 67 t57_44 2) k w) (fun t58_45 =>
   guardT (some t51_39, false) (fun k => takeW Tryz.prog S (Instr.loadAt 4 t58_45) k w) (fun t59_46 =>
   guardT (some t51_39, false) (fun k => takeW Tryz.prog anyW (Op.unary UnOp.not t59_46) k w) (fun t60_47 =>
   guardT (some t51_39, false) (fun k => k t60_47) (fun t61_48 =>
   guardT (some t61_48, true) (fun k => k t14_5) (fun t62_49 =>
   guardT (some t61_48, true) (fun k => nilT t62_49 k) (fun t63_50 =>
   guardT (some t61_48, true) (fun k => takeW Tryz.prog anyW (Instr.fieldAt 32 t63_50 0) k w) (fun t64_51 =>
   guardT (some t61_48, true) (fun k => takeW Tryz.prog S (Instr.loadAt 27 t64_51) k w) (fun t65_52 =>
   guardT (some t61_48, true) (fun k => k t14_5) (fun t67_53 =>
   guardT (some t61_48, true) (fun k => nilT t67_53 k) (fun t68_54 =>
   guardT (some t61_48, true) (fun k => takeW Tryz.prog anyW (Instr.fieldAt 32 t68_54 2) k w) (fun t69_55 =>
   guardT (some t61_48, true) (fun k => takeW Tryz.prog S (Instr.loadAt 29 t69_55) k w) (fun t70_56 =>
   guardW (some t61_48, true) (fun k w => callW Tryz.prog (Value.func (Fn.func 22) #[] #[]) #[t65_52] k w) (fun t66_57 w => keepS S (fun w =>
   guardW (some t61_48, true) (fun k w => callW Tryz.prog (Value.func (Fn.func 23) #[] #[]) #[t70_56] k w) (fun t71_58 w => keepS S (fun w =>
   guardT (some t61_48, true) (fun k => takeW Tryz.prog (sameW w) (convert 39 9 t71_58) k w) (fun t72_59 =>
   guardT (some t61_48, true) (fun k => takeW Tryz.prog anyW (binS BinOp.neq 9 (Operand.tmp 66) (Operand.tmp 72) t66_57 t72_59) k w) (fun t73_60 =>
   guardT (some t51_39, false) (fun k => pickT t61_48 t73_60 (Value.bool false) k) (fun t74_61 =>
   pickT t51_39 (Value.bool true) t74_61 (fun t75_62 =>
   condW t75_62
   (k (Value.bool false) w)
   (drewW w (fun w =>
   ∃ S : World → Prop, S w ∧
   nilT t14_5 (fun t77_64 =>
   takeW Tryz.prog anyW (Instr.fieldAt 32 t77_64 1) (fun t78_65 =>
   takeW Tryz.prog S (Instr.loadAt 28 t78_65) (fun t79_66 =>
   takeW Tryz.prog anyW (binS BinOp.neq 28 (Operand.tmp 79) (Operand.const (Value.pointer none)) t79_66 (Value.pointer none)) (fun t80_67 =>
   guardT (some t80_67, true) (fun k => k t14_5) (fun t82_68 =>
   guardT (some t80_67, true) (fun k => nilT t82_68 k) (fun t83_69 =>
   guardT (some t80_67, true) (fun k => takeW Tryz.prog anyW (Instr.fieldAt 32 t83_69 1) k w) (fun t84_70 =>
   guardT (some t80_67, true) (fun k => takeW Tryz.prog S (Instr.loadAt 28 t84_70) k w) (fun t85_71 =>
   guardT (some t80_67, true) (fun k => k t14_5) (fun t87_72 =>
   guardT (some t80_67, true) (fun k => nilT t87_72 k) (fun t88_73 =>
   guardT (some t80_67, true) (fun k => takeW Tryz.prog anyW (Instr.fieldAt 32 t88_73 3) k w) (fun t89_74 =>
   guardT (some t80_67, true) (fun k => takeW Tryz.prog S (Instr.loadAt 30 t89_74) k w) (fun t90_75 =>
   guardT (some t80_67, true) (fun k => nilT t90_75 k) (fun t91_76 =>
   guardT (some t80_67, true) (fun k => takeW Tryz.prog anyW (Instr.fieldAt 43 t91_76 1) k w) (fun t92_77 =>
   guardT (some t80_67, true) (fun k => takeW Tryz.prog S (Instr.loadAt 22 t92_77) k w) (fun t93_78 =>
   guardW (some t80_67, true) (fun k w => callW Tryz.prog (Value.func (Fn.func 19) #[] #[]) #[t85_71] k w) (fun t86_79 w => keepS S (fun w =>
   guardW (some t80_67, true) (fun k w => callW Tryz.prog (Value.func (Fn.func 18) #[] #[]) #[t86_79, t93_78] k w) (fun t94_80 w => keepS S (fun w =>
   guardT (some t80_67, true) (fun k => takeW Tryz.prog anyW (Op.unary UnOp.not t94_80) k w) (fun t95_81 =>
   guardT (some t80_67, true) (fun k => k t95_81) (fun t96_82 =>
   guardT (some t96_82, false) (fun k => k t14_5) (fun t97_83 =>
   guardT (some t96_82, false) (fun k => nilT t97_83 k) (fun t98_84 =>
   guardT (some t96_82, false) (fun k => takeW Tryz.prog anyW (Instr.fieldAt 32 t98_84 1) k w) (fun t99_85 =>
   guardT (some t96_82, false) (fun k => takeW Tryz.prog S (Instr.loadAt 28 t99_85) k w) (fun t100_86 =>
   guardT (some t96_82, false) (fun k => k t14_5) (fun t102_87 =>
   guardT (some t96_82, false) (fun k => nilT t102_87 k) (fun t103_88 =>
   guardT (some t96_82, false) (fun k => takeW Tryz.prog anyW (Instr.fieldAt 32 t103_88 3) k w) (fun t104_89 =>
   guardT (some t96_82, false) (fun k => takeW Tryz.prog S (Instr.loadAt 30 t104_89) k w) (fun t105_90 =>
   guardW (some t96_82, false) (fun k w => callW Tryz.prog (Value.func (Fn.func 20) #[] #[]) #[t100_86] k w) (fun t101_91 w => keepS S (fun w =>
   guardW (some t96_82, false) (fun k w => callW Tryz.prog (Value.func (Fn.func 21) #[] #[]) #[t105_90] k w) (fun t106_92 w => keepS S (fun w =>
   guardT (some t96_82, false) (fun k => takeW Tryz.prog anyW (binS BinOp.neq 3 (Operand.tmp 101) (Operand.tmp 106) t101_91 t106_92) k w) (fun t107_93 =>
   guardT (some t80_67, true) (fun k => pickT t96_82 (Value.bool true) t107_93 k) (fun t108_94 =>
   pickT t80_67 t108_94 (Value.bool false) (fun t109_95 =>
   condW t109_95
   (k (Value.bool false) w)
   (opW Tryz.prog (binS BinOp.add 3 (Operand.tmp 26) (Operand.const (Value.int IntKind.i64 1)) i_10 (Value.int IntKind.i64 1)) (fun t27_96 w =>
   loopK [] [] [l_2, t10_3, t14_5] [l_2, t10_3, t14_5] (K_11 t27_96 w)) w))))) w) w) w) w))))))))))) w) w) w) w)))))))))))) w) w) w)))))))) w) w) w) w)))))))))))))))))))) w) w))))))))))))) w)) w) w) w)
   (k t10_3 w)) w) w) w) w) w) (Value.int IntKind.i64 0) w)) w) w) w) w) w
theorem S7_vc (n_1 l_2 : Value) (k : Value → World → Prop) (w : World) : vc Tryz.prog Tryz.f7.ntmps ann7 none ((Tryz.f7.body).getD Code.skip) 1 (params 0 [n_1, l_2]) [] (finQ Tryz.prog Tryz.f7.results.toList k) w = S7 n_1 l_2 k w := by kernel_rfl
theorem S7_calls (n_1 l_2 : Value) (k : Value → World → Prop) (w : World) (h : S7 n_1 l_2 k w) : Calls Tryz.prog 7 #[n_1, l_2] w (retP k) :=
  calls_of_vc (fn := Tryz.f7) (c := (Tryz.f7.body).getD Code.skip) ann7 Tryz.func7 (by kernel_rfl) [n_1, l_2] w k (by kernel_rfl) ((S7_vc n_1 l_2 k w).symm ▸ h)
/-! newswire/newswirelaw34.sane -/
def ann8 : Ann := []
def S8 (k : Value → World → Prop) (w : World) : Prop :=
   callW Tryz.prog (Value.func (Fn.func 24) #[] #[]) #[(Value.int IntKind.i64 200)] (fun t16_1 w =>
   opW Tryz.prog (Instr.extract t16_1 0) (fun t17_2 w =>
   opW Tryz.prog (Instr.extract t16_1 1) (fun t18_3 w =>
   callW Tryz.prog (Value.func (Fn.func 25) #[] #[]) #[t17_2] (fun t21_4 w =>
   opW Tryz.prog (Instr.extract t21_4 0) (fun t22_5 w =>
   opW Tryz.prog (Instr.extract t21_4 1) (fun t23_6 w =>
   opW Tryz.prog (binS BinOp.eql 28 (Operand.tmp 24) (Operand.const (Value.pointer none)) t22_5 (Value.pointer none)) (fun t25_8 w =>
   guardW (some t25_8, false) (fun k w => k t23_6 w) (fun t27_9 w =>
   guardW (some t25_8, false) (fun k w => opW Tryz.prog (binS BinOp.neq 33 (Operand.tmp 27) (Operand.const (Value.int IntKind.i64 0)) t27_9 (Value.int IntKind.i64 0)) k w) (fun t28_10 w =>
   pickW t25_8 (Value.bool true) t28_10 (fun t29_11 w =>
   guardW (some t29_11, false) (fun k w => k t22_5 w) (fun t31_12 w =>
   guardW (some t29_11, false) (fun k w => callW Tryz.prog (Value.func (Fn.func 19) #[] #[]) #[t31_12] k w) (fun t32_13 w =>
   guardW (some t29_11, false) (fun k w => opW Tryz.prog (Builtin.len_ #[22] 3 #[t32_13]) k w) (fun t33_14 w =>
   guardW (some t29_11, false) (fun k w => opW Tryz.prog (binS BinOp.neq 3 (Operand.tmp 33) (Operand.const (Value.int IntKind.i64 0)) t33_14 (Value.int IntKind.i64 0)) k w) (fun t34_15 w =>
   pickW t29_11 (Value.bool true) t34_15 (fun t35_16 w =>
   guardW (some t35_16, false) (fun k w => k t22_5 w) (fun t37_17 w =>
   guardW (some t35_16, false) (fun k w => callW Tryz.prog (Value.func (Fn.func 20) #[] #[]) #[t37_17] k w) (fun t38_18 w =>
   guardW (some t35_16, false) (fun k w => opW Tryz.prog (binS BinOp.neq 3 (Operand.tmp 38) (Operand.const (Value.int IntKind.i64 200)) t38_18 (Value.int IntKind.i64 200)) k w) (fun t39_19 w =>
   pickW t35_16 (Value.bool true) t39_19 (fun t40_20 w =>
   condW t40_20
   (k (Value.bool false) w)
   (opW Tryz.prog (Instr.buildSlice 22 2 #[(0, (Value.string { data := #[97, 98] })), (1, (Value.string { data := #[] }))]) (fun t42_21 w =>
   callW Tryz.prog (Value.func (Fn.func 10) #[] #[]) #[t22_5, t42_21] (fun t43_22 w =>
   opW Tryz.prog (Instr.makeSlice 39 (Value.int IntKind.i64 96) (Value.int IntKind.i64 96)) (fun t45_23 w =>
   opW Tryz.prog (convert 39 9 t45_23) (fun t46_24 w =>
   opW Tryz.prog (Instr.buildSlice 22 1 #[(0, t46_24)]) (fun t47_25 w =>
   callW Tryz.prog (Value.func (Fn.func 10) #[] #[]) #[t22_5, t47_25] (fun t48_26 w =>
   callW Tryz.prog (Value.func (Fn.func 20) #[] #[]) #[t22_5] (fun t50_27 w =>
   opW Tryz.prog (Instr.makeSlice 39 (Value.int IntKind.i64 95) (Value.int IntKind.i64 95)) (fun t52_28 w =>
   opW Tryz.prog (convert 39 9 t52_28) (fun t53_29 w =>
   opW Tryz.prog (Instr.buildSlice 22 1 #[(0, t53_29)]) (fun t54_30 w =>
   callW Tryz.prog (Value.func (Fn.func 10) #[] #[]) #[t22_5, t54_30] (fun t55_31 w =>
   callW Tryz.prog (Value.func (Fn.func 25) #[] #[]) #[t17_2] (fun t58_32 w =>
   opW Tryz.prog (Instr.extract t58_32 0) (fun t59_33 w =>
   opW Tryz.prog (Instr.extract t58_32 1) (fun t60_34 w =>
   opW Tryz.prog (binS BinOp.eql 28 (Operand.tmp 61) (Operand.const (Value.pointer none)) t59_33 (Value.pointer none)) (fun t62_36 w =>
   condW t62_36
   (k (Value.bool false) w)
   (callW Tryz.prog (Value.func (Fn.func 13) #[] #[]) #[t17_2, (Value.int IntKind.i64 0), (Value.string { data := #[2] })] (fun t64_37 w =>
   callW Tryz.prog (Value.func (Fn.func 25) #[] #[]) #[t17_2] (fun t67_38 w =>
   opW Tryz.prog (Instr.extract t67_38 0) (fun t68_39 w =>
   opW Tryz.prog (Instr.extract t67_38 1) (fun t69_40 w =>
   callW Tryz.prog (Value.func (Fn.func 25) #[] #[]) #[(Value.pointer none)] (fun t71_41 w =>
   opW Tryz.prog (Instr.extract t71_41 0) (fun t72_42 w =>
   opW Tryz.prog (Instr.extract t71_41 1) (fun t73_43 w =>
   opW Tryz.prog (binS BinOp.eql 33 (Operand.tmp 74) (Operand.const (Value.int IntKind.i64 0)) t43_22 (Value.int IntKind.i64 0)) (fun t75_44 w =>
   guardW (some t75_44, true) (fun k w => k t48_26 w) (fun t77_45 w =>
   guardW (some t75_44, true) (fun k w => opW Tryz.prog (binS BinOp.eql 33 (Operand.tmp 77) (Operand.const (Value.int IntKind.i64 341)) t77_45 (Value.int IntKind.i64 341)) k w) (fun t78_46 w =>
   pickW t75_44 t78_46 (Value.bool false) (fun t79_47 w =>
   guardW (some t79_47, true) (fun k w => k t50_27 w) (fun t81_48 w =>
   guardW (some t79_47, true) (fun k w => opW Tryz.prog (binS BinOp.eql 3 (Operand.tmp 81) (Operand.const (Value.int IntKind.i64 130)) t81_48 (Value.int IntKind.i64 130)) k w) (fun t82_49 w =>
   pickW t79_47 t82_49 (Value.bool false) (fun t83_50 w =>
   guardW (some t83_50, true) (fun k w => k t55_31 w) (fun t85_51 w =>
   guardW (some t83_50, true) (fun k w => opW Tryz.prog (binS BinOp.eql 33 (Operand.tmp 85) (Operand.const (Value.int IntKind.i64 0)) t85_51 (Value.int IntKind.i64 0)) k w) (fun t86_52 w =>
   pickW t83_50 t86_52 (Value.bool false) (fun t87_53 w =>
   guardW (some t87_53, true) (fun k w => k t22_5 w) (fun t89_54 w =>
   guardW (some t87_53, true) (fun k w => callW Tryz.prog (Value.func (Fn.func 20) #[] #[]) #[t89_54] k w) (fun t90_55 w =>
   guardW (some t87_53, true) (fun k w => opW Tryz.prog (binS BinOp.eql 3 (Operand.tmp 90) (Operand.const (Value.int IntKind.i64 0)) t90_55 (Value.int IntKind.i64 0)) k w) (fun t91_56 w =>
   pickW t87_53 t91_56 (Value.bool false) (fun t92_57 w =>
   guardW (some t92_57, true) (fun k w => k t60_34 w) (fun t94_58 w =>
   guardW (some t92_57, true) (fun k w => opW Tryz.prog (binS BinOp.eql 33 (Operand.tmp 94) (Operand.const (Value.int IntKind.i64 0)) t94_58 (Value.int IntKind.i64 0)) k w) (fun t95_59 w =>
   pickW t92_57 t95_59 (Value.bool false) (fun t96_60 w =>
   guardW (some t96_60, true) (fun k w => k t59_33 w) (fun t98_61 w =>
   guardW (some t96_60, true) (fun k w => callW Tryz.prog (Value.func (Fn.func 19) #[] #[]) #[t98_61] k w) (fun t99_62 w =>
   guardW (some t96_60, true) (fun k w => opW Tryz.prog (Builtin.len_ #[22] 3 #[t99_62]) k w) (fun t100_63 w =>
   guardW (some t96_60, true) (fun k w => opW Tryz.prog (binS BinOp.eql 3 (Operand.tmp 100) (Operand.const (Value.int IntKind.i64 3)) t100_63 (Value.int IntKind.i64 3)) k w) (fun t101_64 w =>
   pickW t96_60 t101_64 (Value.bool false) (fun t102_65 w =>
   guardW (some t102_65, true) (fun k w => k t59_33 w) (fun t104_66 w =>
   guardW (some t102_65, true) (fun k w => callW Tryz.prog (Value.func (Fn.func 19) #[] #[]) #[t104_66] k w) (fun t105_67 w =>
   guardW (some t102_65, true) (fun k w => opW Tryz.prog (Instr.indexAt 22 t105_67 (Value.int IntKind.i64 0)) k w) (fun t106_68 w =>
   guardW (some t102_65, true) (fun k w => opW Tryz.prog (Instr.loadAt 9 t106_68) k w) (fun t107_69 w =>
   guardW (some t102_65, true) (fun k w => opW Tryz.prog (binS BinOp.eql 9 (Operand.tmp 107) (Operand.const (Value.string { data := #[97, 98] })) t107_69 (Value.string { data := #[97, 98] })) k w) (fun t108_70 w =>
   pickW t102_65 t108_70 (Value.bool false) (fun t109_71 w =>
   guardW (some t109_71, true) (fun k w => k t69_40 w) (fun t111_72 w =>
   guardW (some t109_71, true) (fun k w => opW Tryz.prog (binS BinOp.eql 33 (Operand.tmp 111) (Operand.const (Value.int IntKind.i64 342)) t111_72 (Value.int IntKind.i64 342)) k w) (fun t112_73 w =>
   pickW t109_71 t112_73 (Value.bool false) (fun t113_74 w =>
   guardW (some t113_74, true) (fun k w => k t73_43 w) (fun t115_75 w =>
   guardW (some t113_74, true) (fun k w => opW Tryz.prog (binS BinOp.eql 33 (Operand.tmp 115) (Operand.const (Value.int IntKind.i64 1)) t115_75 (Value.int IntKind.i64 1)) k w) (fun t116_76 w =>
   pickW t113_74 t116_76 (Value.bool false) (fun t117_77 w =>
   k t117_77 w) w) w) w) w) w) w) w) w) w) w) w) w) w) w) w) w) w) w) w) w) w) w) w) w) w) w) w) w) w) w) w) w) w) w) w) w) w) w) w) w) w)) w) w) w) w) w) w) w) w) w) w) w) w) w) w) w)) w) w) w) w) w) w) w) w) w) w) w) w) w) w) w) w) w) w) w
theorem S8_vc (k : Value → World → Prop) (w : World) : vc Tryz.prog Tryz.f8.ntmps ann8 none ((Tryz.f8.body).getD Code.skip) 1 (params 0 []) [] (finQ Tryz.prog Tryz.f8.results.toList k) w = S8 k w := by kernel_rfl
theorem S8_calls (k : Value → World → Prop) (w : World) (h : S8 k w) : Calls Tryz.prog 8 #[] w (retP k) :=
  calls_of_vc (fn := Tryz.f8) (c := (Tryz.f8.body).getD Code.skip) ann8 Tryz.func8 (by kernel_rfl) [] w k (by kernel_rfl) ((S8_vc k w).symm ▸ h)
theorem C8 (k : Value → World → Prop) (w : World) (h : S8 k w) : callW Tryz.prog (.func (.func 8) #[] #[]) #[] k w :=
  callW_calls ok8 (by simpa using S8_calls k w h)

/-! newswire/newswirelaw34.begin -/
def ann9 : Ann := []
def S9 (n_1 : Value) (k : Value → World → Prop) (w : World) : Prop :=
   callW Tryz.prog (Value.func (Fn.func 15) #[] #[]) #[n_1] (fun t12_2 w =>
   callW Tryz.prog (Value.func (Fn.func 24) #[] #[]) #[t12_2] (fun t13_3 w =>
   opW Tryz.prog (Instr.extract t13_3 0) (fun t14_4 w =>
   opW Tryz.prog (Instr.extract t13_3 1) (fun t15_5 w =>
   callW Tryz.prog (Value.func (Fn.func 15) #[] #[]) #[n_1] (fun t18_6 w =>
   callW Tryz.prog (Value.func (Fn.func 33) #[] #[]) #[t18_6] (fun t19_7 w =>
   opW Tryz.prog (Instr.extract t19_7 0) (fun t20_8 w =>
   opW Tryz.prog (Instr.extract t19_7 1) (fun t21_9 w =>
   opW Tryz.prog (Instr.build 32 #[(0, t14_4), (2, t20_8)]) (fun t24_10 w =>
   opW Tryz.prog (Instr.box 32 t24_10) (fun t25_11 w =>
   callW Tryz.prog (Value.func (Fn.func 17) #[] #[]) #[t25_11] (fun t27_12 w =>
   k (Value.tuple #[t25_11, t27_12]) w) w) w) w) w) w) w) w) w) w) w) w
theorem S9_vc (n_1 : Value) (k : Value → World → Prop) (w : World) : vc Tryz.prog Tryz.f9.ntmps ann9 none ((Tryz.f9.body).getD Code.skip) 1 (params 0 [n_1]) [] (finQ Tryz.prog Tryz.f9.results.toList k) w = S9 n_1 k w := by kernel_rfl
theorem S9_calls (n_1 : Value) (k : Value → World → Prop) (w : World) (h : S9 n_1 k w) : Calls Tryz.prog 9 #[n_1] w (retP k) :=
  calls_of_vc (fn := Tryz.f9) (c := (Tryz.f9.body).getD Code.skip) ann9 Tryz.func9 (by kernel_rfl) [n_1] w k (by kernel_rfl) ((S9_vc n_1 k w).symm ▸ h)
theorem C9 (n_1 : Value) (k : Value → World → Prop) (w : World) (h : S9 n_1 k w) : callW Tryz.prog (.func (.func 9) #[] #[]) #[n_1] k w :=
  callW_calls ok9 (by simpa using S9_calls n_1 k w h)

/-! (*newswire/journal.Journal).Append -/
def ann10 : Ann := [(1021, Note.keep [0, 6, 7]), (2042, Note.loop [33] [0, 6, 7, 31, 32]), (2046, Note.keep [0, 6, 10]), (8188, Note.plan (Plan.takeP 0 (Plan.takeP 1 (Plan.takeP 2 (Plan.takeP 3 (Plan.takeP 4 (Plan.takeU 5 (Plan.takeP 6 (Plan.takeP 7 (Plan.takeP 8 (Plan.takeP 10 (Plan.takeP 11 (Plan.takeP 12 (Plan.takeU 13 (Plan.takeP 14 (Plan.takeP 15 (Plan.takeP 16 (Plan.takeP 17 (Plan.takeP 18 (Plan.takeP 19 (Plan.takeU 20 (Plan.takeP 21 (Plan.takeP 22 (Plan.takeP 24 (Plan.takeP 25 (Plan.takeP 26 (Plan.takeU 27 (Plan.takeP 28 (Plan.run 9 (Plan.run 23 (Plan.run 29 (Plan.run 30 (Plan.takeP 31 Plan.done))))))))))))))))))))))))))))))))), (32678, Note.keep [0, 6, 7, 31, 32, 33])]
def S10 (j_1 l_2 : Value) (k : Value → World → Prop) (w : World) : Prop :=
   opW Tryz.prog (binS BinOp.eql 28 (Operand.tmp 12) (Operand.const (Value.pointer none)) j_1 (Value.pointer none)) (fun t13_4 w =>
   condW t13_4
   (k (Value.int IntKind.i64 1) w)
   (nilW j_1 (fun t15_6 w =>
   opW Tryz.prog (Instr.fieldAt 74 t15_6 2) (fun t16_7 w =>
   opW Tryz.prog (Instr.loadAt 4 t16_7) (fun t17_8 w =>
   guardW (some t17_8, false) (fun k w => k l_2 w) (fun t19_9 w =>
   guardW (some t17_8, false) (fun k w => k (Value.func (Fn.func 34) #[] #[]) w) (fun t20_10 w =>
   guardW (some t17_8, false) (fun k w => callW Tryz.prog (Value.func (Fn.func 35) #[] #[]) #[t19_9, t20_10] k w) (fun t21_11 w =>
   pickW t17_8 (Value.bool true) t21_11 (fun t22_12 w =>
   condW t22_12
   (k (Value.int IntKind.i64 340) w)
   (nilW j_1 (fun t24_13 w =>
   opW Tryz.prog (Instr.fieldAt 74 t24_13 0) (fun t25_14 w =>
   opW Tryz.prog (Instr.loadAt 72 t25_14) (fun t26_15 w =>
   opW Tryz.prog (Instr.alloc 72 true (Value.tuple #[])) (fun next_16 w =>
   opU Tryz.prog (Instr.storeAt 72 next_16 t26_15) (fun _ w =>
   opW Tryz.prog (Instr.fieldAt 72 next_16 0) (fun t27_17 w =>
   opW Tryz.prog (Instr.loadAt 22 t27_17) (fun t28_18 w =>
   callW Tryz.prog (Value.func (Fn.func 36) #[] #[]) #[t28_18] (fun t29_19 w =>
   opW Tryz.prog (Instr.fieldAt 72 next_16 0) (fun t30_20 w =>
   opU Tryz.prog (Instr.storeAt 22 t30_20 t29_19) (fun _ w =>
   opW Tryz.prog (Instr.alloc 78 true (Value.tuple #[])) (fun out_21 w =>
   opW Tryz.prog (Builtin.len_ #[22] 3 #[l_2]) (fun t32_22 w =>
   Loop1 (fun t33_24 w K_25 =>
   opW Tryz.prog (binS BinOp.lss 3 (Operand.tmp 33) (Operand.tmp 32) t33_24 t32_22) (fun t34_26 w =>
   condW t34_26
   (opW Tryz.prog (Instr.indexAt 22 l_2 t33_24) (fun t35_29 w =>
   opW Tryz.prog (Instr.loadAt 9 t35_29) (fun t36_30 w =>
   callW Tryz.prog (Value.func (Fn.func 38) #[] #[]) #[next_16, t36_30] (fun t38_31 w =>
   callW Tryz.prog (Value.func (Fn.func 37) #[] #[]) #[out_21, t38_31] (fun t39_32 w =>
   opW Tryz.prog (binS BinOp.add 3 (Operand.tmp 33) (Operand.const (Value.int IntKind.i64 1)) t33_24 (Value.int IntKind.i64 1)) (fun t40_33 w =>
   loopK [] [] [j_1, next_16, out_21, l_2, t32_22] [j_1, next_16, out_21, l_2, t32_22] (K_25 t40_33 w)) w) w) w) w) w)
   (callW Tryz.prog (Value.func (Fn.func 39) #[] #[]) #[out_21] (fun t41_34 w =>
   opW Tryz.prog (Builtin.len_ #[9] 3 #[t41_34]) (fun t44_36 w =>
   callW Tryz.prog (Value.func (Fn.func 20) #[] #[]) #[j_1] (fun t46_37 w =>
   opW Tryz.prog (binS BinOp.gtr 3 (Operand.tmp 44) (Operand.tmp 46) t44_36 t46_37) (fun t47_38 w =>
   condW t47_38
   (k (Value.int IntKind.i64 341) w)
   (opW Tryz.prog (binS BinOp.eql 9 (Operand.tmp 49) (Operand.const (Value.string { data := #[] })) t41_34 (Value.string { data := #[] })) (fun t50_39 w =>
   condW t50_39
   (k (Value.int IntKind.i64 0) w)
   (drewW w (fun w =>
   ∃ S : World → Prop, S w ∧
   nilT j_1 (fun t53_42 =>
   takeW Tryz.prog anyW (Instr.fieldAt 74 t53_42 0) (fun t54_43 =>
   takeW Tryz.prog anyW (Instr.fieldAt 72 t54_43 2) (fun t55_44 =>
   takeW Tryz.prog S (Instr.loadAt 3 t55_44) (fun t56_45 =>
   takeW Tryz.prog anyW (binS BinOp.add 3 (Operand.tmp 56) (Operand.const (Value.int IntKind.i64 1)) t56_45 (Value.int IntKind.i64 1)) (fun t57_46 =>
   takeW Tryz.prog anyW (Instr.sliceAt 9 t41_34 (some (Value.int IntKind.i64 1)) none none) (fun t59_47 =>
   nilT j_1 (fun t62_48 =>
   takeW Tryz.prog anyW (Instr.fieldAt 74 t62_48 1) (fun t63_49 =>
   takeW Tryz.prog S (Instr.loadAt 27 t63_49) (fun t64_50 =>
   takeW Tryz.prog anyW (Instr.makeFunc (Fn.func 42) #[t64_50] #[]) (fun t65_51 =>
   nilT j_1 (fun t68_52 =>
   takeW Tryz.prog anyW (Instr.fieldAt 74 t68_52 0) (fun t69_53 =>
   takeW Tryz.prog anyW (Instr.fieldAt 72 t69_53 2) (fun t70_54 =>
   takeW Tryz.prog S (Instr.loadAt 3 t70_54) (fun t71_55 =>
   takeW Tryz.prog anyW (Instr.sliceAt 9 t41_34 none (some (Value.int IntKind.i64 1)) none) (fun t73_56 =>
   nilT j_1 (fun t76_57 =>
   takeW Tryz.prog anyW (Instr.fieldAt 74 t76_57 1) (fun t77_58 =>
   takeW Tryz.prog S (Instr.loadAt 27 t77_58) (fun t78_59 =>
   takeW Tryz.prog anyW (Instr.makeFunc (Fn.func 42) #[t78_59] #[]) (fun t79_60 =>
   callW Tryz.prog (Value.func (Fn.func 41) #[] #[]) #[j_1, t57_46, t59_47] (fun t60_61 w => keepS S (fun w =>
   callW Tryz.prog (Value.func (Fn.func 41) #[] #[]) #[j_1, t71_55, t73_56] (fun t74_62 w => keepS S (fun w =>
   opW Tryz.prog (Instr.buildSlice 127 4 #[(0, t60_61), (1, t65_51), (2, t74_62), (3, t79_60)]) (fun t80_63 w => keepS S (fun w =>
   callW Tryz.prog (Value.func (Fn.func 40) #[] #[]) #[t80_63] (fun t81_64 w => keepS S (fun w =>
   opW Tryz.prog (binS BinOp.neq 33 (Operand.tmp 82) (Operand.const (Value.int IntKind.i64 0)) t81_64 (Value.int IntKind.i64 0)) (fun t83_65 w =>
   condW t83_65
   (nilW j_1 (fun t85_66 w =>
   opW Tryz.prog (Instr.fieldAt 74 t85_66 2) (fun t86_67 w =>
   opU Tryz.prog (Instr.storeAt 4 t86_67 (Value.bool true)) (fun _ w =>
   k t81_64 w) w) w) w)
   (opW Tryz.prog (Instr.loadAt 72 next_16) (fun t89_68 w =>
   nilW j_1 (fun t90_69 w =>
   opW Tryz.prog (Instr.fieldAt 74 t90_69 0) (fun t91_70 w =>
   opU Tryz.prog (Instr.storeAt 72 t91_70 t89_68) (fun _ w =>
   k (Value.int IntKind.i64 0) w) w) w) w) w)) w) w) w) w) w) w) w) w) w) w) w) w)) w) w) w) w)) w) w) w)) w) w) w) w) w)))) w)) w) w) w) w)) w) (Value.int IntKind.i64 0) w) w) w) w) w) w) w) w) w) w) w) w) w)) w) w) w) w) w) w) w)) w
theorem S10_vc (j_1 l_2 : Value) (k : Value → World → Prop) (w : World) : vc Tryz.prog Tryz.f10.ntmps ann10 none ((Tryz.f10.body).getD Code.skip) 1 (params 0 [j_1, l_2]) [] (finQ Tryz.prog Tryz.f10.results.toList k) w = S10 j_1 l_2 k w := by kernel_rfl
theorem S10_calls (j_1 l_2 : Value) (k : Value → World → Prop) (w : World) (h : S10 j_1 l_2 k w) : Calls Tryz.prog 10 #[j_1, l_2] w (retP k) :=
  calls_of_vc (fn := Tryz.f10) (c := (Tryz.f10.body).getD Code.skip) ann10 Tryz.func10 (by kernel_rfl) [j_1, l_2] w k (by kernel_rfl) ((S10_vc j_1 l_2 k w).symm ▸ h)
theorem C10 (j_1 l_2 : Value) (k : Value → World → Prop) (w : World) (h : S10 j_1 l_2 k w) : callW Tryz.prog (.func (.func 10) #[] #[]) #[j_1, l_2] k w :=
  callW_calls ok10 (by simpa using S10_calls j_1 l_2 k w h)

/-! newswire/newswirelaw34.few -/
def ann11 : Ann := [(29, Note.keep [3]), (58, Note.loop [3, 4] [0]), (466, Note.keep [0, 3, 4]), (932, Note.plan (Plan.takeP 0 (Plan.takeP 1 (Plan.takeP 2 (Plan.takeP 3 (Plan.takeU 4 (Plan.takeP 5 (Plan.takeP 6 (Plan.takeP 7 (Plan.takeU 8 (Plan.takeP 9 (Plan.takeP 10 (Plan.takeP 11 (Plan.run 12 (Plan.run 13 (Plan.takeP 14 Plan.done))))))))))))))))]
def S11 (l_1 : Value) (k : Value → World → Prop) (w : World) : Prop :=
   Loop2 (fun out_3 i_4 w K_5 =>
   opW Tryz.prog (Builtin.len_ #[22] 3 #[l_1]) (fun t7_7 w =>
   opW Tryz.prog (binS BinOp.lss 3 (Operand.tmp 5) (Operand.tmp 7) i_4 t7_7) (fun t8_8 w =>
   guardW (some t8_8, true) (fun k w => k i_4 w) (fun t10_9 w =>
   guardW (some t8_8, true) (fun k w => opW Tryz.prog (binS BinOp.lss 3 (Operand.tmp 10) (Operand.const (Value.int IntKind.i64 6)) t10_9 (Value.int IntKind.i64 6)) k w) (fun t11_10 w =>
   pickW t8_8 t11_10 (Value.bool false) (fun t12_11 w =>
   condW t12_11
   (drewW w (fun w =>
   ∃ S : World → Prop, S w ∧
   takeW Tryz.prog anyW (Instr.indexAt 22 l_1 i_4) (fun t18_14 =>
   takeW Tryz.prog S (Instr.loadAt 9 t18_14) (fun t19_15 =>
   takeW Tryz.prog anyW (Instr.indexAt 22 l_1 i_4) (fun t22_16 =>
   takeW Tryz.prog S (Instr.loadAt 9 t22_16) (fun t23_17 =>
   takeW Tryz.prog anyW (Builtin.len_ #[9] 3 #[t23_17]) (fun t24_18 =>
   takeW Tryz.prog anyW (Builtin.min_ #[3, 3] 3 #[t24_18, (Value.int IntKind.i64 100)]) (fun t25_19 =>
   takeW Tryz.prog anyW (Instr.sliceAt 9 t19_15 none (some t25_19) none) (fun t26_20 =>
   opW Tryz.prog (Instr.buildSlice 22 1 #[(0, t26_20)]) (fun t27_21 w => keepS S (fun w =>
   opW Tryz.prog (Builtin.append_ #[22, 22] 22 #[out_3, t27_21]) (fun t28_22 w => keepS S (fun w =>
   opW Tryz.prog (binS BinOp.add 3 (Operand.tmp 13) (Operand.const (Value.int IntKind.i64 1)) i_4 (Value.int IntKind.i64 1)) (fun t14_23 w =>
   loopK [] [] [l_1] [l_1] (K_5 t28_22 t14_23 w)) w) w) w) w) w) w) w) w) w) w) w) w))
   (k out_3 w)) w) w) w) w) w) (Value.slice none 0 0) (Value.int IntKind.i64 0) w
theorem S11_vc (l_1 : Value) (k : Value → World → Prop) (w : World) : vc Tryz.prog Tryz.f11.ntmps ann11 none ((Tryz.f11.body).getD Code.skip) 1 (params 0 [l_1]) [] (finQ Tryz.prog Tryz.f11.results.toList k) w = S11 l_1 k w := by kernel_rfl
theorem S11_calls (l_1 : Value) (k : Value → World → Prop) (w : World) (h : S11 l_1 k w) : Calls Tryz.prog 11 #[l_1] w (retP k) :=
  calls_of_vc (fn := Tryz.f11) (c := (Tryz.f11.body).getD Code.skip) ann11 Tryz.func11 (by kernel_rfl) [l_1] w k (by kernel_rfl) ((S11_vc l_1 k w).symm ▸ h)
theorem C11 (l_1 : Value) (k : Value → World → Prop) (w : World) (h : S11 l_1 k w) : callW Tryz.prog (.func (.func 11) #[] #[]) #[l_1] k w :=
  callW_calls ok11 (by simpa using S11_calls l_1 k w h)

/-! (*newswire/newswireref34.Journal).Append -/
def ann12 : Ann := [(125, Note.keep [0, 1, 5]), (250, Note.loop [5, 6, 7] [0, 1]), (510, Note.plan (Plan.takeP 0 (Plan.takeP 1 (Plan.takeP 2 (Plan.takeX 3 (Plan.takeP 4 (Plan.takeP 5 (Plan.takeP 6 (Plan.takeU 7 (Plan.takeP 8 (Plan.takeP 9 (Plan.takeP 10 (Plan.run 11 (Plan.takeP 12 Plan.done)))))))))))))), (2002, Note.keep [0, 1, 5, 6, 7]), (8186, Note.plan (Plan.takeP 0 (Plan.takeP 1 (Plan.takeP 2 (Plan.takeX 3 (Plan.takeP 4 (Plan.takeP 5 (Plan.takeP 6 (Plan.takeX 7 (Plan.takeP 8 (Plan.takeP 9 (Plan.run 10 (Plan.takeP 11 Plan.done)))))))))))))]
def S12 (j_1 l_2 : Value) (k : Value → World → Prop) (w : World) : Prop :=
   nilW j_1 (fun t13_4 w =>
   opW Tryz.prog (Instr.fieldAt 43 t13_4 3) (fun t14_5 w =>
   opW Tryz.prog (Instr.loadAt 4 t14_5) (fun t15_6 w =>
   condW t15_6
   (k (Value.int IntKind.i64 340) w)
   (nilW j_1 (fun t17_7 w =>
   opW Tryz.prog (Instr.fieldAt 43 t17_7 1) (fun t18_8 w =>
   opW Tryz.prog (Instr.loadAt 22 t18_8) (fun t19_9 w =>
   callW Tryz.prog (Value.func (Fn.func 43) #[] #[]) #[t19_9] (fun t20_10 w =>
   Loop3 (fun out_12 head_13 i_14 w K_15 =>
   opW Tryz.prog (Builtin.len_ #[22] 3 #[l_2]) (fun t23_17 w =>
   opW Tryz.prog (binS BinOp.lss 3 (Operand.tmp 21) (Operand.tmp 23) i_14 t23_17) (fun t24_18 w =>
   condW t24_18
   (opW Tryz.prog (Instr.indexAt 22 l_2 i_14) (fun t29_21 w =>
   opW Tryz.prog (Instr.loadAt 9 t29_21) (fun t30_22 w =>
   opW Tryz.prog (Builtin.len_ #[9] 3 #[t30_22]) (fun t31_23 w =>
   opW Tryz.prog (binS BinOp.gtr 3 (Operand.tmp 31) (Operand.const (Value.int IntKind.i64 65536)) t31_23 (Value.int IntKind.i64 65536)) (fun t32_24 w =>
   condW t32_24
   (k (Value.int IntKind.i64 340) w)
   (opW Tryz.prog (Instr.indexAt 22 l_2 i_14) (fun t37_25 w =>
   opW Tryz.prog (Instr.loadAt 9 t37_25) (fun t38_26 w =>
   callW Tryz.prog (Value.func (Fn.func 44) #[] #[]) #[head_13, t38_26] (fun t39_27 w =>
   opW Tryz.prog (Instr.extract t39_27 0) (fun t40_28 w =>
   opW Tryz.prog (Instr.extract t39_27 1) (fun t41_29 w =>
   opW Tryz.prog (binS BinOp.add 9 (Operand.tmp 42) (Operand.tmp 43) out_12 t40_28) (fun t44_30 w =>
   opW Tryz.prog (binS BinOp.add 3 (Operand.tmp 25) (Operand.const (Value.int IntKind.i64 1)) i_14 (Value.int IntKind.i64 1)) (fun t26_31 w =>
   loopK [] [] [j_1, l_2] [j_1, l_2] (K_15 t44_30 t41_29 t26_31 w)) w) w) w) w) w) w) w)) w) w) w) w)
   (opW Tryz.prog (Builtin.len_ #[9] 3 #[out_12]) (fun t47_33 w =>
   callW Tryz.prog (Value.func (Fn.func 21) #[] #[]) #[j_1] (fun t49_34 w =>
   opW Tryz.prog (binS BinOp.gtr 3 (Operand.tmp 47) (Operand.tmp 49) t47_33 t49_34) (fun t50_35 w =>
   condW t50_35
   (k (Value.int IntKind.i64 341) w)
   (opW Tryz.prog (binS BinOp.eql 9 (Operand.tmp 51) (Operand.const (Value.string { data := #[] })) out_12 (Value.string { data := #[] })) (fun t52_37 w =>
   condW t52_37
   (k (Value.int IntKind.i64 0) w)
   (drewW w (fun w =>
   ∃ S : World → Prop, S w ∧
   nilT j_1 (fun t54_39 =>
   takeW Tryz.prog anyW (Instr.fieldAt 43 t54_39 0) (fun t55_40 =>
   takeW Tryz.prog (sameW w) (Instr.loadAt 29 t55_40) (fun t56_41 =>
   nilT j_1 (fun t58_42 =>
   takeW Tryz.prog anyW (Instr.fieldAt 43 t58_42 2) (fun t59_43 =>
   takeW Tryz.prog S (Instr.loadAt 3 t59_43) (fun t60_44 =>
   takeW Tryz.prog anyW (binS BinOp.add 3 (Operand.tmp 60) (Operand.const (Value.int IntKind.i64 1)) t60_44 (Value.int IntKind.i64 1)) (fun t61_45 =>
   takeW Tryz.prog anyW (Instr.sliceAt 9 out_12 (some (Value.int IntKind.i64 1)) none none) (fun t63_46 =>
   callW Tryz.prog (Value.func (Fn.func 16) #[] #[]) #[t56_41, t61_45, t63_46] (fun t64_47 w => keepS S (fun w =>
   joinW (fun e_54 w =>
   joinW (fun e_66 w =>
   joinW (fun e_73 w =>
   opW Tryz.prog (binS BinOp.neq 33 (Operand.tmp 92) (Operand.const (Value.int IntKind.i64 0)) e_73 (Value.int IntKind.i64 0)) (fun t93_75 w =>
   condW t93_75
   (nilW j_1 (fun t95_76 w =>
   opW Tryz.prog (Instr.fieldAt 43 t95_76 3) (fun t96_77 w =>
   opU Tryz.prog (Instr.storeAt 4 t96_77 (Value.bool true)) (fun _ w =>
   k e_73 w) w) w) w)
   (nilW j_1 (fun t100_78 w =>
   opW Tryz.prog (Instr.fieldAt 43 t100_78 1) (fun t101_79 w =>
   opW Tryz.prog (Instr.loadAt 22 t101_79) (fun t102_80 w =>
   opW Tryz.prog (Builtin.append_ #[22, 22] 22 #[(Value.slice none 0 0), t102_80]) (fun t103_81 w =>
   opW Tryz.prog (Builtin.append_ #[22, 22] 22 #[t103_81, l_2]) (fun t107_82 w =>
   nilW j_1 (fun t108_83 w =>
   opW Tryz.prog (Instr.fieldAt 43 t108_83 1) (fun t109_84 w =>
   opU Tryz.prog (Instr.storeAt 22 t109_84 t107_82) (fun _ w =>
   nilW j_1 (fun t112_85 w =>
   opW Tryz.prog (Instr.fieldAt 43 t112_85 2) (fun t113_86 w =>
   opW Tryz.prog (Instr.loadAt 3 t113_86) (fun t114_87 w =>
   opW Tryz.prog (Builtin.len_ #[9] 3 #[out_12]) (fun t116_88 w =>
   opW Tryz.prog (binS BinOp.add 3 (Operand.tmp 114) (Operand.tmp 116) t114_87 t116_88) (fun t117_89 w =>
   nilW j_1 (fun t118_90 w =>
   opW Tryz.prog (Instr.fieldAt 43 t118_90 2) (fun t119_91 w =>
   opU Tryz.prog (Instr.storeAt 3 t119_91 t117_89) (fun _ w =>
   k (Value.int IntKind.i64 0) w) w) w) w) w) w) w) w) w) w) w) w) w) w) w) w) w)) w) (fun J_67 =>
   opW Tryz.prog (binS BinOp.eql 33 (Operand.tmp 85) (Operand.const (Value.int IntKind.i64 0)) e_66 (Value.int IntKind.i64 0)) (fun t86_68 w =>
   condW t86_68
   (nilW j_1 (fun t88_69 w =>
   opW Tryz.prog (Instr.fieldAt 43 t88_69 0) (fun t89_70 w =>
   opW Tryz.prog (Instr.loadAt 29 t89_70) (fun t90_71 w =>
   callW Tryz.prog (Value.func (Fn.func 45) #[] #[]) #[t90_71] (fun t91_72 w =>
   J_67 t91_72 w) w) w) w) w)
   (J_67 e_66 w)) w)) (fun J_55 =>
   opW Tryz.prog (binS BinOp.eql 33 (Operand.tmp 72) (Operand.const (Value.int IntKind.i64 0)) e_54 (Value.int IntKind.i64 0)) (fun t73_56 w =>
   condW t73_56
   (drewW w (fun w =>
   nilT j_1 (fun t75_58 =>
   takeW Tryz.prog anyW (Instr.fieldAt 43 t75_58 0) (fun t76_59 =>
   takeW Tryz.prog (sameW w) (Instr.loadAt 29 t76_59) (fun t77_60 =>
   nilT j_1 (fun t79_61 =>
   takeW Tryz.prog anyW (Instr.fieldAt 43 t79_61 2) (fun t80_62 =>
   takeW Tryz.prog (sameW w) (Instr.loadAt 3 t80_62) (fun t81_63 =>
   takeW Tryz.prog anyW (Instr.sliceAt 9 out_12 none (some (Value.int IntKind.i64 1)) none) (fun t83_64 =>
   callW Tryz.prog (Value.func (Fn.func 16) #[] #[]) #[t77_60, t81_63, t83_64] (fun t84_65 w =>
   J_55 t84_65 w) w) w) w) w)) w) w)))
   (J_55 e_54 w)) w)) (fun J_48 =>
   opW Tryz.prog (binS BinOp.eql 33 (Operand.tmp 65) (Operand.const (Value.int IntKind.i64 0)) t64_47 (Value.int IntKind.i64 0)) (fun t66_49 w =>
   condW t66_49
   (nilW j_1 (fun t68_50 w =>
   opW Tryz.prog (Instr.fieldAt 43 t68_50 0) (fun t69_51 w =>
   opW Tryz.prog (Instr.loadAt 29 t69_51) (fun t70_52 w =>
   callW Tryz.prog (Value.func (Fn.func 45) #[] #[]) #[t70_52] (fun t71_53 w =>
   J_48 t71_53 w) w) w) w) w)
   (J_48 t64_47 w)) w)) w) w) w) w) w) w)) w) w)))) w)) w) w) w)) w) w) (Value.string { data := #[] }) t20_10 (Value.int IntKind.i64 0) w) w) w) w) w)) w) w) w
theorem S12_vc (j_1 l_2 : Value) (k : Value → World → Prop) (w : World) : vc Tryz.prog Tryz.f12.ntmps ann12 none ((Tryz.f12.body).getD Code.skip) 1 (params 0 [j_1, l_2]) [] (finQ Tryz.prog Tryz.f12.results.toList k) w = S12 j_1 l_2 k w := by kernel_rfl
theorem S12_calls (j_1 l_2 : Value) (k : Value → World → Prop) (w : World) (h : S12 j_1 l_2 k w) : Calls Tryz.prog 12 #[j_1, l_2] w (retP k) :=
  calls_of_vc (fn := Tryz.f12) (c := (Tryz.f12.body).getD Code.skip) ann12 Tryz.func12 (by kernel_rfl) [j_1, l_2] w k (by kernel_rfl) ((S12_vc j_1 l_2 k w).symm ▸ h)
theorem C12 (j_1 l_2 : Value) (k : Value → World → Prop) (w : World) (h : S12 j_1 l_2 k w) : callW Tryz.prog (.func (.func 12) #[] #[]) #[j_1, l_2] k w :=
  callW_calls ok12 (by simpa using S12_calls j_1 l_2 k w h)

/-! (*newswire/disk.Disk).Write -/
def ann13 : Ann := [(62, Note.plan (Plan.takeP 0 (Plan.takeP 1 (Plan.takeP 2 (Plan.takeP 3 (Plan.takeU 4 (Plan.takeU 5 (Plan.run 6 (Plan.run 7 (Plan.takeP 8 (Plan.takeP 9 (Plan.run 10 Plan.done)))))))))))), (126, Note.plan (Plan.takeX 0 (Plan.takeP 1 (Plan.takeP 2 (Plan.takeP 3 (Plan.takeX 4 (Plan.run 5 Plan.done)))))))]
def S13 (d_1 off_2 s_3 : Value) (k : Value → World → Prop) (w : World) : Prop :=
   callW Tryz.prog (Value.func (Fn.func 46) #[] #[]) #[d_1] (fun t10_5 w =>
   opW Tryz.prog (binS BinOp.neq 33 (Operand.tmp 11) (Operand.const (Value.int IntKind.i64 0)) t10_5 (Value.int IntKind.i64 0)) (fun t12_6 w =>
   condW t12_6
   (k t10_5 w)
   (opW Tryz.prog (Builtin.len_ #[9] 3 #[s_3]) (fun t17_8 w =>
   callW Tryz.prog (Value.func (Fn.func 47) #[] #[]) #[d_1, off_2, t17_8] (fun t18_9 w =>
   opW Tryz.prog (Op.unary UnOp.not t18_9) (fun t19_10 w =>
   condW t19_10
   (k (Value.int IntKind.i64 330) w)
   (opW Tryz.prog (Instr.build 92 #[(0, off_2), (1, s_3)]) (fun t22_11 w =>
   opW Tryz.prog (Instr.alloc 92 true (Value.tuple #[])) (fun w_12 w =>
   opU Tryz.prog (Instr.storeAt 92 w_12 t22_11) (fun _ w =>
   drewW w (fun w =>
   ∃ S : World → Prop, S w ∧
   nilT d_1 (fun t25_14 =>
   takeW Tryz.prog anyW (Instr.fieldAt 97 t25_14 3) (fun t26_15 =>
   takeW Tryz.prog S (Instr.loadAt 93 t26_15) (fun t27_16 =>
   takeW Tryz.prog S (Instr.loadAt 92 w_12) (fun t28_17 =>
   opW Tryz.prog (Instr.buildSlice 93 1 #[(0, t28_17)]) (fun t29_18 w => keepS S (fun w =>
   opW Tryz.prog (Builtin.append_ #[93, 93] 93 #[t27_16, t29_18]) (fun t30_19 w => keepS S (fun w =>
   nilT d_1 (fun t31_20 =>
   takeW Tryz.prog anyW (Instr.fieldAt 97 t31_20 3) (fun t32_21 =>
   opU Tryz.prog (Instr.storeAt 93 t32_21 t30_19) (fun _ w =>
   drewW w (fun w =>
   takeW Tryz.prog (sameW w) (Instr.loadAt 92 w_12) (fun t33_23 =>
   nilT d_1 (fun t35_24 =>
   takeW Tryz.prog anyW (Instr.fieldAt 97 t35_24 2) (fun t36_25 =>
   takeW Tryz.prog (sameW w) (Instr.loadAt 39 t36_25) (fun t37_26 =>
   callW Tryz.prog (Value.func (Fn.func 48) #[] #[]) #[t33_23, t37_26] (fun t38_27 w =>
   nilW d_1 (fun t40_28 w =>
   opW Tryz.prog (Instr.fieldAt 97 t40_28 0) (fun t41_29 w =>
   callW Tryz.prog (Value.func (Fn.func 49) #[] #[]) #[t41_29] (fun t42_30 w =>
   k (Value.int IntKind.i64 0) w) w) w) w) w) w) w)) w)) w) w)) w) w) w) w) w) w) w))) w) w) w)) w) w) w)) w) w
theorem S13_vc (d_1 off_2 s_3 : Value) (k : Value → World → Prop) (w : World) : vc Tryz.prog Tryz.f13.ntmps ann13 none ((Tryz.f13.body).getD Code.skip) 1 (params 0 [d_1, off_2, s_3]) [] (finQ Tryz.prog Tryz.f13.results.toList k) w = S13 d_1 off_2 s_3 k w := by kernel_rfl
theorem S13_calls (d_1 off_2 s_3 : Value) (k : Value → World → Prop) (w : World) (h : S13 d_1 off_2 s_3 k w) : Calls Tryz.prog 13 #[d_1, off_2, s_3] w (retP k) :=
  calls_of_vc (fn := Tryz.f13) (c := (Tryz.f13.body).getD Code.skip) ann13 Tryz.func13 (by kernel_rfl) [d_1, off_2, s_3] w k (by kernel_rfl) ((S13_vc d_1 off_2 s_3 k w).symm ▸ h)
theorem C13 (d_1 off_2 s_3 : Value) (k : Value → World → Prop) (w : World) (h : S13 d_1 off_2 s_3 k w) : callW Tryz.prog (.func (.func 13) #[] #[]) #[d_1, off_2, s_3] k w :=
  callW_calls ok13 (by simpa using S13_calls d_1 off_2 s_3 k w h)

/-! newswire/newswirelaw34.pick -/
def ann14 : Ann := []
def S14 (c_1 n_2 : Value) (k : Value → World → Prop) (w : World) : Prop :=
   joinW (fun c_7 w =>
   opW Tryz.prog (binS BinOp.rem 3 (Operand.tmp 10) (Operand.tmp 11) c_7 n_2) (fun t12_8 w =>
   k t12_8 w) w) (fun J_3 =>
   opW Tryz.prog (binS BinOp.lss 3 (Operand.tmp 5) (Operand.const (Value.int IntKind.i64 0)) c_1 (Value.int IntKind.i64 0)) (fun t6_4 w =>
   condW t6_4
   (opW Tryz.prog (binS BinOp.add 3 (Operand.tmp 7) (Operand.const (Value.int IntKind.i64 1)) c_1 (Value.int IntKind.i64 1)) (fun t8_5 w =>
   opW Tryz.prog (Op.unary UnOp.neg t8_5) (fun t9_6 w =>
   J_3 t9_6 w) w) w)
   (J_3 c_1 w)) w)
theorem S14_vc (c_1 n_2 : Value) (k : Value → World → Prop) (w : World) : vc Tryz.prog Tryz.f14.ntmps ann14 none ((Tryz.f14.body).getD Code.skip) 1 (params 0 [c_1, n_2]) [] (finQ Tryz.prog Tryz.f14.results.toList k) w = S14 c_1 n_2 k w := by kernel_rfl
theorem S14_calls (c_1 n_2 : Value) (k : Value → World → Prop) (w : World) (h : S14 c_1 n_2 k w) : Calls Tryz.prog 14 #[c_1, n_2] w (retP k) :=
  calls_of_vc (fn := Tryz.f14) (c := (Tryz.f14.body).getD Code.skip) ann14 Tryz.func14 (by kernel_rfl) [c_1, n_2] w k (by kernel_rfl) ((S14_vc c_1 n_2 k w).symm ▸ h)
theorem C14 (c_1 n_2 : Value) (k : Value → World → Prop) (w : World) (h : S14 c_1 n_2 k w) : callW Tryz.prog (.func (.func 14) #[] #[]) #[c_1, n_2] k w :=
  callW_calls ok14 (by simpa using S14_calls c_1 n_2 k w h)

/-! newswire/newswirelaw34.size -/
def ann15 : Ann := []
def S15 (n_1 : Value) (k : Value → World → Prop) (w : World) : Prop :=
   callW Tryz.prog (Value.func (Fn.func 14) #[] #[]) #[n_1, (Value.int IntKind.i64 1500)] (fun t4_2 w =>
   opW Tryz.prog (binS BinOp.add 3 (Operand.const (Value.int IntKind.i64 1)) (Operand.tmp 4) (Value.int IntKind.i64 1) t4_2) (fun t5_3 w =>
   k t5_3 w) w) w
theorem S15_vc (n_1 : Value) (k : Value → World → Prop) (w : World) : vc Tryz.prog Tryz.f15.ntmps ann15 none ((Tryz.f15.body).getD Code.skip) 1 (params 0 [n_1]) [] (finQ Tryz.prog Tryz.f15.results.toList k) w = S15 n_1 k w := by kernel_rfl
theorem S15_calls (n_1 : Value) (k : Value → World → Prop) (w : World) (h : S15 n_1 k w) : Calls Tryz.prog 15 #[n_1] w (retP k) :=
  calls_of_vc (fn := Tryz.f15) (c := (Tryz.f15.body).getD Code.skip) ann15 Tryz.func15 (by kernel_rfl) [n_1] w k (by kernel_rfl) ((S15_vc n_1 k w).symm ▸ h)
theorem C15 (n_1 : Value) (k : Value → World → Prop) (w : World) (h : S15 n_1 k w) : callW Tryz.prog (.func (.func 15) #[] #[]) #[n_1] k w :=
  callW_calls ok15 (by simpa using S15_calls n_1 k w h)

/-! (*newswire/newswireref33.Disk).Write -/
def ann16 : Ann := []
def S16 (d_1 off_2 s_3 : Value) (k : Value → World → Prop) (w : World) : Prop :=
   nilW d_1 (fun t8_5 w =>
   opW Tryz.prog (Instr.fieldAt 67 t8_5 2) (fun t9_6 w =>
   opW Tryz.prog (Instr.loadAt 4 t9_6) (fun t10_7 w =>
   condW t10_7
   (k (Value.int IntKind.i64 331) w)
   (opW Tryz.prog (binS BinOp.lss 3 (Operand.tmp 11) (Operand.const (Value.int IntKind.i64 0)) off_2 (Value.int IntKind.i64 0)) (fun t12_9 w =>
   guardW (some t12_9, false) (fun k w => k off_2 w) (fun t14_10 w =>
   guardW (some t12_9, false) (fun k w => k d_1 w) (fun t15_11 w =>
   guardW (some t12_9, false) (fun k w => nilW t15_11 k w) (fun t16_12 w =>
   guardW (some t12_9, false) (fun k w => opW Tryz.prog (Instr.fieldAt 67 t16_12 0) k w) (fun t17_13 w =>
   guardW (some t12_9, false) (fun k w => opW Tryz.prog (Instr.loadAt 39 t17_13) k w) (fun t18_14 w =>
   guardW (some t12_9, false) (fun k w => opW Tryz.prog (Builtin.len_ #[39] 3 #[t18_14]) k w) (fun t19_15 w =>
   guardW (some t12_9, false) (fun k w => opW Tryz.prog (binS BinOp.gtr 3 (Operand.tmp 14) (Operand.tmp 19) t14_10 t19_15) k w) (fun t20_16 w =>
   pickW t12_9 (Value.bool true) t20_16 (fun t21_17 w =>
   guardW (some t21_17, false) (fun k w => k s_3 w) (fun t23_18 w =>
   guardW (some t21_17, false) (fun k w => opW Tryz.prog (Builtin.len_ #[9] 3 #[t23_18]) k w) (fun t24_19 w =>
   guardW (some t21_17, false) (fun k w => k d_1 w) (fun t25_20 w =>
   guardW (some t21_17, false) (fun k w => nilW t25_20 k w) (fun t26_21 w =>
   guardW (some t21_17, false) (fun k w => opW Tryz.prog (Instr.fieldAt 67 t26_21 0) k w) (fun t27_22 w =>
   guardW (some t21_17, false) (fun k w => opW Tryz.prog (Instr.loadAt 39 t27_22) k w) (fun t28_23 w =>
   guardW (some t21_17, false) (fun k w => opW Tryz.prog (Builtin.len_ #[39] 3 #[t28_23]) k w) (fun t29_24 w =>
   guardW (some t21_17, false) (fun k w => k off_2 w) (fun t30_25 w =>
   guardW (some t21_17, false) (fun k w => opW Tryz.prog (binS BinOp.sub 3 (Operand.tmp 29) (Operand.tmp 30) t29_24 t30_25) k w) (fun t31_26 w =>
   guardW (some t21_17, false) (fun k w => opW Tryz.prog (binS BinOp.gtr 3 (Operand.tmp 24) (Operand.tmp 31) t24_19 t31_26) k w) (fun t32_27 w =>
   pickW t21_17 (Value.bool true) t32_27 (fun t33_28 w =>
   condW t33_28
   (k (Value.int IntKind.i64 330) w)
   (nilW d_1 (fun t36_29 w =>
   opW Tryz.prog (Instr.fieldAt 67 t36_29 1) (fun t37_30 w =>
   opW Tryz.prog (Instr.loadAt 65 t37_30) (fun t38_31 w =>
   opW Tryz.prog (Instr.build 100 #[(0, off_2), (1, s_3)]) (fun t41_32 w =>
   opW Tryz.prog (Instr.buildSlice 65 1 #[(0, t41_32)]) (fun t42_33 w =>
   opW Tryz.prog (Builtin.append_ #[65, 65] 65 #[t38_31, t42_33]) (fun t43_34 w =>
   nilW d_1 (fun t44_35 w =>
   opW Tryz.prog (Instr.fieldAt 67 t44_35 1) (fun t45_36 w =>
   opU Tryz.prog (Instr.storeAt 65 t45_36 t43_34) (fun _ w =>
   joinW (fun w =>
   k (Value.int IntKind.i64 0) w) (fun J_37 =>
   nilW d_1 (fun t47_38 w =>
   opW Tryz.prog (Instr.fieldAt 67 t47_38 3) (fun t48_39 w =>
   opW Tryz.prog (Instr.loadAt 3 t48_39) (fun t49_40 w =>
   opW Tryz.prog (binS BinOp.gtr 3 (Operand.tmp 49) (Operand.const (Value.int IntKind.i64 0)) t49_40 (Value.int IntKind.i64 0)) (fun t50_41 w =>
   condW t50_41
   (nilW d_1 (fun t52_42 w =>
   opW Tryz.prog (Instr.fieldAt 67 t52_42 3) (fun t53_43 w =>
   opW Tryz.prog (Instr.loadAt 3 t53_43) (fun t54_44 w =>
   opW Tryz.prog (binS BinOp.sub 3 (Operand.tmp 54) (Operand.const (Value.int IntKind.i64 1)) t54_44 (Value.int IntKind.i64 1)) (fun t55_45 w =>
   nilW d_1 (fun t56_46 w =>
   opW Tryz.prog (Instr.fieldAt 67 t56_46 3) (fun t57_47 w =>
   opU Tryz.prog (Instr.storeAt 3 t57_47 t55_45) (fun _ w =>
   nilW d_1 (fun t59_48 w =>
   opW Tryz.prog (Instr.fieldAt 67 t59_48 3) (fun t60_49 w =>
   opW Tryz.prog (Instr.loadAt 3 t60_49) (fun t61_50 w =>
   opW Tryz.prog (binS BinOp.eql 3 (Operand.tmp 61) (Operand.const (Value.int IntKind.i64 0)) t61_50 (Value.int IntKind.i64 0)) (fun t62_51 w =>
   condW t62_51
   (nilW d_1 (fun t64_52 w =>
   opW Tryz.prog (Instr.fieldAt 67 t64_52 2) (fun t65_53 w =>
   opU Tryz.prog (Instr.storeAt 4 t65_53 (Value.bool true)) (fun _ w =>
   J_37 w) w) w) w)
   (J_37 w)) w) w) w) w) w) w) w) w) w) w) w)
   (J_37 w)) w) w) w) w)) w) w) w) w) w) w) w) w) w)) w) w) w) w) w) w) w) w) w) w) w) w) w) w) w) w) w) w) w) w)) w) w) w
theorem S16_vc (d_1 off_2 s_3 : Value) (k : Value → World → Prop) (w : World) : vc Tryz.prog Tryz.f16.ntmps ann16 none ((Tryz.f16.body).getD Code.skip) 1 (params 0 [d_1, off_2, s_3]) [] (finQ Tryz.prog Tryz.f16.results.toList k) w = S16 d_1 off_2 s_3 k w := by kernel_rfl
theorem S16_calls (d_1 off_2 s_3 : Value) (k : Value → World → Prop) (w : World) (h : S16 d_1 off_2 s_3 k w) : Calls Tryz.prog 16 #[d_1, off_2, s_3] w (retP k) :=
  calls_of_vc (fn := Tryz.f16) (c := (Tryz.f16.body).getD Code.skip) ann16 Tryz.func16 (by kernel_rfl) [d_1, off_2, s_3] w k (by kernel_rfl) ((S16_vc d_1 off_2 s_3 k w).symm ▸ h)
theorem C16 (d_1 off_2 s_3 : Value) (k : Value → World → Prop) (w : World) (h : S16 d_1 off_2 s_3 k w) : callW Tryz.prog (.func (.func 16) #[] #[]) #[d_1, off_2, s_3] k w :=
  callW_calls ok16 (by simpa using S16_calls d_1 off_2 s_3 k w h)

/-! (*newswire/newswirelaw34.world).open -/
def ann17 : Ann := []
def S17 (w_1 : Value) (k : Value → World → Prop) (w : World) : Prop :=
   nilW w_1 (fun t9_2 w =>
   opW Tryz.prog (Instr.fieldAt 32 t9_2 0) (fun t10_3 w =>
   opW Tryz.prog (Instr.loadAt 27 t10_3) (fun t11_4 w =>
   callW Tryz.prog (Value.func (Fn.func 25) #[] #[]) #[t11_4] (fun t12_5 w =>
   opW Tryz.prog (Instr.extract t12_5 0) (fun t13_6 w =>
   opW Tryz.prog (Instr.extract t12_5 1) (fun t14_7 w =>
   nilW w_1 (fun t17_8 w =>
   opW Tryz.prog (Instr.fieldAt 32 t17_8 2) (fun t18_9 w =>
   opW Tryz.prog (Instr.loadAt 29 t18_9) (fun t19_10 w =>
   callW Tryz.prog (Value.func (Fn.func 50) #[] #[]) #[t19_10] (fun t20_11 w =>
   opW Tryz.prog (Instr.extract t20_11 0) (fun t21_12 w =>
   opW Tryz.prog (Instr.extract t20_11 1) (fun t22_13 w =>
   nilW w_1 (fun t25_14 w =>
   opW Tryz.prog (Instr.fieldAt 32 t25_14 1) (fun t26_15 w =>
   opU Tryz.prog (Instr.storeAt 28 t26_15 t13_6) (fun _ w =>
   nilW w_1 (fun t29_16 w =>
   opW Tryz.prog (Instr.fieldAt 32 t29_16 3) (fun t30_17 w =>
   opU Tryz.prog (Instr.storeAt 30 t30_17 t21_12) (fun _ w =>
   opW Tryz.prog (binS BinOp.eql 33 (Operand.tmp 31) (Operand.tmp 32) t14_7 t22_13) (fun t33_18 w =>
   guardW (some t33_18, true) (fun k w => k t14_7 w) (fun t35_19 w =>
   guardW (some t33_18, true) (fun k w => opW Tryz.prog (binS BinOp.neq 33 (Operand.tmp 35) (Operand.const (Value.int IntKind.i64 0)) t35_19 (Value.int IntKind.i64 0)) k w) (fun t36_20 w =>
   guardW (some t33_18, true) (fun k w => k t13_6 w) (fun t37_21 w =>
   guardW (some t33_18, true) (fun k w => opW Tryz.prog (binS BinOp.eql 28 (Operand.tmp 37) (Operand.const (Value.pointer none)) t37_21 (Value.pointer none)) k w) (fun t38_22 w =>
   guardW (some t33_18, true) (fun k w => opW Tryz.prog (binS BinOp.eql 4 (Operand.tmp 36) (Operand.tmp 38) t36_20 t38_22) k w) (fun t39_23 w =>
   pickW t33_18 t39_23 (Value.bool false) (fun t40_24 w =>
   k t40_24 w) w) w) w) w) w) w) w) w) w) w) w) w) w) w) w) w) w) w) w) w) w) w) w) w) w
theorem S17_vc (w_1 : Value) (k : Value → World → Prop) (w : World) : vc Tryz.prog Tryz.f17.ntmps ann17 none ((Tryz.f17.body).getD Code.skip) 1 (params 0 [w_1]) [] (finQ Tryz.prog Tryz.f17.results.toList k) w = S17 w_1 k w := by kernel_rfl
theorem S17_calls (w_1 : Value) (k : Value → World → Prop) (w : World) (h : S17 w_1 k w) : Calls Tryz.prog 17 #[w_1] w (retP k) :=
  calls_of_vc (fn := Tryz.f17) (c := (Tryz.f17.body).getD Code.skip) ann17 Tryz.func17 (by kernel_rfl) [w_1] w k (by kernel_rfl) ((S17_vc w_1 k w).symm ▸ h)
theorem C17 (w_1 : Value) (k : Value → World → Prop) (w : World) (h : S17 w_1 k w) : callW Tryz.prog (.func (.func 17) #[] #[]) #[w_1] k w :=
  callW_calls ok17 (by simpa using S17_calls w_1 k w h)

/-! newswire/newswirelaw34.same -/
def ann18 : Ann := [(29, Note.keep []), (58, Note.loop [5] [0, 1]), (466, Note.keep [0, 1, 5]), (1864, Note.plan (Plan.takeP 0 (Plan.takeP 1 (Plan.takeP 2 (Plan.takeX 3 (Plan.takeP 4 (Plan.takeP 5 (Plan.takeP 6 (Plan.takeX 7 (Plan.takeP 8 Plan.done))))))))))]
def S18 (a_1 b_2 : Value) (k : Value → World → Prop) (w : World) : Prop :=
   opW Tryz.prog (Builtin.len_ #[22] 3 #[a_1]) (fun t7_4 w =>
   opW Tryz.prog (Builtin.len_ #[22] 3 #[b_2]) (fun t9_5 w =>
   opW Tryz.prog (binS BinOp.neq 3 (Operand.tmp 7) (Operand.tmp 9) t7_4 t9_5) (fun t10_6 w =>
   condW t10_6
   (k (Value.bool false) w)
   (Loop1 (fun i_8 w K_9 =>
   opW Tryz.prog (Builtin.len_ #[22] 3 #[a_1]) (fun t13_11 w =>
   opW Tryz.prog (binS BinOp.lss 3 (Operand.tmp 11) (Operand.tmp 13) i_8 t13_11) (fun t14_12 w =>
   condW t14_12
   (drewW w (fun w =>
   takeW Tryz.prog anyW (Instr.indexAt 22 a_1 i_8) (fun t19_15 =>
   takeW Tryz.prog (sameW w) (Instr.loadAt 9 t19_15) (fun t20_16 =>
   takeW Tryz.prog anyW (Instr.indexAt 22 b_2 i_8) (fun t23_17 =>
   takeW Tryz.prog (sameW w) (Instr.loadAt 9 t23_17) (fun t24_18 =>
   takeW Tryz.prog anyW (binS BinOp.neq 9 (Operand.tmp 20) (Operand.tmp 24) t20_16 t24_18) (fun t25_19 =>
   condW t25_19
   (k (Value.bool false) w)
   (opW Tryz.prog (binS BinOp.add 3 (Operand.tmp 15) (Operand.const (Value.int IntKind.i64 1)) i_8 (Value.int IntKind.i64 1)) (fun t16_20 w =>
   loopK [] [] [a_1, b_2] [a_1, b_2] (K_9 t16_20 w)) w)) w) w) w) w) w))
   (k (Value.bool true) w)) w) w) (Value.int IntKind.i64 0) w)) w) w) w
theorem S18_vc (a_1 b_2 : Value) (k : Value → World → Prop) (w : World) : vc Tryz.prog Tryz.f18.ntmps ann18 none ((Tryz.f18.body).getD Code.skip) 1 (params 0 [a_1, b_2]) [] (finQ Tryz.prog Tryz.f18.results.toList k) w = S18 a_1 b_2 k w := by kernel_rfl
theorem S18_calls (a_1 b_2 : Value) (k : Value → World → Prop) (w : World) (h : S18 a_1 b_2 k w) : Calls Tryz.prog 18 #[a_1, b_2] w (retP k) :=
  calls_of_vc (fn := Tryz.f18) (c := (Tryz.f18.body).getD Code.skip) ann18 Tryz.func18 (by kernel_rfl) [a_1, b_2] w k (by kernel_rfl) ((S18_vc a_1 b_2 k w).symm ▸ h)
theorem C18 (a_1 b_2 : Value) (k : Value → World → Prop) (w : World) (h : S18 a_1 b_2 k w) : callW Tryz.prog (.func (.func 18) #[] #[]) #[a_1, b_2] k w :=
  callW_calls ok18 (by simpa using S18_calls a_1 b_2 k w h)

/-! (*newswire/journal.Journal).Records -/
def ann19 : Ann := []
def S19 (j_1 : Value) (k : Value → World → Prop) (w : World) : Prop :=
   opW Tryz.prog (binS BinOp.eql 28 (Operand.tmp 3) (Operand.const (Value.pointer none)) j_1 (Value.pointer none)) (fun t4_3 w =>
   condW t4_3
   (k (Value.slice none 0 0) w)
   (nilW j_1 (fun t6_4 w =>
   opW Tryz.prog (Instr.fieldAt 74 t6_4 0) (fun t7_5 w =>
   opW Tryz.prog (Instr.fieldAt 72 t7_5 0) (fun t8_6 w =>
   opW Tryz.prog (Instr.loadAt 22 t8_6) (fun t9_7 w =>
   callW Tryz.prog (Value.func (Fn.func 36) #[] #[]) #[t9_7] (fun t10_8 w =>
   k t10_8 w) w) w) w) w) w)) w
theorem S19_vc (j_1 : Value) (k : Value → World → Prop) (w : World) : vc Tryz.prog Tryz.f19.ntmps ann19 none ((Tryz.f19.body).getD Code.skip) 1 (params 0 [j_1]) [] (finQ Tryz.prog Tryz.f19.results.toList k) w = S19 j_1 k w := by kernel_rfl
theorem S19_calls (j_1 : Value) (k : Value → World → Prop) (w : World) (h : S19 j_1 k w) : Calls Tryz.prog 19 #[j_1] w (retP k) :=
  calls_of_vc (fn := Tryz.f19) (c := (Tryz.f19.body).getD Code.skip) ann19 Tryz.func19 (by kernel_rfl) [j_1] w k (by kernel_rfl) ((S19_vc j_1 k w).symm ▸ h)
theorem C19 (j_1 : Value) (k : Value → World → Prop) (w : World) (h : S19 j_1 k w) : callW Tryz.prog (.func (.func 19) #[] #[]) #[j_1] k w :=
  callW_calls ok19 (by simpa using S19_calls j_1 k w h)

/-! (*newswire/journal.Journal).Room -/
def ann20 : Ann := [(14, Note.plan (Plan.takeP 0 (Plan.takeP 1 (Plan.takeP 2 (Plan.takeX 3 (Plan.takeP 5 (Plan.takeP 6 (Plan.takeP 7 (Plan.takeP 8 (Plan.takeU 9 (Plan.run 4 (Plan.takeP 10 (Plan.takeP 11 Plan.done)))))))))))))]
def S20 (j_1 : Value) (k : Value → World → Prop) (w : World) : Prop :=
   opW Tryz.prog (binS BinOp.eql 28 (Operand.tmp 3) (Operand.const (Value.pointer none)) j_1 (Value.pointer none)) (fun t4_3 w =>
   condW t4_3
   (k (Value.int IntKind.i64 0) w)
   (drewW w (fun w =>
   ∃ S : World → Prop, S w ∧
   nilT j_1 (fun t6_5 =>
   takeW Tryz.prog anyW (Instr.fieldAt 74 t6_5 1) (fun t7_6 =>
   takeW Tryz.prog (sameW w) (Instr.loadAt 27 t7_6) (fun t8_7 =>
   nilT j_1 (fun t11_8 =>
   takeW Tryz.prog anyW (Instr.fieldAt 74 t11_8 0) (fun t12_9 =>
   takeW Tryz.prog anyW (Instr.fieldAt 72 t12_9 2) (fun t13_10 =>
   takeW Tryz.prog S (Instr.loadAt 3 t13_10) (fun t14_11 =>
   callW Tryz.prog (Value.func (Fn.func 51) #[] #[]) #[t8_7] (fun t9_12 w => keepS S (fun w =>
   takeW Tryz.prog anyW (binS BinOp.sub 3 (Operand.tmp 9) (Operand.tmp 14) t9_12 t14_11) (fun t15_13 =>
   k t15_13 w) w) w) w) w) w) w)) w) w)))) w
theorem S20_vc (j_1 : Value) (k : Value → World → Prop) (w : World) : vc Tryz.prog Tryz.f20.ntmps ann20 none ((Tryz.f20.body).getD Code.skip) 1 (params 0 [j_1]) [] (finQ Tryz.prog Tryz.f20.results.toList k) w = S20 j_1 k w := by kernel_rfl
theorem S20_calls (j_1 : Value) (k : Value → World → Prop) (w : World) (h : S20 j_1 k w) : Calls Tryz.prog 20 #[j_1] w (retP k) :=
  calls_of_vc (fn := Tryz.f20) (c := (Tryz.f20.body).getD Code.skip) ann20 Tryz.func20 (by kernel_rfl) [j_1] w k (by kernel_rfl) ((S20_vc j_1 k w).symm ▸ h)
theorem C20 (j_1 : Value) (k : Value → World → Prop) (w : World) (h : S20 j_1 k w) : callW Tryz.prog (.func (.func 20) #[] #[]) #[j_1] k w :=
  callW_calls ok20 (by simpa using S20_calls j_1 k w h)

/-! (*newswire/newswireref34.Journal).Room -/
def ann21 : Ann := [(6, Note.plan (Plan.takeP 0 (Plan.takeP 1 (Plan.takeP 2 (Plan.takeX 3 (Plan.takeP 4 (Plan.takeP 5 (Plan.takeX 6 (Plan.takeP 7 (Plan.takeP 8 (Plan.takeP 9 (Plan.takeP 10 (Plan.takeX 11 (Plan.takeP 12 (Plan.takeP 13 Plan.done)))))))))))))))]
def S21 (j_1 : Value) (k : Value → World → Prop) (w : World) : Prop :=
   drewW w (fun w =>
   nilT j_1 (fun t4_3 =>
   takeW Tryz.prog anyW (Instr.fieldAt 43 t4_3 0) (fun t5_4 =>
   takeW Tryz.prog (sameW w) (Instr.loadAt 29 t5_4) (fun t6_5 =>
   nilT t6_5 (fun t7_6 =>
   takeW Tryz.prog anyW (Instr.fieldAt 67 t7_6 0) (fun t8_7 =>
   takeW Tryz.prog (sameW w) (Instr.loadAt 39 t8_7) (fun t9_8 =>
   takeW Tryz.prog anyW (Builtin.len_ #[39] 3 #[t9_8]) (fun t10_9 =>
   nilT j_1 (fun t12_10 =>
   takeW Tryz.prog anyW (Instr.fieldAt 43 t12_10 2) (fun t13_11 =>
   takeW Tryz.prog (sameW w) (Instr.loadAt 3 t13_11) (fun t14_12 =>
   takeW Tryz.prog anyW (binS BinOp.sub 3 (Operand.tmp 10) (Operand.tmp 14) t10_9 t14_12) (fun t15_13 =>
   k t15_13 w) w) w) w)) w) w) w)) w) w))
theorem S21_vc (j_1 : Value) (k : Value → World → Prop) (w : World) : vc Tryz.prog Tryz.f21.ntmps ann21 none ((Tryz.f21.body).getD Code.skip) 1 (params 0 [j_1]) [] (finQ Tryz.prog Tryz.f21.results.toList k) w = S21 j_1 k w := by kernel_rfl
theorem S21_calls (j_1 : Value) (k : Value → World → Prop) (w : World) (h : S21 j_1 k w) : Calls Tryz.prog 21 #[j_1] w (retP k) :=
  calls_of_vc (fn := Tryz.f21) (c := (Tryz.f21.body).getD Code.skip) ann21 Tryz.func21 (by kernel_rfl) [j_1] w k (by kernel_rfl) ((S21_vc j_1 k w).symm ▸ h)
theorem C21 (j_1 : Value) (k : Value → World → Prop) (w : World) (h : S21 j_1 k w) : callW Tryz.prog (.func (.func 21) #[] #[]) #[j_1] k w :=
  callW_calls ok21 (by simpa using S21_calls j_1 k w h)

/-! newswire/newswirelaw34.content -/
def ann22 : Ann := []
def S22 (d_1 : Value) (k : Value → World → Prop) (w : World) : Prop :=
   callW Tryz.prog (Value.func (Fn.func 51) #[] #[]) #[d_1] (fun t8_2 w =>
   callW Tryz.prog (Value.func (Fn.func 52) #[] #[]) #[d_1, (Value.int IntKind.i64 0), t8_2] (fun t9_3 w =>
   opW Tryz.prog (Instr.extract t9_3 0) (fun t10_4 w =>
   opW Tryz.prog (Instr.extract t9_3 1) (fun t11_5 w =>
   k t10_4 w) w) w) w) w
theorem S22_vc (d_1 : Value) (k : Value → World → Prop) (w : World) : vc Tryz.prog Tryz.f22.ntmps ann22 none ((Tryz.f22.body).getD Code.skip) 1 (params 0 [d_1]) [] (finQ Tryz.prog Tryz.f22.results.toList k) w = S22 d_1 k w := by kernel_rfl
theorem S22_calls (d_1 : Value) (k : Value → World → Prop) (w : World) (h : S22 d_1 k w) : Calls Tryz.prog 22 #[d_1] w (retP k) :=
  calls_of_vc (fn := Tryz.f22) (c := (Tryz.f22.body).getD Code.skip) ann22 Tryz.func22 (by kernel_rfl) [d_1] w k (by kernel_rfl) ((S22_vc d_1 k w).symm ▸ h)
theorem C22 (d_1 : Value) (k : Value → World → Prop) (w : World) (h : S22 d_1 k w) : callW Tryz.prog (.func (.func 22) #[] #[]) #[d_1] k w :=
  callW_calls ok22 (by simpa using S22_calls d_1 k w h)

/-! (*newswire/newswireref33.Disk).Visible -/
def ann23 : Ann := [(29, Note.keep [3]), (58, Note.loop [4] [0, 3]), (466, Note.keep [0, 3, 4]), (932, Note.plan (Plan.takeP 0 (Plan.takeP 1 (Plan.takeP 2 (Plan.takeP 3 (Plan.takeU 4 (Plan.takeP 5 (Plan.takeP 6 (Plan.takeP 7 (Plan.takeX 8 (Plan.takeP 9 (Plan.takeP 10 (Plan.takeP 11 (Plan.takeU 12 (Plan.takeP 13 (Plan.takeP 14 (Plan.takeP 15 (Plan.takeX 16 (Plan.run 17 Plan.done)))))))))))))))))))]
def S23 (d_1 : Value) (k : Value → World → Prop) (w : World) : Prop :=
   opW Tryz.prog (Instr.buildSlice 39 0 #[]) (fun t5_2 w =>
   nilW d_1 (fun t7_3 w =>
   opW Tryz.prog (Instr.fieldAt 67 t7_3 0) (fun t8_4 w =>
   opW Tryz.prog (Instr.loadAt 39 t8_4) (fun t9_5 w =>
   opW Tryz.prog (Builtin.append_ #[39, 39] 39 #[t5_2, t9_5]) (fun t10_6 w =>
   Loop1 (fun i_8 w K_9 =>
   nilW d_1 (fun t13_11 w =>
   opW Tryz.prog (Instr.fieldAt 67 t13_11 1) (fun t14_12 w =>
   opW Tryz.prog (Instr.loadAt 65 t14_12) (fun t15_13 w =>
   opW Tryz.prog (Builtin.len_ #[65] 3 #[t15_13]) (fun t16_14 w =>
   opW Tryz.prog (binS BinOp.lss 3 (Operand.tmp 11) (Operand.tmp 16) i_8 t16_14) (fun t17_15 w =>
   condW t17_15
   (drewW w (fun w =>
   ∃ S : World → Prop, S w ∧
   nilT d_1 (fun t22_18 =>
   takeW Tryz.prog anyW (Instr.fieldAt 67 t22_18 1) (fun t23_19 =>
   takeW Tryz.prog S (Instr.loadAt 65 t23_19) (fun t24_20 =>
   takeW Tryz.prog anyW (Instr.indexAt 65 t24_20 i_8) (fun t26_21 =>
   takeW Tryz.prog anyW (Instr.fieldAt 100 t26_21 0) (fun t27_22 =>
   takeW Tryz.prog (sameW w) (Instr.loadAt 3 t27_22) (fun t28_23 =>
   nilT d_1 (fun t30_24 =>
   takeW Tryz.prog anyW (Instr.fieldAt 67 t30_24 1) (fun t31_25 =>
   takeW Tryz.prog S (Instr.loadAt 65 t31_25) (fun t32_26 =>
   takeW Tryz.prog anyW (Instr.indexAt 65 t32_26 i_8) (fun t34_27 =>
   takeW Tryz.prog anyW (Instr.fieldAt 100 t34_27 1) (fun t35_28 =>
   takeW Tryz.prog (sameW w) (Instr.loadAt 9 t35_28) (fun t36_29 =>
   callW Tryz.prog (Value.func (Fn.func 53) #[] #[]) #[t10_6, t28_23, t36_29] (fun t37_30 w => keepS S (fun w =>
   opW Tryz.prog (binS BinOp.add 3 (Operand.tmp 18) (Operand.const (Value.int IntKind.i64 1)) i_8 (Value.int IntKind.i64 1)) (fun t19_31 w =>
   loopK [] [] [d_1, t10_6] [d_1, t10_6] (K_9 t19_31 w)) w) w) w) w) w) w) w) w)) w) w) w) w) w)))
   (k t10_6 w)) w) w) w) w) w) (Value.int IntKind.i64 0) w) w) w) w) w) w
theorem S23_vc (d_1 : Value) (k : Value → World → Prop) (w : World) : vc Tryz.prog Tryz.f23.ntmps ann23 none ((Tryz.f23.body).getD Code.skip) 1 (params 0 [d_1]) [] (finQ Tryz.prog Tryz.f23.results.toList k) w = S23 d_1 k w := by kernel_rfl
theorem S23_calls (d_1 : Value) (k : Value → World → Prop) (w : World) (h : S23 d_1 k w) : Calls Tryz.prog 23 #[d_1] w (retP k) :=
  calls_of_vc (fn := Tryz.f23) (c := (Tryz.f23.body).getD Code.skip) ann23 Tryz.func23 (by kernel_rfl) [d_1] w k (by kernel_rfl) ((S23_vc d_1 k w).symm ▸ h)
theorem C23 (d_1 : Value) (k : Value → World → Prop) (w : World) (h : S23 d_1 k w) : callW Tryz.prog (.func (.func 23) #[] #[]) #[d_1] k w :=
  callW_calls ok23 (by simpa using S23_calls d_1 k w h)

/-! newswire/disk.New -/
def ann24 : Ann := [(14, Note.plan (Plan.takeP 0 (Plan.takeP 2 (Plan.alt (Plan.run 1 (Plan.run 3 (Plan.run 4 (Plan.run 5 (Plan.takeP 6 (Plan.takeP 7 Plan.done)))))) (Plan.run 3 (Plan.run 1 (Plan.run 4 (Plan.run 5 (Plan.takeP 6 (Plan.takeP 7 Plan.done))))))))))]
def S24 (size_1 : Value) (k : Value → World → Prop) (w : World) : Prop :=
   opW Tryz.prog (binS BinOp.lss 3 (Operand.tmp 4) (Operand.const (Value.int IntKind.i64 1)) size_1 (Value.int IntKind.i64 1)) (fun t5_3 w =>
   guardW (some t5_3, false) (fun k w => k size_1 w) (fun t7_4 w =>
   guardW (some t5_3, false) (fun k w => opW Tryz.prog (binS BinOp.gtr 3 (Operand.tmp 7) (Operand.const (Value.int IntKind.i64 4194304)) t7_4 (Value.int IntKind.i64 4194304)) k w) (fun t8_5 w =>
   pickW t5_3 (Value.bool true) t8_5 (fun t9_6 w =>
   condW t9_6
   (k (Value.tuple #[(Value.pointer none), (Value.int IntKind.i64 2)]) w)
   (joinW (fun t2_16 w =>
   k (Value.tuple #[t2_16, (Value.int IntKind.i64 0)]) w) (fun J_7 =>
   drewW w (fun w =>
   (opW Tryz.prog (Instr.makeSlice 39 size_1 size_1) (fun t11_8 w =>
   opW Tryz.prog (Instr.makeSlice 39 size_1 size_1) (fun t13_9 w =>
   opW Tryz.prog (Instr.build 97 #[(1, t11_8), (2, t13_9)]) (fun t14_10 w =>
   opW Tryz.prog (Instr.box 97 t14_10) (fun t15_11 w =>
   J_7 t15_11 w) w) w) w) w) ∧ (opW Tryz.prog (Instr.makeSlice 39 size_1 size_1) (fun t13_12 w =>
   opW Tryz.prog (Instr.makeSlice 39 size_1 size_1) (fun t11_13 w =>
   opW Tryz.prog (Instr.build 97 #[(1, t11_13), (2, t13_12)]) (fun t14_14 w =>
   opW Tryz.prog (Instr.box 97 t14_14) (fun t15_15 w =>
   J_7 t15_15 w) w) w) w) w))))) w) w) w) w
theorem S24_vc (size_1 : Value) (k : Value → World → Prop) (w : World) : vc Tryz.prog Tryz.f24.ntmps ann24 none ((Tryz.f24.body).getD Code.skip) 1 (params 0 [size_1]) [] (finQ Tryz.prog Tryz.f24.results.toList k) w = S24 size_1 k w := by kernel_rfl
theorem S24_calls (size_1 : Value) (k : Value → World → Prop) (w : World) (h : S24 size_1 k w) : Calls Tryz.prog 24 #[size_1] w (retP k) :=
  calls_of_vc (fn := Tryz.f24) (c := (Tryz.f24.body).getD Code.skip) ann24 Tryz.func24 (by kernel_rfl) [size_1] w k (by kernel_rfl) ((S24_vc size_1 k w).symm ▸ h)
theorem C24 (size_1 : Value) (k : Value → World → Prop) (w : World) (h : S24 size_1 k w) : callW Tryz.prog (.func (.func 24) #[] #[]) #[size_1] k w :=
  callW_calls ok24 (by simpa using S24_calls size_1 k w h)

/-! newswire/journal.Open -/
def ann25 : Ann := [(1018, Note.plan (Plan.takeP 0 (Plan.takeP 1 (Plan.takeP 2 (Plan.takeP 3 (Plan.takeP 4 (Plan.takeU 5 (Plan.takeP 6 (Plan.takeP 7 (Plan.takeP 8 (Plan.takeP 9 (Plan.takeP 10 (Plan.takeP 11 (Plan.takeU 12 (Plan.takeP 13 (Plan.takeP 17 (Plan.takeP 18 (Plan.run 14 (Plan.takeX 15 (Plan.run 16 (Plan.run 19 (Plan.run 20 (Plan.takeP 21 Plan.done)))))))))))))))))))))))]
def S25 (d_1 : Value) (k : Value → World → Prop) (w : World) : Prop :=
   opW Tryz.prog (binS BinOp.eql 27 (Operand.tmp 7) (Operand.const (Value.pointer none)) d_1 (Value.pointer none)) (fun t8_3 w =>
   condW t8_3
   (k (Value.tuple #[(Value.pointer none), (Value.int IntKind.i64 1)]) w)
   (callW Tryz.prog (Value.func (Fn.func 51) #[] #[]) #[d_1] (fun t12_4 w =>
   callW Tryz.prog (Value.func (Fn.func 52) #[] #[]) #[d_1, (Value.int IntKind.i64 0), t12_4] (fun t13_5 w =>
   opW Tryz.prog (Instr.extract t13_5 0) (fun t14_6 w =>
   opW Tryz.prog (Instr.extract t13_5 1) (fun t15_7 w =>
   opW Tryz.prog (binS BinOp.neq 33 (Operand.tmp 16) (Operand.const (Value.int IntKind.i64 0)) t15_7 (Value.int IntKind.i64 0)) (fun t17_9 w =>
   condW t17_9
   (k (Value.tuple #[(Value.pointer none), t15_7]) w)
   (callW Tryz.prog (Value.func (Fn.func 54) #[] #[]) #[d_1, t14_6] (fun t22_10 w =>
   opW Tryz.prog (Instr.extract t22_10 0) (fun t23_11 w =>
   opW Tryz.prog (Instr.extract t22_10 1) (fun t24_12 w =>
   opW Tryz.prog (binS BinOp.neq 33 (Operand.tmp 25) (Operand.const (Value.int IntKind.i64 0)) t24_12 (Value.int IntKind.i64 0)) (fun t26_14 w =>
   condW t26_14
   (k (Value.tuple #[(Value.pointer none), t24_12]) w)
   (joinW (fun e_40 w =>
   opW Tryz.prog (binS BinOp.neq 33 (Operand.tmp 58) (Operand.const (Value.int IntKind.i64 0)) e_40 (Value.int IntKind.i64 0)) (fun t59_42 w =>
   condW t59_42
   (k (Value.tuple #[(Value.pointer none), e_40]) w)
   (k (Value.tuple #[t23_11, (Value.int IntKind.i64 0)]) w)) w) (fun J_15 =>
   nilW t23_11 (fun t30_16 w =>
   opW Tryz.prog (Instr.fieldAt 74 t30_16 0) (fun t31_17 w =>
   opW Tryz.prog (Instr.fieldAt 72 t31_17 2) (fun t32_18 w =>
   opW Tryz.prog (Instr.loadAt 3 t32_18) (fun t33_19 w =>
   opW Tryz.prog (Instr.sliceAt 9 t14_6 (some t33_19) none none) (fun t34_20 w =>
   callW Tryz.prog (Value.func (Fn.func 55) #[] #[]) #[t34_20, (Value.string { data := #[0] })] (fun t35_21 w =>
   opW Tryz.prog (binS BinOp.neq 9 (Operand.tmp 35) (Operand.const (Value.string { data := #[] })) t35_21 (Value.string { data := #[] })) (fun t36_22 w =>
   condW t36_22
   (drewW w (fun w =>
   ∃ S : World → Prop, S w ∧
   nilT t23_11 (fun t39_24 =>
   takeW Tryz.prog anyW (Instr.fieldAt 74 t39_24 0) (fun t40_25 =>
   takeW Tryz.prog anyW (Instr.fieldAt 72 t40_25 2) (fun t41_26 =>
   takeW Tryz.prog S (Instr.loadAt 3 t41_26) (fun t42_27 =>
   takeW Tryz.prog anyW (Builtin.len_ #[9] 3 #[t14_6]) (fun t44_28 =>
   nilT t23_11 (fun t46_29 =>
   takeW Tryz.prog anyW (Instr.fieldAt 74 t46_29 0) (fun t47_30 =>
   takeW Tryz.prog anyW (Instr.fieldAt 72 t47_30 2) (fun t48_31 =>
   takeW Tryz.prog S (Instr.loadAt 3 t48_31) (fun t49_32 =>
   takeW Tryz.prog anyW (binS BinOp.sub 3 (Operand.tmp 44) (Operand.tmp 49) t44_28 t49_32) (fun t50_33 =>
   takeW Tryz.prog anyW (Instr.makeFunc (Fn.func 42) #[d_1] #[]) (fun t55_34 =>
   opW Tryz.prog (Instr.makeSlice 39 t50_33 t50_33) (fun t51_35 w => keepS S (fun w =>
   takeW Tryz.prog (sameW w) (convert 39 9 t51_35) (fun t52_36 =>
   callW Tryz.prog (Value.func (Fn.func 41) #[] #[]) #[t23_11, t42_27, t52_36] (fun t53_37 w => keepS S (fun w =>
   opW Tryz.prog (Instr.buildSlice 127 2 #[(0, t53_37), (1, t55_34)]) (fun t56_38 w => keepS S (fun w =>
   callW Tryz.prog (Value.func (Fn.func 40) #[] #[]) #[t56_38] (fun t57_39 w => keepS S (fun w =>
   J_15 t57_39 w) w) w) w) w) w) w) w) w) w) w) w) w) w) w)) w) w) w) w)))
   (J_15 t24_12 w)) w) w) w) w) w) w) w))) w) w) w) w)) w) w) w) w) w)) w
theorem S25_vc (d_1 : Value) (k : Value → World → Prop) (w : World) : vc Tryz.prog Tryz.f25.ntmps ann25 none ((Tryz.f25.body).getD Code.skip) 1 (params 0 [d_1]) [] (finQ Tryz.prog Tryz.f25.results.toList k) w = S25 d_1 k w := by kernel_rfl
theorem S25_calls (d_1 : Value) (k : Value → World → Prop) (w : World) (h : S25 d_1 k w) : Calls Tryz.prog 25 #[d_1] w (retP k) :=
  calls_of_vc (fn := Tryz.f25) (c := (Tryz.f25.body).getD Code.skip) ann25 Tryz.func25 (by kernel_rfl) [d_1] w k (by kernel_rfl) ((S25_vc d_1 k w).symm ▸ h)
theorem C25 (d_1 : Value) (k : Value → World → Prop) (w : World) (h : S25 d_1 k w) : callW Tryz.prog (.func (.func 25) #[] #[]) #[d_1] k w :=
  callW_calls ok25 (by simpa using S25_calls d_1 k w h)

/-! newswire/newswireref02.Sum -/
def ann28 : Ann := [(61, Note.keep [3]), (122, Note.loop [3, 5] [4]), (253, Note.keep [6]), (506, Note.loop [6, 7] [3]), (978, Note.keep [3, 4, 5]), (4050, Note.keep [3, 6, 7]), (8100, Note.plan (Plan.takeP 0 (Plan.takeP 1 (Plan.takeP 2 (Plan.takeP 3 (Plan.takeU 4 (Plan.takeP 5 (Plan.takeU 6 (Plan.takeP 7 (Plan.takeP 8 (Plan.takeP 9 (Plan.takeU 10 (Plan.takeP 11 (Plan.takeU 12 (Plan.takeP 13 (Plan.takeP 14 (Plan.takeP 15 (Plan.takeU 16 (Plan.takeP 17 (Plan.takeU 18 (Plan.takeP 19 (Plan.takeP 20 (Plan.takeP 21 (Plan.takeU 22 (Plan.takeU 23 (Plan.run 24 (Plan.run 25 (Plan.takeP 26 Plan.done))))))))))))))))))))))))))))]
def S28 (s_1 : Value) (k : Value → World → Prop) (w : World) : Prop :=
   opW Tryz.prog (Instr.buildSlice 110 8 #[(0, (Value.int IntKind.u32 1779033703)), (1, (Value.int IntKind.u32 3144134277)), (2, (Value.int IntKind.u32 1013904242)), (3, (Value.int IntKind.u32 2773480762)), (4, (Value.int IntKind.u32 1359893119)), (5, (Value.int IntKind.u32 2600822924)), (6, (Value.int IntKind.u32 528734635)), (7, (Value.int IntKind.u32 1541459225))]) (fun t8_2 w =>
   callW Tryz.prog (Value.func (Fn.func 58) #[] #[]) #[s_1] (fun t10_3 w =>
   Loop2 (fun h_5 i_6 w K_7 =>
   opW Tryz.prog (Builtin.len_ #[39] 3 #[t10_3]) (fun t13_9 w =>
   opW Tryz.prog (binS BinOp.lss 3 (Operand.tmp 11) (Operand.tmp 13) i_6 t13_9) (fun t14_10 w =>
   condW t14_10
   (opW Tryz.prog (binS BinOp.add 3 (Operand.tmp 20) (Operand.const (Value.int IntKind.i64 64)) i_6 (Value.int IntKind.i64 64)) (fun t21_12 w =>
   opW Tryz.prog (Instr.sliceAt 39 t10_3 (some i_6) (some t21_12) none) (fun t22_13 w =>
   callW Tryz.prog (Value.func (Fn.func 59) #[] #[]) #[h_5, t22_13] (fun t23_14 w =>
   opW Tryz.prog (binS BinOp.add 3 (Operand.tmp 15) (Operand.const (Value.int IntKind.i64 64)) i_6 (Value.int IntKind.i64 64)) (fun t16_15 w =>
   loopK [] [] [t10_3] [t10_3] (K_7 t23_14 t16_15 w)) w) w) w) w)
   (Loop2 (fun out_17 i_18 w K_19 =>
   opW Tryz.prog (binS BinOp.lss 3 (Operand.tmp 24) (Operand.const (Value.int IntKind.i64 8)) i_18 (Value.int IntKind.i64 8)) (fun t25_21 w =>
   condW t25_21
   (drewW w (fun w =>
   ∃ S : World → Prop, S w ∧
   takeW Tryz.prog anyW (Instr.indexAt 110 h_5 i_18) (fun t31_24 =>
   takeW Tryz.prog S (Instr.loadAt 109 t31_24) (fun t32_25 =>
   takeW Tryz.prog anyW (binS BinOp.shr 109 (Operand.tmp 32) (Operand.const (Value.int IntKind.u64 24)) t32_25 (Value.int IntKind.u64 24)) (fun t33_26 =>
   takeW Tryz.prog S (convert 109 5 t33_26) (fun t34_27 =>
   takeW Tryz.prog anyW (Instr.indexAt 110 h_5 i_18) (fun t37_28 =>
   takeW Tryz.prog S (Instr.loadAt 109 t37_28) (fun t38_29 =>
   takeW Tryz.prog anyW (binS BinOp.shr 109 (Operand.tmp 38) (Operand.const (Value.int IntKind.u64 16)) t38_29 (Value.int IntKind.u64 16)) (fun t39_30 =>
   takeW Tryz.prog S (convert 109 5 t39_30) (fun t40_31 =>
   takeW Tryz.prog anyW (Instr.indexAt 110 h_5 i_18) (fun t43_32 =>
   takeW Tryz.prog S (Instr.loadAt 109 t43_32) (fun t44_33 =>
   takeW Tryz.prog anyW (binS BinOp.shr 109 (Operand.tmp 44) (Operand.const (Value.int IntKind.u64 8)) t44_33 (Value.int IntKind.u64 8)) (fun t45_34 =>
   takeW Tryz.prog S (convert 109 5 t45_34) (fun t46_35 =>
   takeW Tryz.prog anyW (Instr.indexAt 110 h_5 i_18) (fun t49_36 =>
   takeW Tryz.prog S (Instr.loadAt 109 t49_36) (fun t50_37 =>
   takeW Tryz.prog S (convert 109 5 t50_37) (fun t51_38 =>
   opW Tryz.prog (Instr.buildSlice 39 4 #[(0, t34_27), (1, t40_31), (2, t46_35), (3, t51_38)]) (fun t52_39 w => keepS S (fun w =>
   opW Tryz.prog (Builtin.append_ #[39, 39] 39 #[out_17, t52_39]) (fun t53_40 w => keepS S (fun w =>
   opW Tryz.prog (binS BinOp.add 3 (Operand.tmp 26) (Operand.const (Value.int IntKind.i64 1)) i_18 (Value.int IntKind.i64 1)) (fun t27_41 w =>
   loopK [] [] [h_5] [h_5] (K_19 t53_40 t27_41 w)) w) w) w) w) w) w) w) w) w) w) w) w) w) w) w) w) w) w) w) w))
   (opW Tryz.prog (convert 39 9 out_17) (fun t55_42 w =>
   k t55_42 w) w)) w) (Value.slice none 0 0) (Value.int IntKind.i64 0) w)) w) w) t8_2 (Value.int IntKind.i64 0) w) w) w
theorem S28_vc (s_1 : Value) (k : Value → World → Prop) (w : World) : vc Tryz.prog Tryz.f28.ntmps ann28 none ((Tryz.f28.body).getD Code.skip) 1 (params 0 [s_1]) [] (finQ Tryz.prog Tryz.f28.results.toList k) w = S28 s_1 k w := by kernel_rfl
theorem S28_calls (s_1 : Value) (k : Value → World → Prop) (w : World) (h : S28 s_1 k w) : Calls Tryz.prog 28 #[s_1] w (retP k) :=
  calls_of_vc (fn := Tryz.f28) (c := (Tryz.f28.body).getD Code.skip) ann28 Tryz.func28 (by kernel_rfl) [s_1] w k (by kernel_rfl) ((S28_vc s_1 k w).symm ▸ h)
theorem C28 (s_1 : Value) (k : Value → World → Prop) (w : World) (h : S28 s_1 k w) : callW Tryz.prog (.func (.func 28) #[] #[]) #[s_1] k w :=
  callW_calls ok28 (by simpa using S28_calls s_1 k w h)

/-! (*newswire/disk.Disk).Cut -/
def ann29 : Ann := []
def S29 (d_1 n_2 : Value) (k : Value → World → Prop) (w : World) : Prop :=
   callW Tryz.prog (Value.func (Fn.func 46) #[] #[]) #[d_1] (fun t7_4 w =>
   opW Tryz.prog (binS BinOp.neq 33 (Operand.tmp 8) (Operand.const (Value.int IntKind.i64 0)) t7_4 (Value.int IntKind.i64 0)) (fun t9_5 w =>
   condW t9_5
   (k t7_4 w)
   (opW Tryz.prog (binS BinOp.lss 3 (Operand.tmp 11) (Operand.const (Value.int IntKind.i64 0)) n_2 (Value.int IntKind.i64 0)) (fun t12_7 w =>
   condW t12_7
   (k (Value.int IntKind.i64 2) w)
   (opW Tryz.prog (binS BinOp.eql 3 (Operand.tmp 14) (Operand.const (Value.int IntKind.i64 0)) n_2 (Value.int IntKind.i64 0)) (fun t15_8 w =>
   opW Tryz.prog (Instr.build 95 #[(0, t15_8), (1, n_2)]) (fun t17_9 w =>
   nilW d_1 (fun t18_10 w =>
   opW Tryz.prog (Instr.fieldAt 97 t18_10 0) (fun t19_11 w =>
   opU Tryz.prog (Instr.storeAt 95 t19_11 t17_9) (fun _ w =>
   k (Value.int IntKind.i64 0) w) w) w) w) w) w)) w)) w) w
theorem S29_vc (d_1 n_2 : Value) (k : Value → World → Prop) (w : World) : vc Tryz.prog Tryz.f29.ntmps ann29 none ((Tryz.f29.body).getD Code.skip) 1 (params 0 [d_1, n_2]) [] (finQ Tryz.prog Tryz.f29.results.toList k) w = S29 d_1 n_2 k w := by kernel_rfl
theorem S29_calls (d_1 n_2 : Value) (k : Value → World → Prop) (w : World) (h : S29 d_1 n_2 k w) : Calls Tryz.prog 29 #[d_1, n_2] w (retP k) :=
  calls_of_vc (fn := Tryz.f29) (c := (Tryz.f29.body).getD Code.skip) ann29 Tryz.func29 (by kernel_rfl) [d_1, n_2] w k (by kernel_rfl) ((S29_vc d_1 n_2 k w).symm ▸ h)
theorem C29 (d_1 n_2 : Value) (k : Value → World → Prop) (w : World) (h : S29 d_1 n_2 k w) : callW Tryz.prog (.func (.func 29) #[] #[]) #[d_1, n_2] k w :=
  callW_calls ok29 (by simpa using S29_calls d_1 n_2 k w h)

/-! (*newswire/disk.Disk).Crash -/
def ann30 : Ann := [(125, Note.keep [3]), (126, Note.plan (Plan.takeX 0 (Plan.takeU 1 (Plan.takeP 2 (Plan.takeP 3 (Plan.takeX 4 (Plan.takeU 5 (Plan.takeP 6 (Plan.takeP 7 (Plan.takeX 8 (Plan.run 9 Plan.done))))))))))), (250, Note.loop [22] [2, 3, 7, 20, 21]), (4006, Note.keep [2, 3, 7, 20, 21, 22]), (64103, Note.plan (Plan.takeX 0 (Plan.takeU 1 (Plan.takeP 2 (Plan.takeP 3 (Plan.takeX 4 (Plan.run 5 Plan.done)))))))]
def S30 (d_1 keep_2 torn_3 : Value) (k : Value → World → Prop) (w : World) : Prop :=
   opW Tryz.prog (Instr.box 27 d_1) (fun d_4 w =>
   opW Tryz.prog (Instr.loadAt 27 d_4) (fun t11_6 w =>
   opW Tryz.prog (binS BinOp.eql 27 (Operand.tmp 11) (Operand.const (Value.pointer none)) t11_6 (Value.pointer none)) (fun t12_7 w =>
   condW t12_7
   (k (Value.int IntKind.i64 1) w)
   (callW Tryz.prog (Value.func (Fn.func 62) #[] #[]) #[keep_2] (fun t14_8 w =>
   callW Tryz.prog (Value.func (Fn.func 61) #[] #[]) #[t14_8] (fun t15_9 w =>
   callW Tryz.prog (Value.func (Fn.func 60) #[] #[]) #[t15_9] (fun t16_10 w =>
   opW Tryz.prog (Instr.makeFunc (Fn.func 64) #[] #[d_4]) (fun t18_11 w =>
   callW Tryz.prog (Value.func (Fn.func 63) #[] #[]) #[t16_10, t18_11] (fun t19_12 w =>
   opW Tryz.prog (Builtin.len_ #[56] 3 #[t19_12]) (fun t21_13 w =>
   Loop1 (fun t22_15 w K_16 =>
   opW Tryz.prog (binS BinOp.lss 3 (Operand.tmp 22) (Operand.tmp 21) t22_15 t21_13) (fun t23_17 w =>
   condW t23_17
   (opW Tryz.prog (Instr.indexAt 56 t19_12 t22_15) (fun t25_20 w =>
   opW Tryz.prog (Instr.loadAt 3 t25_20) (fun t26_21 w =>
   opW Tryz.prog (Instr.loadAt 27 d_4) (fun t27_22 w =>
   nilW t27_22 (fun t28_23 w =>
   opW Tryz.prog (Instr.fieldAt 97 t28_23 3) (fun t29_24 w =>
   opW Tryz.prog (Instr.loadAt 93 t29_24) (fun t30_25 w =>
   opW Tryz.prog (Instr.indexAt 93 t30_25 t26_21) (fun t32_26 w =>
   opW Tryz.prog (Instr.loadAt 92 t32_26) (fun t33_27 w =>
   opW Tryz.prog (Instr.alloc 92 true (Value.tuple #[])) (fun w_28 w =>
   opU Tryz.prog (Instr.storeAt 92 w_28 t33_27) (fun _ w =>
   joinW (fun w =>
   drewW w (fun w =>
   ∃ S : World → Prop, S w ∧
   takeW Tryz.prog (sameW w) (Instr.loadAt 92 w_28) (fun t52_45 =>
   takeW Tryz.prog S (Instr.loadAt 27 d_4) (fun t53_46 =>
   nilT t53_46 (fun t54_47 =>
   takeW Tryz.prog anyW (Instr.fieldAt 97 t54_47 1) (fun t55_48 =>
   takeW Tryz.prog (sameW w) (Instr.loadAt 39 t55_48) (fun t56_49 =>
   callW Tryz.prog (Value.func (Fn.func 48) #[] #[]) #[t52_45, t56_49] (fun t57_50 w => keepS S (fun w =>
   opW Tryz.prog (binS BinOp.add 3 (Operand.tmp 22) (Operand.const (Value.int IntKind.i64 1)) t22_15 (Value.int IntKind.i64 1)) (fun t58_51 w =>
   loopK [] [] [torn_3, d_4, t19_12, t19_12, t21_13] [torn_3, d_4, t19_12, t19_12, t21_13] (K_16 t58_51 w)) w) w) w) w) w)) w) w)) (fun J_29 =>
   opW Tryz.prog (Builtin.len_ #[56] 3 #[t19_12]) (fun t36_30 w =>
   opW Tryz.prog (binS BinOp.sub 3 (Operand.tmp 36) (Operand.const (Value.int IntKind.i64 1)) t36_30 (Value.int IntKind.i64 1)) (fun t37_31 w =>
   opW Tryz.prog (binS BinOp.eql 3 (Operand.tmp 34) (Operand.tmp 37) t22_15 t37_31) (fun t38_32 w =>
   guardW (some t38_32, true) (fun k w => k torn_3 w) (fun t40_33 w =>
   guardW (some t38_32, true) (fun k w => opW Tryz.prog (binS BinOp.geq 3 (Operand.tmp 40) (Operand.const (Value.int IntKind.i64 0)) t40_33 (Value.int IntKind.i64 0)) k w) (fun t41_34 w =>
   pickW t38_32 t41_34 (Value.bool false) (fun t42_35 w =>
   condW t42_35
   (opW Tryz.prog (Instr.fieldAt 92 w_28 1) (fun t43_36 w =>
   opW Tryz.prog (Instr.loadAt 9 t43_36) (fun t44_37 w =>
   opW Tryz.prog (Instr.fieldAt 92 w_28 1) (fun t46_38 w =>
   opW Tryz.prog (Instr.loadAt 9 t46_38) (fun t47_39 w =>
   opW Tryz.prog (Builtin.len_ #[9] 3 #[t47_39]) (fun t48_40 w =>
   opW Tryz.prog (Builtin.min_ #[3, 3] 3 #[torn_3, t48_40]) (fun t49_41 w =>
   opW Tryz.prog (Instr.sliceAt 9 t44_37 none (some t49_41) none) (fun t50_42 w =>
   opW Tryz.prog (Instr.fieldAt 92 w_28 1) (fun t51_43 w =>
   opU Tryz.prog (Instr.storeAt 9 t51_43 t50_42) (fun _ w =>
   J_29 w) w) w) w) w) w) w) w) w) w)
   (J_29 w)) w) w) w) w) w) w)) w) w) w) w) w) w) w) w) w) w)
   (drewW w (fun w =>
   ∃ S : World → Prop, S w ∧
   takeW Tryz.prog (sameW w) (Instr.loadAt 27 d_4) (fun t59_53 =>
   takeW Tryz.prog S (Instr.loadAt 27 d_4) (fun t60_54 =>
   nilT t60_54 (fun t61_55 =>
   takeW Tryz.prog anyW (Instr.fieldAt 97 t61_55 1) (fun t62_56 =>
   takeW Tryz.prog (sameW w) (Instr.loadAt 39 t62_56) (fun t63_57 =>
   takeW Tryz.prog S (Instr.loadAt 27 d_4) (fun t64_58 =>
   nilT t64_58 (fun t65_59 =>
   takeW Tryz.prog anyW (Instr.fieldAt 97 t65_59 2) (fun t66_60 =>
   takeW Tryz.prog (sameW w) (Instr.loadAt 39 t66_60) (fun t67_61 =>
   callW Tryz.prog (Value.func (Fn.func 65) #[] #[]) #[t59_53, t63_57, t67_61] (fun t68_62 w => keepS S (fun w =>
   opW Tryz.prog (Instr.loadAt 27 d_4) (fun t69_63 w =>
   opW Tryz.prog (Instr.build 95 #[]) (fun t70_64 w =>
   nilW t69_63 (fun t71_65 w =>
   opW Tryz.prog (Instr.fieldAt 97 t71_65 0) (fun t72_66 w =>
   opU Tryz.prog (Instr.storeAt 95 t72_66 t70_64) (fun _ w =>
   k (Value.int IntKind.i64 0) w) w) w) w) w) w) w) w) w) w)) w) w) w)) w) w))) w) (Value.int IntKind.i64 0) w) w) w) w) w) w) w)) w) w) w
theorem S30_vc (d_1 keep_2 torn_3 : Value) (k : Value → World → Prop) (w : World) : vc Tryz.prog Tryz.f30.ntmps ann30 none ((Tryz.f30.body).getD Code.skip) 1 (params 0 [d_1, keep_2, torn_3]) [] (finQ Tryz.prog Tryz.f30.results.toList k) w = S30 d_1 keep_2 torn_3 k w := by kernel_rfl
theorem S30_calls (d_1 keep_2 torn_3 : Value) (k : Value → World → Prop) (w : World) (h : S30 d_1 keep_2 torn_3 k w) : Calls Tryz.prog 30 #[d_1, keep_2, torn_3] w (retP k) :=
  calls_of_vc (fn := Tryz.f30) (c := (Tryz.f30.body).getD Code.skip) ann30 Tryz.func30 (by kernel_rfl) [d_1, keep_2, torn_3] w k (by kernel_rfl) ((S30_vc d_1 keep_2 torn_3 k w).symm ▸ h)
theorem C30 (d_1 keep_2 torn_3 : Value) (k : Value → World → Prop) (w : World) (h : S30 d_1 keep_2 torn_3 k w) : callW Tryz.prog (.func (.func 30) #[] #[]) #[d_1, keep_2, torn_3] k w :=
  callW_calls ok30 (by simpa using S30_calls d_1 keep_2 torn_3 k w h)

/-! (*newswire/newswirelaw34.world).does -/
def ann31 : Ann := [(13, Note.keep [0, 3]), (30, Note.plan (Plan.takeP 0 (Plan.takeP 1 (Plan.takeP 2 (Plan.takeU 3 (Plan.takeP 4 (Plan.takeU 5 (Plan.takeP 8 (Plan.takeP 9 (Plan.takeP 10 (Plan.takeU 11 (Plan.takeP 12 (Plan.takeU 13 (Plan.run 6 (Plan.run 7 (Plan.run 14 (Plan.run 15 (Plan.takeP 16 (Plan.takeP 17 Plan.done))))))))))))))))))), (116, Note.plan (Plan.takeP 0 (Plan.takeP 1 (Plan.takeP 2 (Plan.takeU 3 (Plan.takeP 4 (Plan.takeU 5 (Plan.run 6 (Plan.run 7 (Plan.takeP 8 (Plan.takeP 9 Plan.done))))))))))), (212, Note.plan (Plan.takeP 0 (Plan.takeP 1 (Plan.takeP 2 (Plan.takeU 3 (Plan.takeP 4 (Plan.takeU 5 (Plan.takeP 9 (Plan.takeP 10 (Plan.takeP 11 (Plan.takeU 12 (Plan.takeP 13 (Plan.takeU 14 (Plan.run 6 (Plan.takeP 7 (Plan.run 8 (Plan.run 15 (Plan.takeP 16 (Plan.run 17 (Plan.takeP 18 (Plan.takeP 19 Plan.done))))))))))))))))))))), (1722, Note.plan (Plan.takeP 0 (Plan.takeP 1 (Plan.takeP 2 (Plan.takeX 3 (Plan.takeP 4 (Plan.takeP 5 (Plan.takeX 6 (Plan.run 7 Plan.done))))))))), (3446, Note.plan (Plan.takeP 0 (Plan.takeP 1 (Plan.takeP 2 (Plan.takeX 3 (Plan.takeP 4 (Plan.takeP 5 (Plan.takeX 6 (Plan.run 7 Plan.done)))))))))]
def S31 (w_1 o_2 : Value) (k : Value → World → Prop) (w : World) : Prop :=
   opW Tryz.prog (Instr.box 62 o_2) (fun o_3 w =>
   opW Tryz.prog (Instr.fieldAt 62 o_3 0) (fun t6_4 w =>
   opW Tryz.prog (Instr.loadAt 3 t6_4) (fun t7_5 w =>
   callW Tryz.prog (Value.func (Fn.func 14) #[] #[]) #[t7_5, (Value.int IntKind.i64 8)] (fun t8_6 w =>
   opW Tryz.prog (binS BinOp.eql 3 (Operand.tmp 8) (Operand.const (Value.int IntKind.i64 5)) t8_6 (Value.int IntKind.i64 5)) (fun t10_8 w =>
   condW t10_8
   (drewW w (fun w =>
   ∃ S : World → Prop, S w ∧
   nilT w_1 (fun t12_10 =>
   takeW Tryz.prog anyW (Instr.fieldAt 32 t12_10 0) (fun t13_11 =>
   takeW Tryz.prog S (Instr.loadAt 27 t13_11) (fun t14_12 =>
   takeW Tryz.prog anyW (Instr.fieldAt 62 o_3 2) (fun t15_13 =>
   takeW Tryz.prog S (Instr.loadAt 3 t15_13) (fun t16_14 =>
   nilT w_1 (fun t21_15 =>
   takeW Tryz.prog anyW (Instr.fieldAt 32 t21_15 2) (fun t22_16 =>
   takeW Tryz.prog S (Instr.loadAt 29 t22_16) (fun t23_17 =>
   takeW Tryz.prog anyW (Instr.fieldAt 62 o_3 2) (fun t24_18 =>
   takeW Tryz.prog S (Instr.loadAt 3 t24_18) (fun t25_19 =>
   callW Tryz.prog (Value.func (Fn.func 14) #[] #[]) #[t16_14, (Value.int IntKind.i64 5)] (fun t17_20 w => keepS S (fun w =>
   takeW Tryz.prog anyW (binS BinOp.add 3 (Operand.const (Value.int IntKind.i64 1)) (Operand.tmp 17) (Value.int IntKind.i64 1) t17_20) (fun t18_21 =>
   callW Tryz.prog (Value.func (Fn.func 29) #[] #[]) #[t14_12, t18_21] (fun t19_22 w => keepS S (fun w =>
   callW Tryz.prog (Value.func (Fn.func 14) #[] #[]) #[t25_19, (Value.int IntKind.i64 5)] (fun t26_23 w => keepS S (fun w =>
   takeW Tryz.prog anyW (binS BinOp.add 3 (Operand.const (Value.int IntKind.i64 1)) (Operand.tmp 26) (Value.int IntKind.i64 1) t26_23) (fun t27_24 =>
   callW Tryz.prog (Value.func (Fn.func 66) #[] #[]) #[t23_17, t27_24] (fun t28_25 w => keepS S (fun w =>
   takeW Tryz.prog anyW (binS BinOp.eql 33 (Operand.tmp 19) (Operand.tmp 28) t19_22 t28_25) (fun t29_26 =>
   k t29_26 w) w) w) w) w) w) w) w) w) w) w) w) w) w) w) w)) w) w) w) w)))
   (opW Tryz.prog (binS BinOp.eql 3 (Operand.tmp 8) (Operand.const (Value.int IntKind.i64 6)) t8_6 (Value.int IntKind.i64 6)) (fun t31_27 w =>
   condW t31_27
   (opW Tryz.prog (Instr.fieldAt 62 o_3 3) (fun t32_28 w =>
   opW Tryz.prog (Instr.loadAt 56 t32_28) (fun t33_29 w =>
   opW Tryz.prog (Instr.fieldAt 62 o_3 3) (fun t34_30 w =>
   opW Tryz.prog (Instr.loadAt 56 t34_30) (fun t35_31 w =>
   opW Tryz.prog (Builtin.len_ #[56] 3 #[t35_31]) (fun t36_32 w =>
   opW Tryz.prog (Builtin.min_ #[3, 3] 3 #[t36_32, (Value.int IntKind.i64 20)]) (fun t37_33 w =>
   opW Tryz.prog (Instr.sliceAt 56 t33_29 none (some t37_33) none) (fun t38_34 w =>
   drewW w (fun w =>
   nilT w_1 (fun t40_36 =>
   takeW Tryz.prog anyW (Instr.fieldAt 32 t40_36 0) (fun t41_37 =>
   takeW Tryz.prog (sameW w) (Instr.loadAt 27 t41_37) (fun t42_38 =>
   takeW Tryz.prog anyW (Instr.fieldAt 62 o_3 2) (fun t44_39 =>
   takeW Tryz.prog (sameW w) (Instr.loadAt 3 t44_39) (fun t45_40 =>
   callW Tryz.prog (Value.func (Fn.func 30) #[] #[]) #[t42_38, t38_34, t45_40] (fun t46_41 w =>
   drewW w (fun w =>
   nilT w_1 (fun t48_43 =>
   takeW Tryz.prog anyW (Instr.fieldAt 32 t48_43 2) (fun t49_44 =>
   takeW Tryz.prog (sameW w) (Instr.loadAt 29 t49_44) (fun t50_45 =>
   takeW Tryz.prog anyW (Instr.fieldAt 62 o_3 2) (fun t52_46 =>
   takeW Tryz.prog (sameW w) (Instr.loadAt 3 t52_46) (fun t53_47 =>
   callW Tryz.prog (Value.func (Fn.func 67) #[] #[]) #[t50_45, t38_34, t53_47] (fun t54_48 w =>
   callW Tryz.prog (Value.func (Fn.func 17) #[] #[]) #[w_1] (fun t56_49 w =>
   k t56_49 w) w) w) w) w) w) w))) w) w) w) w) w))) w) w) w) w) w) w) w)
   (opW Tryz.prog (binS BinOp.eql 3 (Operand.tmp 8) (Operand.const (Value.int IntKind.i64 7)) t8_6 (Value.int IntKind.i64 7)) (fun t58_50 w =>
   condW t58_50
   (callW Tryz.prog (Value.func (Fn.func 17) #[] #[]) #[w_1] (fun t60_51 w =>
   k t60_51 w) w)
   (nilW w_1 (fun t62_53 w =>
   opW Tryz.prog (Instr.fieldAt 32 t62_53 1) (fun t63_54 w =>
   opW Tryz.prog (Instr.loadAt 28 t63_54) (fun t64_55 w =>
   opW Tryz.prog (binS BinOp.eql 28 (Operand.tmp 64) (Operand.const (Value.pointer none)) t64_55 (Value.pointer none)) (fun t65_56 w =>
   condW t65_56
   (drewW w (fun w =>
   ∃ S : World → Prop, S w ∧
   nilT w_1 (fun t67_58 =>
   takeW Tryz.prog anyW (Instr.fieldAt 32 t67_58 1) (fun t68_59 =>
   takeW Tryz.prog S (Instr.loadAt 28 t68_59) (fun t69_60 =>
   takeW Tryz.prog anyW (Instr.fieldAt 62 o_3 1) (fun t70_61 =>
   takeW Tryz.prog S (Instr.loadAt 22 t70_61) (fun t71_62 =>
   callW Tryz.prog (Value.func (Fn.func 11) #[] #[]) #[t71_62] (fun t72_63 w => keepS S (fun w =>
   callW Tryz.prog (Value.func (Fn.func 10) #[] #[]) #[t69_60, t72_63] (fun t73_64 w => keepS S (fun w =>
   takeW Tryz.prog anyW (binS BinOp.eql 33 (Operand.tmp 73) (Operand.const (Value.int IntKind.i64 1)) t73_64 (Value.int IntKind.i64 1)) (fun t74_65 =>
   k t74_65 w) w) w) w) w) w) w) w) w) w)))
   (drewW w (fun w =>
   ∃ S : World → Prop, S w ∧
   nilT w_1 (fun t76_67 =>
   takeW Tryz.prog anyW (Instr.fieldAt 32 t76_67 1) (fun t77_68 =>
   takeW Tryz.prog S (Instr.loadAt 28 t77_68) (fun t78_69 =>
   takeW Tryz.prog anyW (Instr.fieldAt 62 o_3 1) (fun t79_70 =>
   takeW Tryz.prog S (Instr.loadAt 22 t79_70) (fun t80_71 =>
   nilT w_1 (fun t84_72 =>
   takeW Tryz.prog anyW (Instr.fieldAt 32 t84_72 3) (fun t85_73 =>
   takeW Tryz.prog S (Instr.loadAt 30 t85_73) (fun t86_74 =>
   takeW Tryz.prog anyW (Instr.fieldAt 62 o_3 1) (fun t87_75 =>
   takeW Tryz.prog S (Instr.loadAt 22 t87_75) (fun t88_76 =>
   callW Tryz.prog (Value.func (Fn.func 11) #[] #[]) #[t80_71] (fun t81_77 w => keepS S (fun w =>
   callW Tryz.prog (Value.func (Fn.func 10) #[] #[]) #[t78_69, t81_77] (fun t82_78 w => keepS S (fun w =>
   callW Tryz.prog (Value.func (Fn.func 11) #[] #[]) #[t88_76] (fun t89_79 w => keepS S (fun w =>
   callW Tryz.prog (Value.func (Fn.func 12) #[] #[]) #[t86_74, t89_79] (fun t90_80 w => keepS S (fun w =>
   takeW Tryz.prog anyW (binS BinOp.eql 33 (Operand.tmp 82) (Operand.tmp 90) t82_78 t90_80) (fun t91_81 =>
   k t91_81 w) w) w) w) w) w) w) w) w) w) w) w) w) w)) w) w) w) w)))) w) w) w) w)) w)) w)) w) w) w) w) w
theorem S31_vc (w_1 o_2 : Value) (k : Value → World → Prop) (w : World) : vc Tryz.prog Tryz.f31.ntmps ann31 none ((Tryz.f31.body).getD Code.skip) 1 (params 0 [w_1, o_2]) [] (finQ Tryz.prog Tryz.f31.results.toList k) w = S31 w_1 o_2 k w := by kernel_rfl
theorem S31_calls (w_1 o_2 : Value) (k : Value → World → Prop) (w : World) (h : S31 w_1 o_2 k w) : Calls Tryz.prog 31 #[w_1, o_2] w (retP k) :=
  calls_of_vc (fn := Tryz.f31) (c := (Tryz.f31.body).getD Code.skip) ann31 Tryz.func31 (by kernel_rfl) [w_1, o_2] w k (by kernel_rfl) ((S31_vc w_1 o_2 k w).symm ▸ h)
theorem C31 (w_1 o_2 : Value) (k : Value → World → Prop) (w : World) (h : S31 w_1 o_2 k w) : callW Tryz.prog (.func (.func 31) #[] #[]) #[w_1, o_2] k w :=
  callW_calls ok31 (by simpa using S31_calls w_1 o_2 k w h)

/-! (*newswire/disk.Disk).Pending -/
def ann32 : Ann := []
def S32 (d_1 : Value) (k : Value → World → Prop) (w : World) : Prop :=
   opW Tryz.prog (binS BinOp.eql 27 (Operand.tmp 3) (Operand.const (Value.pointer none)) d_1 (Value.pointer none)) (fun t4_3 w =>
   condW t4_3
   (k (Value.int IntKind.i64 0) w)
   (nilW d_1 (fun t6_4 w =>
   opW Tryz.prog (Instr.fieldAt 97 t6_4 3) (fun t7_5 w =>
   opW Tryz.prog (Instr.loadAt 93 t7_5) (fun t8_6 w =>
   opW Tryz.prog (Builtin.len_ #[93] 3 #[t8_6]) (fun t9_7 w =>
   k t9_7 w) w) w) w) w)) w
theorem S32_vc (d_1 : Value) (k : Value → World → Prop) (w : World) : vc Tryz.prog Tryz.f32.ntmps ann32 none ((Tryz.f32.body).getD Code.skip) 1 (params 0 [d_1]) [] (finQ Tryz.prog Tryz.f32.results.toList k) w = S32 d_1 k w := by kernel_rfl
theorem S32_calls (d_1 : Value) (k : Value → World → Prop) (w : World) (h : S32 d_1 k w) : Calls Tryz.prog 32 #[d_1] w (retP k) :=
  calls_of_vc (fn := Tryz.f32) (c := (Tryz.f32.body).getD Code.skip) ann32 Tryz.func32 (by kernel_rfl) [d_1] w k (by kernel_rfl) ((S32_vc d_1 k w).symm ▸ h)
theorem C32 (d_1 : Value) (k : Value → World → Prop) (w : World) (h : S32 d_1 k w) : callW Tryz.prog (.func (.func 32) #[] #[]) #[d_1] k w :=
  callW_calls ok32 (by simpa using S32_calls d_1 k w h)

/-! newswire/newswireref33.New -/
def ann33 : Ann := []
def S33 (size_1 : Value) (k : Value → World → Prop) (w : World) : Prop :=
   opW Tryz.prog (binS BinOp.lss 3 (Operand.tmp 4) (Operand.const (Value.int IntKind.i64 1)) size_1 (Value.int IntKind.i64 1)) (fun t5_3 w =>
   guardW (some t5_3, false) (fun k w => k size_1 w) (fun t7_4 w =>
   guardW (some t5_3, false) (fun k w => opW Tryz.prog (binS BinOp.gtr 3 (Operand.tmp 7) (Operand.const (Value.int IntKind.i64 4194304)) t7_4 (Value.int IntKind.i64 4194304)) k w) (fun t8_5 w =>
   pickW t5_3 (Value.bool true) t8_5 (fun t9_6 w =>
   condW t9_6
   (k (Value.tuple #[(Value.pointer none), (Value.int IntKind.i64 2)]) w)
   (opW Tryz.prog (Instr.makeSlice 39 size_1 size_1) (fun t11_7 w =>
   opW Tryz.prog (Instr.build 67 #[(0, t11_7)]) (fun t12_8 w =>
   opW Tryz.prog (Instr.box 67 t12_8) (fun t13_9 w =>
   k (Value.tuple #[t13_9, (Value.int IntKind.i64 0)]) w) w) w) w)) w) w) w) w
theorem S33_vc (size_1 : Value) (k : Value → World → Prop) (w : World) : vc Tryz.prog Tryz.f33.ntmps ann33 none ((Tryz.f33.body).getD Code.skip) 1 (params 0 [size_1]) [] (finQ Tryz.prog Tryz.f33.results.toList k) w = S33 size_1 k w := by kernel_rfl
theorem S33_calls (size_1 : Value) (k : Value → World → Prop) (w : World) (h : S33 size_1 k w) : Calls Tryz.prog 33 #[size_1] w (retP k) :=
  calls_of_vc (fn := Tryz.f33) (c := (Tryz.f33.body).getD Code.skip) ann33 Tryz.func33 (by kernel_rfl) [size_1] w k (by kernel_rfl) ((S33_vc size_1 k w).symm ▸ h)
theorem C33 (size_1 : Value) (k : Value → World → Prop) (w : World) (h : S33 size_1 k w) : callW Tryz.prog (.func (.func 33) #[] #[]) #[size_1] k w :=
  callW_calls ok33 (by simpa using S33_calls size_1 k w h)

/-! (*newswire/journal.Journal).Append$1 -/
def ann34 : Ann := []
def S34 (s_1 : Value) (k : Value → World → Prop) (w : World) : Prop :=
   opW Tryz.prog (Builtin.len_ #[9] 3 #[s_1]) (fun t4_2 w =>
   opW Tryz.prog (binS BinOp.gtr 3 (Operand.tmp 4) (Operand.const (Value.int IntKind.i64 65536)) t4_2 (Value.int IntKind.i64 65536)) (fun t5_3 w =>
   k t5_3 w) w) w
theorem S34_vc (s_1 : Value) (k : Value → World → Prop) (w : World) : vc Tryz.prog Tryz.f34.ntmps ann34 none ((Tryz.f34.body).getD Code.skip) 1 (params 0 [s_1]) [] (finQ Tryz.prog Tryz.f34.results.toList k) w = S34 s_1 k w := by kernel_rfl
theorem S34_calls (s_1 : Value) (k : Value → World → Prop) (w : World) (h : S34 s_1 k w) : Calls Tryz.prog 34 #[s_1] w (retP k) :=
  calls_of_vc (fn := Tryz.f34) (c := (Tryz.f34.body).getD Code.skip) ann34 Tryz.func34 (by kernel_rfl) [s_1] w k (by kernel_rfl) ((S34_vc s_1 k w).symm ▸ h)
theorem C34 (s_1 : Value) (k : Value → World → Prop) (w : World) (h : S34 s_1 k w) : callW Tryz.prog (.func (.func 34) #[] #[]) #[s_1] k w :=
  callW_calls ok34 (by simpa using S34_calls s_1 k w h)

/-! slices.ContainsFunc[[]string,string] -/
def ann35 : Ann := []
def S35 (s_1 f_2 : Value) (k : Value → World → Prop) (w : World) : Prop :=
   callW Tryz.prog (Value.func (Fn.func 68) #[] #[]) #[s_1, f_2] (fun t7_3 w =>
   opW Tryz.prog (binS BinOp.geq 3 (Operand.tmp 7) (Operand.const (Value.int IntKind.i64 0)) t7_3 (Value.int IntKind.i64 0)) (fun t8_4 w =>
   k t8_4 w) w) w
theorem S35_vc (s_1 f_2 : Value) (k : Value → World → Prop) (w : World) : vc Tryz.prog Tryz.f35.ntmps ann35 none ((Tryz.f35.body).getD Code.skip) 1 (params 0 [s_1, f_2]) [] (finQ Tryz.prog Tryz.f35.results.toList k) w = S35 s_1 f_2 k w := by kernel_rfl
theorem S35_calls (s_1 f_2 : Value) (k : Value → World → Prop) (w : World) (h : S35 s_1 f_2 k w) : Calls Tryz.prog 35 #[s_1, f_2] w (retP k) :=
  calls_of_vc (fn := Tryz.f35) (c := (Tryz.f35.body).getD Code.skip) ann35 Tryz.func35 (by kernel_rfl) [s_1, f_2] w k (by kernel_rfl) ((S35_vc s_1 f_2 k w).symm ▸ h)
theorem C35 (s_1 f_2 : Value) (k : Value → World → Prop) (w : World) (h : S35 s_1 f_2 k w) : callW Tryz.prog (.func (.func 35) #[] #[]) #[s_1, f_2] k w :=
  callW_calls ok35 (by simpa using S35_calls s_1 f_2 k w h)

/-! (*newswire/journal.tape).add -/
def ann38 : Ann := [(62, Note.plan (Plan.takeP 2 (Plan.takeP 4 (Plan.takeP 5 (Plan.takeP 6 (Plan.takeU 7 (Plan.run 0 (Plan.takeX 1 (Plan.takeP 3 (Plan.takeP 8 (Plan.takeP 9 Plan.done)))))))))))]
def S38 (t_1 record_2 : Value) (k : Value → World → Prop) (w : World) : Prop :=
   nilW t_1 (fun t10_3 w =>
   opW Tryz.prog (Instr.fieldAt 72 t10_3 1) (fun t11_4 w =>
   opW Tryz.prog (Instr.loadAt 9 t11_4) (fun t12_5 w =>
   callW Tryz.prog (Value.func (Fn.func 70) #[] #[]) #[t12_5, record_2] (fun t14_6 w =>
   nilW t_1 (fun t15_7 w =>
   opW Tryz.prog (Instr.fieldAt 72 t15_7 1) (fun t16_8 w =>
   opU Tryz.prog (Instr.storeAt 9 t16_8 t14_6) (fun _ w =>
   nilW t_1 (fun t19_9 w =>
   opW Tryz.prog (Instr.fieldAt 72 t19_9 0) (fun t20_10 w =>
   opW Tryz.prog (Instr.loadAt 22 t20_10) (fun t21_11 w =>
   opW Tryz.prog (Instr.buildSlice 22 1 #[(0, record_2)]) (fun t23_12 w =>
   opW Tryz.prog (Builtin.append_ #[22, 22] 22 #[t21_11, t23_12]) (fun t24_13 w =>
   nilW t_1 (fun t25_14 w =>
   opW Tryz.prog (Instr.fieldAt 72 t25_14 0) (fun t26_15 w =>
   opU Tryz.prog (Instr.storeAt 22 t26_15 t24_13) (fun _ w =>
   callW Tryz.prog (Value.func (Fn.func 71) #[] #[]) #[record_2] (fun t29_16 w =>
   opW Tryz.prog (Instr.extract t29_16 0) (fun t30_17 w =>
   opW Tryz.prog (Instr.extract t29_16 1) (fun t31_18 w =>
   drewW w (fun w =>
   ∃ S : World → Prop, S w ∧
   nilT t_1 (fun t37_20 =>
   takeW Tryz.prog anyW (Instr.fieldAt 72 t37_20 1) (fun t38_21 =>
   takeW Tryz.prog S (Instr.loadAt 9 t38_21) (fun t39_22 =>
   opW Tryz.prog (Instr.buildSlice 39 1 #[(0, (Value.int IntKind.u8 1))]) (fun t32_23 w => keepS S (fun w =>
   takeW Tryz.prog (sameW w) (convert 39 9 t32_23) (fun t33_24 =>
   takeW Tryz.prog anyW (binS BinOp.add 9 (Operand.tmp 33) (Operand.tmp 34) t33_24 t30_17) (fun t35_25 =>
   takeW Tryz.prog anyW (binS BinOp.add 9 (Operand.tmp 35) (Operand.tmp 39) t35_25 t39_22) (fun t40_26 =>
   nilW t_1 (fun t42_27 w =>
   opW Tryz.prog (Instr.fieldAt 72 t42_27 2) (fun t43_28 w =>
   opW Tryz.prog (Instr.loadAt 3 t43_28) (fun t44_29 w =>
   opW Tryz.prog (Builtin.len_ #[9] 3 #[t40_26]) (fun t46_30 w =>
   opW Tryz.prog (binS BinOp.add 3 (Operand.tmp 44) (Operand.tmp 46) t44_29 t46_30) (fun t47_31 w =>
   nilW t_1 (fun t48_32 w =>
   opW Tryz.prog (Instr.fieldAt 72 t48_32 2) (fun t49_33 w =>
   opU Tryz.prog (Instr.storeAt 3 t49_33 t47_31) (fun _ w =>
   k t40_26 w) w) w) w) w) w) w) w) w) w) w) w) w) w) w) w))) w) w) w) w) w) w) w) w) w) w) w) w) w) w) w) w) w) w
theorem S38_vc (t_1 record_2 : Value) (k : Value → World → Prop) (w : World) : vc Tryz.prog Tryz.f38.ntmps ann38 none ((Tryz.f38.body).getD Code.skip) 1 (params 0 [t_1, record_2]) [] (finQ Tryz.prog Tryz.f38.results.toList k) w = S38 t_1 record_2 k w := by kernel_rfl
theorem S38_calls (t_1 record_2 : Value) (k : Value → World → Prop) (w : World) (h : S38 t_1 record_2 k w) : Calls Tryz.prog 38 #[t_1, record_2] w (retP k) :=
  calls_of_vc (fn := Tryz.f38) (c := (Tryz.f38.body).getD Code.skip) ann38 Tryz.func38 (by kernel_rfl) [t_1, record_2] w k (by kernel_rfl) ((S38_vc t_1 record_2 k w).symm ▸ h)
theorem C38 (t_1 record_2 : Value) (k : Value → World → Prop) (w : World) (h : S38 t_1 record_2 k w) : callW Tryz.prog (.func (.func 38) #[] #[]) #[t_1, record_2] k w :=
  callW_calls ok38 (by simpa using S38_calls t_1 record_2 k w h)

-- NOT PRINTED 39 (*strings.Builder).String: an operation that is not taken in: Op.call('builtin', ['Builtin.unsafeString'])
/-! newswire/journal.first -/
def ann40 : Ann := [(13, Note.keep []), (26, Note.loop [8] [6, 7]), (422, Note.keep [6, 7, 8])]
def S40 (calls_1 : Value) (k : Value → World → Prop) (w : World) : Prop :=
   opW Tryz.prog (Builtin.len_ #[127] 3 #[calls_1]) (fun t7_2 w =>
   Loop1 (fun t8_4 w K_5 =>
   opW Tryz.prog (binS BinOp.lss 3 (Operand.tmp 8) (Operand.tmp 7) t8_4 t7_2) (fun t9_6 w =>
   condW t9_6
   (opW Tryz.prog (Instr.indexAt 127 calls_1 t8_4) (fun t10_9 w =>
   opW Tryz.prog (Instr.loadAt 85 t10_9) (fun t11_10 w =>
   callW Tryz.prog t11_10 #[] (fun t13_11 w =>
   opW Tryz.prog (binS BinOp.neq 33 (Operand.tmp 14) (Operand.const (Value.int IntKind.i64 0)) t13_11 (Value.int IntKind.i64 0)) (fun t15_12 w =>
   condW t15_12
   (k t13_11 w)
   (opW Tryz.prog (binS BinOp.add 3 (Operand.tmp 8) (Operand.const (Value.int IntKind.i64 1)) t8_4 (Value.int IntKind.i64 1)) (fun t17_13 w =>
   loopK [] [] [calls_1, t7_2] [calls_1, t7_2] (K_5 t17_13 w)) w)) w) w) w) w)
   (k (Value.int IntKind.i64 0) w)) w) (Value.int IntKind.i64 0) w) w
theorem S40_vc (calls_1 : Value) (k : Value → World → Prop) (w : World) : vc Tryz.prog Tryz.f40.ntmps ann40 none ((Tryz.f40.body).getD Code.skip) 1 (params 0 [calls_1]) [] (finQ Tryz.prog Tryz.f40.results.toList k) w = S40 calls_1 k w := by kernel_rfl
theorem S40_calls (calls_1 : Value) (k : Value → World → Prop) (w : World) (h : S40 calls_1 k w) : Calls Tryz.prog 40 #[calls_1] w (retP k) :=
  calls_of_vc (fn := Tryz.f40) (c := (Tryz.f40.body).getD Code.skip) ann40 Tryz.func40 (by kernel_rfl) [calls_1] w k (by kernel_rfl) ((S40_vc calls_1 k w).symm ▸ h)
theorem C40 (calls_1 : Value) (k : Value → World → Prop) (w : World) (h : S40 calls_1 k w) : callW Tryz.prog (.func (.func 40) #[] #[]) #[calls_1] k w :=
  callW_calls ok40 (by simpa using S40_calls calls_1 k w h)

/-! (*newswire/journal.Journal).writing -/
def ann41 : Ann := []
def S41 (j_1 at_2 s_3 : Value) (k : Value → World → Prop) (w : World) : Prop :=
   opW Tryz.prog (Instr.box 28 j_1) (fun j_4 w =>
   opW Tryz.prog (Instr.box 3 at_2) (fun at_5 w =>
   opW Tryz.prog (Instr.box 9 s_3) (fun s_6 w =>
   opW Tryz.prog (Instr.makeFunc (Fn.func 72) #[] #[j_4, at_5, s_6]) (fun t7_7 w =>
   k t7_7 w) w) w) w) w
theorem S41_vc (j_1 at_2 s_3 : Value) (k : Value → World → Prop) (w : World) : vc Tryz.prog Tryz.f41.ntmps ann41 none ((Tryz.f41.body).getD Code.skip) 1 (params 0 [j_1, at_2, s_3]) [] (finQ Tryz.prog Tryz.f41.results.toList k) w = S41 j_1 at_2 s_3 k w := by kernel_rfl
theorem S41_calls (j_1 at_2 s_3 : Value) (k : Value → World → Prop) (w : World) (h : S41 j_1 at_2 s_3 k w) : Calls Tryz.prog 41 #[j_1, at_2, s_3] w (retP k) :=
  calls_of_vc (fn := Tryz.f41) (c := (Tryz.f41.body).getD Code.skip) ann41 Tryz.func41 (by kernel_rfl) [j_1, at_2, s_3] w k (by kernel_rfl) ((S41_vc j_1 at_2 s_3 k w).symm ▸ h)
theorem C41 (j_1 at_2 s_3 : Value) (k : Value → World → Prop) (w : World) (h : S41 j_1 at_2 s_3 k w) : callW Tryz.prog (.func (.func 41) #[] #[]) #[j_1, at_2, s_3] k w :=
  callW_calls ok41 (by simpa using S41_calls j_1 at_2 s_3 k w h)

/-! (*newswire/disk.Disk).Sync -/
def ann42 : Ann := [(58, Note.plan (Plan.takeP 0 (Plan.takeP 1 (Plan.takeP 2 (Plan.takeP 3 (Plan.takeX 4 (Plan.takeP 5 (Plan.takeP 6 (Plan.takeP 7 (Plan.takeX 8 (Plan.run 9 Plan.done)))))))))))]
def S42 (d_1 : Value) (k : Value → World → Prop) (w : World) : Prop :=
   callW Tryz.prog (Value.func (Fn.func 46) #[] #[]) #[d_1] (fun t5_2 w =>
   joinW (fun w =>
   k t5_2 w) (fun J_3 =>
   opW Tryz.prog (binS BinOp.eql 33 (Operand.tmp 6) (Operand.const (Value.int IntKind.i64 0)) t5_2 (Value.int IntKind.i64 0)) (fun t7_4 w =>
   condW t7_4
   (drewW w (fun w =>
   nilT d_1 (fun t10_6 =>
   takeW Tryz.prog anyW (Instr.fieldAt 97 t10_6 2) (fun t11_7 =>
   takeW Tryz.prog (sameW w) (Instr.loadAt 39 t11_7) (fun t12_8 =>
   nilT d_1 (fun t14_9 =>
   takeW Tryz.prog anyW (Instr.fieldAt 97 t14_9 1) (fun t15_10 =>
   takeW Tryz.prog (sameW w) (Instr.loadAt 39 t15_10) (fun t16_11 =>
   callW Tryz.prog (Value.func (Fn.func 65) #[] #[]) #[d_1, t12_8, t16_11] (fun t17_12 w =>
   J_3 w) w) w) w)) w) w)))
   (J_3 w)) w)) w
theorem S42_vc (d_1 : Value) (k : Value → World → Prop) (w : World) : vc Tryz.prog Tryz.f42.ntmps ann42 none ((Tryz.f42.body).getD Code.skip) 1 (params 0 [d_1]) [] (finQ Tryz.prog Tryz.f42.results.toList k) w = S42 d_1 k w := by kernel_rfl
theorem S42_calls (d_1 : Value) (k : Value → World → Prop) (w : World) (h : S42 d_1 k w) : Calls Tryz.prog 42 #[d_1] w (retP k) :=
  calls_of_vc (fn := Tryz.f42) (c := (Tryz.f42.body).getD Code.skip) ann42 Tryz.func42 (by kernel_rfl) [d_1] w k (by kernel_rfl) ((S42_vc d_1 k w).symm ▸ h)
theorem C42 (d_1 : Value) (k : Value → World → Prop) (w : World) (h : S42 d_1 k w) : callW Tryz.prog (.func (.func 42) #[] #[]) #[d_1] k w :=
  callW_calls ok42 (by simpa using S42_calls d_1 k w h)

/-! newswire/newswireref02.Head -/
def ann43 : Ann := [(29, Note.keep [3]), (58, Note.loop [3, 4] [0]), (466, Note.keep [0, 3, 4])]
def S43 (l_1 : Value) (k : Value → World → Prop) (w : World) : Prop :=
   opW Tryz.prog (Instr.makeSlice 39 (Value.int IntKind.i64 32) (Value.int IntKind.i64 32)) (fun t5_2 w =>
   opW Tryz.prog (convert 39 9 t5_2) (fun t6_3 w =>
   Loop2 (fun h_5 i_6 w K_7 =>
   opW Tryz.prog (Builtin.len_ #[22] 3 #[l_1]) (fun t9_9 w =>
   opW Tryz.prog (binS BinOp.lss 3 (Operand.tmp 7) (Operand.tmp 9) i_6 t9_9) (fun t10_10 w =>
   condW t10_10
   (opW Tryz.prog (Instr.indexAt 22 l_1 i_6) (fun t16_12 w =>
   opW Tryz.prog (Instr.loadAt 9 t16_12) (fun t17_13 w =>
   callW Tryz.prog (Value.func (Fn.func 57) #[] #[]) #[h_5, t17_13] (fun t18_14 w =>
   opW Tryz.prog (binS BinOp.add 3 (Operand.tmp 11) (Operand.const (Value.int IntKind.i64 1)) i_6 (Value.int IntKind.i64 1)) (fun t12_15 w =>
   loopK [] [] [l_1] [l_1] (K_7 t18_14 t12_15 w)) w) w) w) w)
   (k h_5 w)) w) w) t6_3 (Value.int IntKind.i64 0) w) w) w
theorem S43_vc (l_1 : Value) (k : Value → World → Prop) (w : World) : vc Tryz.prog Tryz.f43.ntmps ann43 none ((Tryz.f43.body).getD Code.skip) 1 (params 0 [l_1]) [] (finQ Tryz.prog Tryz.f43.results.toList k) w = S43 l_1 k w := by kernel_rfl
theorem S43_calls (l_1 : Value) (k : Value → World → Prop) (w : World) (h : S43 l_1 k w) : Calls Tryz.prog 43 #[l_1] w (retP k) :=
  calls_of_vc (fn := Tryz.f43) (c := (Tryz.f43.body).getD Code.skip) ann43 Tryz.func43 (by kernel_rfl) [l_1] w k (by kernel_rfl) ((S43_vc l_1 k w).symm ▸ h)
theorem C43 (l_1 : Value) (k : Value → World → Prop) (w : World) (h : S43 l_1 k w) : callW Tryz.prog (.func (.func 43) #[] #[]) #[l_1] k w :=
  callW_calls ok43 (by simpa using S43_calls l_1 k w h)

/-! newswire/newswireref34.Stored -/
def ann44 : Ann := []
def S44 (head_1 record_2 : Value) (k : Value → World → Prop) (w : World) : Prop :=
   callW Tryz.prog (Value.func (Fn.func 57) #[] #[]) #[head_1, record_2] (fun t11_3 w =>
   callW Tryz.prog (Value.func (Fn.func 73) #[] #[]) #[record_2] (fun t14_4 w =>
   opW Tryz.prog (Instr.extract t14_4 0) (fun t15_5 w =>
   opW Tryz.prog (Instr.extract t14_4 1) (fun t16_6 w =>
   opW Tryz.prog (binS BinOp.add 9 (Operand.const (Value.string { data := #[1] })) (Operand.tmp 17) (Value.string { data := #[1] }) t15_5) (fun t18_7 w =>
   opW Tryz.prog (binS BinOp.add 9 (Operand.tmp 18) (Operand.tmp 19) t18_7 t11_3) (fun t20_8 w =>
   k (Value.tuple #[t20_8, t11_3]) w) w) w) w) w) w) w
theorem S44_vc (head_1 record_2 : Value) (k : Value → World → Prop) (w : World) : vc Tryz.prog Tryz.f44.ntmps ann44 none ((Tryz.f44.body).getD Code.skip) 1 (params 0 [head_1, record_2]) [] (finQ Tryz.prog Tryz.f44.results.toList k) w = S44 head_1 record_2 k w := by kernel_rfl
theorem S44_calls (head_1 record_2 : Value) (k : Value → World → Prop) (w : World) (h : S44 head_1 record_2 k w) : Calls Tryz.prog 44 #[head_1, record_2] w (retP k) :=
  calls_of_vc (fn := Tryz.f44) (c := (Tryz.f44.body).getD Code.skip) ann44 Tryz.func44 (by kernel_rfl) [head_1, record_2] w k (by kernel_rfl) ((S44_vc head_1 record_2 k w).symm ▸ h)
theorem C44 (head_1 record_2 : Value) (k : Value → World → Prop) (w : World) (h : S44 head_1 record_2 k w) : callW Tryz.prog (.func (.func 44) #[] #[]) #[head_1, record_2] k w :=
  callW_calls ok44 (by simpa using S44_calls head_1 record_2 k w h)

/-! (*newswire/newswireref33.Disk).Sync -/
def ann45 : Ann := []
def S45 (d_1 : Value) (k : Value → World → Prop) (w : World) : Prop :=
   nilW d_1 (fun t4_3 w =>
   opW Tryz.prog (Instr.fieldAt 67 t4_3 2) (fun t5_4 w =>
   opW Tryz.prog (Instr.loadAt 4 t5_4) (fun t6_5 w =>
   condW t6_5
   (k (Value.int IntKind.i64 331) w)
   (callW Tryz.prog (Value.func (Fn.func 23) #[] #[]) #[d_1] (fun t9_6 w =>
   nilW d_1 (fun t10_7 w =>
   opW Tryz.prog (Instr.fieldAt 67 t10_7 0) (fun t11_8 w =>
   opU Tryz.prog (Instr.storeAt 39 t11_8 t9_6) (fun _ w =>
   nilW d_1 (fun t13_9 w =>
   opW Tryz.prog (Instr.fieldAt 67 t13_9 1) (fun t14_10 w =>
   opU Tryz.prog (Instr.storeAt 65 t14_10 (Value.slice none 0 0)) (fun _ w =>
   k (Value.int IntKind.i64 0) w) w) w) w) w) w) w) w)) w) w) w
theorem S45_vc (d_1 : Value) (k : Value → World → Prop) (w : World) : vc Tryz.prog Tryz.f45.ntmps ann45 none ((Tryz.f45.body).getD Code.skip) 1 (params 0 [d_1]) [] (finQ Tryz.prog Tryz.f45.results.toList k) w = S45 d_1 k w := by kernel_rfl
theorem S45_calls (d_1 : Value) (k : Value → World → Prop) (w : World) (h : S45 d_1 k w) : Calls Tryz.prog 45 #[d_1] w (retP k) :=
  calls_of_vc (fn := Tryz.f45) (c := (Tryz.f45.body).getD Code.skip) ann45 Tryz.func45 (by kernel_rfl) [d_1] w k (by kernel_rfl) ((S45_vc d_1 k w).symm ▸ h)
theorem C45 (d_1 : Value) (k : Value → World → Prop) (w : World) (h : S45 d_1 k w) : callW Tryz.prog (.func (.func 45) #[] #[]) #[d_1] k w :=
  callW_calls ok45 (by simpa using S45_calls d_1 k w h)

/-! (*newswire/disk.Disk).check -/
def ann46 : Ann := [(6, Note.keep [])]
def S46 (d_1 : Value) (k : Value → World → Prop) (w : World) : Prop :=
   opW Tryz.prog (binS BinOp.eql 27 (Operand.tmp 4) (Operand.const (Value.pointer none)) d_1 (Value.pointer none)) (fun t5_3 w =>
   condW t5_3
   (k (Value.int IntKind.i64 1) w)
   (nilW d_1 (fun t8_4 w =>
   opW Tryz.prog (Instr.fieldAt 97 t8_4 0) (fun t9_5 w =>
   opW Tryz.prog (Instr.fieldAt 95 t9_5 0) (fun t10_6 w =>
   opW Tryz.prog (Instr.loadAt 4 t10_6) (fun t11_7 w =>
   condW t11_7
   (k (Value.int IntKind.i64 331) w)
   (k (Value.int IntKind.i64 0) w)) w) w) w) w)) w
theorem S46_vc (d_1 : Value) (k : Value → World → Prop) (w : World) : vc Tryz.prog Tryz.f46.ntmps ann46 none ((Tryz.f46.body).getD Code.skip) 1 (params 0 [d_1]) [] (finQ Tryz.prog Tryz.f46.results.toList k) w = S46 d_1 k w := by kernel_rfl
theorem S46_calls (d_1 : Value) (k : Value → World → Prop) (w : World) (h : S46 d_1 k w) : Calls Tryz.prog 46 #[d_1] w (retP k) :=
  calls_of_vc (fn := Tryz.f46) (c := (Tryz.f46.body).getD Code.skip) ann46 Tryz.func46 (by kernel_rfl) [d_1] w k (by kernel_rfl) ((S46_vc d_1 k w).symm ▸ h)
theorem C46 (d_1 : Value) (k : Value → World → Prop) (w : World) (h : S46 d_1 k w) : callW Tryz.prog (.func (.func 46) #[] #[]) #[d_1] k w :=
  callW_calls ok46 (by simpa using S46_calls d_1 k w h)

/-! (*newswire/disk.Disk).inside -/
def ann47 : Ann := []
def S47 (d_1 off_2 n_3 : Value) (k : Value → World → Prop) (w : World) : Prop :=
   opW Tryz.prog (binS BinOp.geq 3 (Operand.tmp 7) (Operand.const (Value.int IntKind.i64 0)) off_2 (Value.int IntKind.i64 0)) (fun t8_4 w =>
   guardW (some t8_4, true) (fun k w => k n_3 w) (fun t10_5 w =>
   guardW (some t8_4, true) (fun k w => opW Tryz.prog (binS BinOp.geq 3 (Operand.tmp 10) (Operand.const (Value.int IntKind.i64 0)) t10_5 (Value.int IntKind.i64 0)) k w) (fun t11_6 w =>
   pickW t8_4 t11_6 (Value.bool false) (fun t12_7 w =>
   guardW (some t12_7, true) (fun k w => k off_2 w) (fun t14_8 w =>
   guardW (some t12_7, true) (fun k w => k d_1 w) (fun t15_9 w =>
   guardW (some t12_7, true) (fun k w => nilW t15_9 k w) (fun t16_10 w =>
   guardW (some t12_7, true) (fun k w => opW Tryz.prog (Instr.fieldAt 97 t16_10 1) k w) (fun t17_11 w =>
   guardW (some t12_7, true) (fun k w => opW Tryz.prog (Instr.loadAt 39 t17_11) k w) (fun t18_12 w =>
   guardW (some t12_7, true) (fun k w => opW Tryz.prog (Builtin.len_ #[39] 3 #[t18_12]) k w) (fun t19_13 w =>
   guardW (some t12_7, true) (fun k w => opW Tryz.prog (binS BinOp.leq 3 (Operand.tmp 14) (Operand.tmp 19) t14_8 t19_13) k w) (fun t20_14 w =>
   pickW t12_7 t20_14 (Value.bool false) (fun t21_15 w =>
   guardW (some t21_15, true) (fun k w => k n_3 w) (fun t23_16 w =>
   guardW (some t21_15, true) (fun k w => k d_1 w) (fun t24_17 w =>
   guardW (some t21_15, true) (fun k w => nilW t24_17 k w) (fun t25_18 w =>
   guardW (some t21_15, true) (fun k w => opW Tryz.prog (Instr.fieldAt 97 t25_18 1) k w) (fun t26_19 w =>
   guardW (some t21_15, true) (fun k w => opW Tryz.prog (Instr.loadAt 39 t26_19) k w) (fun t27_20 w =>
   guardW (some t21_15, true) (fun k w => opW Tryz.prog (Builtin.len_ #[39] 3 #[t27_20]) k w) (fun t28_21 w =>
   guardW (some t21_15, true) (fun k w => k off_2 w) (fun t29_22 w =>
   guardW (some t21_15, true) (fun k w => opW Tryz.prog (binS BinOp.sub 3 (Operand.tmp 28) (Operand.tmp 29) t28_21 t29_22) k w) (fun t30_23 w =>
   guardW (some t21_15, true) (fun k w => opW Tryz.prog (binS BinOp.leq 3 (Operand.tmp 23) (Operand.tmp 30) t23_16 t30_23) k w) (fun t31_24 w =>
   pickW t21_15 t31_24 (Value.bool false) (fun t32_25 w =>
   k t32_25 w) w) w) w) w) w) w) w) w) w) w) w) w) w) w) w) w) w) w) w) w) w) w
theorem S47_vc (d_1 off_2 n_3 : Value) (k : Value → World → Prop) (w : World) : vc Tryz.prog Tryz.f47.ntmps ann47 none ((Tryz.f47.body).getD Code.skip) 1 (params 0 [d_1, off_2, n_3]) [] (finQ Tryz.prog Tryz.f47.results.toList k) w = S47 d_1 off_2 n_3 k w := by kernel_rfl
theorem S47_calls (d_1 off_2 n_3 : Value) (k : Value → World → Prop) (w : World) (h : S47 d_1 off_2 n_3 k w) : Calls Tryz.prog 47 #[d_1, off_2, n_3] w (retP k) :=
  calls_of_vc (fn := Tryz.f47) (c := (Tryz.f47.body).getD Code.skip) ann47 Tryz.func47 (by kernel_rfl) [d_1, off_2, n_3] w k (by kernel_rfl) ((S47_vc d_1 off_2 n_3 k w).symm ▸ h)
theorem C47 (d_1 off_2 n_3 : Value) (k : Value → World → Prop) (w : World) (h : S47 d_1 off_2 n_3 k w) : callW Tryz.prog (.func (.func 47) #[] #[]) #[d_1, off_2, n_3] k w :=
  callW_calls ok47 (by simpa using S47_calls d_1 off_2 n_3 k w h)

/-! (newswire/disk.write).onto -/
def ann48 : Ann := [(3, Note.plan (Plan.takeP 0 (Plan.takeP 1 (Plan.takeU 2 (Plan.takeP 3 (Plan.takeP 4 (Plan.takeX 5 (Plan.run 6 Plan.done))))))))]
def S48 (w_1 b_2 : Value) (k : Value → World → Prop) (w : World) : Prop :=
   opW Tryz.prog (Instr.box 92 w_1) (fun w_3 w =>
   drewW w (fun w =>
   ∃ S : World → Prop, S w ∧
   takeW Tryz.prog anyW (Instr.fieldAt 92 w_3 0) (fun t5_5 =>
   takeW Tryz.prog S (Instr.loadAt 3 t5_5) (fun t6_6 =>
   takeW Tryz.prog anyW (Instr.sliceAt 39 b_2 (some t6_6) none none) (fun t7_7 =>
   takeW Tryz.prog anyW (Instr.fieldAt 92 w_3 1) (fun t8_8 =>
   takeW Tryz.prog (sameW w) (Instr.loadAt 9 t8_8) (fun t9_9 =>
   opW Tryz.prog (Builtin.copy_ #[39, 9] 3 #[t7_7, t9_9]) (fun t10_10 w => keepS S (fun w =>
   k (Value.tuple #[]) w) w) w) w) w) w) w) w)) w
theorem S48_vc (w_1 b_2 : Value) (k : Value → World → Prop) (w : World) : vc Tryz.prog Tryz.f48.ntmps ann48 none ((Tryz.f48.body).getD Code.skip) 1 (params 0 [w_1, b_2]) [] (finQ Tryz.prog Tryz.f48.results.toList k) w = S48 w_1 b_2 k w := by kernel_rfl
theorem S48_calls (w_1 b_2 : Value) (k : Value → World → Prop) (w : World) (h : S48 w_1 b_2 k w) : Calls Tryz.prog 48 #[w_1, b_2] w (retP k) :=
  calls_of_vc (fn := Tryz.f48) (c := (Tryz.f48.body).getD Code.skip) ann48 Tryz.func48 (by kernel_rfl) [w_1, b_2] w k (by kernel_rfl) ((S48_vc w_1 b_2 k w).symm ▸ h)
theorem C48 (w_1 b_2 : Value) (k : Value → World → Prop) (w : World) (h : S48 w_1 b_2 k w) : callW Tryz.prog (.func (.func 48) #[] #[]) #[w_1, b_2] k w :=
  callW_calls ok48 (by simpa using S48_calls w_1 b_2 k w h)

/-! (*newswire/disk.power).used -/
def ann49 : Ann := []
def S49 (p_1 : Value) (k : Value → World → Prop) (w : World) : Prop :=
   nilW p_1 (fun t3_3 w =>
   opW Tryz.prog (Instr.fieldAt 95 t3_3 1) (fun t4_4 w =>
   opW Tryz.prog (Instr.loadAt 3 t4_4) (fun t5_5 w =>
   opW Tryz.prog (binS BinOp.eql 3 (Operand.tmp 5) (Operand.const (Value.int IntKind.i64 0)) t5_5 (Value.int IntKind.i64 0)) (fun t6_6 w =>
   condW t6_6
   (k (Value.tuple #[]) w)
   (nilW p_1 (fun t8_7 w =>
   opW Tryz.prog (Instr.fieldAt 95 t8_7 1) (fun t9_8 w =>
   opW Tryz.prog (Instr.loadAt 3 t9_8) (fun t10_9 w =>
   opW Tryz.prog (binS BinOp.sub 3 (Operand.tmp 10) (Operand.const (Value.int IntKind.i64 1)) t10_9 (Value.int IntKind.i64 1)) (fun t11_10 w =>
   nilW p_1 (fun t12_11 w =>
   opW Tryz.prog (Instr.fieldAt 95 t12_11 1) (fun t13_12 w =>
   opU Tryz.prog (Instr.storeAt 3 t13_12 t11_10) (fun _ w =>
   nilW p_1 (fun t16_13 w =>
   opW Tryz.prog (Instr.fieldAt 95 t16_13 1) (fun t17_14 w =>
   opW Tryz.prog (Instr.loadAt 3 t17_14) (fun t18_15 w =>
   opW Tryz.prog (binS BinOp.eql 3 (Operand.tmp 18) (Operand.const (Value.int IntKind.i64 0)) t18_15 (Value.int IntKind.i64 0)) (fun t19_16 w =>
   nilW p_1 (fun t20_17 w =>
   opW Tryz.prog (Instr.fieldAt 95 t20_17 0) (fun t21_18 w =>
   opU Tryz.prog (Instr.storeAt 4 t21_18 t19_16) (fun _ w =>
   k (Value.tuple #[]) w) w) w) w) w) w) w) w) w) w) w) w) w) w) w)) w) w) w) w
theorem S49_vc (p_1 : Value) (k : Value → World → Prop) (w : World) : vc Tryz.prog Tryz.f49.ntmps ann49 none ((Tryz.f49.body).getD Code.skip) 1 (params 0 [p_1]) [] (finQ Tryz.prog Tryz.f49.results.toList k) w = S49 p_1 k w := by kernel_rfl
theorem S49_calls (p_1 : Value) (k : Value → World → Prop) (w : World) (h : S49 p_1 k w) : Calls Tryz.prog 49 #[p_1] w (retP k) :=
  calls_of_vc (fn := Tryz.f49) (c := (Tryz.f49.body).getD Code.skip) ann49 Tryz.func49 (by kernel_rfl) [p_1] w k (by kernel_rfl) ((S49_vc p_1 k w).symm ▸ h)
theorem C49 (p_1 : Value) (k : Value → World → Prop) (w : World) (h : S49 p_1 k w) : callW Tryz.prog (.func (.func 49) #[] #[]) #[p_1] k w :=
  callW_calls ok49 (by simpa using S49_calls p_1 k w h)

/-! newswire/newswireref34.Open -/
def ann50 : Ann := [(254, Note.keep [0, 4, 5, 7]), (508, Note.loop [8] [0, 4, 5, 7]), (2033, Note.keep [0, 4, 5, 7, 8])]
def S50 (d_1 : Value) (k : Value → World → Prop) (w : World) : Prop :=
   nilW d_1 (fun t14_2 w =>
   opW Tryz.prog (Instr.fieldAt 67 t14_2 0) (fun t15_3 w =>
   opW Tryz.prog (Instr.loadAt 39 t15_3) (fun t16_4 w =>
   opW Tryz.prog (Builtin.len_ #[39] 3 #[t16_4]) (fun t17_5 w =>
   callW Tryz.prog (Value.func (Fn.func 74) #[] #[]) #[d_1, (Value.int IntKind.i64 0), t17_5] (fun t21_6 w =>
   opW Tryz.prog (Instr.extract t21_6 0) (fun t22_7 w =>
   opW Tryz.prog (Instr.extract t21_6 1) (fun t23_8 w =>
   opW Tryz.prog (binS BinOp.neq 33 (Operand.tmp 24) (Operand.const (Value.int IntKind.i64 0)) t23_8 (Value.int IntKind.i64 0)) (fun t25_10 w =>
   condW t25_10
   (k (Value.tuple #[(Value.pointer none), t23_8]) w)
   (opW Tryz.prog (Instr.build 43 #[(0, d_1)]) (fun t28_11 w =>
   opW Tryz.prog (Instr.box 43 t28_11) (fun t29_12 w =>
   callW Tryz.prog (Value.func (Fn.func 43) #[] #[]) #[(Value.slice none 0 0)] (fun t30_13 w =>
   Loop1 (fun head_15 w K_16 =>
   nilW t29_12 (fun t32_18 w =>
   opW Tryz.prog (Instr.fieldAt 43 t32_18 2) (fun t33_19 w =>
   opW Tryz.prog (Instr.loadAt 3 t33_19) (fun t34_20 w =>
   opW Tryz.prog (binS BinOp.lss 3 (Operand.tmp 34) (Operand.tmp 35) t34_20 t17_5) (fun t36_21 w =>
   guardW (some t36_21, true) (fun k w => k t22_7 w) (fun t38_22 w =>
   guardW (some t36_21, true) (fun k w => k t29_12 w) (fun t39_23 w =>
   guardW (some t36_21, true) (fun k w => nilW t39_23 k w) (fun t40_24 w =>
   guardW (some t36_21, true) (fun k w => opW Tryz.prog (Instr.fieldAt 43 t40_24 2) k w) (fun t41_25 w =>
   guardW (some t36_21, true) (fun k w => opW Tryz.prog (Instr.loadAt 3 t41_25) k w) (fun t42_26 w =>
   guardW (some t36_21, true) (fun k w => opW Tryz.prog (Instr.index 9 t38_22 t42_26) k w) (fun t43_27 w =>
   guardW (some t36_21, true) (fun k w => opW Tryz.prog (binS BinOp.neq 5 (Operand.tmp 43) (Operand.const (Value.int IntKind.u8 0)) t43_27 (Value.int IntKind.u8 0)) k w) (fun t44_28 w =>
   pickW t36_21 t44_28 (Value.bool false) (fun t45_29 w =>
   condW t45_29
   (nilW t29_12 (fun t49_31 w =>
   opW Tryz.prog (Instr.fieldAt 43 t49_31 2) (fun t50_32 w =>
   opW Tryz.prog (Instr.loadAt 3 t50_32) (fun t51_33 w =>
   opW Tryz.prog (binS BinOp.add 3 (Operand.tmp 51) (Operand.const (Value.int IntKind.i64 1)) t51_33 (Value.int IntKind.i64 1)) (fun t52_34 w =>
   callW Tryz.prog (Value.func (Fn.func 75) #[] #[]) #[t22_7, t52_34] (fun t53_35 w =>
   opW Tryz.prog (Instr.extract t53_35 0) (fun t54_36 w =>
   opW Tryz.prog (Instr.extract t53_35 1) (fun t55_37 w =>
   opW Tryz.prog (Instr.extract t53_35 2) (fun t56_38 w =>
   nilW t29_12 (fun t59_40 w =>
   opW Tryz.prog (Instr.fieldAt 43 t59_40 2) (fun t60_41 w =>
   opW Tryz.prog (Instr.loadAt 3 t60_41) (fun t61_42 w =>
   opW Tryz.prog (Instr.index 9 t22_7 t61_42) (fun t62_43 w =>
   opW Tryz.prog (binS BinOp.neq 5 (Operand.tmp 62) (Operand.const (Value.int IntKind.u8 1)) t62_43 (Value.int IntKind.u8 1)) (fun t63_44 w =>
   guardW (some t63_44, false) (fun k w => k t56_38 w) (fun t65_45 w =>
   guardW (some t63_44, false) (fun k w => opW Tryz.prog (binS BinOp.neq 33 (Operand.tmp 65) (Operand.const (Value.int IntKind.i64 0)) t65_45 (Value.int IntKind.i64 0)) k w) (fun t66_46 w =>
   pickW t63_44 (Value.bool true) t66_46 (fun t67_47 w =>
   condW t67_47
   (k (Value.tuple #[(Value.pointer none), (Value.int IntKind.i64 342)]) w)
   (callW Tryz.prog (Value.func (Fn.func 57) #[] #[]) #[head_15, t54_36] (fun t70_48 w =>
   opW Tryz.prog (binS BinOp.add 3 (Operand.tmp 71) (Operand.const (Value.int IntKind.i64 32)) t55_37 (Value.int IntKind.i64 32)) (fun t72_50 w =>
   opW Tryz.prog (binS BinOp.gtr 3 (Operand.tmp 72) (Operand.tmp 73) t72_50 t17_5) (fun t74_51 w =>
   guardW (some t74_51, false) (fun k w => k t22_7 w) (fun t76_52 w =>
   guardW (some t74_51, false) (fun k w => k t55_37 w) (fun t77_53 w =>
   guardW (some t74_51, false) (fun k w => k t55_37 w) (fun t78_54 w =>
   guardW (some t74_51, false) (fun k w => opW Tryz.prog (binS BinOp.add 3 (Operand.tmp 78) (Operand.const (Value.int IntKind.i64 32)) t78_54 (Value.int IntKind.i64 32)) k w) (fun t79_55 w =>
   guardW (some t74_51, false) (fun k w => opW Tryz.prog (Instr.sliceAt 9 t76_52 (some t77_53) (some t79_55) none) k w) (fun t80_56 w =>
   guardW (some t74_51, false) (fun k w => k t70_48 w) (fun t81_57 w =>
   guardW (some t74_51, false) (fun k w => opW Tryz.prog (binS BinOp.neq 9 (Operand.tmp 80) (Operand.tmp 81) t80_56 t81_57) k w) (fun t82_58 w =>
   pickW t74_51 (Value.bool true) t82_58 (fun t83_59 w =>
   condW t83_59
   (k (Value.tuple #[(Value.pointer none), (Value.int IntKind.i64 342)]) w)
   (nilW t29_12 (fun t86_60 w =>
   opW Tryz.prog (Instr.fieldAt 43 t86_60 1) (fun t87_61 w =>
   opW Tryz.prog (Instr.loadAt 22 t87_61) (fun t88_62 w =>
   opW Tryz.prog (Instr.buildSlice 22 1 #[(0, t54_36)]) (fun t90_63 w =>
   opW Tryz.prog (Builtin.append_ #[22, 22] 22 #[t88_62, t90_63]) (fun t91_64 w =>
   nilW t29_12 (fun t92_65 w =>
   opW Tryz.prog (Instr.fieldAt 43 t92_65 1) (fun t93_66 w =>
   opU Tryz.prog (Instr.storeAt 22 t93_66 t91_64) (fun _ w =>
   opW Tryz.prog (binS BinOp.add 3 (Operand.tmp 95) (Operand.const (Value.int IntKind.i64 32)) t55_37 (Value.int IntKind.i64 32)) (fun t96_67 w =>
   nilW t29_12 (fun t97_68 w =>
   opW Tryz.prog (Instr.fieldAt 43 t97_68 2) (fun t98_69 w =>
   opU Tryz.prog (Instr.storeAt 3 t98_69 t96_67) (fun _ w =>
   loopK [] [] [d_1, t17_5, t22_7, t29_12] [d_1, t17_5, t22_7, t29_12] (K_16 t70_48 w)) w) w) w) w) w) w) w) w) w) w) w) w)) w) w) w) w) w) w) w) w) w) w) w)) w) w) w) w) w) w) w) w) w) w) w) w) w) w) w) w)
   (nilW t29_12 (fun t101_70 w =>
   opW Tryz.prog (Instr.fieldAt 43 t101_70 2) (fun t102_71 w =>
   opW Tryz.prog (Instr.loadAt 3 t102_71) (fun t103_72 w =>
   opW Tryz.prog (binS BinOp.sub 3 (Operand.tmp 99) (Operand.tmp 103) t17_5 t103_72) (fun t104_73 w =>
   opW Tryz.prog (Instr.makeSlice 39 t104_73 t104_73) (fun t105_74 w =>
   opW Tryz.prog (convert 39 9 t105_74) (fun t106_75 w =>
   joinW (fun w =>
   k (Value.tuple #[t29_12, (Value.int IntKind.i64 0)]) w) (fun J_76 =>
   nilW t29_12 (fun t109_77 w =>
   opW Tryz.prog (Instr.fieldAt 43 t109_77 2) (fun t110_78 w =>
   opW Tryz.prog (Instr.loadAt 3 t110_78) (fun t111_79 w =>
   opW Tryz.prog (Instr.sliceAt 9 t22_7 (some t111_79) none none) (fun t112_80 w =>
   opW Tryz.prog (binS BinOp.neq 9 (Operand.tmp 112) (Operand.tmp 113) t112_80 t106_75) (fun t114_81 w =>
   condW t114_81
   (nilW t29_12 (fun t117_82 w =>
   opW Tryz.prog (Instr.fieldAt 43 t117_82 2) (fun t118_83 w =>
   opW Tryz.prog (Instr.loadAt 3 t118_83) (fun t119_84 w =>
   callW Tryz.prog (Value.func (Fn.func 16) #[] #[]) #[d_1, t119_84, t106_75] (fun t121_85 w =>
   joinW (fun e_89 w =>
   opW Tryz.prog (binS BinOp.neq 33 (Operand.tmp 126) (Operand.const (Value.int IntKind.i64 0)) e_89 (Value.int IntKind.i64 0)) (fun t127_90 w =>
   condW t127_90
   (k (Value.tuple #[(Value.pointer none), e_89]) w)
   (J_76 w)) w) (fun J_86 =>
   opW Tryz.prog (binS BinOp.eql 33 (Operand.tmp 122) (Operand.const (Value.int IntKind.i64 0)) t121_85 (Value.int IntKind.i64 0)) (fun t123_87 w =>
   condW t123_87
   (callW Tryz.prog (Value.func (Fn.func 45) #[] #[]) #[d_1] (fun t125_88 w =>
   J_86 t125_88 w) w)
   (J_86 t121_85 w)) w)) w) w) w) w)
   (J_76 w)) w) w) w) w) w)) w) w) w) w) w) w)) w) w) w) w) w) w) w) w) w) w) w) w) t30_13 w) w) w) w)) w) w) w) w) w) w) w) w
theorem S50_vc (d_1 : Value) (k : Value → World → Prop) (w : World) : vc Tryz.prog Tryz.f50.ntmps ann50 none ((Tryz.f50.body).getD Code.skip) 1 (params 0 [d_1]) [] (finQ Tryz.prog Tryz.f50.results.toList k) w = S50 d_1 k w := by kernel_rfl
theorem S50_calls (d_1 : Value) (k : Value → World → Prop) (w : World) (h : S50 d_1 k w) : Calls Tryz.prog 50 #[d_1] w (retP k) :=
  calls_of_vc (fn := Tryz.f50) (c := (Tryz.f50.body).getD Code.skip) ann50 Tryz.func50 (by kernel_rfl) [d_1] w k (by kernel_rfl) ((S50_vc d_1 k w).symm ▸ h)
theorem C50 (d_1 : Value) (k : Value → World → Prop) (w : World) (h : S50 d_1 k w) : callW Tryz.prog (.func (.func 50) #[] #[]) #[d_1] k w :=
  callW_calls ok50 (by simpa using S50_calls d_1 k w h)

/-! (*newswire/disk.Disk).Size -/
def ann51 : Ann := []
def S51 (d_1 : Value) (k : Value → World → Prop) (w : World) : Prop :=
   opW Tryz.prog (binS BinOp.eql 27 (Operand.tmp 3) (Operand.const (Value.pointer none)) d_1 (Value.pointer none)) (fun t4_3 w =>
   condW t4_3
   (k (Value.int IntKind.i64 0) w)
   (nilW d_1 (fun t6_4 w =>
   opW Tryz.prog (Instr.fieldAt 97 t6_4 1) (fun t7_5 w =>
   opW Tryz.prog (Instr.loadAt 39 t7_5) (fun t8_6 w =>
   opW Tryz.prog (Builtin.len_ #[39] 3 #[t8_6]) (fun t9_7 w =>
   k t9_7 w) w) w) w) w)) w
theorem S51_vc (d_1 : Value) (k : Value → World → Prop) (w : World) : vc Tryz.prog Tryz.f51.ntmps ann51 none ((Tryz.f51.body).getD Code.skip) 1 (params 0 [d_1]) [] (finQ Tryz.prog Tryz.f51.results.toList k) w = S51 d_1 k w := by kernel_rfl
theorem S51_calls (d_1 : Value) (k : Value → World → Prop) (w : World) (h : S51 d_1 k w) : Calls Tryz.prog 51 #[d_1] w (retP k) :=
  calls_of_vc (fn := Tryz.f51) (c := (Tryz.f51.body).getD Code.skip) ann51 Tryz.func51 (by kernel_rfl) [d_1] w k (by kernel_rfl) ((S51_vc d_1 k w).symm ▸ h)
theorem C51 (d_1 : Value) (k : Value → World → Prop) (w : World) (h : S51 d_1 k w) : callW Tryz.prog (.func (.func 51) #[] #[]) #[d_1] k w :=
  callW_calls ok51 (by simpa using S51_calls d_1 k w h)

/-! (*newswire/disk.Disk).Read -/
def ann52 : Ann := []
def S52 (d_1 off_2 n_3 : Value) (k : Value → World → Prop) (w : World) : Prop :=
   callW Tryz.prog (Value.func (Fn.func 46) #[] #[]) #[d_1] (fun t10_5 w =>
   opW Tryz.prog (binS BinOp.neq 33 (Operand.tmp 11) (Operand.const (Value.int IntKind.i64 0)) t10_5 (Value.int IntKind.i64 0)) (fun t12_6 w =>
   condW t12_6
   (k (Value.tuple #[(Value.string { data := #[] }), t10_5]) w)
   (callW Tryz.prog (Value.func (Fn.func 47) #[] #[]) #[d_1, off_2, n_3] (fun t17_8 w =>
   opW Tryz.prog (Op.unary UnOp.not t17_8) (fun t18_9 w =>
   condW t18_9
   (k (Value.tuple #[(Value.string { data := #[] }), (Value.int IntKind.i64 330)]) w)
   (nilW d_1 (fun t20_10 w =>
   opW Tryz.prog (Instr.fieldAt 97 t20_10 2) (fun t21_11 w =>
   opW Tryz.prog (Instr.loadAt 39 t21_11) (fun t22_12 w =>
   opW Tryz.prog (Instr.sliceAt 39 t22_12 (some off_2) none none) (fun t24_13 w =>
   opW Tryz.prog (Instr.sliceAt 39 t24_13 none (some n_3) none) (fun t26_14 w =>
   opW Tryz.prog (convert 39 9 t26_14) (fun t27_15 w =>
   k (Value.tuple #[t27_15, (Value.int IntKind.i64 0)]) w) w) w) w) w) w) w)) w) w)) w) w
theorem S52_vc (d_1 off_2 n_3 : Value) (k : Value → World → Prop) (w : World) : vc Tryz.prog Tryz.f52.ntmps ann52 none ((Tryz.f52.body).getD Code.skip) 1 (params 0 [d_1, off_2, n_3]) [] (finQ Tryz.prog Tryz.f52.results.toList k) w = S52 d_1 off_2 n_3 k w := by kernel_rfl
theorem S52_calls (d_1 off_2 n_3 : Value) (k : Value → World → Prop) (w : World) (h : S52 d_1 off_2 n_3 k w) : Calls Tryz.prog 52 #[d_1, off_2, n_3] w (retP k) :=
  calls_of_vc (fn := Tryz.f52) (c := (Tryz.f52.body).getD Code.skip) ann52 Tryz.func52 (by kernel_rfl) [d_1, off_2, n_3] w k (by kernel_rfl) ((S52_vc d_1 off_2 n_3 k w).symm ▸ h)
theorem C52 (d_1 off_2 n_3 : Value) (k : Value → World → Prop) (w : World) (h : S52 d_1 off_2 n_3 k w) : callW Tryz.prog (.func (.func 52) #[] #[]) #[d_1, off_2, n_3] k w :=
  callW_calls ok52 (by simpa using S52_calls d_1 off_2 n_3 k w h)

/-! newswire/newswireref33.apply -/
def ann53 : Ann := [(3, Note.keep []), (6, Note.loop [6] [0, 1, 2]), (50, Note.keep [0, 1, 2, 6])]
def S53 (b_1 off_2 s_3 : Value) (k : Value → World → Prop) (w : World) : Prop :=
   Loop1 (fun i_5 w K_6 =>
   opW Tryz.prog (Builtin.len_ #[9] 3 #[s_3]) (fun t9_8 w =>
   opW Tryz.prog (binS BinOp.lss 3 (Operand.tmp 7) (Operand.tmp 9) i_5 t9_8) (fun t10_9 w =>
   condW t10_9
   (opW Tryz.prog (binS BinOp.add 3 (Operand.tmp 14) (Operand.tmp 15) off_2 i_5) (fun t16_11 w =>
   opW Tryz.prog (Instr.index 9 s_3 i_5) (fun t19_12 w =>
   opW Tryz.prog (Instr.indexAt 39 b_1 t16_11) (fun t20_13 w =>
   opU Tryz.prog (Instr.storeAt 5 t20_13 t19_12) (fun _ w =>
   opW Tryz.prog (binS BinOp.add 3 (Operand.tmp 11) (Operand.const (Value.int IntKind.i64 1)) i_5 (Value.int IntKind.i64 1)) (fun t12_14 w =>
   loopK [] [] [b_1, off_2, s_3] [b_1, off_2, s_3] (K_6 t12_14 w)) w) w) w) w) w)
   (k (Value.tuple #[]) w)) w) w) (Value.int IntKind.i64 0) w
theorem S53_vc (b_1 off_2 s_3 : Value) (k : Value → World → Prop) (w : World) : vc Tryz.prog Tryz.f53.ntmps ann53 none ((Tryz.f53.body).getD Code.skip) 1 (params 0 [b_1, off_2, s_3]) [] (finQ Tryz.prog Tryz.f53.results.toList k) w = S53 b_1 off_2 s_3 k w := by kernel_rfl
theorem S53_calls (b_1 off_2 s_3 : Value) (k : Value → World → Prop) (w : World) (h : S53 b_1 off_2 s_3 k w) : Calls Tryz.prog 53 #[b_1, off_2, s_3] w (retP k) :=
  calls_of_vc (fn := Tryz.f53) (c := (Tryz.f53.body).getD Code.skip) ann53 Tryz.func53 (by kernel_rfl) [b_1, off_2, s_3] w k (by kernel_rfl) ((S53_vc b_1 off_2 s_3 k w).symm ▸ h)
theorem C53 (b_1 off_2 s_3 : Value) (k : Value → World → Prop) (w : World) (h : S53 b_1 off_2 s_3 k w) : callW Tryz.prog (.func (.func 53) #[] #[]) #[b_1, off_2, s_3] k w :=
  callW_calls ok53 (by simpa using S53_calls b_1 off_2 s_3 k w h)

-- NOT PRINTED 54 newswire/journal.open: an operation that is not taken in: Op.defer
/-! newswire/newswireref01.PutInt -/
def ann56 : Ann := [(62, Note.keep [4, 5]), (124, Note.loop [4, 5] []), (497, Note.keep [4, 5])]
def S56 (n_1 : Value) (k : Value → World → Prop) (w : World) : Prop :=
   opW Tryz.prog (binS BinOp.lss 3 (Operand.tmp 6) (Operand.const (Value.int IntKind.i64 (-4611686018427387903))) n_1 (Value.int IntKind.i64 (-4611686018427387903))) (fun t7_3 w =>
   guardW (some t7_3, false) (fun k w => k n_1 w) (fun t9_4 w =>
   guardW (some t7_3, false) (fun k w => opW Tryz.prog (binS BinOp.gtr 3 (Operand.tmp 9) (Operand.const (Value.int IntKind.i64 4611686018427387903)) t9_4 (Value.int IntKind.i64 4611686018427387903)) k w) (fun t10_5 w =>
   pickW t7_3 (Value.bool true) t10_5 (fun t11_6 w =>
   condW t11_6
   (k (Value.tuple #[(Value.string { data := #[] }), (Value.int IntKind.i64 10)]) w)
   (callW Tryz.prog (Value.func (Fn.func 86) #[] #[]) #[n_1] (fun t13_7 w =>
   Loop2 (fun z_9 out_10 w K_11 =>
   opW Tryz.prog (binS BinOp.geq 141 (Operand.tmp 14) (Operand.const (Value.int IntKind.u64 128)) z_9 (Value.int IntKind.u64 128)) (fun t15_13 w =>
   condW t15_13
   (opW Tryz.prog (binS BinOp.rem 141 (Operand.tmp 17) (Operand.const (Value.int IntKind.u64 128)) z_9 (Value.int IntKind.u64 128)) (fun t18_15 w =>
   opW Tryz.prog (binS BinOp.add 141 (Operand.tmp 18) (Operand.const (Value.int IntKind.u64 128)) t18_15 (Value.int IntKind.u64 128)) (fun t19_16 w =>
   opW Tryz.prog (convert 141 5 t19_16) (fun t20_17 w =>
   opW Tryz.prog (Instr.buildSlice 39 1 #[(0, t20_17)]) (fun t21_18 w =>
   opW Tryz.prog (Builtin.append_ #[39, 39] 39 #[out_10, t21_18]) (fun t22_19 w =>
   opW Tryz.prog (binS BinOp.quo 141 (Operand.tmp 23) (Operand.const (Value.int IntKind.u64 128)) z_9 (Value.int IntKind.u64 128)) (fun t24_20 w =>
   loopK [] [] [] [] (K_11 t24_20 t22_19 w)) w) w) w) w) w) w)
   (opW Tryz.prog (convert 141 5 z_9) (fun t27_21 w =>
   opW Tryz.prog (Instr.buildSlice 39 1 #[(0, t27_21)]) (fun t28_22 w =>
   opW Tryz.prog (Builtin.append_ #[39, 39] 39 #[out_10, t28_22]) (fun t29_23 w =>
   opW Tryz.prog (convert 39 9 t29_23) (fun t30_24 w =>
   k (Value.tuple #[t30_24, (Value.int IntKind.i64 0)]) w) w) w) w) w)) w) t13_7 (Value.slice none 0 0) w) w)) w) w) w) w
theorem S56_vc (n_1 : Value) (k : Value → World → Prop) (w : World) : vc Tryz.prog Tryz.f56.ntmps ann56 none ((Tryz.f56.body).getD Code.skip) 1 (params 0 [n_1]) [] (finQ Tryz.prog Tryz.f56.results.toList k) w = S56 n_1 k w := by kernel_rfl
theorem S56_calls (n_1 : Value) (k : Value → World → Prop) (w : World) (h : S56 n_1 k w) : Calls Tryz.prog 56 #[n_1] w (retP k) :=
  calls_of_vc (fn := Tryz.f56) (c := (Tryz.f56.body).getD Code.skip) ann56 Tryz.func56 (by kernel_rfl) [n_1] w k (by kernel_rfl) ((S56_vc n_1 k w).symm ▸ h)
theorem C56 (n_1 : Value) (k : Value → World → Prop) (w : World) (h : S56 n_1 k w) : callW Tryz.prog (.func (.func 56) #[] #[]) #[n_1] k w :=
  callW_calls ok56 (by simpa using S56_calls n_1 k w h)

/-! newswire/newswireref02.Chain -/
def ann57 : Ann := []
def S57 (head_1 record_2 : Value) (k : Value → World → Prop) (w : World) : Prop :=
   opW Tryz.prog (binS BinOp.add 9 (Operand.const (Value.string { data := #[2] })) (Operand.tmp 5) (Value.string { data := #[2] }) head_1) (fun t6_3 w =>
   opW Tryz.prog (binS BinOp.add 9 (Operand.tmp 6) (Operand.tmp 7) t6_3 record_2) (fun t8_4 w =>
   callW Tryz.prog (Value.func (Fn.func 28) #[] #[]) #[t8_4] (fun t9_5 w =>
   k t9_5 w) w) w) w
theorem S57_vc (head_1 record_2 : Value) (k : Value → World → Prop) (w : World) : vc Tryz.prog Tryz.f57.ntmps ann57 none ((Tryz.f57.body).getD Code.skip) 1 (params 0 [head_1, record_2]) [] (finQ Tryz.prog Tryz.f57.results.toList k) w = S57 head_1 record_2 k w := by kernel_rfl
theorem S57_calls (head_1 record_2 : Value) (k : Value → World → Prop) (w : World) (h : S57 head_1 record_2 k w) : Calls Tryz.prog 57 #[head_1, record_2] w (retP k) :=
  calls_of_vc (fn := Tryz.f57) (c := (Tryz.f57.body).getD Code.skip) ann57 Tryz.func57 (by kernel_rfl) [head_1, record_2] w k (by kernel_rfl) ((S57_vc head_1 record_2 k w).symm ▸ h)
theorem C57 (head_1 record_2 : Value) (k : Value → World → Prop) (w : World) (h : S57 head_1 record_2 k w) : callW Tryz.prog (.func (.func 57) #[] #[]) #[head_1, record_2] k w :=
  callW_calls ok57 (by simpa using S57_calls head_1 record_2 k w h)

/-! newswire/newswireref02.extended -/
def ann58 : Ann := [(29, Note.keep [0, 3]), (58, Note.loop [3, 4] [0]), (62, Note.keep [0, 3]), (124, Note.loop [3] [0]), (253, Note.keep [3]), (466, Note.keep [0, 3, 4]), (497, Note.keep [0, 3]), (506, Note.loop [3, 5] [0]), (4050, Note.keep [0, 3, 5])]
def S58 (s_1 : Value) (k : Value → World → Prop) (w : World) : Prop :=
   Loop2 (fun b_3 i_4 w K_5 =>
   opW Tryz.prog (Builtin.len_ #[9] 3 #[s_1]) (fun t8_7 w =>
   opW Tryz.prog (binS BinOp.lss 3 (Operand.tmp 6) (Operand.tmp 8) i_4 t8_7) (fun t9_8 w =>
   condW t9_8
   (opW Tryz.prog (Instr.index 9 s_1 i_4) (fun t15_10 w =>
   opW Tryz.prog (Instr.buildSlice 39 1 #[(0, t15_10)]) (fun t16_11 w =>
   opW Tryz.prog (Builtin.append_ #[39, 39] 39 #[b_3, t16_11]) (fun t17_12 w =>
   opW Tryz.prog (binS BinOp.add 3 (Operand.tmp 10) (Operand.const (Value.int IntKind.i64 1)) i_4 (Value.int IntKind.i64 1)) (fun t11_13 w =>
   loopK [] [] [s_1] [s_1] (K_5 t17_12 t11_13 w)) w) w) w) w)
   (opW Tryz.prog (Instr.buildSlice 39 1 #[(0, (Value.int IntKind.u8 128))]) (fun t19_14 w =>
   opW Tryz.prog (Builtin.append_ #[39, 39] 39 #[b_3, t19_14]) (fun t20_15 w =>
   Loop1 (fun b_17 w K_18 =>
   opW Tryz.prog (Builtin.len_ #[39] 3 #[b_17]) (fun t22_20 w =>
   opW Tryz.prog (binS BinOp.rem 3 (Operand.tmp 22) (Operand.const (Value.int IntKind.i64 64)) t22_20 (Value.int IntKind.i64 64)) (fun t23_21 w =>
   opW Tryz.prog (binS BinOp.neq 3 (Operand.tmp 23) (Operand.const (Value.int IntKind.i64 56)) t23_21 (Value.int IntKind.i64 56)) (fun t24_22 w =>
   condW t24_22
   (opW Tryz.prog (Instr.buildSlice 39 1 #[(0, (Value.int IntKind.u8 0))]) (fun t26_24 w =>
   opW Tryz.prog (Builtin.append_ #[39, 39] 39 #[b_17, t26_24]) (fun t27_25 w =>
   loopK [] [] [s_1] [s_1] (K_18 t27_25 w)) w) w)
   (Loop2 (fun b_27 i_28 w K_29 =>
   opW Tryz.prog (binS BinOp.geq 3 (Operand.tmp 28) (Operand.const (Value.int IntKind.i64 0)) i_28 (Value.int IntKind.i64 0)) (fun t29_31 w =>
   condW t29_31
   (opW Tryz.prog (Builtin.len_ #[9] 3 #[s_1]) (fun t34_33 w =>
   opW Tryz.prog (binS BinOp.mul 3 (Operand.const (Value.int IntKind.i64 8)) (Operand.tmp 34) (Value.int IntKind.i64 8) t34_33) (fun t35_34 w =>
   opW Tryz.prog (binS BinOp.mul 3 (Operand.const (Value.int IntKind.i64 8)) (Operand.tmp 36) (Value.int IntKind.i64 8) i_28) (fun t37_35 w =>
   opW Tryz.prog (binS BinOp.shr 3 (Operand.tmp 35) (Operand.tmp 37) t35_34 t37_35) (fun t38_36 w =>
   opW Tryz.prog (convert 3 5 t38_36) (fun t39_37 w =>
   opW Tryz.prog (Instr.buildSlice 39 1 #[(0, t39_37)]) (fun t40_38 w =>
   opW Tryz.prog (Builtin.append_ #[39, 39] 39 #[b_27, t40_38]) (fun t41_39 w =>
   opW Tryz.prog (binS BinOp.sub 3 (Operand.tmp 30) (Operand.const (Value.int IntKind.i64 1)) i_28 (Value.int IntKind.i64 1)) (fun t31_40 w =>
   loopK [] [] [s_1] [s_1] (K_29 t41_39 t31_40 w)) w) w) w) w) w) w) w) w)
   (k b_27 w)) w) b_17 (Value.int IntKind.i64 7) w)) w) w) w) t20_15 w) w) w)) w) w) (Value.slice none 0 0) (Value.int IntKind.i64 0) w
theorem S58_vc (s_1 : Value) (k : Value → World → Prop) (w : World) : vc Tryz.prog Tryz.f58.ntmps ann58 none ((Tryz.f58.body).getD Code.skip) 1 (params 0 [s_1]) [] (finQ Tryz.prog Tryz.f58.results.toList k) w = S58 s_1 k w := by kernel_rfl
theorem S58_calls (s_1 : Value) (k : Value → World → Prop) (w : World) (h : S58 s_1 k w) : Calls Tryz.prog 58 #[s_1] w (retP k) :=
  calls_of_vc (fn := Tryz.f58) (c := (Tryz.f58.body).getD Code.skip) ann58 Tryz.func58 (by kernel_rfl) [s_1] w k (by kernel_rfl) ((S58_vc s_1 k w).symm ▸ h)
theorem C58 (s_1 : Value) (k : Value → World → Prop) (w : World) (h : S58 s_1 k w) : callW Tryz.prog (.func (.func 58) #[] #[]) #[s_1] k w :=
  callW_calls ok58 (by simpa using S58_calls s_1 k w h)

end
end Go.Proofs.YtbojglaimdjagaaGreatDoor
