/- More of slices: a head of one, appending nothing, an element of several cells stored; bools compared. -/
import Derived.Test.YtidnjppalebbfaaVr
set_option linter.unusedSimpArgs false
set_option linter.unusedVariables false
namespace Go.V
open Go Go.RowKit
theorem IsSl.rowV {α : Type} {F : Fl α} (w : World) (e c : Nat) (l : List α) (hc : l.length ≤ c) : IsSl F (w.alloc (.cells (flat F l).toArray e (0, 0))) (.slice (some ⟨w.heap.size, 0, none⟩) l.length c) l := by
  refine ⟨_, c, rfl, hc, fun i x hx => ⟨w.heap.size, 0, rfl, fun j u hu => ?_⟩⟩
  rw [World.cell?_alloc_new, Nat.zero_add]
  simpa using flat_get l i j x u hx hu
section
variable {P : Program} {k : Value → World → Prop} {K : Value → Prop} {w w' : World} {α : Type} {F : Fl α} {v : Value} {l : List α} {t e : TypeId} {B : Nat}
theorem run_append_zero {ty : TypeId} {size bytes : Nat} {z : Value} (h : STy P t e size bytes z) {g o n cap c : Nat} {b : Option Addr} (hn : n ≤ cap) :
    (Builtin.append_ #[t, t] ty #[.slice (some ⟨g, o, none⟩) n cap, .slice b 0 c]).run P w = .ok (.slice (some ⟨g, o, none⟩) n cap) w := by
  obtain ⟨i, hi, hz, hs, hby⟩ := h.info
  have hf : (Builtin.firstCells i.size 0 (.slice b 0 c)).run P w = .ok #[] w := by
    cases b with
    | none => simp [Builtin.firstCells]
    | some a => simpa using run_firstCells_some (P := P) w i.size 0 a 0 c [] (by simp) (by simp)
  simp [Builtin.append_, run_underlying h.u, sizeOf, run_typeInfo hi, Builtin.lenOf, hn, hf, Sem.run_bind, Result.andThen, storeCells]
/-- the first m elements of a slice -/
theorem w_head {q : IntKind} {m : Nat} (ht : P.underlying t = some (.slice (P.elem t))) (hkn : known P (P.elem t) = true) (hs : IsSl F w v l) (hm : m ≤ l.length)
    (hk : ∀ v', IsSl F w v' (l.take m) → k v' w) : opW P (Instr.sliceAt t v none (some (.int q m)) none) k w := by
  obtain ⟨a, c, rfl, hc, hx⟩ := hs
  rw [opW_ok (show (Instr.sliceAt t (.slice a l.length c) none (some (.int q m)) none).run P w = .ok (sliced a 0 m c (sizeT P (P.elem t))) w by
    rw [run_sliceAt_slice _ _ _ _ _ _ ht, run_slice_h w t _ _ c ht q m (by omega) (by omega), run_sizeOf hkn]
    simp [Result.andThen])]
  refine hk _ ⟨if c = 0 then a else a.map (·.add 0), c, by simp [sliced, List.length_take, Nat.min_eq_left hm], by rw [List.length_take]; omega, fun i x hi => ?_⟩
  have hi' : l[i]? = some x := by
    rw [List.getElem?_take] at hi
    split at hi
    · exact hi
    · cases hi
  obtain ⟨b, o, rfl, hcl⟩ := hx i x hi'
  exact ⟨b, o, by split <;> simp [add_none], hcl⟩
theorem w_neqB {ox oy : Operand} {x y : Bool} (h : P.underlying t = some .bool) : opW P (binS .neq t ox oy (.bool x) (.bool y)) k w = k (.bool (!decide (x = y))) w :=
  opW_ok (by
    have hd : Op.maxDepth = 9999 + 1 := rfl
    have h1 : (Op.equal t (.bool x) (.bool y)).run P w = .ok (decide (x = y)) w := by
      unfold Op.equal
      rw [hd]
      unfold Op.equalIn
      rw [Sem.run_bind, run_underlying h]
      cases x <;> cases y <;> rfl
    simp [binS, eqGuard, binOp, h1, Sem.run_bind, Result.andThen])
theorem t_loadAgg {S : World → Prop} {ft : TypeId} {b o : Nat} {vs : List Value} (h : isAggT P ft = true) (hk : known P ft = true) (hs : sizeT P ft = vs.length) (hw : Cells w b o vs) (hS : ∀ w', S w' → Cells w' b o vs) :
    takeW P S (Instr.loadAt ft (.pointer (some ⟨b, o, none⟩))) K w = K (.agg vs.toArray) :=
  takeW_eq (run_of_eq fun k => w_loadAgg h hk hs hw) fun w' hw' => run_of_eq fun k => w_loadAgg h hk hs (hS w' hw')
theorem rowAt_setMid {b : Nat} {e : TypeId} : ∀ (vs pre old post : List Value) (w : World), RowAt w b e (pre ++ old ++ post) → vs.length = old.length → RowAt (setCells w b pre.length vs) b e (pre ++ vs ++ post)
  | [], pre, old, post, w, h, hl => by
    have : old = [] := List.eq_nil_of_length_eq_zero hl.symm
    subst this; exact h
  | v :: r, pre, [], post, w, h, hl => by simp at hl
  | v :: r, pre, u :: old, post, w, h, hl => by
    have h1 := h.set pre.length v
    rw [List.append_assoc, List.set_append_right _ _ (Nat.le_refl _), Nat.sub_self, List.cons_append, List.set_cons_zero] at h1
    have h2 := rowAt_setMid r (pre ++ [v]) old post _ (by simpa using h1) (by simpa using hl)
    simpa [setCells] using h2
theorem flat_split {l : List α} {i : Nat} {x : α} (hx : l[i]? = some x) : flat F l = flat F (l.take i) ++ F.e x ++ flat F (l.drop (i + 1)) := by
  have hlt : i < l.length := (List.getElem?_eq_some_iff.1 hx).1
  have : l = l.take i ++ [x] ++ l.drop (i + 1) := by
    rw [List.getElem?_eq_getElem hlt] at hx
    rw [← Option.some.inj hx, ← List.take_succ_eq_append_getElem hlt, List.take_append_drop]
  conv => lhs; rw [this]
  rw [flat_append, flat_append, flat_one]
/-- an element of several cells stored into one's own -/
theorem Mine.setA {ft : TypeId} {q : IntKind} {i : Int} {x y : α} {K : Value → World → Prop} (h : isSliceT P t = true) (he : known P (elemT P t) = true) (hz : sizeT P (elemT P t) = F.sz) (hs : sizeT P ft = F.sz) (hkn : known P ft = true)
    (hown : Mine F e w B v l) (h0 : 0 ≤ i) (hx : l[i.toNat]? = some x) (hu1 : ∀ u ∈ F.e y, u.oneCell' = true)
    (hk : ∀ w', Mine F e w' B v (l.set i.toNat y) → Below B w w' → Off (isOf v) w w' → K undef w') :
    opW P (Instr.indexAt t v (.int q i)) (fun p w => opU P (Instr.storeAt ft p (.agg (F.e y).toArray)) K w) w := by
  have hne : l ≠ [] := fun hh => by rw [hh] at hx; simp at hx
  have hlt : i < l.length := by have := (List.getElem?_eq_some_iff.1 hx).1; omega
  have hlen := hown.1
  rcases hown.2 with ⟨_, hn⟩ | ⟨g, cap, cur, rfl, hb, hgg, hnc, hcm, hcs, htk⟩
  · exact absurd (List.eq_nil_of_length_eq_zero hn) hne
  rw [opW_ok (run_index h he h0 hlt w), hz, Nat.zero_add]
  have hrow : RowAt w g e (flat F (l.take i.toNat) ++ F.e x ++ (flat F (l.drop (i.toNat + 1)) ++ cur.toList.drop (l.length * F.sz))) := by
    unfold RowAt
    rw [← List.append_assoc, ← flat_split hx, ← htk, List.take_append_drop]; exact hgg
  have hpl : (flat F (l.take i.toNat)).length = i.toNat * F.sz := by rw [flat_length, List.length_take, Nat.min_eq_left (by omega)]
  rw [w_storeAgg hu1 (by rw [hs, F.len]) hkn (fun j hj => by
    have hin : i.toNat * F.sz + j < (flat F (l.take i.toNat) ++ F.e x ++ (flat F (l.drop (i.toNat + 1)) ++ cur.toList.drop (l.length * F.sz))).length := by
      rw [F.len] at hj
      simp only [List.length_append, hpl, F.len]; omega
    exact ⟨_, hrow.cell (List.getElem?_eq_getElem hin)⟩) (fun j hj => hrow.free _)]
  have hrow' := rowAt_setMid (F.e y) _ (F.e x) _ w hrow (by rw [F.len, F.len])
  rw [hpl] at hrow'
  have honly := only_setCells (b := g) (F.e y) (i.toNat * F.sz) w
  refine hk _ ?_ (honly.rest _ hb) (Off.only honly rfl)
  have hset : flat F (l.set i.toNat y) = flat F (l.take i.toNat) ++ F.e y ++ flat F (l.drop (i.toNat + 1)) := by
    have hy : (l.set i.toNat y)[i.toNat]? = some y := by rw [List.getElem?_set_self (by omega)]
    rw [flat_split hy, List.take_set, List.drop_set, if_pos (by omega), List.set_eq_of_length_le (by rw [List.length_take]; omega)]
  unfold Mine
  refine ⟨by rw [flat_length], .inr ⟨g, cap, (flat F (l.take i.toNat) ++ F.e y ++ (flat F (l.drop (i.toNat + 1)) ++ cur.toList.drop (l.length * F.sz))).toArray, by rw [List.length_set], hb, hrow', by rw [List.length_set]; exact hnc, hcm, ?_, ?_⟩⟩
  · have e1 : (flat F (l.take i.toNat) ++ F.e x ++ (flat F (l.drop (i.toNat + 1)) ++ cur.toList.drop (l.length * F.sz))).length = cur.size := by
      rw [← List.append_assoc, ← flat_split hx, ← htk, List.take_append_drop]; simp
    rw [← hcs, ← e1]
    simp [F.len]
  · rw [hset, List.length_set, ← List.append_assoc, ← hset]
    refine List.take_left' ?_
    rw [flat_length, List.length_set]
theorem Mine.setAT {ft : TypeId} {q : IntKind} {i : Int} {x y : α} {K : Value → World → Prop} (h : isSliceT P t = true) (he : known P (elemT P t) = true) (hz : sizeT P (elemT P t) = F.sz) (hs : sizeT P ft = F.sz) (hkn : known P ft = true)
    (hown : Mine F e w B v l) (h0 : 0 ≤ i) (hx : l[i.toNat]? = some x) (hu1 : ∀ u ∈ F.e y, u.oneCell' = true)
    (hk : ∀ w', Mine F e w' B v (l.set i.toNat y) → Below B w w' → Off (isOf v) w w' → K undef w') :
    takeW P anyW (Instr.indexAt t v (.int q i)) (fun p => opU P (Instr.storeAt ft p (.agg (F.e y).toArray)) K w) w := by
  have hne : l ≠ [] := fun hh => by rw [hh] at hx; simp at hx
  have hlt : i < l.length := by have := (List.getElem?_eq_some_iff.1 hx).1; omega
  have := hown.setA (K := K) (q := q) h he hz hs hkn h0 hx hu1 hk
  obtain ⟨g, c, rfl, hof, ho⟩ := hown.at hne
  rw [opW_ok (run_index h he h0 hlt w)] at this
  rw [takeW_pure fun w => run_index h he h0 hlt w]
  exact this
end
end Go.V
