/- Contracts of package sched's functions, fourth part: Proper. -/
import Derived.Test.YtidnjppalebbfaaA3
import Derived.Test.YtidnjppalebbfaaVn
set_option linter.unusedSimpArgs false
set_option linter.unusedVariables false
namespace Go.Proofs.Ytidnjppalebbfaa
open Go Go.V Go.RowKit
def ltA (y x : Arr) : Prop := y.at_ < x.at_ ∨ y.at_ = x.at_ ∧ y.stream < x.stream
/-- an arrival is proper behind those that came before it -/
structure OkAt (l : List Stream) (a : List Arr) (i : Nat) (x : Arr) : Prop where
  s : 0 ≤ x.stream ∧ x.stream ≤ (l.length : Int) - 1
  t : 0 ≤ x.at_ ∧ x.at_ ≤ 2000
  ord : ∀ k y, k < i → a[k]? = some y → ltA y x
  gap : ∀ k y s, k < i → a[k]? = some y → y.stream = x.stream → l[x.stream.toNat]? = some s → s.period ≤ x.at_ - y.at_
structure ProperP (l : List Stream) (a : List Arr) : Prop where
  valid : validS l = true
  len : a.length ≤ 60
  all : ∀ i x, a[i]? = some x → OkAt l a i x
def lastI (s : Int) : List Arr → Int
  | [] => -1000
  | a => a.foldl (fun acc y => if y.stream = s then y.at_ else acc) (-1000)
theorem lastI_eq (s : Int) (a : List Arr) : lastI s a = a.foldl (fun acc y => if y.stream = s then y.at_ else acc) (-1000) := by cases a <;> rfl
theorem lastI_snoc (s : Int) (a : List Arr) (x : Arr) : lastI s (a ++ [x]) = if x.stream = s then x.at_ else lastI s a := by simp [lastI_eq]
theorem lastI_cases (s : Int) (a : List Arr) : ∀ i, i ≤ a.length → (lastI s (a.take i) = -1000 ∧ ∀ k y, k < i → a[k]? = some y → y.stream ≠ s) ∨ ∃ k y, k < i ∧ a[k]? = some y ∧ y.stream = s ∧ lastI s (a.take i) = y.at_ ∧ ∀ k' y', k < k' → k' < i → a[k']? = some y' → y'.stream ≠ s
  | 0, _ => .inl ⟨by simp [lastI], by omega⟩
  | i + 1, h => by
    have hlt : i < a.length := by omega
    rw [List.take_succ_eq_append_getElem hlt, lastI_snoc]
    by_cases hs : a[i].stream = s
    · exact .inr ⟨i, a[i], by omega, by simp [hlt], hs, by rw [if_pos hs], by omega⟩
    · rw [if_neg hs]
      rcases lastI_cases s a i (by omega) with ⟨h1, h2⟩ | ⟨k, y, h1, h2, h3, h4, h5⟩
      · refine .inl ⟨h1, fun k y hk hy => ?_⟩
        by_cases hki : k = i
        · subst hki; rw [List.getElem?_eq_getElem hlt] at hy; cases hy; exact hs
        · exact h2 k y (by omega) hy
      · refine .inr ⟨k, y, by omega, h2, h3, h4, fun k' y' hk hk' hy => ?_⟩
        by_cases hki : k' = i
        · subst hki; rw [List.getElem?_eq_getElem hlt] at hy; cases hy; exact hs
        · exact h5 k' y' hk (by omega) hy
theorem ltA_trans {x y z : Arr} (h : ltA x y) (h' : ltA y z) : ltA x z := by unfold ltA at *; omega
theorem gap_iff {l : List Stream} {a : List Arr} {i : Nat} {x : Arr} {s : Stream} (hi : i < a.length) (hx : 0 ≤ x.at_ ∧ x.at_ ≤ 2000) (hs : l[x.stream.toNat]? = some s) (hp : 1 ≤ s.period ∧ s.period ≤ 1000)
    (hall : ∀ j y, j < i → a[j]? = some y → OkAt l a j y) : s.period ≤ x.at_ - lastI x.stream (a.take i) ↔ ∀ k y s, k < i → a[k]? = some y → y.stream = x.stream → l[x.stream.toNat]? = some s → s.period ≤ x.at_ - y.at_ := by
  rcases lastI_cases x.stream a i (by omega) with ⟨h1, h2⟩ | ⟨k, y, h1, h2, h3, h4, h5⟩
  · rw [h1]
    exact ⟨fun _ k y _ hk hy he => absurd he (h2 k y hk hy), fun _ => by omega⟩
  · rw [h4]
    constructor
    · intro h k' y' s' hk' hy' he hs'
      rw [hs] at hs'; cases hs'
      by_cases hlt : k < k'
      · exact absurd he (h5 k' y' hlt hk' hy')
      · by_cases hkk : k' = k
        · subst hkk; rw [h2] at hy'; cases hy'; exact h
        · have := (hall k y h1 h2).ord k' y' (by omega) hy'
          unfold ltA at this; omega
    · exact fun h => h k y s h1 h2 h3 hs
theorem ord_iff {l : List Stream} {a : List Arr} {i : Nat} {x z : Arr} (hi : i + 1 < a.length) (hz : a[i]? = some z) (hall : ∀ j y, j < i + 1 → a[j]? = some y → OkAt l a j y) :
    ltA z x ↔ ∀ k y, k < i + 1 → a[k]? = some y → ltA y x := by
  constructor
  · intro h k y hk hy
    by_cases hki : k = i
    · subst hki; rw [hz] at hy; cases hy; exact h
    · exact ltA_trans ((hall i z (by omega) hz).ord k y (by omega) hy) h
  · exact fun h => h i z (by omega) hz
theorem valid_at {l : List Stream} (h : validS l = true) : (1 ≤ l.length ∧ l.length ≤ 8) ∧ ∀ (i : Nat) (s : Stream), l[i]? = some s → (1 ≤ s.cls ∧ s.cls ≤ 3) ∧ (1 ≤ s.size ∧ s.size ≤ 50) ∧ 1 ≤ s.period ∧ s.period ≤ 1000 := by
  unfold validS at h
  simp only [Bool.and_eq_true, decide_eq_true_eq, Bool.not_eq_true'] at h
  refine ⟨by omega, fun i s hs => ?_⟩
  have := List.any_eq_false.1 h.2 s (List.mem_of_getElem? hs)
  unfold wrongS at this
  simp only [Bool.not_eq_true, Bool.or_eq_false_iff, Bool.not_eq_false', decide_eq_true_eq] at this
  exact ⟨this.1.1, this.1.2, this.2⟩
section
variable {k : Value → World → Prop} {w : World}
theorem nv31 {a b : Int} {kk : Value → Value → World → Prop} (h : ∀ w', Below w.heap.size w w' → w'.heap.size = w.heap.size + 1 → RowAt w' w.heap.size 31 [I a, I b] → kk (.pointer (some ⟨w.heap.size, 0, none⟩)) undef w') :
    opW Try.prog (Instr.alloc 31 true (.tuple #[])) (fun x w => opU Try.prog (Instr.storeAt 31 x (.agg #[I a, I b])) (kk x) w) w :=
  w_var (vs := [I a, I b]) hz31 (by rw [zc31]; rfl) (by intro v hv; simp at hv; rcases hv with rfl | rfl <;> rfl) size31 known31 h
theorem nv34 {a b c : Int} {kk : Value → Value → World → Prop} (h : ∀ w', Below w.heap.size w w' → w'.heap.size = w.heap.size + 1 → RowAt w' w.heap.size 34 [I a, I b, I c] → kk (.pointer (some ⟨w.heap.size, 0, none⟩)) undef w') :
    opW Try.prog (Instr.alloc 34 true (.tuple #[])) (fun x w => opU Try.prog (Instr.storeAt 34 x (.agg #[I a, I b, I c])) (kk x) w) w :=
  w_var (vs := [I a, I b, I c]) hz34 (by rw [zc34]; rfl) (by intro v hv; simp at hv; rcases hv with rfl | rfl | rfl <;> rfl) size34 known34 h
theorem fill_set (n i : Nat) (h : i < n) (c x : Int) : (List.replicate i c ++ List.replicate (n - i) x).set i c = List.replicate (i + 1) c ++ List.replicate (n - (i + 1)) x := by
  rw [List.set_append_right _ _ (by simp), List.length_replicate, Nat.sub_self, show n - i = (n - (i + 1)) + 1 by omega, List.replicate_succ]
  simp [List.replicate_succ']
theorem fill_get (n i : Nat) (h : i < n) (c x : Int) : (List.replicate i c ++ List.replicate (n - i) x)[i]? = some x := by
  rw [List.getElem?_append_right (by simp), List.length_replicate, Nat.sub_self, List.getElem?_replicate, if_pos (by omega)]
def lastsI (l : List Stream) (a : List Arr) : List Int := (List.range l.length).map fun (s : Nat) => lastI (s : Int) a
theorem lastsI_nil (l : List Stream) : lastsI l [] = List.replicate l.length (-1000) := by
  unfold lastsI
  refine List.ext_getElem (by simp) fun i h1 h2 => by simp [lastI]
theorem lastsI_get (l : List Stream) (a : List Arr) {x : Int} (h : 0 ≤ x) (hx : x ≤ (l.length : Int) - 1) : (lastsI l a)[x.toNat]? = some (lastI x a) := by
  unfold lastsI
  rw [List.getElem?_map, List.getElem?_range (by omega)]
  simp only [Option.map_some]
  rw [show ((x.toNat : Nat) : Int) = x by omega]
theorem lastsI_set (l : List Stream) (a : List Arr) (x : Arr) (h : 0 ≤ x.stream) (hx : x.stream ≤ (l.length : Int) - 1) : (lastsI l a).set x.stream.toNat x.at_ = lastsI l (a ++ [x]) := by
  unfold lastsI
  refine List.ext_getElem (by simp) fun i h1 h2 => ?_
  simp only [List.getElem_set, List.getElem_map, List.getElem_range, lastI_snoc]
  by_cases he : x.stream.toNat = i
  · rw [if_pos he, if_pos (by omega)]
  · rw [if_neg he, if_neg (by omega)]
theorem lastsI_length (l : List Stream) (a : List Arr) : (lastsI l a).length = l.length := by simp [lastsI]
theorem s22 {lv av : Value} {l : List Stream} {a : List Arr} (hs : IsSl fS w lv l) (ha : IsSl fA w av a) (hl : l.length ≤ maxLen)
    (hyes : ∀ w', Below w.heap.size w w' → ProperP l a → k (.bool true) w') (hno : ∀ w', Below w.heap.size w w' → ¬ ProperP l a → k (.bool false) w') : S22 lv av k w := by
  unfold S22
  refine (len23 ha).mpr ?_
  rw [w_gtr]
  rcases Nat.lt_or_ge 60 a.length with hlen | hlen
  · rw [decide_eq_true (by omega)]
    simp only [guardW_tf, pickW_true, condW_true]
    exact hno _ (Below.refl _ _) fun h => by have := h.len; omega
  rw [decide_eq_false (by omega)]
  simp only [guardW_ff, pickW_false]
  refine c15 hs hl fun w1 hb1 => ?_
  rw [w_not]
  cases hv : validS l with
  | false =>
    simp only [Bool.not_false, condW_true]
    exact hno _ hb1 fun h => by have := h.valid; rw [hv] at this; cases this
  | true =>
    simp only [Bool.not_true, condW_false]
    obtain ⟨hln, hstr⟩ := valid_at hv
    have hs1 := hs.below hb1
    have ha1 := ha.below hb1
    refine (len22 hs1).mpr ?_
    refine w_make (base := w1.heap.size) sty26 (by omega) (by unfold maxLen; omega) (Nat.le_refl _) fun w2 ho2 hg2 => ?_
    have ho2 := OwnS.zeros ho2
    have hb2 : Below w1.heap.size w1 w2 := below_grown (B := w1.heap.size) (Below.refl _ _) (Nat.le_refl _) hg2 (by simp)
    generalize hg : w1.heap.size = g at *
    rw [leno26]
    refine Loop1.intro (fun n x w' => ∃ i : Nat, x = I i ∧ i ≤ l.length ∧ n = l.length - i ∧ Below g w1 w' ∧ OwnS fI w' g 3 g l.length (List.replicate i (-1000) ++ List.replicate (l.length - i) 0)) l.length ⟨0, rfl, by omega, by omega, hb2, by simpa using ho2⟩ ?_
    rintro n _ w' ⟨i, rfl, hi, rfl, hb', ho⟩
    rw [w_lss]
    by_cases hlt : i < l.length
    · rw [decide_eq_true (show (i : Int) < l.length by omega), condW_true, ixz26 hlt]
      obtain ⟨ho3, hg3, old, hold⟩ := ho.store rfl (fill_get _ _ hlt _ _) (y := -1000) (u := I (-1000)) rfl
      refine (st3 (by rfl) hold (ho.free i)).mpr ?_
      rw [fill_set _ _ hlt] at ho3
      rw [w_add, wrap_id (by omega), loopK_self]
      exact ⟨l.length - (i + 1), by omega, i + 1, by simp [I], by omega, rfl, hb'.setCell (Nat.le_refl _) _, ho3⟩
    · rw [decide_eq_false (show ¬ (i : Int) < l.length by omega), condW_false]
      rw [show i = l.length by omega, Nat.sub_self, List.replicate_zero, List.append_nil, ← lastsI_nil] at ho
      have ha' := ha1.below (hg ▸ hb')
      refine (len23 ha').mpr ?_
      refine Loop1.intro (fun n x w' => ∃ i : Nat, x = I i ∧ i ≤ a.length ∧ n = a.length - i ∧ Below g w1 w' ∧ OwnS fI w' g 3 g l.length (lastsI l (a.take i)) ∧ ∀ j y, j < i → a[j]? = some y → OkAt l a j y) a.length ⟨0, rfl, by omega, by omega, hb', by simpa using ho, by omega⟩ ?_
      clear ho hb' ha'
      rintro n _ w' ⟨i, rfl, hi, rfl, hb', ho, hall⟩
      rw [w_lss]
      by_cases hlt : i < a.length
      · rw [decide_eq_true (show (i : Int) < a.length by omega), condW_true]
        have ha' := ha1.below (hg ▸ hb')
        have hs' := hs1.below (hg ▸ hb')
        obtain ⟨x, hx⟩ : ∃ x, a[i]? = some x := ⟨a[i], by simp [hlt]⟩
        refine ix23 (x := x) ha' rfl (by omega) hx fun b o hc => ?_
        rw [ld31 (by rfl) hc]
        refine nv31 fun w3 hb3 hsz3 hr3 => ?_
        have hs3 := hs'.below hb3
        have ha3 := ha'.below hb3
        have ho3 := ho.below hb3
        have hb13 := hb'.trans (hb3.mono (by have := hb'.size; omega))
        generalize w'.heap.size = bx at *
        rw [drewW_eq]
        refine ⟨fun w' => w' = w3.drew, rfl, ?_⟩
        rw [tfl31_0, tld3 (w := w3.drew) (v := I x.stream) (hr3.cell (i := 0) rfl) (fun w' h => by rw [h])]
        rw [tlen22 (w := w3.drew) hs3.drew, t_sub, wrap_id (by omega)]
        refine c34 ?_
        rw [keepS_eq]
        refine ⟨rfl, ?_⟩
        rw [t_not]
        have hbw : Below w.heap.size w w3.drew := hb1.trans ((hb13.mono (by have := hb1.size; omega)).trans (Below.refl _ _).drew)
        by_cases hst : 0 ≤ x.stream ∧ x.stream ≤ (l.length : Int) - 1
        · rw [decide_eq_true hst]
          simp only [Bool.not_true, guardT_ff, guardW_ff, tfl31_1]
          rw [xld3 (w := w3.drew) (v := I x.at_) (hr3.cell (i := 1) rfl)]
          refine c34 ?_
          rw [keepS_eq]
          refine ⟨rfl, ?_⟩
          simp only [t_not]
          by_cases hat : 0 ≤ x.at_ ∧ x.at_ ≤ 2000
          · rw [decide_eq_true hat]
            obtain ⟨sn, hsn⟩ : ∃ sn : Nat, x.stream = sn := ⟨x.stream.toNat, by omega⟩
            obtain ⟨s, hsl⟩ : ∃ s, l[x.stream.toNat]? = some s := ⟨l[x.stream.toNat]'(by omega), by simp⟩
            obtain ⟨hc1, hc2, hc3⟩ := hstr _ _ hsl
            have hla := lastsI_get l (a.take i) hst.1 hst.2
            have hlr : -1000 ≤ lastI x.stream (a.take i) ∧ lastI x.stream (a.take i) ≤ 2000 := by
              rcases lastI_cases x.stream a i hi with ⟨h1, _⟩ | ⟨k, y, h1, h2, _, h4, _⟩
              · omega
              · have := (hall k y h1 h2).t; omega
            have hoL := ho3.cell hla 0 _ rfl
            rw [show x.stream.toNat * fI.sz + 0 = sn by simp [fI]; omega] at hoL
            simp only [Bool.not_true, guardT_ff, pickT_false, tfl31_0]
            rw [xld3 (w := w3.drew) (v := I x.at_) (hr3.cell (i := 1) rfl), xld3 (w := w3.drew) (v := I x.stream) (hr3.cell (i := 0) rfl), hsn, tixz26 (by omega), xld3 (w := w3.drew) (v := I (lastI x.stream (a.take i))) (by rw [hsn] at hoL ⊢; exact hoL), t_sub, wrap_id (by omega), xld3 (w := w3.drew) (v := I x.stream) (hr3.cell (i := 0) rfl)]
            refine tix22 (x := s) (F := fS) hs3.drew rfl hst.1 hsl fun b2 o2 hc2 => ?_
            rw [tfl34_2, xld3 (w := w3.drew) (hc2 2 _ rfl), t_lss]
            by_cases hgap : s.period ≤ x.at_ - lastI x.stream (a.take i)
            · rw [decide_eq_false (by omega), condW_false, drewW_eq, t_gtr]
              have hod : OwnS fI w3.drew.drew g 3 g l.length (lastsI l (a.take i)) := ho3.same rfl
              obtain ⟨ho4, hg4, old, hold⟩ := hod.store rfl hla (y := x.at_) (u := I x.at_) rfl
              rw [lastsI_set _ _ _ hst.1 hst.2, show a.take i ++ [x] = a.take (i + 1) by rw [List.take_add_one, hx]; rfl, show x.stream.toNat = sn by omega] at ho4
              rw [show x.stream.toNat = sn by omega] at hold
              have hb4 : Below g w1 (w3.drew.drew.setCell ⟨g, sn, none⟩ (I x.at_)) := (hb13.trans ((Below.refl _ _).drew.drew)).setCell (Nat.le_refl _) _
              have hfr := hod.free sn
              have fin : (∀ k y, k < i → a[k]? = some y → ltA y x) → ∃ m, m < a.length - i ∧ ∃ i' : Nat, I ((i : Int) + 1) = I i' ∧ i' ≤ a.length ∧ m = a.length - i' ∧ Below g w1 (w3.drew.drew.setCell ⟨g, sn, none⟩ (I x.at_)) ∧
                  OwnS fI (w3.drew.drew.setCell ⟨g, sn, none⟩ (I x.at_)) g 3 g l.length (lastsI l (a.take i')) ∧ ∀ j y, j < i' → a[j]? = some y → OkAt l a j y := fun ho =>
                ⟨a.length - (i + 1), by omega, i + 1, by simp [I], by omega, rfl, hb4, ho4, fun j y hj hy => by
                  by_cases hji : j = i
                  · subst hji; rw [hx] at hy; cases hy; exact ⟨hst, hat, ho, (gap_iff hlt hat hsl hc3 hall).1 hgap⟩
                  · exact hall j y (by omega) hy⟩
              rcases Nat.eq_zero_or_pos i with hi0 | hi0
              · rw [decide_eq_false (by omega)]
                simp only [guardT_ft, guardT_u, pickT_false]
                rw [condW_false, fl31_0]
                refine (ld3 (w := w3.drew.drew) (v := I x.stream) (hr3.cell (i := 0) rfl)).mpr ?_
                rw [fl31_1]
                refine (ld3 (w := w3.drew.drew) (v := I x.at_) (hr3.cell (i := 1) rfl)).mpr ?_
                rw [hsn, ixz26 (by omega)]
                refine (st3 (by rfl) hold hfr).mpr ?_
                rw [w_add, wrap_id (by omega), loopK_self]
                exact fin (fun k y hk => by omega)
              · rw [decide_eq_true (by omega)]
                obtain ⟨z, hz⟩ : ∃ z, a[i - 1]? = some z := ⟨a[i - 1]'(by omega), by simp⟩
                have hoi := ord_iff (x := x) (i := i - 1) (by omega) hz (fun j y hj => hall j y (by omega))
                rw [show i - 1 + 1 = i by omega] at hoi
                simp only [guardT_tt]
                rw [t_sub, wrap_id (by omega)]
                refine tix23 (x := z) (F := fA) ha3.drew.drew rfl (by omega) (by rw [show ((i : Int) - 1).toNat = i - 1 by omega]; exact hz) fun b3 o3 hc3' => ?_
                rw [tfl31_1, xld3 (w := w3.drew.drew) (hc3' 1 _ rfl), xld3 (w := w3.drew.drew) (v := I x.at_) (hr3.cell (i := 1) rfl), t_gtr]
                by_cases hgt : x.at_ < z.at_
                · rw [decide_eq_true hgt]
                  simp only [guardT_tf, guardT_u, pickT_true, condW_true]
                  exact hno _ (hbw.trans (Below.refl _ _).drew) fun h => by
                    have := hoi.2 (h.all i x hx).ord
                    unfold ltA at this; omega
                · rw [decide_eq_false hgt]
                  simp only [guardT_ff]
                  rw [t_sub, wrap_id (by omega)]
                  refine tix23 (x := z) (F := fA) ha3.drew.drew rfl (by omega) (by rw [show ((i : Int) - 1).toNat = i - 1 by omega]; exact hz) fun b4 o4 hc4 => ?_
                  rw [tfl31_1, xld3 (w := w3.drew.drew) (hc4 1 _ rfl), xld3 (w := w3.drew.drew) (v := I x.at_) (hr3.cell (i := 1) rfl), t_eql]
                  by_cases heq : z.at_ = x.at_
                  · rw [decide_eq_true heq]
                    simp only [guardT_tt]
                    rw [t_sub, wrap_id (by omega)]
                    refine tix23 (x := z) (F := fA) ha3.drew.drew rfl (by omega) (by rw [show ((i : Int) - 1).toNat = i - 1 by omega]; exact hz) fun b5 o5 hc5 => ?_
                    rw [tfl31_0, xld3 (w := w3.drew.drew) (show w3.drew.drew.cell? ⟨b5, o5, none⟩ = some (I z.stream) from hc5 0 _ rfl), xld3 (w := w3.drew.drew) (v := I x.stream) (hr3.cell (i := 0) rfl), t_geq]
                    simp only [pickT_true, pickT_false]
                    by_cases hge : x.stream ≤ z.stream
                    · rw [decide_eq_true hge, condW_true]
                      exact hno _ (hbw.trans (Below.refl _ _).drew) fun h => by
                        have := hoi.2 (h.all i x hx).ord
                        unfold ltA at this; omega
                    · rw [decide_eq_false hge]
                      rw [condW_false, fl31_0]
                      refine (ld3 (w := w3.drew.drew) (v := I x.stream) (hr3.cell (i := 0) rfl)).mpr ?_
                      rw [fl31_1]
                      refine (ld3 (w := w3.drew.drew) (v := I x.at_) (hr3.cell (i := 1) rfl)).mpr ?_
                      rw [hsn, ixz26 (by omega)]
                      refine (st3 (by rfl) hold hfr).mpr ?_
                      rw [w_add, wrap_id (by omega), loopK_self]
                      exact fin (hoi.1 (by unfold ltA; omega))
                  · rw [decide_eq_false heq]
                    simp only [guardT_ft, guardT_u, pickT_false, pickT_true]
                    rw [condW_false, fl31_0]
                    refine (ld3 (w := w3.drew.drew) (v := I x.stream) (hr3.cell (i := 0) rfl)).mpr ?_
                    rw [fl31_1]
                    refine (ld3 (w := w3.drew.drew) (v := I x.at_) (hr3.cell (i := 1) rfl)).mpr ?_
                    rw [hsn, ixz26 (by omega)]
                    refine (st3 (by rfl) hold hfr).mpr ?_
                    rw [w_add, wrap_id (by omega), loopK_self]
                    exact fin (hoi.1 (by unfold ltA; omega))
            · rw [decide_eq_true (by omega), condW_true]
              exact hno _ hbw fun h => hgap ((gap_iff hlt hat hsl hc3 hall).2 (h.all i x hx).gap)
          · rw [decide_eq_false hat]
            simp only [Bool.not_false, guardT_tf, pickT_false, guardT_tf, pickT_true, condW_true]
            exact hno _ hbw fun h => hat (h.all i x hx).t
        · rw [decide_eq_false hst]
          simp only [Bool.not_false, guardT_tf, guardW_tf, keepS_eq, pickT_true, condW_true]
          exact ⟨trivial, hno _ hbw fun h => hst (h.all i x hx).s⟩
      · rw [decide_eq_false (show ¬ (i : Int) < a.length by omega), condW_false]
        exact hyes _ (hb1.trans (hb'.mono (by have := hb1.size; omega))) ⟨hv, hlen, fun j y hy => hall j y (by have := (List.getElem?_eq_some_iff.1 hy).1; omega) hy⟩
theorem c22 {lv av : Value} {l : List Stream} {a : List Arr} (hs : IsSl fS w lv l) (ha : IsSl fA w av a) (hl : l.length ≤ maxLen)
    (hyes : ∀ w', Below w.heap.size w w' → ProperP l a → k (.bool true) w') (hno : ∀ w', Below w.heap.size w w' → ¬ ProperP l a → k (.bool false) w') : callW Try.prog (.func (.func 22) #[] #[]) #[lv, av] k w := C22 _ _ _ _ (s22 hs ha hl hyes hno)
end
end Go.Proofs.Ytidnjppalebbfaa
