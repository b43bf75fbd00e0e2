/- Contracts of package sched's functions, fifth part: the ranks of streams. -/
import Derived.Test.YtidnjppalebbfaaA4
set_option linter.unusedSimpArgs false
set_option linter.unusedVariables false
namespace Go.V
open Go Go.RowKit
variable {P : Program} {k : Value → World → Prop} {w : World}
theorem w_indexStr {t : TypeId} {s : ByteArray} {q : IntKind} {i : Int} {b : UInt8} (h : P.underlying t = some .string) (h0 : 0 ≤ i) (hb : s[i.toNat]? = some b) : opW P (Instr.index t (.string s) (.int q i)) k w = k (.int .u8 b.toNat) w :=
  opW_ok (by simp [Instr.index, Sem.run_bind, Result.andThen, run_underlying h, asIntOf, h0, hb])
theorem w_indexStr' {t : TypeId} {s : ByteArray} {q : IntKind} {i : Int} (h : P.underlying t = some .string) (h0 : 0 ≤ i) (hs : i.toNat < s.size) (hk : ∀ n : Int, k (.int .u8 n) w) : opW P (Instr.index t (.string s) (.int q i)) k w := by
  rw [w_indexStr h h0 (getElem?_pos s i.toNat hs)]; exact hk _
def fN : Fl Nat := ⟨1, fun n => [.int .i64 (n : Int)], fun _ => rfl⟩
theorem flat_map {α β : Type} {F : Fl α} {G : Fl β} {f : α → β} (h : ∀ x, G.e (f x) = F.e x) : ∀ l : List α, flat G (l.map f) = flat F l
  | [] => rfl
  | x :: r => by simp [flat, h, flat_map h r]
theorem OwnS.map {α β : Type} {F : Fl α} {G : Fl β} {f : α → β} (h : ∀ x, G.e (f x) = F.e x) (hs : G.sz = F.sz) {w : World} {base e g c : Nat} {l : List α} (ho : OwnS F w base e g c l) : OwnS G w base e g c (l.map f) := by
  unfold OwnS at *
  rw [flat_map h, List.length_map, hs]; exact ho
theorem OwnS.unmap {α β : Type} {F : Fl α} {G : Fl β} {f : α → β} (h : ∀ x, G.e (f x) = F.e x) (hs : G.sz = F.sz) {w : World} {base e g c : Nat} {l : List α} (ho : OwnS G w base e g c (l.map f)) : OwnS F w base e g c l := by
  unfold OwnS at *
  rw [flat_map h, List.length_map, hs] at ho; exact ho
theorem OwnS.base {α : Type} {F : Fl α} {w : World} {base b' e g c : Nat} {l : List α} (h : OwnS F w base e g c l) (hb : b' ≤ base) : OwnS F w b' e g c l := by
  refine ⟨h.1, ?_⟩
  rcases h.2 with h' | ⟨g', cap, cur, h1, h2, h3⟩
  · exact .inl h'
  · exact .inr ⟨g', cap, cur, h1, Nat.le_trans hb h2, h3⟩
end Go.V
namespace Go.Proofs.Ytidnjppalebbfaa
open Go Go.V Go.RowKit
section
variable {k : Value → World → Prop} {w : World}
theorem str9 : Try.prog.underlying 9 = some .string := by kernel_rfl
theorem c62 {x : Int} (h0 : 0 ≤ x) (h1 : x ≤ 8) (h : ∀ n : Int, k (I n) w) : callW Try.prog (.func (.func 62) #[] #[]) #[.int .u64 x] k w := C62 _ _ _ (by
  unfold S62
  rw [w_geq, decide_eq_false (by omega), condW_false, w_geq, decide_eq_false (by omega), condW_false, w_geq, decide_eq_false (by omega), condW_false]
  rw [w_conv (q := .u8) (by kernel_rfl) (by kernel_rfl)]
  have hw : IntKind.u8.wrap x = x := IntWalk.u8_in _ (by omega)
  rw [hw]
  refine w_indexStr' str9 h0 (Nat.lt_of_lt_of_eq (m := 256) (by omega) (by kernel_rfl)) fun n => ?_
  rw [w_conv (q := .i64) (by kernel_rfl) (by kernel_rfl), w_add]; exact h _)
theorem c52 {x : Int} (h0 : 0 ≤ x) (h1 : x ≤ 8) (h : ∀ n : Int, k (I n) w) : callW Try.prog (.func (.func 52) #[] #[]) #[.int .u64 x] k w := C52 _ _ _ (by
  unfold S52
  rw [condW_false]
  exact c62 h0 h1 h)
theorem off_drew (p : Nat → Prop) (w : World) : Off p w w.drew := ⟨Nat.le_refl _, fun _ _ _ => rfl⟩
def CmpN (w : World) (f : Value) (n : Nat) (c : Nat → Nat → Int) : Prop :=
  ∀ (x y : Nat) (w' : World) (kk : Value → World → Prop), x < n → y < n → Below w.heap.size w w' → (∀ w'', Below w'.heap.size w' w'' → kk (I (c x y)) w'') → callW Try.prog f #[I x, I y] kk w'
/-- a comparison of the numbers below n -/
structure CmpLaw (n : Nat) (c : Nat → Nat → Int) : Prop where
  asym : ∀ x y, x < n → y < n → c x y < 0 → ¬ c y x < 0
  nt : ∀ x y z, x < n → y < n → z < n → ¬ c z y < 0 → ¬ c y x < 0 → ¬ c z x < 0
def SortedBut (c : Nat → Nat → Int) (M : List Nat) (i j : Nat) : Prop := ∀ p q x y, p < q → q < i → q ≠ j → M[p]? = some x → M[q]? = some y → ¬ c y x < 0
theorem s53 {w0 : World} {f : Value} {n : Nat} {c : Nat → Nat → Int} {g base cap : Nat} {L : List Nat} (hc : CmpN w0 f n c) (hl : CmpLaw n c) (hw : Below w0.heap.size w0 w) (hg : w0.heap.size ≤ g) (ho : OwnS fN w base 3 g cap L)
    (h8 : L.length ≤ 8) (hL : ∀ x ∈ L, x < n)
    (hk : ∀ M w', M.Perm L → SortedBut c M L.length L.length → OwnS fN w' base 3 g cap M → Below w0.heap.size w0 w' → Off (· = g) w w' → k (.tuple #[]) w') :
    S53 (.slice (some ⟨g, 0, none⟩) L.length cap) (I 0) (I L.length) f k w := by
  unfold S53
  rw [w_add, wrap_id (by omega)]
  refine Loop1.intro (fun m x w' => ∃ (i : Nat) (M : List Nat), x = I i ∧ 1 ≤ i ∧ m = L.length - i ∧ M.Perm L ∧ SortedBut c M i i ∧ OwnS fN w' base 3 g cap M ∧ Below w0.heap.size w0 w' ∧ Off (· = g) w w') (L.length - 1)
    ⟨1, L, by simp [I], by omega, rfl, List.Perm.refl _, fun p q x y h1 h2 => by omega, ho, hw, Off.refl _ _⟩ ?_
  rintro m _ w1 ⟨i, M, rfl, hi, rfl, hperm, hsort, ho1, hw1, hf1⟩
  rw [w_lss]
  by_cases hlt : i < L.length
  · rw [decide_eq_true (by omega), condW_true]
    have hML : M.length = L.length := hperm.length_eq
    refine Loop1.intro (fun m x w' => ∃ (j : Nat) (M : List Nat), x = I j ∧ j ≤ i ∧ m = j ∧ M.Perm L ∧ SortedBut c M (i + 1) j ∧ OwnS fN w' base 3 g cap M ∧ Below w0.heap.size w0 w' ∧ Off (· = g) w w') i
      ⟨i, M, rfl, Nat.le_refl _, rfl, hperm, fun p q x y h1 h2 h3 => hsort p q x y h1 (by omega) h3, ho1, hw1, hf1⟩ ?_
    clear hML hsort hperm ho1 hw1 hf1
    rintro m2 _ w2 ⟨j, M, rfl, hj, hm2, hperm, hsort, ho2, hw2, hf2⟩
    have hML : M.length = L.length := hperm.length_eq
    have done : (∀ j', j = j' + 1 → ∀ x y, M[j']? = some x → M[j]? = some y → ¬ c y x < 0) → SortedBut c M (i + 1) (i + 1) := by
      intro hd p q x y hpq hq _ hx hy
      by_cases hqj : q = j
      · subst hqj
        obtain ⟨j', rfl⟩ : ∃ j', q = j' + 1 := ⟨q - 1, by omega⟩
        by_cases hpj : p = j'
        · subst hpj; exact hd p rfl x y hx hy
        · obtain ⟨z, hz⟩ : ∃ z, M[j']? = some z := ⟨M[j']'(by omega), by simp⟩
          exact hl.nt x z y (hL _ (hperm.subset (List.mem_of_getElem? hx))) (hL _ (hperm.subset (List.mem_of_getElem? hz))) (hL _ (hperm.subset (List.mem_of_getElem? hy))) (hd j' rfl z y hz hy) (hsort p j' x z (by omega) (by omega) (by omega) hx hz)
      · exact hsort p q x y hpq (by omega) hqj hx hy
    rw [drewW_eq, t_gtr]
    rcases Nat.eq_zero_or_pos j with hj0 | hj0
    · rw [decide_eq_false (by omega)]
      simp only [guardT_ft, guardT_u, guardW_ft, guardW_u, pickT_false, condW_false]
      rw [w_add, wrap_id (by omega), loopK_self]
      exact ⟨L.length - (i + 1), by omega, i + 1, M, by simp [I], by omega, rfl, hperm, done (fun j' h => by omega), ho2.same rfl, hw2.trans (Below.refl _ _).drew, hf2.trans (off_drew _ _)⟩
    · obtain ⟨j', rfl⟩ : ∃ j', j = j' + 1 := ⟨j - 1, by omega⟩
      obtain ⟨x, hx⟩ : ∃ x, M[j' + 1]? = some x := ⟨M[j' + 1]'(by omega), by simp⟩
      obtain ⟨y, hy⟩ : ∃ y, M[j']? = some y := ⟨M[j']'(by omega), by simp⟩
      have hxn := hL _ (hperm.subset (List.mem_of_getElem? hx))
      have hyn := hL _ (hperm.subset (List.mem_of_getElem? hy))
      have hcx := ho2.cell hx 0 _ rfl
      have hcy := ho2.cell hy 0 _ rfl
      simp only [fN, Nat.mul_one, Nat.add_zero] at hcx hcy
      rw [decide_eq_true (by omega)]
      simp only [guardT_tt, guardW_tt]
      rw [tixz26 (by omega), xld3 (w := w2.drew) (v := I x) hcx, t_sub, wrap_id (by omega), show ((j' + 1 : Nat) : Int) - 1 = (j' : Int) by omega, tixz26 (by omega), xld3 (w := w2.drew) (v := I y) hcy]
      refine hc x y _ _ hxn hyn (hw2.trans (Below.refl _ _).drew) fun w3 hb3 => ?_
      have ho3 := (ho2.same (w' := w2.drew) rfl).below hb3
      have hw3 := (hw2.trans (Below.refl _ _).drew).trans (hb3.mono (by have := hw2.size; exact this))
      have hf3 : Off (· = g) w w3 := hf2.trans ((off_drew _ w2).trans (Off.below hb3))
      rw [t_lss]
      simp only [pickT_true]
      by_cases hlt2 : c x y < 0
      · rw [decide_eq_true hlt2, condW_true, drewW_eq, t_sub, wrap_id (by omega), t_sub, wrap_id (by omega), show ((j' + 1 : Nat) : Int) - 1 = (j' : Int) by omega, tixz26 (by omega)]
        have hcx3 := ho3.cell hx 0 _ rfl
        have hcy3 := ho3.cell hy 0 _ rfl
        simp only [fN, Nat.mul_one, Nat.add_zero] at hcx3 hcy3
        rw [xld3 (w := w3.drew) (v := I y) hcy3, tixz26 (by omega), xld3 (w := w3.drew) (v := I x) hcx3, tixz26 (by omega)]
        have ho3d := ho3.same (w' := w3.drew) rfl
        obtain ⟨ho4, hg4, old4, hold4⟩ := ho3d.store rfl hx (y := y) (u := I y) rfl
        refine (st3 (by rfl) hold4 (ho3d.free _)).mpr ?_
        rw [tixz26 (by omega)]
        have hy4 : (M.set (j' + 1) y)[j']? = some y := by rw [List.getElem?_set_ne (by omega)]; exact hy
        obtain ⟨ho5, hg5, old5, hold5⟩ := ho4.store rfl hy4 (y := x) (u := I x) rfl
        refine (st3 (by rfl) hold5 (ho4.free _)).mpr ?_
        rw [w_sub, wrap_id (by omega), show ((j' + 1 : Nat) : Int) - 1 = (j' : Int) by omega, loopK_self]
        have hxe : M[j' + 1]'(by omega) = x := by rw [List.getElem?_eq_getElem (by omega)] at hx; exact Option.some.inj hx
        have hye : M[j']'(by omega) = y := by rw [List.getElem?_eq_getElem (by omega)] at hy; exact Option.some.inj hy
        have hp2 : ((M.set (j' + 1) y).set j' x).Perm M := by
          have := @List.set_set_perm _ M (j' + 1) j' (by omega) (by omega)
          rw [hxe, hye] at this; exact this
        refine ⟨j', by omega, j', _, rfl, by omega, rfl, hp2.trans hperm, ?_, ho5, ((hw3.trans (Below.refl _ _).drew).setCell hg _).setCell hg _, (hf3.trans ((off_drew _ w3).trans (Off.set rfl))).trans (Off.set rfl)⟩
        intro p q u v hpq hq hqj hu hv
        rw [List.getElem?_set] at hu hv
        rw [List.getElem?_set] at hu hv
        simp only [List.length_set] at hu hv
        rw [if_neg (Ne.symm hqj)] at hv
        by_cases hq1 : q = j' + 1
        · rw [if_pos hq1.symm, if_pos (by omega)] at hv
          cases hv
          by_cases hpj : p = j'
          · rw [if_pos hpj.symm, if_pos (by omega)] at hu
            cases hu
            exact hl.asym _ _ hxn hyn hlt2
          · rw [if_neg (Ne.symm hpj), if_neg (by omega)] at hu
            exact hsort p j' u y (by omega) (by omega) (by omega) hu hy
        · rw [if_neg (Ne.symm hq1)] at hv
          by_cases hpj : p = j'
          · rw [if_pos hpj.symm, if_pos (by omega)] at hu
            cases hu
            exact hsort (j' + 1) q x v (by omega) hq hq1 hx hv
          · rw [if_neg (Ne.symm hpj)] at hu
            by_cases hp1 : p = j' + 1
            · rw [if_pos hp1.symm, if_pos (by omega)] at hu
              cases hu
              exact hsort j' q y v (by omega) hq hq1 hy hv
            · rw [if_neg (Ne.symm hp1)] at hu
              exact hsort p q u v hpq hq hq1 hu hv
      · rw [decide_eq_false hlt2, condW_false, w_add, wrap_id (by omega), loopK_self]
        exact ⟨L.length - (i + 1), by omega, i + 1, M, by simp [I], by omega, rfl, hperm, done (fun j'' h x' y' hx' hy' => by
          obtain rfl : j' = j'' := by omega
          rw [hy] at hx'; rw [hx] at hy'; cases hx'; cases hy'; exact hlt2), ho3, hw3, hf3⟩
  · rw [decide_eq_false (by omega), condW_false]
    exact hk M w1 hperm (fun p q x y h1 h2 _ hx hy => hsort p q x y h1 (by omega) (by omega) hx hy) ho1 hw1 hf1
theorem s51 {w0 : World} {f : Value} {n : Nat} {c : Nat → Nat → Int} {g base cap : Nat} {L : List Nat} {lim : Value} (hc : CmpN w0 f n c) (hl : CmpLaw n c) (hw : Below w0.heap.size w0 w) (hg : w0.heap.size ≤ g) (ho : OwnS fN w base 3 g cap L)
    (h8 : L.length ≤ 8) (hL : ∀ x ∈ L, x < n)
    (hk : ∀ M w', M.Perm L → SortedBut c M L.length L.length → OwnS fN w' base 3 g cap M → Below w0.heap.size w0 w' → Off (· = g) w w' → k (.tuple #[]) w') :
    S51 (.slice (some ⟨g, 0, none⟩) L.length cap) (I 0) (I L.length) lim f k w := by
  unfold S51
  refine Loop5.intro (fun m a b _ _ _ w' => a = I 0 ∧ b = I L.length ∧ w' = w) 0 ⟨rfl, rfl, rfl⟩ ?_
  rintro m _ _ _ _ _ w' ⟨rfl, rfl, rfl⟩
  rw [joinW_eq, w_sub, wrap_id (by omega), w_leq, decide_eq_true (by omega), condW_true]
  exact C53 _ _ _ _ _ _ (s53 hc hl hw hg ho h8 hL hk)
theorem c50 {w0 : World} {f : Value} {n m : Nat} {c : Nat → Nat → Int} {g base cap : Nat} {L : List Nat} (hc : CmpN w0 f n c) (hl : CmpLaw n c) (hw : Below w0.heap.size w0 w) (hg : w0.heap.size ≤ g) (ho : OwnS fN w base 3 g cap L)
    (hm : m = L.length) (h8 : L.length ≤ 8) (hL : ∀ x ∈ L, x < n)
    (hk : ∀ M w', M.Perm L → SortedBut c M L.length L.length → OwnS fN w' base 3 g cap M → Below w0.heap.size w0 w' → Off (· = g) w w' → k (.tuple #[]) w') :
    callW Try.prog (.func (.func 50) #[] #[]) #[.slice (some ⟨g, 0, none⟩) m cap, f] k w := C50 _ _ _ _ (by
  subst hm
  unfold S50
  rw [leno26, w_conv (q := .u64) (by kernel_rfl) (by kernel_rfl), IntWalk.u64_in _ (by omega)]
  refine c52 (by omega) (by omega) fun nn => ?_
  exact C51 _ _ _ _ _ _ _ (s51 hc hl hw hg ho h8 hL hk))
theorem cmpS_before {l : List Stream} {a b : Nat} (ha : a < l.length) (hb : b < l.length) : cmpS l a b < 0 ↔ beforeB l a b = true := by
  simp only [cmpS, beforeB, List.getElem?_eq_getElem ha, List.getElem?_eq_getElem hb, Bool.or_eq_true, Bool.and_eq_true, decide_eq_true_eq]
  generalize l[a].cls = x
  generalize l[b].cls = y
  unfold cmpI orI
  rcases Int.lt_trichotomy x y with h | h | h
  · simp [List.find?, h]
  · subst h
    rcases Nat.lt_trichotomy a b with h' | h' | h'
    · simp [List.find?, h']
    · subst h'; simp [List.find?]
    · have h1 : ¬ a < b := by omega
      have h2 : ¬ (a : Int) < b := by omega
      have h3 : (b : Int) < a := by omega
      simp [List.find?, h1, h2, h3]
  · have h1 : ¬ x < y := by omega
    have h2 : x ≠ y := by omega
    simp [List.find?, h, h1, h2]
theorem beforeB_iff {l : List Stream} {a b : Nat} (ha : a < l.length) (hb : b < l.length) : beforeB l a b = true ↔ l[a].cls < l[b].cls ∨ l[a].cls = l[b].cls ∧ a < b := by
  simp [beforeB, List.getElem?_eq_getElem ha, List.getElem?_eq_getElem hb]
theorem cmpS_law (l : List Stream) : CmpLaw l.length (cmpS l) := by
  constructor
  · intro x y hx hy
    rw [cmpS_before hx hy, cmpS_before hy hx, beforeB_iff hx hy, beforeB_iff hy hx]
    omega
  · intro x y z hx hy hz
    rw [cmpS_before hz hy, cmpS_before hy hx, cmpS_before hz hx, beforeB_iff hz hy, beforeB_iff hy hx, beforeB_iff hz hx]
    omega
/-- the places of streams -/
structure RanksP (l : List Stream) (R : List Nat) : Prop where
  len : R.length = l.length
  lt : ∀ (i r : Nat), R[i]? = some r → r < l.length
  mono : ∀ (i j ri rj : Nat), R[i]? = some ri → R[j]? = some rj → (beforeB l i j = true ↔ ri < rj)
theorem zerosN {w : World} {base g c n : Nat} (ho : OwnS fI w base 3 g c (List.replicate n 0)) : OwnS fN w base 3 g c (List.replicate n 0) :=
  OwnS.unmap (F := fN) (G := fI) (f := fun n : Nat => (n : Int)) (fun _ => rfl) rfl (by simpa using ho)
theorem s47 {v : Value} {l : List Stream} (hs : IsSl fS w v l) (hl : l.length ≤ 8) (hk : ∀ R g c w', Below w.heap.size w w' → w.heap.size ≤ g → RanksP l R → OwnS fN w' w.heap.size 3 g c R → k (.slice (some ⟨g, 0, none⟩) R.length c) w') : S47 v k w := by
  unfold S47
  refine (len59 hs).mpr ?_
  refine w_make (base := w.heap.size) sty26 (by omega) (by unfold maxLen; omega) (Nat.le_refl _) fun w2 ho2 hg2 => ?_
  have ho2 := zerosN (OwnS.zeros ho2)
  have hb2 : Below w.heap.size w w2 := below_grown (B := w.heap.size) (Below.refl _ _) (Nat.le_refl _) hg2 (by simp)
  rw [leno26]
  refine Loop1.intro (fun n x w' => ∃ i : Nat, x = I i ∧ i ≤ l.length ∧ n = l.length - i ∧ Below w.heap.size w w' ∧ OwnS fN w' w.heap.size 3 w.heap.size l.length (List.range i ++ List.replicate (l.length - i) 0)) l.length ⟨0, rfl, by omega, by omega, hb2, by simpa using ho2⟩ ?_
  rintro n _ w' ⟨i, rfl, hi, rfl, hb', ho⟩
  rw [w_lss]
  by_cases hlt : i < l.length
  · rw [decide_eq_true (show (i : Int) < l.length by omega), condW_true, ixz26 hlt]
    have hx0 : (List.range i ++ List.replicate (l.length - i) 0)[i]? = some 0 := by
      rw [List.getElem?_append_right (by simp), List.length_range, Nat.sub_self, List.getElem?_replicate, if_pos (by omega)]
    obtain ⟨ho3, hg3, old, hold⟩ := ho.store rfl hx0 (y := i) (u := I i) rfl
    refine (st3 (by rfl) hold (ho.free i)).mpr ?_
    rw [List.set_append_right _ _ (by simp), List.length_range, Nat.sub_self, show l.length - i = (l.length - (i + 1)) + 1 by omega, List.replicate_succ, List.set_cons_zero] at ho3
    rw [w_add, wrap_id (by omega), loopK_self]
    exact ⟨l.length - (i + 1), by omega, i + 1, by simp [I], by omega, rfl, hb'.setCell (Nat.le_refl _) _, by rw [List.range_succ]; simpa using ho3⟩
  · rw [decide_eq_false (show ¬ (i : Int) < l.length by omega), condW_false, w_makeFunc]
    obtain rfl : i = l.length := by omega
    simp only [Nat.sub_self, List.replicate_zero, List.append_nil] at ho
    have hcmp : CmpN w (.func (.func 31) #[v] #[]) l.length (cmpS l) := by
      intro x y w4 kk hx hy hb4 hkk
      refine callW_calls ok31 (S31_calls _ _ _ _ _ (s31 (hs.below hb4) hx hy hkk))
    refine c50 hcmp (cmpS_law l) hb' (Nat.le_refl _) ho (by simp) (by simpa using hl) (by simp) fun M w5 hperm hsort ho5 hb5 hf5 => ?_
    have hML : M.length = l.length := by simpa using hperm.length_eq
    have hnd : M.Nodup := hperm.nodup_iff.2 List.nodup_range
    have hMlt : ∀ (r x : Nat), M[r]? = some x → x < l.length := fun r x h => by simpa using hperm.subset (List.mem_of_getElem? h)
    have hMin : ∀ (r s x : Nat), M[r]? = some x → M[s]? = some x → r = s := fun r s x h1 h2 => by
      have hr := (List.getElem?_eq_some_iff.1 h1).1
      exact (List.getElem?_inj hr hnd).1 (h1.trans h2.symm)
    refine (len59 (hs.below hb5)).mpr ?_
    refine w_make (base := w5.heap.size) sty26 (by omega) (by unfold maxLen; omega) (Nat.le_refl _) fun w6 ho6 hg6 => ?_
    have ho6 := zerosN (OwnS.zeros ho6)
    have hb6 : Below w5.heap.size w5 w6 := below_grown (B := w5.heap.size) (Below.refl _ _) (Nat.le_refl _) hg6 (by simp)
    have hoM := ho5.below hb6
    have hb06 := hb5.trans (hb6.mono hb5.size)
    generalize hgq : w5.heap.size = gq at *
    have hlt5 : w.heap.size < gq := hgq ▸ ho5.ge.2
    rw [leno26]
    refine Loop1.intro (fun n x w' => ∃ (i : Nat) (R : List Nat), x = I i ∧ i ≤ l.length ∧ n = l.length - i ∧ R.length = l.length ∧ Below w.heap.size w w' ∧ OwnS fN w' w.heap.size 3 w.heap.size l.length M ∧ OwnS fN w' gq 3 gq l.length R ∧ (∀ (r x : Nat), r < i → M[r]? = some x → R[x]? = some r)) l.length
      ⟨0, List.replicate l.length 0, rfl, by omega, by omega, by simp, hb06, hoM, ho6, by omega⟩ ?_
    clear ho6 hoM hb6 hb06
    rintro n _ w7 ⟨i, R, rfl, hi, rfl, hRL, hb7, hoM, hoR, hinv⟩
    rw [w_lss]
    by_cases hlt : i < l.length
    · rw [decide_eq_true (by omega), condW_true]
      obtain ⟨x, hx⟩ : ∃ x, M[i]? = some x := ⟨M[i]'(by omega), by simp⟩
      have hxl := hMlt i x hx
      have hcx := hoM.cell hx 0 _ rfl
      simp only [fN, Nat.mul_one, Nat.add_zero] at hcx
      rw [ixz26 (by omega)]
      refine (ld3 (v := I x) hcx).mpr ?_
      rw [ixz26 (by omega)]
      obtain ⟨ho8, hg8, old, hold⟩ := hoR.store rfl (List.getElem?_eq_getElem (by omega : x < R.length)) (y := i) (u := I i) rfl
      refine (st3 (by rfl) hold (hoR.free x)).mpr ?_
      rw [w_add, wrap_id (by omega), loopK_self]
      refine ⟨l.length - (i + 1), by omega, i + 1, R.set x i, by simp [I], by omega, rfl, by simpa using hRL, hb7.setCell (by show w.heap.size ≤ gq; omega) _, hoM.same (Below.heap_setCell _ _ _ _ (by show w.heap.size ≠ gq; omega)), ho8, fun r y hr hy => ?_⟩
      rw [List.getElem?_set]
      by_cases hxy : x = y
      · subst hxy
        rw [if_pos rfl, if_pos (by omega), hMin r i x hy hx]
      · rw [if_neg hxy]
        refine hinv r y ?_ hy
        rcases Nat.lt_or_ge r i with h | h
        · exact h
        · obtain rfl : r = i := by omega
          rw [hx] at hy; exact absurd (Option.some.inj hy) hxy
    · rw [decide_eq_false (by omega), condW_false]
      obtain rfl : i = l.length := by omega
      have hinv' : ∀ (x : Nat), x < l.length → ∃ r, r < l.length ∧ M[r]? = some x ∧ R[x]? = some r := fun x hx => by
        have : x ∈ M := hperm.mem_iff.2 (by simpa using hx)
        obtain ⟨r, hr, hrx⟩ := List.getElem_of_mem this
        have h1 : M[r]? = some x := by rw [List.getElem?_eq_getElem hr, hrx]
        exact ⟨r, by omega, h1, hinv r x (by omega) h1⟩
      have hrk : RanksP l R := by
        refine ⟨hRL, fun i r h => ?_, fun i j ri rj h1 h2 => ?_⟩
        · obtain ⟨r', h1, h2, h3⟩ := hinv' i (by have := (List.getElem?_eq_some_iff.1 h).1; omega)
          rw [h] at h3; cases h3; exact h1
        · have hi : i < l.length := by have := (List.getElem?_eq_some_iff.1 h1).1; omega
          have hj : j < l.length := by have := (List.getElem?_eq_some_iff.1 h2).1; omega
          obtain ⟨r1, h11, h12, h13⟩ := hinv' i hi
          obtain ⟨r2, h21, h22, h23⟩ := hinv' j hj
          rw [h1] at h13; cases h13
          rw [h2] at h23; cases h23
          have hsort := fun p q x y a b c => hsort p q x y a (by simpa using b) (by simp; omega) c
          rw [← cmpS_before hi hj]
          constructor
          · intro hc
            rcases Nat.lt_trichotomy ri rj with h | h | h
            · exact h
            · subst h; rw [h12] at h22; cases h22
              exact absurd hc ((cmpS_law l).asym _ _ hi hi hc)
            · exact absurd hc (hsort rj ri j i h h11 h22 h12)
          · intro h
            have := hsort ri rj i j h h21 h12 h22
            rw [cmpS_before hj hi, beforeB_iff hj hi] at this
            rw [cmpS_before hi hj, beforeB_iff hi hj]
            have : i ≠ j := fun hh => by subst hh; have := hMin _ _ _ h12 h22; omega
            omega
      have := hk R gq l.length w7 hb7 (by omega) hrk
      rw [hRL] at this
      exact this (hoR.base (by omega))
theorem c47 {v : Value} {l : List Stream} (hs : IsSl fS w v l) (hl : l.length ≤ 8) (hk : ∀ R g c w', Below w.heap.size w w' → w.heap.size ≤ g → RanksP l R → OwnS fN w' w.heap.size 3 g c R → k (.slice (some ⟨g, 0, none⟩) R.length c) w') : callW Try.prog (.func (.func 47) #[] #[]) #[v] k w := C47 _ _ _ (s47 hs hl hk)
end
end Go.Proofs.Ytidnjppalebbfaa
