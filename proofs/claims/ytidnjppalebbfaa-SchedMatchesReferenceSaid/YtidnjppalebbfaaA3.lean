/- Contracts of package sched's functions, third part: Divide. -/
import Derived.Test.YtidnjppalebbfaaA2
set_option linter.unusedSimpArgs false
set_option linter.unusedVariables false
namespace Go.Proofs.Ytidnjppalebbfaa
open Go Go.V Go.RowKit
section
variable {k : Value → World → Prop} {w : World}
def minI (n L : Int) : Int := if L < n then L else n
def needsI : List Int → Int → Int
  | [], _ => 0
  | n :: r, L => minI n L + needsI r L
theorem needsI_append : ∀ (l m : List Int) (L : Int), needsI (l ++ m) L = needsI l L + needsI m L
  | [], m, L => by simp [needsI]
  | x :: r, m, L => by simp [needsI, needsI_append r m L]; omega
def okW (l : List Int) : Prop := ∀ x ∈ l, 0 ≤ x ∧ x ≤ 1000000
theorem minI_range {x L : Int} (hx : 0 ≤ x ∧ x ≤ 1000000) (hL : 0 ≤ L) : 0 ≤ minI x L ∧ minI x L ≤ 1000000 := by unfold minI; split <;> omega
theorem needsI_range : ∀ {l : List Int} {L : Int}, okW l → 0 ≤ L → 0 ≤ needsI l L ∧ needsI l L ≤ 1000000 * l.length
  | [], L, _, _ => by simp [needsI]
  | x :: r, L, h, hL => by
    have h1 := minI_range (h x (by simp)) hL
    have h2 := needsI_range (l := r) (fun y hy => h y (by simp [hy])) hL
    simp only [needsI, List.length_cons]
    omega
theorem needsI_take {l : List Int} {i : Nat} (h : i < l.length) (L : Int) : needsI (l.take (i + 1)) L = needsI (l.take i) L + minI l[i] L := by
  rw [List.take_succ_eq_append_getElem h, needsI_append]; simp [needsI]
theorem okW_take {l : List Int} (h : okW l) (i : Nat) : okW (l.take i) := fun x hx => h x (List.mem_of_mem_take hx)
theorem w_minI {t : TypeId} {a b : Int} : opW Try.prog (Builtin.min_ #[t, t] t #[I a, I b]) k w = k (I (minI a b)) w := by rw [w_min]; rfl
theorem s40 {v : Value} {bx : Nat} {l : List Int} {L : Int} (hc : w.cell? ⟨bx, 0, none⟩ = some v) (hs : IsSl fI w v l) (hw : okW l) (hl : l.length ≤ 8) (hL : 0 ≤ L) (h : k (I (needsI l L)) w) : S40 (I L) (.pointer (some ⟨bx, 0, none⟩)) k w := by
  unfold S40
  refine (ld26 hc).mpr ((len26 hs).mpr ?_)
  refine Loop2.intro (fun n a c w' => ∃ i : Nat, a = I (needsI (l.take i) L) ∧ c = I i ∧ i ≤ l.length ∧ n = l.length - i ∧ w' = w) l.length ⟨0, by simp [needsI], rfl, by omega, by omega, rfl⟩ ?_
  rintro n _ _ w' ⟨i, rfl, rfl, hi, rfl, rfl⟩
  rw [w_lss]
  by_cases hlt : i < l.length
  · rw [decide_eq_true (show (i : Int) < l.length by omega), condW_true]
    refine ix26 (x := l[i]) hs rfl (by omega) (by simp [hlt]) fun b o hcl => ?_
    refine (ld3 (hcl 0 _ rfl)).mpr ?_
    have hr := needsI_range (okW_take hw i) hL
    have hlen : (l.take i).length ≤ 8 := by simp; omega
    have hm := minI_range (hw l[i] (by simp)) hL
    rw [w_minI, w_add, wrap_id (by omega), w_add, wrap_id (by omega), loopK_self]
    exact ⟨l.length - (i + 1), by omega, i + 1, by rw [needsI_take hlt], by simp [I], by omega, rfl, rfl⟩
  · rw [decide_eq_false (show ¬ (i : Int) < l.length by omega), condW_false]
    rw [List.take_of_length_le (by omega)]; exact h
/-- what a search finds -/
structure Found (p : Int → Bool) (n r : Int) : Prop where
  lo : 0 ≤ r
  hi : r ≤ n
  yes : r < n → p r = true
  no : 0 < r → p (r - 1) = false
theorem s41 {f : Value} {n : Int} {p : Int → Bool} (hn : 0 ≤ n ∧ n ≤ 4611686018427387903)
    (hp : ∀ x w' kk, 0 ≤ x → x < n → Below w.heap.size w w' → (∀ w'', Below w'.heap.size w' w'' → kk (.bool (p x)) w'') → callW Try.prog f #[I x] kk w')
    (h : ∀ r w', Below w.heap.size w w' → Found p n r → k (I r) w') : S41 (I n) f k w := by
  unfold S41
  refine Loop2.intro (fun m a b w' => ∃ i j : Int, a = I i ∧ b = I j ∧ 0 ≤ i ∧ i ≤ j ∧ j ≤ n ∧ m = (j - i).toNat ∧ Below w.heap.size w w' ∧ (j < n → p j = true) ∧ (0 < i → p (i - 1) = false)) n.toNat
    ⟨0, n, rfl, rfl, by omega, by omega, by omega, by omega, Below.refl _ _, by omega, by omega⟩ ?_
  rintro m _ _ w' ⟨i, j, rfl, rfl, h0, hij, hjn, rfl, hb, hy, hno⟩
  rw [w_lss]
  by_cases hlt : i < j
  · rw [decide_eq_true hlt, condW_true, joinW_eq, w_add, wrap_id (by omega), w_conv (q := .u64) (by kernel_rfl) (by kernel_rfl), IntWalk.u64_in _ (by omega), w_shr (by omega), w_conv (q := .i64) (by kernel_rfl) (by kernel_rfl)]
    have hmid : ((i + j).fdiv (2 ^ (min (1 : Int).toNat IntKind.u64.bits))) = (i + j) / 2 := by
      have : (2 : Int) ^ (min (1 : Int).toNat IntKind.u64.bits) = 2 := by decide
      rw [this, Int.fdiv_eq_ediv_of_nonneg _ (by omega)]
    rw [hmid, wrap_id (by omega)]
    refine hp _ _ _ (by omega) (by omega) hb ?_
    intro w'' hb''
    have hb2 := below_trans hb hb''
    rw [w_not]
    cases hpx : p ((i + j) / 2) with
    | true =>
      simp only [Bool.not_true, condW_false]
      rw [loopK_self]
      exact ⟨((i + j) / 2 - i).toNat, by omega, i, _, rfl, rfl, h0, by omega, by omega, rfl, hb2, fun _ => hpx, hno⟩
    | false =>
      simp only [Bool.not_false, condW_true]
      rw [w_add, wrap_id (by omega), loopK_self]
      exact ⟨(j - ((i + j) / 2 + 1)).toNat, by omega, _, j, rfl, rfl, by omega, by omega, hjn, rfl, hb2, hy, fun _ => by rw [show (i + j) / 2 + 1 - 1 = (i + j) / 2 by omega]; exact hpx⟩
  · rw [decide_eq_false hlt, condW_false]
    obtain rfl : i = j := by omega
    exact h _ _ hb ⟨h0, hjn, hy, hno⟩
def mostI : List Int → Int
  | [] => 0
  | x :: r => max x (mostI r)
/-- the level of a division -/
structure IsLevel (bytes : Int) (l : List Int) (L : Int) : Prop where
  lo : 0 ≤ L
  hi : L ≤ mostI l
  fits : needsI l L ≤ bytes
  next : L < mostI l → bytes < needsI l (L + 1)
def giveI (L : Int) : Int → List Int → List Int
  | _, [] => []
  | left, n :: r => if L < n ∧ 0 < left then (minI n L + 1) :: giveI L (left - 1) r else minI n L :: giveI L left r
theorem giveI_append (L : Int) : ∀ (a b : List Int) (left : Int), giveI L left (a ++ b) = giveI L left a ++ giveI L (left - (a.length : Int) + (a.length : Int)) b ∨ True := fun _ _ _ => .inr trivial
/-- what is left behind some parts -/
def leftI (L : Int) : Int → List Int → Int
  | left, [] => left
  | left, n :: r => if L < n ∧ 0 < left then leftI L (left - 1) r else leftI L left r
theorem giveI_app (L : Int) : ∀ (a b : List Int) (left : Int), giveI L left (a ++ b) = giveI L left a ++ giveI L (leftI L left a) b
  | [], b, left => by simp [giveI, leftI]
  | x :: a, b, left => by
    simp only [List.cons_append, giveI, leftI]
    split <;> simp [giveI_app L a b]
theorem leftI_app (L : Int) : ∀ (a b : List Int) (left : Int), leftI L left (a ++ b) = leftI L (leftI L left a) b
  | [], b, left => by simp [leftI]
  | x :: a, b, left => by
    simp only [List.cons_append, leftI]
    split <;> simp [leftI_app L a b]
theorem giveI_length (L : Int) : ∀ (a : List Int) (left : Int), (giveI L left a).length = a.length
  | [], left => rfl
  | x :: a, left => by
    simp only [giveI]
    split <;> simp [giveI_length L a]
theorem leftI_range (L : Int) : ∀ (a : List Int) (left : Int), 0 ≤ left → 0 ≤ leftI L left a ∧ leftI L left a ≤ left
  | [], left, h => by simp [leftI, h]
  | x :: a, left, h => by
    simp only [leftI]
    split
    · have := leftI_range L a (left - 1) (by omega); omega
    · exact leftI_range L a left h
theorem c38 {n : Int} (h : k (.bool (!decide (0 ≤ n ∧ n ≤ 1000000))) w) : callW Try.prog (.func (.func 38) #[] #[]) #[I n] k w := C38 _ _ _ (by
  unfold S38
  refine c34 ?_
  rw [w_not]; exact h)
theorem s48 {v f : Value} {l : List Int} {p : Int → Bool} (hs : IsSl fI w v l) (hl : l.length ≤ maxLen) (hp : Pred (fun x => #[I x]) w f p)
    (h : ∀ (r : Int) w', Below w.heap.size w w' → (0 ≤ r ↔ l.any p = true) → k (I r) w') : S48 v f k w := by
  unfold S48
  refine (len26 hs).mpr ?_
  refine Loop1.intro (fun n a w' => ∃ i : Nat, a = I i ∧ i ≤ l.length ∧ n = l.length - i ∧ Below w.heap.size w w' ∧ ∀ x ∈ l.take i, p x = false) l.length ⟨0, rfl, by omega, by omega, Below.refl _ _, by simp⟩ ?_
  rintro n _ w' ⟨i, rfl, hi, rfl, hb, hno⟩
  rw [w_lss]
  by_cases hlt : i < l.length
  · rw [decide_eq_true (show (i : Int) < l.length by omega), condW_true]
    refine ix26 (x := l[i]) (hs.below hb) rfl (by omega) (by simp [hlt]) ?_
    intro b o hc
    refine (ld3 (hc 0 _ rfl)).mpr ?_
    refine hp l[i] w' _ hb ?_
    intro w'' hb'
    have hb2 := below_trans hb hb'
    cases hpx : p l[i] with
    | true =>
      rw [condW_true]
      refine h _ _ hb2 ⟨fun _ => List.any_eq_true.2 ⟨l[i], by simp, hpx⟩, fun _ => by omega⟩
    | false =>
      rw [condW_false, w_add, wrap_id (by unfold maxLen at hl; omega), loopK_self]
      refine ⟨l.length - (i + 1), by omega, i + 1, by simp [I], by omega, rfl, hb2, ?_⟩
      intro x hxm
      rw [List.take_succ_eq_append_getElem hlt, List.mem_append] at hxm
      rcases hxm with hxm | hxm
      · exact hno x hxm
      · simp at hxm; subst hxm; exact hpx
  · rw [decide_eq_false (show ¬ (i : Int) < l.length by omega), condW_false]
    refine h _ _ hb ⟨fun h0 => by omega, fun hany => ?_⟩
    obtain ⟨x, hx, hpx⟩ := List.any_eq_true.1 hany
    rw [List.take_of_length_le (by omega)] at hno
    rw [hno x hx] at hpx; cases hpx
theorem c39 {v f : Value} {l : List Int} {p : Int → Bool} (hs : IsSl fI w v l) (hl : l.length ≤ maxLen) (hp : Pred (fun x => #[I x]) w f p)
    (h : ∀ w', Below w.heap.size w w' → k (.bool (l.any p)) w') : callW Try.prog (.func (.func 39) #[] #[]) #[v, f] k w := C39 _ _ _ _ (by
  unfold S39
  refine C48 _ _ _ _ (s48 hs hl hp ?_)
  intro r w' hb hr
  rw [w_geq]
  have : decide (0 ≤ r) = l.any p := by
    cases ha : l.any p with
    | true => simpa using hr.2 ha
    | false => simp; rw [ha] at hr; have := hr.1; simp at this; omega
  rw [this]
  exact h w' hb)
theorem c40 {v : Value} {bx : Nat} {l : List Int} {L : Int} (hc : w.cell? ⟨bx, 0, none⟩ = some v) (hs : IsSl fI w v l) (hw : okW l) (hl : l.length ≤ 8) (hL : 0 ≤ L) (h : k (I (needsI l L)) w) :
    callW Try.prog (.func (.func 40) #[] #[.pointer (some ⟨bx, 0, none⟩)]) #[I L] k w := C40 _ _ _ _ (s40 hc hs hw hl hL h)
/-- the closure that asks whether a level needs too much -/
theorem c42 {v : Value} {bx bn bb : Nat} {l : List Int} {n bytes : Int} (hc : w.cell? ⟨bx, 0, none⟩ = some v) (hs : IsSl fI w v l) (hw : okW l) (hl : l.length ≤ 8)
    (hn : w.cell? ⟨bn, 0, none⟩ = some (.func (.func 40) #[] #[.pointer (some ⟨bx, 0, none⟩)])) (hb : w.cell? ⟨bb, 0, none⟩ = some (I bytes)) (h0 : 0 ≤ n ∧ n ≤ 1000000)
    (h : ∀ w', Below w.heap.size w w' → k (.bool (decide (bytes < needsI l (n + 1)))) w') :
    callW Try.prog (.func (.func 42) #[] #[.pointer (some ⟨bn, 0, none⟩), .pointer (some ⟨bb, 0, none⟩)]) #[I n] k w := C42 _ _ _ _ _ (by
  unfold S42
  rw [drewW_eq]
  refine ⟨fun w' => Below w.heap.size w w', below_drew w, ?_⟩
  rw [xld60 (w := w.drew) (v := .func (.func 40) #[] #[.pointer (some ⟨bx, 0, none⟩)]) hn, t_add, wrap_id (by omega)]
  rw [tld3 (w := w.drew) (v := I bytes) hb (fun w' hw' => World.cell?_of_block (w := w) (hw'.block bb (World.block_lt_of_cell? w _ hb)))]
  refine c40 (v := v) hc hs.drew hw hl (by omega) ?_
  rw [keepS_eq]
  refine ⟨below_drew w, ?_⟩
  rw [t_gtr]
  exact h _ (below_drew w))
/-- the row of zeros that make lays -/
theorem OwnS.zeros {w' : World} {base g n : Nat} (h : w'.ownsRow base 3 1 (.slice (some ⟨g, 0, none⟩) n n) n (madeCells (Value.int .i64 0).cells (n * 1)).toList) : OwnS fI w' base 3 g n (List.replicate n (0 : Int)) := by
  unfold OwnS
  have : flat fI (List.replicate n (0 : Int)) = (madeCells (Value.int .i64 0).cells (n * 1)).toList := by
    rw [show (Value.int .i64 0).cells = #[Value.int .i64 0] from rfl, toList_madeCells_one, Nat.mul_one]
    clear h
    induction n with
    | zero => rfl
    | succ n ih =>
      rw [List.replicate_succ, List.replicate_succ, flat, ih]; rfl
  rw [this, List.length_replicate]
  exact h
theorem mostI_snoc : ∀ (l : List Int) (x : Int), (∀ y ∈ l, 0 ≤ y) → 0 ≤ x → mostI (l ++ [x]) = max (mostI l) x
  | [], x, _, hx => by simp [mostI]; omega
  | y :: r, x, h, hx => by
    simp only [List.cons_append, mostI]
    rw [mostI_snoc r x (fun z hz => h z (by simp [hz])) hx]
    omega
theorem mostI_range : ∀ (l : List Int), okW l → 0 ≤ mostI l ∧ mostI l ≤ 1000000
  | [], _ => by simp [mostI]
  | y :: r, h => by
    have := mostI_range r fun z hz => h z (by simp [hz])
    have h1 := h y (by simp)
    simp only [mostI]; omega
theorem needsI_zero : ∀ (l : List Int), okW l → needsI l 0 = 0
  | [], _ => rfl
  | y :: r, h => by
    have h1 := h y (by simp)
    simp only [needsI, minI, needsI_zero r fun z hz => h z (by simp [hz])]
    split <;> omega
theorem level_of_found {bytes : Int} {l : List Int} {r : Int} (hb : 0 ≤ bytes) (hw : okW l) (h : Found (fun n => decide (bytes < needsI l (n + 1))) (mostI l) r) : IsLevel bytes l r := by
  refine ⟨h.lo, h.hi, ?_, fun hr => by simpa using h.yes hr⟩
  by_cases h0 : 0 < r
  · have := h.no h0
    rw [show r - 1 + 1 = r by omega] at this
    simpa using this
  · have : r = 0 := by have := h.lo; omega
    subst this
    rw [needsI_zero l hw]; exact hb
theorem zeros_set (n i : Nat) (h : i < n) (a : List Int) (ha : a.length = i) (x : Int) : (a ++ List.replicate (n - i) 0).set i x = a ++ [x] ++ List.replicate (n - (i + 1)) 0 := by
  rw [List.set_append_right _ _ (by omega), ha, Nat.sub_self, show n - i = (n - (i + 1)) + 1 by omega, List.replicate_succ]
  simp
theorem s24 {v : Value} {bytes : Int} {l : List Int} (hs : IsSl fI w v l) (hl : l.length ≤ maxLen)
    (hbad : ∀ w', Below w.heap.size w w' → ¬ (0 ≤ bytes ∧ bytes ≤ 1000000 ∧ l.length ≤ 8 ∧ okW l) → k (.tuple #[.slice none 0 0, I 240]) w')
    (hok : ∀ L v' w', Below w.heap.size w w' → IsLevel bytes l L → 0 ≤ bytes ∧ bytes ≤ 1000000 ∧ l.length ≤ 8 ∧ okW l → IsSl fI w' v' (giveI L (bytes - needsI l L) l) → k (.tuple #[v', I 0]) w') : S24 (I bytes) v k w := by
  unfold S24
  have hv : v.cells.toList = [v] := by obtain ⟨a, c, rfl, _⟩ := hs; rfl
  refine w_boxN fun w1 hb1 hsz1 hr1 => ?_
  refine w_boxN fun w2 hb2' hsz2 hr2 => ?_
  have hb1 := below_trans hb1 hb2'
  replace hr1 := hr1.below hb2'
  rw [hv, hsz1] at hr2
  rw [hsz1]
  have hcb := hr1.cell (i := 0) (u := I bytes) rfl
  have hcw := hr2.cell (i := 0) rfl
  have hsz : w2.heap.size = w.heap.size + 2 := by omega
  have hs2 := hs.below hb1
  refine (ld3 hcb).mpr ?_
  refine c38 ?_
  by_cases h1 : 0 ≤ bytes ∧ bytes ≤ 1000000
  · rw [decide_eq_true h1]
    simp only [Bool.not_true, guardW_ff, pickW_false]
    refine (ld26 hcw).mpr ?_
    rw [len26 hs2, w_gtr]
    by_cases h2 : l.length ≤ 8
    · rw [decide_eq_false (show ¬ ((8 : Int) < (l.length : Int)) by omega)]
      simp only [guardW_ff, pickW_false]
      refine (ld26 hcw).mpr ?_
      refine c39 (p := fun n => !decide (0 ≤ n ∧ n ≤ 1000000)) hs2 hl (fun x w' kk hb hk => c38 (hk w' (Below.refl _ _))) ?_
      intro w3 hb3
      have hb13 := hb1.trans (hb3.mono (by omega))
      cases hany : l.any (fun n => !decide (0 ≤ n ∧ n ≤ 1000000)) with
      | true =>
        rw [condW_true]
        refine hbad _ hb13 fun hh => ?_
        obtain ⟨x, hx, hpx⟩ := List.any_eq_true.1 hany
        have := hh.2.2.2 x hx
        simp at hpx; omega
      | false =>
        rw [condW_false]
        have hw : okW l := fun x hx => by
          have := List.any_eq_false.1 hany x hx
          simpa using this
        have hr1 := hr1.below hb3
        have hr2 := hr2.below hb3
        have hcb3 := hr1.cell (i := 0) (u := I bytes) rfl
        have hcw3 := hr2.cell (i := 0) rfl
        have hs3 := hs2.below hb3
        have hsz3 : w.heap.size + 2 ≤ w3.heap.size := by have := hb3.size; omega
        rw [w_makeFunc]
        refine al60 fun w4 hb4 hsz4 hr4 => ?_
        refine (st60 (by rfl) (hr4.cell (i := 0) rfl) (hr4.free 0)).mpr ?_
        have hr5 := hr4.set 0 (.func (.func 40) #[] #[.pointer (some ⟨w.heap.size + 1, 0, none⟩)])
        have hr51 := (hr1.below hb4).other (b' := w3.heap.size) (by omega) 0 (.func (.func 40) #[] #[.pointer (some ⟨w.heap.size + 1, 0, none⟩)])
        have hr52 := (hr2.below hb4).other (b' := w3.heap.size) (by omega) 0 (.func (.func 40) #[] #[.pointer (some ⟨w.heap.size + 1, 0, none⟩)])
        have hb5 : Below w3.heap.size w3 (w4.setCell ⟨w3.heap.size, 0, none⟩ (.func (.func 40) #[] #[.pointer (some ⟨w.heap.size + 1, 0, none⟩)])) := hb4.setCell (Nat.le_refl _) _
        have hsz5 : (w4.setCell ⟨w3.heap.size, 0, none⟩ (.func (.func 40) #[] #[.pointer (some ⟨w.heap.size + 1, 0, none⟩)])).heap.size = w3.heap.size + 1 := by simp [hsz4]
        generalize w4.setCell ⟨w3.heap.size, 0, none⟩ (.func (.func 40) #[] #[.pointer (some ⟨w.heap.size + 1, 0, none⟩)]) = w5 at *
        have hs5 := hs3.below hb5
        have hb15 := hb13.trans (hb5.mono (by omega))
        refine (ld26 (hr52.cell (i := 0) rfl)).mpr ?_
        refine (len26 hs5).mpr ?_
        refine Loop2.intro (fun n a c w' => ∃ i : Nat, a = I (mostI (l.take i)) ∧ c = I i ∧ i ≤ l.length ∧ n = l.length - i ∧ w' = w5) l.length ⟨0, rfl, rfl, by omega, by omega, rfl⟩ ?_
        rintro n _ _ w' ⟨i, rfl, rfl, hi, rfl, rfl⟩
        rw [w_lss]
        by_cases hlt : i < l.length
        · rw [decide_eq_true (show (i : Int) < l.length by omega), condW_true]
          refine ix26 (x := l[i]) hs5 rfl (by omega) (by simp [hlt]) fun b o hcl => ?_
          refine (ld3 (hcl 0 _ rfl)).mpr ?_
          rw [w_max, w_add, wrap_id (by omega), loopK_self]
          refine ⟨l.length - (i + 1), by omega, i + 1, ?_, by simp [I], by omega, rfl, rfl⟩
          rw [List.take_succ_eq_append_getElem hlt, mostI_snoc _ _ (fun y hy => (hw y (List.mem_of_mem_take hy)).1) (hw l[i] (by simp)).1]
          unfold I
          congr 1
          split <;> omega
        · rw [decide_eq_false (show ¬ (i : Int) < l.length by omega), condW_false, List.take_of_length_le (by omega), w_makeFunc]
          have hmost := mostI_range l hw
          refine C41 _ _ _ _ (s41 (p := fun n => decide (bytes < needsI l (n + 1))) ⟨hmost.1, by omega⟩ ?_ ?_)
          · intro x w' kk h0 hx hb' hk
            exact c42 (v := v) ((hr52.below hb').cell (i := 0) rfl) (hs5.below hb') hw h2 ((hr5.below hb').cell (i := 0) rfl) ((hr51.below hb').cell (i := 0) rfl) ⟨h0, by omega⟩ hk
          · intro L w6 hb6 hfound
            have hlev := level_of_found h1.1 hw hfound
            have hr6 := hr5.below hb6
            have hr61 := hr51.below hb6
            have hr62 := hr52.below hb6
            have hs6 := hs5.below hb6
            have hb16 := hb15.trans (hb6.mono (by have := hb15.size; omega))
            rw [drewW_eq]
            refine ⟨fun w' => Below w6.heap.size w6 w', below_drew w6, ?_⟩
            rw [tld3 (w := w6.drew) (v := I bytes) (hr61.cell (i := 0) rfl) (fun w' hw' => World.cell?_of_block (w := w6) (hw'.block w.heap.size hr61.lt))]
            rw [xld60 (w := w6.drew) (hr6.cell (i := 0) rfl)]
            refine c40 (w := w6.drew) (v := v) (hr62.cell (i := 0) rfl) hs6.drew hw h2 hlev.lo ?_
            rw [keepS_eq]
            refine ⟨below_drew w6, ?_⟩
            have hnr := needsI_range (l := l) hw hlev.lo
            rw [t_sub, wrap_id (by have := hlev.fits; omega)]
            refine (ld26 (hr62.drew.cell (i := 0) rfl)).mpr ?_
            refine (len26 hs6.drew).mpr ?_
            refine w_make (base := w6.drew.heap.size) sty26 (by omega) (by unfold maxLen; omega) (Nat.le_refl _) fun w7 ho7 hg7 => ?_
            have ho7 := OwnS.zeros ho7
            have hb67 : Below w6.heap.size w6 w7 := below_grown (B := w6.heap.size) (below_drew w6) (Nat.le_refl _) hg7 (by simp)
            have hr72 := hr62.below hb67
            have hs7 := hs6.below hb67
            refine (ld26 (hr72.cell (i := 0) rfl)).mpr ?_
            refine (len26 hs7).mpr ?_
            generalize hg : w6.drew.heap.size = g at *
            have hgw : w6.heap.size = g := hg
            refine Loop2.intro (fun n a c w' => ∃ i : Nat, a = I (leftI L (bytes - needsI l L) (l.take i)) ∧ c = I i ∧ i ≤ l.length ∧ n = l.length - i ∧ Below w6.heap.size w6 w' ∧
              OwnS fI w' g 3 g l.length (giveI L (bytes - needsI l L) (l.take i) ++ List.replicate (l.length - i) 0)) l.length ⟨0, rfl, rfl, by omega, by omega, hb67, by simpa [giveI] using ho7⟩ ?_
            rintro n _ _ w' ⟨i, rfl, rfl, hi, rfl, hb', ho⟩
            have hgl : (giveI L (bytes - needsI l L) (l.take i)).length = i := by rw [giveI_length, List.length_take]; omega
            have hlenO : (giveI L (bytes - needsI l L) (l.take i) ++ List.replicate (l.length - i) (0 : Int)).length = l.length := by rw [List.length_append, giveI_length]; simp; omega
            rw [w_lss]
            by_cases hlt : i < l.length
            · rw [decide_eq_true (show (i : Int) < l.length by omega), condW_true, joinW_eq]
              refine ix26 (x := l[i]) (hs6.below hb') rfl (by omega) (by simp [hlt]) fun b o hcl => ?_
              refine (ld3 (hcl 0 _ rfl)).mpr ?_
              rw [w_minI, ixz26 hlt]
              have hx0 : (giveI L (bytes - needsI l L) (l.take i) ++ List.replicate (l.length - i) (0 : Int))[i]? = some 0 := by
                rw [List.getElem?_append_right (by omega), hgl, Nat.sub_self, List.getElem?_replicate, if_pos (by omega)]
              obtain ⟨ho8, hg8, old, hold⟩ := ho.store rfl hx0 (y := minI l[i] L) (u := I (minI l[i] L)) rfl
              refine (st3 (by rfl) hold (ho.free i)).mpr ?_
              have hb8 : Below w6.heap.size w6 (w'.setCell ⟨g, i, none⟩ (I (minI l[i] L))) := hb'.setCell (by show w6.heap.size ≤ g; omega) _
              generalize w'.setCell ⟨g, i, none⟩ (I (minI l[i] L)) = w8 at *
              rw [zeros_set _ _ hlt _ hgl] at ho8
              have hleft := leftI_range L (l.take i) (bytes - needsI l L) (by have := hlev.fits; omega)
              have htk := List.take_succ_eq_append_getElem hlt
              rw [w_gtr]
              have fin : ∀ (x left : Int) (w9 : World), giveI L (leftI L (bytes - needsI l L) (l.take i)) [l[i]] = [x] → leftI L (leftI L (bytes - needsI l L) (l.take i)) [l[i]] = left → Below w6.heap.size w6 w9 →
                  OwnS fI w9 g 3 g l.length (giveI L (bytes - needsI l L) (l.take i) ++ [x] ++ List.replicate (l.length - (i + 1)) 0) →
                  ∃ m, m < l.length - i ∧ ∃ i' : Nat, I left = I (leftI L (bytes - needsI l L) (l.take i')) ∧ I ((i : Int) + 1) = I i' ∧ i' ≤ l.length ∧ m = l.length - i' ∧ Below w6.heap.size w6 w9 ∧
                    OwnS fI w9 g 3 g l.length (giveI L (bytes - needsI l L) (l.take i') ++ List.replicate (l.length - i') 0) := fun x left w9 hgv hlf hb9 ho9 =>
                ⟨l.length - (i + 1), by omega, i + 1, by rw [htk, leftI_app, hlf], by simp [I], by omega, rfl, hb9, by rw [htk, giveI_app, hgv]; exact ho9⟩
              have hmx := hw l[i] (by simp)
              have hmn : 0 ≤ minI l[i] L ∧ minI l[i] L ≤ 1000000 := by unfold minI; have := hlev.lo; split <;> omega
              by_cases hgt : L < l[i]
              · rw [decide_eq_true hgt]
                simp only [guardW_tt, pickW_true]
                rw [w_gtr]
                by_cases hpos : 0 < leftI L (bytes - needsI l L) (l.take i)
                · rw [decide_eq_true hpos, condW_true]
                  rw [ixz26 hlt]
                  have hx1 : (giveI L (bytes - needsI l L) (l.take i) ++ [minI l[i] L] ++ List.replicate (l.length - (i + 1)) (0 : Int))[i]? = some (minI l[i] L) := by
                    rw [List.append_assoc, List.getElem?_append_right (by omega), hgl, Nat.sub_self]; rfl
                  refine (ld3 (by simpa [fI] using ho8.cell hx1 0 _ rfl)).mpr ?_
                  rw [w_add, wrap_id (by omega), ixz26 hlt]
                  obtain ⟨ho9, hg9, old', hold'⟩ := ho8.store rfl hx1 (y := minI l[i] L + 1) (u := I (minI l[i] L + 1)) rfl
                  refine (st3 (by rfl) hold' (ho8.free i)).mpr ?_
                  have hb9 : Below w6.heap.size w6 (w8.setCell ⟨g, i, none⟩ (I (minI l[i] L + 1))) := hb8.setCell (by show w6.heap.size ≤ g; omega) _
                  generalize w8.setCell ⟨g, i, none⟩ (I (minI l[i] L + 1)) = w9 at *
                  rw [w_sub, wrap_id (by omega), w_add, wrap_id (by omega), loopK_self]
                  refine fin (minI l[i] L + 1) _ w9 ?_ ?_ hb9 ?_
                  · simp [giveI, hgt, hpos]
                  · simp [leftI, hgt, hpos]
                  · rw [List.append_assoc, List.set_append_right _ _ (by omega), hgl, Nat.sub_self] at ho9
                    simpa using ho9
                · rw [decide_eq_false hpos, condW_false, w_add, wrap_id (by omega), loopK_self]
                  refine fin (minI l[i] L) _ w8 ?_ ?_ hb8 ho8
                  · simp [giveI, hpos]
                  · simp [leftI, hpos]
              · rw [decide_eq_false hgt]
                simp only [guardW_ft, pickW_false, condW_false]
                rw [w_add, wrap_id (by omega), loopK_self]
                refine fin (minI l[i] L) _ w8 ?_ ?_ hb8 ho8
                · simp [giveI, hgt]
                · simp [leftI, hgt]
            · rw [decide_eq_false (show ¬ (i : Int) < l.length by omega), condW_false]
              rw [List.take_of_length_le (by omega), show l.length - i = 0 by omega, List.replicate_zero, List.append_nil] at ho
              have := ho.sl
              rw [giveI_length] at this
              exact hok L _ _ (hb16.trans (hb'.mono (by have := hb16.size; omega))) hlev ⟨h1.1, h1.2, h2, hw⟩ this
    · rw [decide_eq_true (show ((8 : Int) < (l.length : Int)) by omega)]
      simp only [guardW_tf, pickW_true, condW_true]
      exact hbad _ hb1 fun hh => h2 hh.2.2.1
  · rw [decide_eq_false h1]
    simp only [Bool.not_false, guardW_tf, pickW_true, condW_true]
    exact hbad _ hb1 fun hh => h1 ⟨hh.1, hh.2.1⟩
end
end Go.Proofs.Ytidnjppalebbfaa
