/- Regions whose order is drawn, code, and functions, over the environments' operations. -/
import Derived.Test.YtidnjppalebbfaaVc
import Derived.RangeFuncRecord
import Derived.Still
set_option linter.unusedSimpArgs false
set_option linter.unusedVariables false
namespace Go.V
open Go

/-! ### whatever order is drawn -/
section
variable {P : Program} {ops : Array Oper} {S : World → Prop}
/-- Operation number i is carried out (or passed over). -/
def opX (P : Program) (ops : Array Oper) (i : Nat) (K : Act → World → Prop) (a : Act) (w : World) : Prop :=
  match ops[i]? with
  | none => K a w
  | some o => if Region.wanted o (yielded ops a.tmps) then isDefer o.op = false ∧ nextW P (fun v w' => K (a.put o.dst v) w') ((execOp a.eval o).run P w) else K (a.put o.dst undef) w
theorem nextW_mono {k k' : Value → World → Prop} (h : ∀ v w, k v w → k' v w) {r : Result Next} (hr : nextW P k r) : nextW P k' r := by
  unfold nextW at hr ⊢
  split at hr
  · exact h _ _ hr
  · exact h _ _ hr
  · exact Calls.mono hr fun e w' he => by cases e <;> first | exact h _ _ he | exact he.elim
  · exact RoundIn.mono hr fun e w' he => by cases e <;> first | exact h _ _ he | exact he.elim
  · exact hr.elim
theorem opX_mono {i : Nat} {a : Act} {w : World} {K K' : Act → World → Prop} (h : ∀ a w, K a w → K' a w) (hh : opX P ops i K a w) : opX P ops i K' a w := by
  unfold opX at *
  split
  · rename_i ho; simp only [ho] at hh; exact h _ _ hh
  · rename_i o ho
    simp only [ho] at hh
    split
    · rename_i hw; simp only [hw, if_true] at hh; exact ⟨hh.1, nextW_mono (fun v w' => h _ _) hh.2⟩
    · rename_i hw; simp only [hw] at hh; exact h _ _ hh
theorem opIn_of_opX {ro : Option Nat} {m i : Nat} {Q : Exit → Act → World → Prop} {K : Act → World → Prop} {a : Act} {w : World} (h : opX P ops i K a w) : wpOpIn (FW ro) m P ops Q i K a w := by
  unfold opX at h
  unfold wpOpIn
  split
  · rename_i ho; simp only [ho] at h; exact h
  · rename_i o ho
    simp only [ho] at h
    split
    · rename_i hw
      simp only [hw, if_true] at h
      refine ⟨fun _ _ => trivial, ?_⟩
      rw [Oper.semAt_eq _ _ _ fun c hc => by rw [hc] at h; exact absurd h.1 (by simp [isDefer])]
      exact upon_of_next (n := 0) h.2
    · rename_i hw; simp only [hw] at h; exact ⟨fun _ _ => trivial, h⟩
def anyX (P : Program) (ops : Array Oper) (R : Nat → World → World → Prop) (Q : Act → World → Prop) : Nat → Array Bool → Act → World → Prop
  | 0, listed, a, w => Region.ready .any ops listed = [] ∧ Q a w
  | fuel + 1, listed, a, w =>
    (Region.ready .any ops listed = [] → Q a w) ∧
    ∀ i ∈ Region.ready .any ops listed, opX P ops i (fun a' w' => R i w w' ∧ anyX P ops R Q fuel (listed.setIfInBounds i true) a' w') a w
theorem anyIn_of_anyX {R : Nat → World → World → Prop} {ro : Option Nat} {m : Nat} {Q : Act → World → Prop} {Q' : Exit → Act → World → Prop} (hQ : ∀ a w, Q a w → Q' .normal a w) : ∀ (fuel : Nat) (listed : Array Bool) (a : Act) (w : World),
    anyX P ops R Q fuel listed a w → wpAnyIn (FW ro) m P .any ops Q' fuel listed a w
  | 0, _, _, _, h => ⟨h.1, hQ _ _ h.2⟩
  | fuel + 1, _, _, _, h => ⟨fun h0 => hQ _ _ (h.1 h0), fun i hi => opIn_of_opX (opX_mono (fun a' w' h' => anyIn_of_anyX hQ fuel _ a' w' h'.2) (h.2 i hi))⟩
/-- In every world of S the operation leaves v in its slot and does nothing else. -/
def YieldsS (P : Program) (ops : Array Oper) (S : World → Prop) (o : Oper) (v : Value) (a : Act) : Prop :=
  (Region.wanted o (yielded ops a.tmps) = true ∧ isDefer o.op = false ∧ ∀ w, S w → (execOp a.eval o).run P w = .ok (.value v) w) ∨
  (Region.wanted o (yielded ops a.tmps) = false ∧ v = undef)
theorem YieldsS.opX {i : Nat} {o : Oper} {v : Value} {a : Act} (hi : ops[i]? = some o) (hy : YieldsS P ops S o v a) {K : Act → World → Prop} {w : World} (hS : S w)
    (h : K (a.put o.dst v) w) : opX P ops i K a w := by
  unfold Go.V.opX
  simp only [hi]
  rcases hy with ⟨hw, hd, hv⟩ | ⟨hw, rfl⟩
  · simp only [hw, if_true]; exact ⟨hd, by rw [hv w hS]; exact h⟩
  · simp only [hw, Bool.false_eq_true, if_false]; exact h
theorem YieldsS.of_same {o : Oper} {v : Value} {a a' : Act} (hy : YieldsS P ops S o v a) (he : execOp a'.eval o = execOp a.eval o)
    (hw : Region.wanted o (yielded ops a'.tmps) = Region.wanted o (yielded ops a.tmps)) : YieldsS P ops S o v a' := by
  unfold YieldsS at *
  rw [he, hw]
  exact hy
theorem opX_put {j : Nat} {oi oj : Oper} {v : Value} (hj : ops[j]? = some oj) (hap : oi.apart ops oj = true) (hsi : ∀ cs b, oi.op ≠ .select cs b) (hsj : ∀ cs b, oj.op ≠ .select cs b)
    {K : Act → World → Prop} {a : Act} {w : World} (hy : YieldsS P ops S oi v a) (h : opX P ops j K (a.put oi.dst v) w) :
    opX P ops j (fun a' w' => YieldsS P ops S oi v a' ∧ K (a'.put oi.dst v) w') a w := by
  obtain ⟨h1, h2, h3⟩ := Oper.apart_spec hap
  have keep : ∀ u, YieldsS P ops S oi v (a.put oj.dst u) := fun u => hy.of_same (execOp_put oi hsi a oj.dst u h3) (wanted_put oi a oj.dst u h3)
  unfold opX at *
  simp only [hj] at *
  rw [wanted_put oj a oi.dst v h1] at h
  split
  · rename_i hw
    simp only [hw, if_true] at h
    refine ⟨h.1, ?_⟩
    have h' := h.2
    rw [execOp_put oj hsj a oi.dst v h1] at h'
    exact nextW_mono (fun u w' hu => ⟨keep u, by rw [← Act.put_comm a v u h2]; exact hu⟩) h'
  · rename_i hw
    simp only [hw] at h
    exact ⟨keep _, by rw [← Act.put_comm a v undef h2]; exact h⟩
theorem anyX_first {R : Nat → World → World → Prop} {Q : Act → World → Prop} {i : Nat} {oi : Oper} {v : Value} (hi : ops[i]? = some oi) (hsel : ∀ (j : Nat) (o : Oper) cs b, ops[j]? = some o → o.op ≠ .select cs b)
    (hR : ∀ w, R i w w) :
    ∀ (fuel : Nat) (listed : Array Bool) (a : Act) (w : World),
      (∀ j oj, ops[j]? = some oj → j ≠ i → listed.getD j true = false → (∀ e ∈ oj.after, Region.binds .any e = true → e.on ≠ i) → oi.apart ops oj = true ∧ ∀ w w', S w → R j w w' → S w') →
      i ∈ Region.ready .any ops listed → YieldsS P ops S oi v a → S w →
      anyX P ops R Q fuel (listed.setIfInBounds i true) (a.put oi.dst v) w → anyX P ops R Q (fuel + 1) listed a w := by
  intro fuel
  induction fuel with
  | zero =>
    intro listed a w _ hr hy hS H
    refine ⟨fun h => (by rw [h] at hr; cases hr), fun j hj => ?_⟩
    by_cases hji : j = i
    · subst hji; exact hy.opX hi hS ⟨hR w, H⟩
    · have := ready_mono hj hji
      rw [H.1] at this
      cases this
  | succ fuel ih =>
    intro listed a w hfree hr hy hS H
    refine ⟨fun h => (by rw [h] at hr; cases hr), fun j hj => ?_⟩
    by_cases hji : j = i
    · subst hji; exact hy.opX hi hS ⟨hR w, H⟩
    · have h1 := H.2 j (ready_mono hj hji)
      obtain ⟨hjun, oj, hoj, hall⟩ := mem_ready.1 hj
      have hnot : ∀ e ∈ oj.after, Region.binds .any e = true → e.on ≠ i := fun e he hb heq => by
        have h1 := hall e he hb
        have h0 := (mem_ready.1 hr).1
        rw [heq] at h1
        rcases Nat.lt_or_ge i listed.size with h' | h'
        · simp [h'] at h0 h1; rw [h0] at h1; cases h1
        · simp [Array.getElem?_eq_none h'] at h1
      obtain ⟨hap, hpres⟩ := hfree j oj hoj hji hjun hnot
      have h2 := opX_put hoj hap (fun cs b => hsel i oi cs b hi) (fun cs b => hsel j oj cs b hoj) hy h1
      have hfree' : ∀ k ok, ops[k]? = some ok → k ≠ i → (listed.setIfInBounds j true).getD k true = false →
          (∀ e ∈ ok.after, Region.binds .any e = true → e.on ≠ i) → oi.apart ops ok = true ∧ ∀ w w', S w → R k w w' → S w' := fun k ok hk hki hun hno => by
        refine hfree k ok hk hki ?_ hno
        by_cases hjk : j = k
        · subst hjk; exact hjun
        · rw [getD_set_ne true hjk] at hun; exact hun
      refine opX_mono (fun a' w' h3 => ⟨h3.2.1, ih (listed.setIfInBounds j true) a' w' hfree' (ready_mono hr (Ne.symm hji)) h3.1 (hpres _ _ hS h3.2.1) ?_⟩) h2
      rw [Array.setIfInBounds_comm _ _ hji]
      exact h3.2.2
end

/-! ### what waits for what, in numbers -/
/-- of an operation: the operations for which it waits, the slots at which it looks, the slot that it writes: as bits -/
structure Row where
  after : Nat
  looks : Nat
  dst : Nat
  quiet : Bool
  pure : Bool
def bindsG : Ground → Bool
  | .textOnly _ => false
  | .gcOnly _ => false
  | _ => true
theorem bindsG_eq (e : Edge) : Region.binds .any e = bindsG e.ground := by
  unfold Region.binds bindsG
  cases e.ground <;> rfl
def edgeMask : List Edge → Nat
  | [] => 0
  | e :: r => match bindsG e.ground with | true => Nat.lor (Nat.pow 2 e.on) (edgeMask r) | false => edgeMask r
def looksMask : List Operand → Nat
  | [] => 0
  | .tmp t :: r => Nat.lor (Nat.pow 2 t) (looksMask r)
  | _ :: r => looksMask r
def dstMask : Option Nat → Nat
  | some d => Nat.pow 2 d
  | none => 0
def guardMask (ops : List Oper) : Option (Nat × Bool) → Nat
  | some (j, _) => dstMask (bindO (nth ops j) dstOf)
  | none => 0
/-- operations that only look -/
def isReadOp : Op → Bool
  | .move _ | .assign _ | .pick .. | .load .. | .binOp .. | .unOp .. | .convert .. | .makeInterface .. | .makeFunc .. | .fieldAddr .. | .field .. | .indexAddr .. | .index .. | .extract .. | .nilCheck .. | .slice .. | .lookup .. | .typeAssert .. => true
  | .call { callee := .builtin .len, .. } | .call { callee := .builtin .cap, .. } | .call { callee := .builtin .max, .. } | .call { callee := .builtin .min, .. } => true
  | _ => false
/-- operations that do not look at memory -/
def isPureOp : Op → Bool
  | .move _ | .assign _ | .pick .. | .binOp .. | .unOp .. | .makeFunc .. | .fieldAddr .. | .field .. | .indexAddr .. | .index .. | .extract .. | .nilCheck .. | .slice .. => true
  | .call { callee := .builtin .len, .. } | .call { callee := .builtin .cap, .. } | .call { callee := .builtin .max, .. } | .call { callee := .builtin .min, .. } => true
  | _ => false
def rowOf (ops : List Oper) (o : Oper) : Row := ⟨edgeMask o.after.toList, Nat.lor (looksMask (opnds o.op)) (guardMask ops o.guard), dstMask o.dst, isReadOp o.op, isPureOp o.op⟩
def bit (m j : Nat) : Bool := match Nat.beq (Nat.land m (Nat.pow 2 j)) 0 with | true => false | false => true
def offs (a b : Nat) : Bool := Nat.beq (Nat.land a b) 0
theorem bit_eq (m j : Nat) : bit m j = m.testBit j := by
  have h : Nat.land m (Nat.pow 2 j) = m &&& 2 ^ j := rfl
  unfold bit
  rw [h]
  cases hb : m.testBit j with
  | true =>
    have : ¬ (m &&& 2 ^ j = 0) := fun h0 => by
      have := congrArg (fun x => x.testBit j) h0
      simp [hb] at this
    split
    · rename_i he; exact absurd (Nat.eq_of_beq_eq_true he) this
    · rfl
  | false =>
    have : m &&& 2 ^ j = 0 := by
      apply Nat.eq_of_testBit_eq
      intro i
      simp only [Nat.testBit_and, Nat.zero_testBit, Nat.testBit_two_pow]
      by_cases hij : j = i
      · subst hij; simp [hb]
      · simp [hij]
    split
    · rfl
    · rename_i he; rw [this] at he; cases he
theorem offs_spec {a b : Nat} (h : offs a b = true) (i : Nat) (ha : a.testBit i = true) : b.testBit i = false := by
  have h0 : a &&& b = 0 := Nat.eq_of_beq_eq_true h
  have := congrArg (fun x => x.testBit i) h0
  simp only [Nat.testBit_and, ha, Bool.true_and, Nat.zero_testBit] at this
  exact this
theorem lor_bit (a b i : Nat) : (Nat.lor a b).testBit i = (a.testBit i || b.testBit i) := Nat.testBit_or a b i
theorem pow_bit (d i : Nat) : (Nat.pow 2 d).testBit i = decide (d = i) := by
  have : Nat.pow 2 d = 2 ^ d := rfl
  rw [this, Nat.testBit_two_pow]
theorem edgeMask_bit : ∀ (l : List Edge) (e : Edge), e ∈ l → Region.binds .any e = true → (edgeMask l).testBit e.on = true
  | [], _, h, _ => by cases h
  | x :: r, e, h, hb => by
    simp only [edgeMask]
    cases h with
    | head =>
      rw [bindsG_eq] at hb
      simp only [hb, lor_bit, pow_bit, decide_true, Bool.true_or]
    | tail _ h =>
      have ih := edgeMask_bit r e h hb
      split
      · simp [lor_bit, ih]
      · exact ih
theorem edgeMask_bit' : ∀ (l : List Edge) (k : Nat), (edgeMask l).testBit k = true → ∃ e ∈ l, Region.binds .any e = true ∧ e.on = k
  | [], k, h => by simp [edgeMask] at h
  | x :: r, k, h => by
    simp only [edgeMask] at h
    split at h
    · rename_i hb
      simp only [lor_bit, pow_bit, Bool.or_eq_true, decide_eq_true_eq] at h
      rcases h with h | h
      · exact ⟨x, by simp, by rw [bindsG_eq]; exact hb, h⟩
      · obtain ⟨e, he, h1, h2⟩ := edgeMask_bit' r k h; exact ⟨e, by simp [he], h1, h2⟩
    · obtain ⟨e, he, h1, h2⟩ := edgeMask_bit' r k h; exact ⟨e, by simp [he], h1, h2⟩
theorem looksMask_bit : ∀ (l : List Operand) (t : Nat), Operand.tmp t ∈ l → (looksMask l).testBit t = true
  | [], _, h => by cases h
  | x :: r, t, h => by
    cases h with
    | head => simp [looksMask, lor_bit, pow_bit]
    | tail _ h =>
      have ih := looksMask_bit r t h
      cases x <;> simp [looksMask, lor_bit, ih]
theorem row_looks {ops : Array Oper} {o : Oper} (hs : ∀ cs b, o.op ≠ .select cs b) {t : Nat} (h : t ∈ o.looksAt ops) : (rowOf ops.toList o).looks.testBit t = true := by
  simp only [rowOf, lor_bit]
  unfold Oper.looksAt at h
  rw [List.mem_append] at h
  rcases h with h | h
  · obtain ⟨x, hx, hxt⟩ := List.mem_filterMap.1 h
    cases x <;> simp at hxt
    subst hxt
    rw [looksMask_bit _ _ (mem_opnds hs _ (by simpa using hx))]
    rfl
  · cases hg : o.guard with
    | none => rw [hg] at h; simp at h
    | some jw =>
      obtain ⟨j, want⟩ := jw
      rw [hg] at h
      simp only at h
      simp only [guardMask, nth_eq]
      cases ho : ops[j]? with
      | none => rw [ho] at h; simp at h
      | some oj =>
        rw [ho] at h
        have h1 : ops.toList[j]? = some oj := by simpa using ho
        rw [h1]
        simp only [bindO, dstOf]
        cases hd : oj.dst with
        | none => simp [hd] at h
        | some d => simp [hd] at h; subst h; simp [dstMask, pow_bit]
def apartR (x y : Row) : Bool := match offs x.dst y.looks, offs x.dst y.dst, offs y.dst x.looks with | true, true, true => true | _, _, _ => false
theorem apartR_spec {ops : Array Oper} {x y : Oper} (hx : ∀ cs b, x.op ≠ .select cs b) (hy : ∀ cs b, y.op ≠ .select cs b) (h : apartR (rowOf ops.toList x) (rowOf ops.toList y) = true) : x.apart ops y = true := by
  unfold apartR at h
  split at h
  · rename_i h1 h2 h3
    unfold Oper.apart
    have d1 : ∀ d, x.dst = some d → d ∉ y.looksAt ops ∧ y.dst ≠ some d := fun d hd => by
      have hb : (rowOf ops.toList x).dst.testBit d = true := by simp [rowOf, hd, dstMask, pow_bit]
      refine ⟨fun hm => ?_, fun hm => ?_⟩
      · have := offs_spec h1 d hb; rw [row_looks hy hm] at this; cases this
      · have := offs_spec h2 d hb; simp [rowOf, hm, dstMask, pow_bit] at this
    have d2 : ∀ d, y.dst = some d → d ∉ x.looksAt ops := fun d hd hm => by
      have hb : (rowOf ops.toList y).dst.testBit d = true := by simp [rowOf, hd, dstMask, pow_bit]
      have := offs_spec h3 d hb; rw [row_looks hx hm] at this; cases this
    cases hxd : x.dst with
    | none =>
      cases hyd : y.dst with
      | none => rfl
      | some d => simpa using d2 d hyd
    | some d =>
      obtain ⟨a1, a2⟩ := d1 d hxd
      cases hyd : y.dst with
      | none => simpa using a1
      | some d' =>
        have a3 := d2 d' hyd
        rw [hyd] at a2
        simp only [Bool.and_eq_true]
        refine ⟨⟨by simpa using a1, ?_⟩, by simpa using a3⟩
        simpa using a2
  · cases h

/-! ### plans: which operation is taken first, which may come up -/
/-- takeP: an operation that does not look at memory; takeX: one that looks, and whatever may write waits for it; takeS: one that yields the same in a class of worlds that is never left; run: one that is carried out; alt: whichever comes up -/
inductive Plan where
  | done
  | takeP (i : Nat) (r : Plan)
  | takeX (i : Nat) (r : Plan)
  | takeS (i : Nat) (r : Plan)
  | run (i : Nat) (r : Plan)
  | alt (p q : Plan)
def Plan.heads : Plan → List Nat
  | .run i _ => [i]
  | .alt p q => p.heads ++ q.heads
  | _ => []
def Plan.usesS : Plan → Bool
  | .done => false
  | .takeP _ r => r.usesS
  | .takeX _ r => r.usesS
  | .takeS _ _ => true
  | .run _ r => r.usesS
  | .alt p q => match p.usesS with | true => true | false => q.usesS
def and4 (a b c d : Bool) : Bool := match a, b, c, d with | true, true, true, true => true | _, _, _, _ => false
theorem and4_spec {a b c d : Bool} (h : and4 a b c d = true) : a = true ∧ b = true ∧ c = true ∧ d = true := by
  cases a <;> cases b <;> cases c <;> cases d <;> simp [and4] at h ⊢
def and3 (a b c : Bool) : Bool := match a, b, c with | true, true, true => true | _, _, _ => false
theorem and3_spec {a b c : Bool} (h : and3 a b c = true) : a = true ∧ b = true ∧ c = true := by
  cases a <;> cases b <;> cases c <;> simp [and3] at h ⊢
def memN : List Nat → Nat → Bool
  | [], _ => false
  | a :: r, x => match Nat.beq a x with | true => true | false => memN r x
theorem memN_spec : ∀ {l : List Nat} {x : Nat}, memN l x = true → x ∈ l
  | [], _, h => by cases h
  | a :: r, x, h => by
    simp only [memN] at h
    split at h
    · rename_i hb; rw [Nat.eq_of_beq_eq_true hb]; simp
    · exact List.mem_cons_of_mem _ (memN_spec h)
def subM (a m : Nat) : Bool := Nat.beq (Nat.land a m) a
theorem subM_spec {a m : Nat} (h : subM a m = true) (i : Nat) (ha : a.testBit i = true) : m.testBit i = true := by
  have h0 : a &&& m = a := Nat.eq_of_beq_eq_true h
  have := congrArg (fun x => x.testBit i) h0
  simpa [ha] using this
def readyR (rs : List Row) (m i : Nat) : Bool := match nth rs i with | some r => (match bit m i with | true => false | false => subM r.after m) | none => false
/-- every operation that has not come up waits for i, or is apart from it (and, where 'x' is asked, only looks) -/
def freeR (x : Bool) (r : Row) (i m : Nat) : List Row → Nat → Bool
  | [], _ => true
  | y :: l, j => match (match Nat.beq i j with | true => true | false => (match bit m j with | true => true | false => (match bit y.after i with | true => true | false => (match apartR r y with | true => (match x with | true => y.quiet | false => true) | false => false)))) with
    | true => freeR x r i m l (j + 1)
    | false => false
/-- whatever is ready is among hs -/
def headsR (hs : List Nat) (m : Nat) : List Row → Nat → Bool
  | [], _ => true
  | y :: r, j => match (match bit m j with | true => true | false => (match subM y.after m with | true => memN hs j | false => true)) with
    | true => headsR hs m r (j + 1)
    | false => false
def someReady (rs : List Row) (m : Nat) : List Nat → Bool
  | i :: _ => readyR rs m i
  | [] => false
def isAll (n m : Nat) : Bool := Nat.beq (m + 1) (Nat.pow 2 n)
def planC (rs : List Row) (n : Nat) : Plan → Nat → Bool
  | .done, m => isAll n m
  | .takeP i p, m => match nth rs i with
    | some x => and4 (readyR rs m i) (freeR false x i m rs 0) x.pure (planC rs n p (Nat.lor m (Nat.pow 2 i)))
    | none => false
  | .takeX i p, m => match nth rs i with
    | some x => and4 (readyR rs m i) (freeR true x i m rs 0) true (planC rs n p (Nat.lor m (Nat.pow 2 i)))
    | none => false
  | .takeS i p, m => match nth rs i with
    | some x => and4 (readyR rs m i) (freeR false x i m rs 0) true (planC rs n p (Nat.lor m (Nat.pow 2 i)))
    | none => false
  | .run i p, m => and4 (headsR [i] m rs 0) (readyR rs m i) (loud rs i) (planC rs n p (Nat.lor m (Nat.pow 2 i)))
  | .alt p q, m => and3 (match headsR (p.heads ++ q.heads) m rs 0 with | true => someReady rs m (p.heads ++ q.heads) | false => false) (altC rs n p m) (altC rs n q m)
where
  loud (rs : List Row) (i : Nat) : Bool := match nth rs i with | some x => (match x.quiet with | true => false | false => true) | none => false
  altC (rs : List Row) (n : Nat) : Plan → Nat → Bool
  | .run i p, m => match loud rs i with | true => planC rs n p (Nat.lor m (Nat.pow 2 i)) | false => false
  | .alt p q, m => match altC rs n p m with | true => altC rs n q m | false => false
  | _, _ => false
def rowsOf (ops : List Oper) : List Row := mapL (rowOf ops) ops

/-- the listed ones, as bits -/
def Bits (ops : Array Oper) (listed : Array Bool) (m : Nat) : Prop := listed.size = ops.size ∧ (∀ j, j < ops.size → listed.getD j true = m.testBit j ∧ listed.getD j false = m.testBit j) ∧ ∀ j, ops.size ≤ j → m.testBit j = false
theorem Bits.set {ops : Array Oper} {listed : Array Bool} {m : Nat} (h : Bits ops listed m) {i : Nat} (hi : i < ops.size) : Bits ops (listed.setIfInBounds i true) (Nat.lor m (Nat.pow 2 i)) := by
  refine ⟨by simp [h.1], fun j hj => ?_, fun j hj => by rw [lor_bit, pow_bit, h.2.2 j hj]; simp; omega⟩
  have := h.2.1 j hj
  rw [lor_bit, pow_bit]
  by_cases hij : i = j
  · subst hij; simp [h.1, hi]
  · simp only [hij, decide_false, Bool.or_false]
    rw [getD_set_ne true hij, getD_set_ne false hij]; exact this
theorem Bits.init (ops : Array Oper) : Bits ops (Array.replicate ops.size false) 0 := by
  refine ⟨by simp, fun j hj => ?_, fun j _ => by simp⟩
  simp [hj]
section
variable {ops : Array Oper}
theorem nth_rows {i : Nat} {x : Row} (h : nth (rowsOf ops.toList) i = some x) : ∃ o, ops[i]? = some o ∧ x = rowOf ops.toList o := by
  rw [nth_eq, rowsOf, mapL_eq] at h
  simp at h
  obtain ⟨o, ho, rfl⟩ := h
  exact ⟨o, ho, rfl⟩
theorem nth_rows' {i : Nat} {o : Oper} (h : ops[i]? = some o) : nth (rowsOf ops.toList) i = some (rowOf ops.toList o) := by
  rw [nth_eq, rowsOf, mapL_eq]; simp [h]
theorem ready_of {listed : Array Bool} {m i : Nat} (hB : Bits ops listed m) (h : readyR (rowsOf ops.toList) m i = true) : i ∈ Region.ready .any ops listed := by
  unfold readyR at h
  split at h
  · rename_i x hx
    obtain ⟨o, ho, rfl⟩ := nth_rows hx
    have hlt : i < ops.size := (Array.getElem?_eq_some_iff.1 ho).1
    split at h
    · cases h
    · rename_i hbit
      rw [bit_eq] at hbit
      refine mem_ready.2 ⟨by rw [(hB.2.1 i hlt).1, hbit], o, ho, fun e he hb => ?_⟩
      have h1 := subM_spec h e.on (edgeMask_bit _ e (by simpa using he) hb)
      by_cases hlt' : e.on < ops.size
      · rw [(hB.2.1 _ hlt').2, h1]
      · exfalso
        rw [hB.2.2 _ (by omega)] at h1; cases h1
  · cases h
theorem of_ready {listed : Array Bool} {m i : Nat} (hB : Bits ops listed m) (h : i ∈ Region.ready .any ops listed) :
    ∃ o, ops[i]? = some o ∧ i < ops.size ∧ m.testBit i = false ∧ subM (rowOf ops.toList o).after m = true := by
  obtain ⟨h0, o, ho, hall⟩ := mem_ready.1 h
  have hlt : i < ops.size := (Array.getElem?_eq_some_iff.1 ho).1
  refine ⟨o, ho, hlt, by rw [← (hB.2.1 i hlt).1]; exact h0, ?_⟩
  unfold subM
  have : (edgeMask o.after.toList) &&& m = edgeMask o.after.toList := by
    apply Nat.eq_of_testBit_eq
    intro k
    simp only [Nat.testBit_and]
    cases hk : (edgeMask o.after.toList).testBit k with
    | false => rfl
    | true =>
      obtain ⟨e, he, hb, hek⟩ := edgeMask_bit' _ _ hk
      have h1 := hall e (by simpa using he) hb
      rw [hek] at h1
      have hlt' : k < ops.size := by
        rcases Nat.lt_or_ge k ops.size with h' | h'
        · exact h'
        · simp [Array.getElem?_eq_none (show listed.size ≤ k by rw [hB.1]; exact h')] at h1
      rw [← (hB.2.1 k hlt').2, h1]; rfl
  have h2 : Nat.land (rowOf ops.toList o).after m = (rowOf ops.toList o).after := this
  rw [h2]; exact Nat.beq_refl _
theorem free_of {x : Bool} {r : Row} {i m : Nat} : ∀ (rs : List Row) (j0 : Nat), freeR x r i m rs j0 = true → ∀ k y, nth rs k = some y → j0 + k ≠ i → m.testBit (j0 + k) = false → y.after.testBit i = false → apartR r y = true ∧ (x = true → y.quiet = true)
  | [], _, _, k, y, hy, _, _, _ => by simp [nth] at hy
  | z :: l, j0, h, k, y, hy, hne, hm, ha => by
    simp only [freeR] at h
    split at h
    · rename_i h1
      cases k with
      | zero =>
        simp only [nth, Option.some.injEq] at hy
        subst hy
        simp only [Nat.add_zero] at hne hm
        have hb : Nat.beq i j0 = false := by
          cases hb : Nat.beq i j0 with
          | false => rfl
          | true => exact absurd (Nat.eq_of_beq_eq_true hb).symm hne
        simp only [hb, bit_eq, hm, ha] at h1
        split at h1
        · rename_i hap
          refine ⟨hap, fun hx => ?_⟩
          subst hx
          exact h1
        · cases h1
      | succ k =>
        simp only [nth] at hy
        exact free_of l (j0 + 1) h k y hy (by omega) (by rw [show j0 + 1 + k = j0 + (k + 1) by omega]; exact hm) ha
    · cases h
theorem heads_of {hs : List Nat} {m : Nat} : ∀ (rs : List Row) (j0 : Nat), headsR hs m rs j0 = true → ∀ k y, nth rs k = some y → m.testBit (j0 + k) = false → subM y.after m = true → (j0 + k) ∈ hs
  | [], _, _, k, y, hy, _, _ => by simp [nth] at hy
  | z :: r, j0, h, k, y, hy, hm, ha => by
    simp only [headsR] at h
    split at h
    · rename_i h1
      cases k with
      | zero =>
        simp only [nth, Option.some.injEq] at hy
        subst hy
        simp only [Nat.add_zero] at hm ⊢
        simp only [bit_eq, hm, ha] at h1
        exact memN_spec h1
      | succ k =>
        simp only [nth] at hy
        have := heads_of r (j0 + 1) h k y hy (by rw [show j0 + 1 + k = j0 + (k + 1) by omega]; exact hm) ha
        rw [show j0 + 1 + k = j0 + (k + 1) by omega] at this
        exact this
    · cases h
theorem all_of {listed : Array Bool} {m : Nat} (hB : Bits ops listed m) (h : isAll ops.size m = true) : Region.ready .any ops listed = [] := by
  cases hr : Region.ready .any ops listed with
  | nil => rfl
  | cons i t =>
    exfalso
    obtain ⟨o, ho, hlt, hm, _⟩ := of_ready hB (i := i) (by rw [hr]; simp)
    have : m + 1 = 2 ^ ops.size := Nat.eq_of_beq_eq_true h
    have h2 : m = 2 ^ ops.size - 1 := by omega
    rw [h2, Nat.testBit_two_pow_sub_one] at hm
    simp at hm
    omega
end

/-- A value that is the same in every world of S. -/
structure takeW (P : Program) (S : World → Prop) (s : Sem Value) (K : Value → Prop) (w : World) : Prop where
  out : match s.run P w with
    | .ok v w' => w' = w ∧ (∀ w', S w' → s.run P w' = .ok v w') ∧ K v
    | .halt _ _ => False
structure pickT (c a b : Value) (K : Value → Prop) : Prop where
  out : match c with
    | .bool true => K a
    | .bool false => K b
    | _ => False
structure nilT (x : Value) (K : Value → Prop) : Prop where
  out : match x with
    | .pointer (some _) => K x
    | .func (.func _) _ _ => K x
    | .func (.yield _) _ _ => K x
    | .iface _ _ => K x
    | _ => False
def takeOp (P : Program) (S : World → Prop) (e : Env) (o : Oper) (K : Value → Prop) (w : World) : Prop :=
  match semOf e o with
  | some s => takeW P S s K w
  | none =>
    match o.op with
    | .move x | .assign x => K (e.eval x)
    | .pick c a b => pickT (e.eval c) (e.eval a) (e.eval b) K
    | .nilCheck x => nilT (e.eval x) K
    | _ => False
structure guardT (g : Option Value × Bool) (run : (Value → Prop) → Prop) (K : Value → Prop) : Prop where
  out : match g with
    | (some (.bool b), want) => match eqB b want with | true => run K | false => K undef
    | (some (.tuple _), _) => K undef
    | _ => False
def guardTV (g : Option (Option Value × Bool)) (run : (Value → Prop) → Prop) (K : Value → Prop) : Prop :=
  match g with
  | none => run K
  | some g => guardT g run K
/-- any world -/
def anyW (_ : World) : Prop := True
/-- just this world -/
def sameW (w : World) (w' : World) : Prop := w' = w
/-- S, where it is used -/
structure keepS (S : World → Prop) (K : World → Prop) (w : World) : Prop where
  out : S w ∧ K w
def keepV (u : Bool) (S : World → Prop) (K : World → Prop) (w : World) : Prop := match u with | true => keepS S K w | false => K w
/-- A region by its plan, in a class S of worlds. -/
def vcPlan (P : Program) (n : Nat) (ops : List Oper) (u : Bool) (S : World → Prop) (K : Env → World → Prop) : Plan → Env → World → Prop
  | .done, e, w => K e w
  | .takeP i r, e, w =>
    match nth ops i with
    | some o =>
      match e.hasAll (opnds o.op), okDst n o.dst with
      | true, true => guardTV (guardOf ops e o) (fun k => takeOp P anyW e o k w) (fun v => vcPlan P n ops u S K r (e.put o.dst v) w)
      | _, _ => False
    | none => False
  | .takeX i r, e, w =>
    match nth ops i with
    | some o =>
      match e.hasAll (opnds o.op), okDst n o.dst with
      | true, true => guardTV (guardOf ops e o) (fun k => takeOp P (sameW w) e o k w) (fun v => vcPlan P n ops u S K r (e.put o.dst v) w)
      | _, _ => False
    | none => False
  | .takeS i r, e, w =>
    match nth ops i with
    | some o =>
      match e.hasAll (opnds o.op), okDst n o.dst with
      | true, true => guardTV (guardOf ops e o) (fun k => takeOp P S e o k w) (fun v => vcPlan P n ops u S K r (e.put o.dst v) w)
      | _, _ => False
    | none => False
  | .run i r, e, w =>
    match nth ops i with
    | some o =>
      match e.hasAll (opnds o.op), okDst n o.dst with
      | true, true => guardV (guardOf ops e o) (vcOp P e o) (fun v w' => keepV u S (fun w'' => vcPlan P n ops u S K r (e.put o.dst v) w'') w') w
      | _, _ => False
    | none => False
  | .alt p q, e, w => vcPlan P n ops u S K p e w ∧ vcPlan P n ops u S K q e w

theorem takeOp_spec {P : Program} {S : World → Prop} {e : Env} {o : Oper} {K : Value → Prop} {w : World} (h : takeOp P S e o K w) :
    isDefer o.op = false ∧ ∃ v, (∀ w, S w → (execOp e.eval o).run P w = .ok (.value v) w) ∧ K v := by
  refine ⟨by cases ho : o.op <;> first | rfl | (unfold takeOp semOf at h; simp only [ho] at h), ?_⟩
  unfold takeOp at h
  split at h
  · rename_i s hs
    replace h := h.out
    split at h
    · rename_i v w' hr
      obtain ⟨_, hv, hK⟩ := h
      refine ⟨v, fun w hw => ?_, hK⟩
      rw [semOf_exec hs]
      simp only [Sem.run_bind, Result.andThen, hv w hw]
      rfl
    · exact h.elim
  · obtain ⟨dst, op, type, pos, after, guard⟩ := o
    cases op <;> simp only at h
    case move x => exact ⟨_, fun w _ => rfl, h⟩
    case assign x => exact ⟨_, fun w _ => rfl, h⟩
    case pick c a b =>
      replace h := h.out
      split at h
      · rename_i hc; exact ⟨_, fun w _ => by simp only [execOp, hc]; rfl, h⟩
      · rename_i hc; exact ⟨_, fun w _ => by simp only [execOp, hc]; rfl, h⟩
      · exact h.elim
    case nilCheck x =>
      replace h := h.out
      split at h
      · rename_i hc; exact ⟨_, fun w _ => by simp only [execOp, hc]; rfl, hc ▸ h⟩
      · rename_i hc; exact ⟨_, fun w _ => by simp only [execOp, hc]; rfl, hc ▸ h⟩
      · rename_i hc; exact ⟨_, fun w _ => by simp only [execOp, hc]; rfl, hc ▸ h⟩
      · rename_i hc; exact ⟨_, fun w _ => by simp only [execOp, hc]; rfl, hc ▸ h⟩
      · exact h.elim
    all_goals exact h.elim

/-- a guard, of values alone -/
theorem guardT_W {g : Option (Option Value × Bool)} {run : (Value → Prop) → Prop} {K : Value → Prop} {w : World} (h : guardTV g run K) :
    guardV g (fun k _ => run fun v => k v w) (fun v _ => K v) w := by
  cases g with
  | none => exact h
  | some g => exact ⟨(show guardT g run K from h).out⟩

theorem Agree.of_tmps {n : Nat} {e : Env} {a a' : Act} (h : Agree n e a) (ht : a'.tmps = a.tmps) : Agree n e a' := by
  unfold Agree at *; rw [ht]; exact h
theorem Act.put_ds (a : Act) (d : Option Nat) (v : Value) : (a.put d v).defers = a.defers := by cases d <;> rfl

theorem opX_of_vc {P : Program} {n : Nat} {ops : Array Oper} {e : Env} {a : Act} {i : Nat} {o : Oper} {k : Value → World → Prop} {K : Act → World → Prop} {w : World}
    (hi : ops[i]? = some o) (hA : Agree n e a) (ho : e.hasAll (opnds o.op) = true) (h : guardV (guardOf ops.toList e o) (vcOp P e o) k w)
    (hk : ∀ v w', k v w' → K (a.put o.dst v) w') : opX P ops i K a w := by
  unfold opX
  simp only [hi]
  rcases wanted_env hA h with ⟨hw, hrun⟩ | ⟨hw, hskip⟩
  · have hd := isDefer_of_vcOp hrun
    rw [hw, if_pos rfl]
    refine ⟨hd, ?_⟩
    rw [execOp_env hA ho hd]
    exact nextW_mono (fun v w' => hk v w') (vcOp_exec hrun)
  · rw [hw, if_neg (by simp)]
    exact hk _ _ hskip
theorem okDst_spec {n : Nat} {d : Option Nat} (h : okDst n d = true) : ∀ t, d = some t → t < n := fun t ht => by
  rw [ht] at h; exact Nat.le_of_ble_eq_true (by simpa [okDst, Nat.blt] using h)

section
variable {P : Program} {n : Nat} {ops : Array Oper} {u : Bool} {S : World → Prop} {K : Env → World → Prop} {Q : Act → World → Prop} {ds : List Deferred}
theorem nth_arr {i : Nat} {o : Oper} (h : nth ops.toList i = some o) : ops[i]? = some o := by rw [nth_eq] at h; simpa using h
/-- how many operations have not come up -/
def leftOf (n m : Nat) : Nat := (List.range n).countP fun j => !m.testBit j
theorem leftOf_set {n m i : Nat} (hi : i < n) (hm : m.testBit i = false) : leftOf n (Nat.lor m (Nat.pow 2 i)) + 1 ≤ leftOf n m := by
  unfold leftOf
  have h1 : ∀ l : List Nat, l.countP (fun j => !(Nat.lor m (Nat.pow 2 i)).testBit j) ≤ l.countP (fun j => !m.testBit j) := fun l =>
    List.countP_mono_left fun j _ hj => by
      simp only [lor_bit, pow_bit, Bool.not_or, Bool.and_eq_true] at hj
      exact hj.1
  obtain ⟨l1, l2, hl⟩ := List.append_of_mem (List.mem_range.2 hi)
  rw [hl, List.countP_append, List.countP_append, List.countP_cons, List.countP_cons]
  have ha := h1 l1
  have hb := h1 l2
  have hc : (!(Nat.lor m (Nat.pow 2 i)).testBit i) = false := by simp [lor_bit, pow_bit]
  simp only [hc, hm, Bool.not_false, if_true, Bool.false_eq_true, if_false]
  omega
theorem leftOf_zero (n : Nat) : leftOf n 0 ≤ n := by
  unfold leftOf
  have := List.countP_le_length (p := fun j => !Nat.testBit 0 j) (l := List.range n)
  simp
/-- what an operation does to the world: those that look leave it; S is not left -/
def relOf (ops : List Oper) (S : World → Prop) (i : Nat) (w w' : World) : Prop := (∀ x, nth (rowsOf ops) i = some x → x.quiet = true → w' = w) ∧ (S w → S w')
theorem keepV_spec {w : World} (hu : u = false → ∀ w, S w) {K : World → Prop} (h : keepV u S K w) : S w ∧ K w := by
  cases u with
  | true => exact (show keepS S K w from h).out
  | false => exact ⟨hu rfl w, h⟩
/-- what a fork shows of each of its heads -/
theorem vcAlt_spec : ∀ (p : Plan) (m : Nat) (e : Env) (w : World), planC.altC (rowsOf ops.toList) ops.size p m = true → vcPlan P n ops.toList u S K p e w → ∀ i ∈ p.heads,
    ∃ o r, nth ops.toList i = some o ∧ planC.loud (rowsOf ops.toList) i = true ∧ planC (rowsOf ops.toList) ops.size r (Nat.lor m (Nat.pow 2 i)) = true ∧ e.hasAll (opnds o.op) = true ∧ okDst n o.dst = true ∧
      guardV (guardOf ops.toList e o) (vcOp P e o) (fun v w' => keepV u S (fun w'' => vcPlan P n ops.toList u S K r (e.put o.dst v) w'') w') w
  | .done, _, _, _, h, _, _, _ => by simp [planC.altC] at h
  | .takeP _ _, _, _, _, h, _, _, _ => by simp [planC.altC] at h
  | .takeX _ _, _, _, _, h, _, _, _ => by simp [planC.altC] at h
  | .takeS _ _, _, _, _, h, _, _, _ => by simp [planC.altC] at h
  | .run j r, m, e, w, hc, h, i, hi => by
    simp only [Plan.heads, List.mem_singleton] at hi
    subst hi
    simp only [vcPlan] at h
    simp only [planC.altC] at hc
    split at hc
    · rename_i hl
      split at h
      · rename_i o ho
        split at h
        · rename_i h1 h2
          exact ⟨o, r, ho, hl, hc, h1, h2, h⟩
        · exact h.elim
      · exact h.elim
    · cases hc
  | .alt p q, m, e, w, hc, h, i, hi => by
    simp only [vcPlan] at h
    simp only [Plan.heads, List.mem_append] at hi
    simp only [planC.altC] at hc
    split at hc
    · rename_i hc1
      rcases hi with hi | hi
      · exact vcAlt_spec p m e w hc1 h.1 i hi
      · exact vcAlt_spec q m e w hc h.2 i hi
    · cases hc

theorem vcPlan_sound (hsel : Region.noSelect ops = true) (hu : u = false → ∀ w, S w) (hQ : ∀ e' a' w', Agree n e' a' → a'.defers = ds → K e' w' → Q a' w') :
    ∀ (fuel : Nat) (p : Plan) (m : Nat) (listed : Array Bool) (e : Env) (a : Act) (w : World), leftOf ops.size m ≤ fuel → Bits ops listed m → planC (rowsOf ops.toList) ops.size p m = true →
      Agree n e a → a.defers = ds → S w → vcPlan P n ops.toList u S K p e w → anyX P ops (relOf ops.toList S) Q fuel listed a w := by
  have hns : ∀ (i : Nat) (o : Oper), ops[i]? = some o → ∀ cs b, o.op ≠ .select cs b := fun i o ho cs b => Region.noSelect_spec hsel i o cs b ho
  intro fuel
  induction fuel with
  | zero =>
    intro p m listed e a w hm hB hP hA hd hS h
    have absurdReady : ∀ i, readyR (rowsOf ops.toList) m i = true → False := fun i hi => by
      obtain ⟨o, ho, hlt, hbit, _⟩ := of_ready hB (ready_of hB hi)
      have := leftOf_set hlt hbit; omega
    cases p with
    | done => exact ⟨all_of hB hP, hQ _ _ _ hA hd h⟩
    | takeP i r => exfalso; simp only [planC] at hP; split at hP; exact absurdReady i (and4_spec hP).1; cases hP
    | takeX i r => exfalso; simp only [planC] at hP; split at hP; exact absurdReady i (and4_spec hP).1; cases hP
    | takeS i r => exfalso; simp only [planC] at hP; split at hP; exact absurdReady i (and4_spec hP).1; cases hP
    | run i r => exfalso; simp only [planC] at hP; exact absurdReady i (and4_spec hP).2.1
    | alt p q =>
      exfalso
      simp only [planC] at hP
      have h1 := (and3_spec hP).1
      split at h1
      · unfold someReady at h1
        split at h1
        · exact absurdReady _ h1
        · cases h1
      · cases h1
  | succ fuel ih =>
    intro p m listed e a w hm hB hP hA hd hS h
    have fork : ∀ i o r, i < ops.size → m.testBit i = false → planC.loud (rowsOf ops.toList) i = true → nth ops.toList i = some o → planC (rowsOf ops.toList) ops.size r (Nat.lor m (Nat.pow 2 i)) = true → e.hasAll (opnds o.op) = true → okDst n o.dst = true →
        guardV (guardOf ops.toList e o) (vcOp P e o) (fun v w' => keepV u S (fun w'' => vcPlan P n ops.toList u S K r (e.put o.dst v) w'') w') w →
        opX P ops i (fun a' w' => relOf ops.toList S i w w' ∧ anyX P ops (relOf ops.toList S) Q fuel (listed.setIfInBounds i true) a' w') a w := fun i o r hlt hbit hloud hi hr h1 h2 hg =>
      opX_of_vc (nth_arr hi) hA h1 hg fun v w' hv => by
        obtain ⟨hs', hv'⟩ := keepV_spec hu hv
        refine ⟨⟨fun x hx hq => ?_, fun _ => hs'⟩, ih r _ _ _ _ _ (by have := leftOf_set hlt hbit; omega) (hB.set hlt) hr (hA.put _ _ (okDst_spec h2)) (by rw [Act.put_ds, hd]) hs' hv'⟩
        unfold planC.loud at hloud
        rw [hx] at hloud
        simp only [hq] at hloud
        cases hloud
    have take : ∀ (C : World → Prop) (x : Bool) (i : Nat) (r : Plan) (o : Oper), nth ops.toList i = some o → readyR (rowsOf ops.toList) m i = true → freeR x (rowOf ops.toList o) i m (rowsOf ops.toList) 0 = true →
        planC (rowsOf ops.toList) ops.size r (Nat.lor m (Nat.pow 2 i)) = true → e.hasAll (opnds o.op) = true → okDst n o.dst = true → C w →
        (∀ j w1 w2, (x = true → ∀ y, nth (rowsOf ops.toList) j = some y → y.quiet = true) → C w1 → relOf ops.toList S j w1 w2 → j < ops.size → C w2) →
        guardTV (guardOf ops.toList e o) (fun k => takeOp P C e o k w) (fun v => vcPlan P n ops.toList u S K r (e.put o.dst v) w) →
        anyX P ops (relOf ops.toList S) Q (fuel + 1) listed a w := by
      intro C x i r o ho p1 p2 p3 h1 h2 hC hpres h
      have hi := nth_arr ho
      have hready := ready_of hB p1
      obtain ⟨o', ho', hlt, hbit, _⟩ := of_ready hB hready
      have hfree : ∀ j oj, ops[j]? = some oj → j ≠ i → listed.getD j true = false → (∀ e ∈ oj.after, Region.binds .any e = true → e.on ≠ i) →
          o.apart ops oj = true ∧ ∀ w w', C w → relOf ops.toList S j w w' → C w' := by
        intro j oj hj hne hun hno
        have hjlt : j < ops.size := (Array.getElem?_eq_some_iff.1 hj).1
        have hfr := free_of _ 0 p2 j _ (nth_rows' hj) (by simpa using hne) (by rw [Nat.zero_add, ← (hB.2.1 j hjlt).1]; exact hun) (by
          cases hk : (rowOf ops.toList oj).after.testBit i with
          | false => rfl
          | true =>
            obtain ⟨e', he', hb', hon⟩ := edgeMask_bit' _ _ hk
            exact absurd hon (hno e' (by simpa using he') hb'))
        refine ⟨apartR_spec (hns i o hi) (hns j oj hj) hfr.1, fun w1 w2 hc1 hr => hpres j w1 w2 (fun hx y hy => ?_) hc1 hr hjlt⟩
        rw [nth_rows' hj] at hy
        cases hy
        exact hfr.2 hx
      have hT := guardT_W (w := w) h
      have hfin : ∀ v, vcPlan P n ops.toList u S K r (e.put o.dst v) w → anyX P ops (relOf ops.toList S) Q fuel (listed.setIfInBounds i true) (a.put o.dst v) w := fun v hv =>
        ih r _ _ _ _ _ (by have := leftOf_set hlt hbit; omega) (hB.set hlt) p3 (hA.put _ _ (okDst_spec h2)) (by rw [Act.put_ds, hd]) hS hv
      rcases wanted_env hA hT with ⟨hw, hrun⟩ | ⟨hw, hskip⟩
      · obtain ⟨hdf, v, hv, hK⟩ := takeOp_spec hrun
        refine anyX_first (S := C) hi (Region.noSelect_spec hsel) (fun w => ⟨fun _ _ _ => rfl, fun h => h⟩) fuel listed a w hfree hready (.inl ⟨hw, hdf, fun w' hw' => ?_⟩) hC (hfin v hK)
        rw [execOp_env hA h1 hdf]; exact hv w' hw'
      · exact anyX_first (S := C) hi (Region.noSelect_spec hsel) (fun w => ⟨fun _ _ _ => rfl, fun h => h⟩) fuel listed a w hfree hready (.inr ⟨hw, rfl⟩) hC (hfin undef hskip)
    cases p with
    | done =>
      have he' := all_of hB hP
      exact ⟨fun _ => hQ _ _ _ hA hd h, fun i hi => by rw [he'] at hi; cases hi⟩
    | takeP i r =>
      simp only [vcPlan] at h
      split at h
      · rename_i o ho
        split at h
        · rename_i h1 h2
          simp only [planC, nth_rows' (nth_arr ho)] at hP
          obtain ⟨p1, p2, _, p3⟩ := and4_spec hP
          exact take anyW false i r o ho p1 p2 p3 h1 h2 trivial (fun _ _ _ _ _ _ _ => trivial) h
        · exact h.elim
      · exact h.elim
    | takeX i r =>
      simp only [vcPlan] at h
      split at h
      · rename_i o ho
        split at h
        · rename_i h1 h2
          simp only [planC, nth_rows' (nth_arr ho)] at hP
          obtain ⟨p1, p2, _, p3⟩ := and4_spec hP
          refine take (sameW w) true i r o ho p1 p2 p3 h1 h2 rfl (fun j w1 w2 hq hc hr hj => ?_) h
          have hoj : ops[j]? = some ops[j] := by simp [hj]
          have := hr.1 _ (nth_rows' hoj) (hq rfl _ (nth_rows' hoj))
          rw [this]; exact hc
        · exact h.elim
      · exact h.elim
    | takeS i r =>
      simp only [vcPlan] at h
      split at h
      · rename_i o ho
        split at h
        · rename_i h1 h2
          simp only [planC, nth_rows' (nth_arr ho)] at hP
          obtain ⟨p1, p2, _, p3⟩ := and4_spec hP
          exact take S false i r o ho p1 p2 p3 h1 h2 hS (fun j w1 w2 _ hc hr _ => hr.2 hc) h
        · exact h.elim
      · exact h.elim
    | run i r =>
      simp only [vcPlan] at h
      split at h
      · rename_i o ho
        split at h
        · rename_i h1 h2
          simp only [planC] at hP
          obtain ⟨p1, p2, p4, p3⟩ := and4_spec hP
          have hready := ready_of hB p2
          obtain ⟨_, _, hlt, hbit, _⟩ := of_ready hB hready
          have hop := fork i o r hlt hbit p4 ho p3 h1 h2 h
          refine ⟨fun he => ?_, fun j hj => ?_⟩
          · rw [he] at hready; cases hready
          · obtain ⟨oj, hoj, _, hjb, hjs⟩ := of_ready hB hj
            have := heads_of _ 0 p1 j _ (nth_rows' hoj) (by rw [Nat.zero_add]; exact hjb) hjs
            simp only [Nat.zero_add, List.mem_singleton] at this
            subst this; exact hop
        · exact h.elim
      · exact h.elim
    | alt p q =>
      simp only [planC] at hP
      obtain ⟨p1, p2, p3⟩ := and3_spec hP
      simp only [vcPlan] at h
      split at p1
      · rename_i hh
        refine ⟨fun he => ?_, fun j hj => ?_⟩
        · unfold someReady at p1
          split at p1
          · have := ready_of hB p1; rw [he] at this; cases this
          · cases p1
        · obtain ⟨oj, hoj, hjlt, hjb, hjs⟩ := of_ready hB hj
          have hmem := heads_of _ 0 hh j _ (nth_rows' hoj) (by rw [Nat.zero_add]; exact hjb) hjs
          rw [Nat.zero_add, List.mem_append] at hmem
          rcases hmem with hi | hi
          · obtain ⟨o, r, b1, b0, b2, b3, b4, b5⟩ := vcAlt_spec p m e w p2 h.1 j hi
            exact fork j o r hjlt hjb b0 b1 b2 b3 b4 b5
          · obtain ⟨o, r, b1, b0, b2, b3, b4, b5⟩ := vcAlt_spec q m e w p3 h.2 j hi
            exact fork j o r hjlt hjb b0 b1 b2 b3 b4 b5
      · cases p1
end
end Go.V
