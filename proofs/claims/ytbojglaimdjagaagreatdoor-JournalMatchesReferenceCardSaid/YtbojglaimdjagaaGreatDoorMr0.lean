/- Part 1 of the proof of journalMatchesReference: lemmas for it; no condition beyond the statement. -/
import Derived.CallsIn
import Derived.OrdersIn
import Derived.Sort.LoopGhostIn
import Derived.RangeFuncIn
import Derived.RangeFuncCalls
import Derived.KernelRfl
import Derived.RangeFuncRecord
import Derived.Still
import Derived.IntWalk
import Derived.Below
import Derived.Laws.OwnMore
import Derived.Great.BuildSlice
import Derived.Laws.Slices
import Derived.Laws.StructEq
import Derived.Laws.Strings3
import Derived.Laws.Concat
/- A verification-condition generator over the kit's fenced weakest preconditions: environments of known slots, plain rules for code, loops with ghost measures, and regions whose order is drawn. -/
set_option linter.unusedSimpArgs false
set_option linter.unusedVariables false
namespace Go.V
open Go

/-! ### environments -/
abbrev Env := List (Nat × Value)
def Env.get : Env → Nat → Option Value
  | [], _ => none
  | (k, v) :: e, t => match Nat.beq k t with | true => some v | false => Env.get e t
def Env.ev (e : Env) : Operand → Option Value
  | .tmp t => e.get t
  | .const v => some v
  | .global g => some (.pointer (some ⟨g, 0, none⟩))
  | .func f => some (.func (.func f) #[] #[])
def optGet : Option Value → Value
  | some v => v
  | none => undef
def Env.eval (e : Env) (x : Operand) : Value := optGet (e.ev x)
def has : Option Value → Bool
  | some _ => true
  | none => false
def Env.hasAll (e : Env) : List Operand → Bool
  | [] => true
  | x :: r => match has (e.ev x) with | true => Env.hasAll e r | false => false
def Env.keep (e : Env) : List Nat → Env
  | [] => []
  | t :: r => match e.get t with | some v => (t, v) :: Env.keep e r | none => Env.keep e r
def Env.vals (e : Env) : List Nat → List Value
  | [] => []
  | t :: r => optGet (e.get t) :: Env.vals e r
def Env.hasTmps (e : Env) : List Nat → Bool
  | [] => true
  | t :: r => match has (e.get t) with | true => Env.hasTmps e r | false => false
/-- slots 'ts' hold the values 's' -/
def Env.bindAll : List Nat → List Value → Env → Env
  | [], _, e => e
  | t :: r, s, e => (t, s.headD undef) :: Env.bindAll r s.tail e
def Env.put (e : Env) (d : Option Nat) (v : Value) : Env := match d with | some d => (d, v) :: e | none => e

/-- an activation agrees with an environment -/
def Agree (n : Nat) (e : Env) (a : Act) : Prop := a.tmps.size = n ∧ ∀ t v, e.get t = some v → a.tmps.getD t undef = v

theorem Agree.ev {n : Nat} {e : Env} {a : Act} (h : Agree n e a) {x : Operand} (hx : has (e.ev x) = true) : a.eval x = e.eval x := by
  cases x with
  | tmp t =>
    simp only [Env.ev] at hx
    cases ht : e.get t with
    | none => simp [ht, has] at hx
    | some v => simp only [Act.eval, Env.eval, Env.ev, ht, optGet]; exact h.2 t v ht
  | const v => rfl
  | global g => rfl
  | func f => rfl
theorem Agree.evs {n : Nat} {e : Env} {a : Act} (h : Agree n e a) : ∀ {xs : List Operand}, e.hasAll xs = true → ∀ x ∈ xs, a.eval x = e.eval x
  | [], _, x, hx => by cases hx
  | y :: r, hh, x, hx => by
    simp only [Env.hasAll] at hh
    split at hh
    · rename_i h1
      cases hx with
      | head => exact h.ev h1
      | tail _ hx => exact h.evs hh x hx
    · cases hh
theorem Env.get_cons (k : Nat) (v : Value) (e : Env) (t : Nat) : Env.get ((k, v) :: e) t = if k = t then some v else e.get t := by
  simp only [Env.get]
  by_cases h : k = t
  · subst h; simp [Nat.beq_refl]
  · have : Nat.beq k t = false := by
      cases hb : Nat.beq k t with
      | true => exact absurd (Nat.eq_of_beq_eq_true hb) h
      | false => rfl
    simp [this, h]
theorem Agree.put {n : Nat} {e : Env} {a : Act} (h : Agree n e a) (d : Option Nat) (v : Value) (hd : ∀ t, d = some t → t < n) : Agree n (e.put d v) (a.put d v) := by
  cases d with
  | none => exact h
  | some d =>
    refine ⟨by simp [Act.put, h.1], fun t u ht => ?_⟩
    simp only [Env.put] at ht
    rw [Env.get_cons] at ht
    have hlt := hd d rfl
    split at ht
    · rename_i hdt; subst hdt; cases ht; simp [Act.put, Array.getD, h.1, hlt]
    · rename_i hdt
      have := h.2 t u ht
      simp only [Act.put]
      rw [← this]
      simp [Array.getD_eq_getD_getElem?, Array.getElem?_setIfInBounds_ne hdt]
theorem Env.get_keep (e : Env) : ∀ (ts : List Nat) (t : Nat) (v : Value), (e.keep ts).get t = some v → e.get t = some v
  | [], t, v, h => by simp [Env.keep, Env.get] at h
  | s :: r, t, v, h => by
    simp only [Env.keep] at h
    split at h
    · rename_i u hu
      rw [Env.get_cons] at h
      split at h
      · rename_i hst; subst hst; rw [hu]; exact h
      · exact Env.get_keep e r t v h
    · exact Env.get_keep e r t v h
theorem Agree.keep {n : Nat} {e : Env} {a : Act} (h : Agree n e a) (ts : List Nat) : Agree n (e.keep ts) a :=
  ⟨h.1, fun t v ht => h.2 t v (Env.get_keep e ts t v ht)⟩
/-- binding what the slots hold changes nothing that is said of the activation -/
theorem Agree.bindVals {n : Nat} {e e' : Env} {a : Act} (h : Agree n e a) (h' : Agree n e' a) : ∀ (ts : List Nat), e.hasTmps ts = true → Agree n (Env.bindAll ts (e.vals ts) e') a
  | [], _ => h'
  | t :: r, hh => by
    simp only [Env.hasTmps] at hh
    split at hh
    · rename_i h1
      have ih := Agree.bindVals h h' r hh
      refine ⟨h.1, fun s v hs => ?_⟩
      simp only [Env.bindAll, Env.vals, List.headD_cons, List.tail_cons] at hs
      rw [Env.get_cons] at hs
      split at hs
      · rename_i hts
        subst hts
        cases ht : e.get t with
        | none => simp [ht, has] at h1
        | some u => simp only [ht, optGet] at hs; cases hs; exact h.2 _ _ ht
      · exact ih.2 s v hs
    · cases hh

/-! ### operations -/
/-- what is asked of a call's end: it returns, or it panics -/
def retPP (k : Value → World → Prop) (kp : List PanicEntry → World → Prop) : Ending → World → Prop
  | .returned v, w => k v w
  | .panicked ch, w => kp ch w
  | _, _ => False
abbrev noP : List PanicEntry → World → Prop := fun _ _ => False
abbrev retP (k : Value → World → Prop) : Ending → World → Prop := retPP k noP
/-- What is asked of an operation's outcome. -/
def nextP (P : Program) (k : Value → World → Prop) (kp : List PanicEntry → World → Prop) : Result Next → Prop
  | .ok (.value v) w => k v w
  | .ok .skip w => k undef w
  | .ok (.enter f args) w => Calls P f args w (retPP k kp)
  | .ok (.round l f tmps assign body) w => RoundIn Fence.wide 0 P l f tmps assign body w (retPP k kp)
  | .halt (.panic v) w => kp [{ v, recovered := false }] w
  | _ => False
/-- An operation that yields a value. -/
structure opW (P : Program) (s : Sem Value) (k : Value → World → Prop) (w : World) : Prop where
  out : match s.run P w with
    | .ok v w' => k v w'
    | .halt _ _ => False
/-- An operation that yields nothing. -/
structure opU (P : Program) (s : Sem Unit) (k : Value → World → Prop) (w : World) : Prop where
  out : match s.run P w with
    | .ok _ w' => k undef w'
    | .halt _ _ => False
structure pickW (c a b : Value) (k : Value → World → Prop) (w : World) : Prop where
  out : match c with
    | .bool true => k a w
    | .bool false => k b w
    | _ => False
structure condW (c : Value) (t f : Prop) : Prop where
  out : match c with
    | .bool true => t
    | .bool false => f
    | _ => False
/-- A call of a function value. -/
structure callP (P : Program) (f : Value) (args : Array Value) (k : Value → World → Prop) (kp : List PanicEntry → World → Prop) (w : World) : Prop where
  out : nextP P k kp ((do let d ← Deferred.ofValue f args; invoke d.target d.args : Sem Next).run P w)
abbrev callW (P : Program) (f : Value) (args : Array Value) (k : Value → World → Prop) (w : World) : Prop := callP P f args k noP w
/-- a panic of the text -/
structure panicW (x : Value) (kp : List PanicEntry → World → Prop) (w : World) : Prop where
  out : match x with
    | .iface t v => kp [{ v := .iface t v, recovered := false }] w
    | _ => False
structure invokeW (P : Program) (recv : Value) (name : String) (args : Array Value) (k : Value → World → Prop) (kp : List PanicEntry → World → Prop) (w : World) : Prop where
  out : nextP P k kp ((invoke (.fn (.method name) #[]) (#[recv] ++ args)).run P w)
structure nilW (x : Value) (k : Value → World → Prop) (w : World) : Prop where
  out : match x with
    | .pointer (some _) => k x w
    | .func (.func _) _ _ => k x w
    | .func (.yield _) _ _ => k x w
    | .iface _ _ => k x w
    | _ => False

def mapL {α β : Type} (f : α → β) : List α → List β
  | [] => []
  | a :: r => f a :: mapL f r
theorem mapL_eq {α β : Type} (f : α → β) : ∀ l : List α, mapL f l = l.map f
  | [] => rfl
  | a :: r => by simp [mapL, mapL_eq f r]
def optL {α : Type} : Option α → List α
  | some a => [a]
  | none => []
/-- the operands of an operation, as a list (nothing for what is not taken in) -/
def opnds : Op → List Operand
  | .alloc _ | .ready _ | .waits _ => []
  | .move x | .assign x | .box _ x | .load _ x | .nilCheck x | .unOp _ _ x | .convert _ _ x | .sliceToArrayPointer _ x | .makeInterface _ x
  | .makeChan _ x | .fieldAddr _ x _ | .field _ x _ | .range _ x | .next x _ | .entry x | .typeAssert x _ _ _ | .extract x _ | .panic x | .recv _ x _ => [x]
  | .pick c a b => [c, a, b]
  | .build _ ps | .buildSlice _ _ ps => mapL (·.2) ps.toList
  | .store _ a v | .binOp _ _ a v _ | .makeSlice _ a v | .indexAddr _ a v | .index _ a v | .lookup _ a v _ | .mapEntry _ a v | .send a v => [a, v]
  | .makeFunc _ first captured => first.toList ++ captured.toList
  | .makeMap _ r => optL r
  | .slice _ x l h m => x :: (optL l ++ (optL h ++ optL m))
  | .mapUpdate _ m k v | .entryStore _ m k v | .insert _ m k v => [m, k, v]
  | .call c | .go c | .defer c => match c.callee with | .value f => f :: c.args.toList | .invoke r _ => r :: c.args.toList | .builtin _ => c.args.toList
  | .select _ _ => []

def evO (e : Env) : Option Operand → Option Value
  | some x => some (e.eval x)
  | none => none
theorem evO_eq (e : Env) (x : Option Operand) : evO e x = x.map e.eval := by cases x <;> rfl
/-- a binary operation, the guard of interfaces ahead of it -/
def binS (op : BinOp) (t : TypeId) (ox oy : Operand) (x y : Value) : Sem Value := do eqGuard op t ox oy x y; binOp op t x y
/-- The operation as a computation of one value, where it is one. -/
def semOf (e : Env) (o : Oper) : Option (Sem Value) :=
  match o.op with
  | .alloc t => some (Instr.alloc t true (.tuple #[]))
  | .box t x => some (Instr.box t (e.eval x))
  | .build t ps => some (Instr.build t ⟨mapL (fun p => (p.1, e.eval p.2)) ps.toList⟩)
  | .buildSlice t n ps => some (Instr.buildSlice t n ⟨mapL (fun p => (p.1, e.eval p.2)) ps.toList⟩)
  | .load t x => some (Instr.loadAt t (e.eval x))
  | .binOp op t x y _ => some (binS op t x y (e.eval x) (e.eval y))
  | .unOp op _ x => some (Op.unary op (e.eval x))
  | .convert s d x => some (convert s d (e.eval x))
  | .sliceToArrayPointer t x => some (Instr.arrayAt t (e.eval x))
  | .makeInterface t x => some (Instr.makeInterface t (e.eval x))
  | .makeFunc fn f c => some (Instr.makeFunc fn ⟨mapL e.eval f.toList⟩ ⟨mapL e.eval c.toList⟩)
  | .makeMap t r => some (Instr.makeMap t (evO e r))
  | .makeSlice t l c => some (Instr.makeSlice t (e.eval l) (e.eval c))
  | .slice t x l h m => some (Instr.sliceAt t (e.eval x) (evO e l) (evO e h) (evO e m))
  | .fieldAddr s x f => some (Instr.fieldAt s (e.eval x) f)
  | .field t x f => some (Instr.field t (e.eval x) f)
  | .indexAddr t x i => some (Instr.indexAt t (e.eval x) (e.eval i))
  | .index t x i => some (Instr.index t (e.eval x) (e.eval i))
  | .lookup t x i ok => some (Instr.lookup t (e.eval x) (e.eval i) ok)
  | .mapEntry t m i => some (Instr.mapEntry t (e.eval m) (e.eval i))
  | .range t x => some (Instr.range t (e.eval x))
  | .next it s => some (Instr.next (e.eval it) s o.type)
  | .entry it => some (Instr.entry (e.eval it))
  | .typeAssert x t u ok => some (Instr.typeAssert (e.eval x) t u ok)
  | .extract x i => some (Instr.extract (e.eval x) i)
  | .call c =>
    match c.callee with
    | .builtin .append => some (Builtin.append_ c.argTypes o.type ⟨mapL e.eval c.args.toList⟩)
    | .builtin .cap => some (Builtin.cap_ c.argTypes o.type ⟨mapL e.eval c.args.toList⟩)
    | .builtin .clear => some (Builtin.clear_ c.argTypes o.type ⟨mapL e.eval c.args.toList⟩)
    | .builtin .copy => some (Builtin.copy_ c.argTypes o.type ⟨mapL e.eval c.args.toList⟩)
    | .builtin .delete => some (Builtin.delete_ c.argTypes o.type ⟨mapL e.eval c.args.toList⟩)
    | .builtin .len => some (Builtin.len_ c.argTypes o.type ⟨mapL e.eval c.args.toList⟩)
    | .builtin .max => some (Builtin.max_ c.argTypes o.type ⟨mapL e.eval c.args.toList⟩)
    | .builtin .min => some (Builtin.min_ c.argTypes o.type ⟨mapL e.eval c.args.toList⟩)
    | _ => none
  | _ => none
/-- One operation in an environment. -/
def vcOp (P : Program) (e : Env) (o : Oper) (kp : List PanicEntry → World → Prop) (k : Value → World → Prop) (w : World) : Prop :=
  match semOf e o with
  | some s => opW P s k w
  | none =>
    match o.op with
    | .move x | .assign x => k (e.eval x) w
    | .pick c a b => pickW (e.eval c) (e.eval a) (e.eval b) k w
    | .store t x y => opU P (Instr.storeAt t (e.eval x) (e.eval y)) k w
    | .nilCheck x => nilW (e.eval x) k w
    | .mapUpdate t m i x | .insert t m i x => opU P (Instr.mapUpdate t (e.eval m) (e.eval i) (e.eval x)) k w
    | .entryStore t m i x => opU P (Instr.entryStore t (e.eval m) (e.eval i) (e.eval x)) k w
    | .call c =>
      match c.callee with
      | .value f => callP P (e.eval f) ⟨mapL e.eval c.args.toList⟩ k kp w
      | .invoke r name => invokeW P (e.eval r) name ⟨mapL e.eval c.args.toList⟩ k kp w
      | .builtin _ => False
    | .panic x => panicW (e.eval x) kp w
    | _ => False

theorem nextW_val (P : Program) (s : Sem Value) (k : Value → World → Prop) (kp : List PanicEntry → World → Prop) (w : World) : opW P s k w → nextP P k kp ((do pure (.value (← s)) : Sem Next).run P w) := by
  intro h
  have h := h.out
  simp only [Sem.run_bind, Result.andThen]
  cases hs : s.run P w <;> rw [hs] at h <;> first | exact h | exact h.elim
theorem nextW_unit (P : Program) (s : Sem Unit) (k : Value → World → Prop) (kp : List PanicEntry → World → Prop) (w : World) : opU P s k w → nextP P k kp ((do s; pure .skip : Sem Next).run P w) := by
  intro h
  have h := h.out
  simp only [Sem.run_bind, Result.andThen]
  cases hs : s.run P w <;> rw [hs] at h <;> first | exact h | exact h.elim
theorem arr_mapL {α β : Type} (f : α → β) (a : Array α) : (⟨mapL f a.toList⟩ : Array β) = a.map f := by
  rw [mapL_eq]; apply Array.ext'; simp
theorem semOf_exec {e : Env} {o : Oper} {s : Sem Value} (h : semOf e o = some s) : execOp e.eval o = (do pure (.value (← s)) : Sem Next) := by
  obtain ⟨dst, op, type, pos, after, guard⟩ := o
  cases op
  case call c =>
    obtain ⟨callee, args, argTypes⟩ := c
    cases callee with
    | value f => simp [semOf] at h
    | invoke r name => simp [semOf] at h
    | builtin b =>
      cases b <;> simp only [semOf, reduceCtorEq, Option.some.injEq] at h
      all_goals (subst h; simp only [execOp, resolve, pure_bind, invoke, builtin, arr_mapL])
  all_goals simp only [semOf, reduceCtorEq, Option.some.injEq] at h
  all_goals (subst h; simp only [execOp, evO_eq, arr_mapL, binS])
/-- What the environment's walk of an operation shows of the machine's. -/
theorem vcOp_exec {P : Program} {e : Env} {o : Oper} {k : Value → World → Prop} {kp : List PanicEntry → World → Prop} {w : World} (h : vcOp P e o kp k w) : nextP P k kp ((execOp e.eval o).run P w) := by
  unfold vcOp at h
  split at h
  · rename_i s hs
    rw [semOf_exec hs]; exact nextW_val _ _ _ _ _ h
  · rename_i hs
    obtain ⟨dst, op, type, pos, after, guard⟩ := o
    cases op <;> simp only [semOf, reduceCtorEq] at hs <;> simp only [execOp, arr_mapL] at h ⊢
    case move x => exact h
    case assign x => exact h
    case pick c a b =>
      have h := h.out
      split at h
      · rename_i hc; rw [hc]; exact h
      · rename_i hc; rw [hc]; exact h
      · exact h.elim
    case nilCheck x =>
      have h := h.out
      split at h
      · rename_i hc; rw [hc] at h ⊢; exact h
      · rename_i hc; rw [hc] at h ⊢; exact h
      · rename_i hc; rw [hc] at h ⊢; exact h
      · rename_i hc; rw [hc] at h ⊢; exact h
      · exact h.elim
    case call c =>
      obtain ⟨callee, args, argTypes⟩ := c
      cases callee with
      | value f => simp only [resolve]; exact h.out
      | invoke r name => simp only [resolve, pure_bind]; exact h.out
      | builtin b => exact h.elim
    case panic x =>
      have h := h.out
      split at h
      · rename_i hc; rw [hc]; exact h
      · exact h.elim
    all_goals first
      | exact h.elim
      | exact nextW_unit _ _ _ _ _ h

theorem mem_opnds {op : Op} (hs : ∀ cs b, op ≠ .select cs b) : ∀ x ∈ op.operands, x ∈ opnds op := by
  intro x hx
  cases op <;> simp only [Op.operands, opnds, Call.operands, mapL_eq] at hx ⊢
  case select cs b => exact absurd rfl (hs cs b)
  case call c => cases hc : c.callee <;> simp_all [optL]
  case go c => cases hc : c.callee <;> simp_all [optL]
  case defer c => cases hc : c.callee <;> simp_all [optL]
  case makeMap t r => cases r <;> simp_all [optL]
  case slice t y l h m => cases l <;> cases h <;> cases m <;> simp_all [optL]
  all_goals simp_all

/-! ### regions -/
def nth {α : Type} : List α → Nat → Option α
  | [], _ => none
  | a :: _, 0 => some a
  | _ :: r, n + 1 => nth r n
theorem nth_eq {α : Type} : ∀ (l : List α) (n : Nat), nth l n = l[n]?
  | [], n => by simp [nth]
  | a :: r, 0 => by simp [nth]
  | a :: r, n + 1 => by simp [nth, nth_eq r n]
def bindO {α β : Type} (x : Option α) (f : α → Option β) : Option β := match x with | some a => f a | none => none
def dstOf (o : Oper) : Option Nat := o.dst
/-- the guard's value -/
def guardOf (ops : List Oper) (e : Env) (o : Oper) : Option (Option Value × Bool) :=
  match o.guard with
  | none => none
  | some (j, want) => some (bindO (bindO (nth ops j) dstOf) e.get, want)
def eqB : Bool → Bool → Bool
  | true, b => b
  | false, true => false
  | false, false => true
structure guardW (g : Option Value × Bool) (run : (Value → World → Prop) → World → Prop) (k : Value → World → Prop) (w : World) : Prop where
  out : match g with
    | (some (.bool b), want) => match eqB b want with | true => run k w | false => k undef w
    | (some (.tuple _), _) => k undef w
    | _ => False
def guardV (g : Option (Option Value × Bool)) (run : (Value → World → Prop) → World → Prop) (k : Value → World → Prop) (w : World) : Prop :=
  match g with
  | none => run k w
  | some g => guardW g run k w
def okDst (n : Nat) : Option Nat → Bool
  | none => true
  | some d => Nat.blt d n
def isDefer : Op → Bool
  | .defer _ => true
  | .select _ _ => true
  | _ => false
/-- The operations in the order of the text. -/
def vcOps (P : Program) (n : Nat) (ops : List Oper) (Kp : List PanicEntry → Env → World → Prop) : List Oper → Env → (Env → World → Prop) → World → Prop
  | [], e, K, w => K e w
  | o :: r, e, K, w =>
    match e.hasAll (opnds o.op), okDst n o.dst with
    | true, true => guardV (guardOf ops e o) (vcOp P e o (fun ch w' => Kp ch e w')) (fun v w' => vcOps P n ops Kp r (e.put o.dst v) K w') w
    | _, _ => False

/-- the fence that lets everything in, in a round or not -/
def FW (ro : Option Nat) : Fence := { fn := fun _ => True, depth := none, alive := false, round := ro }
theorem callsIn_FW {ro : Option Nat} {n : Nat} {P : Program} {f : FuncId} {args : Array Value} {w : World} {R : Ending → World → Prop} (h : Calls P f args w R) : CallsIn (FW ro) n P f args w R := by
  have h' : CallsIn Fence.wide n P f args w R := callsIn_wide.2 h
  exact h'
theorem roundIn_FW {ro : Option Nat} {n m : Nat} {P : Program} {l : Nat} {f : FuncId} {tmps : Array Value} {assign body : Code} {w : World} {R : Ending → World → Prop}
    (h : RoundIn Fence.wide m P l f tmps assign body w R) : RoundIn (FW ro) n P l f tmps assign body w R :=
  ⟨trivial, fun c cs _ => h.2 c cs (room_wide _)⟩

theorem execOp_env {e : Env} {a : Act} {n : Nat} (hA : Agree n e a) {o : Oper} (ho : e.hasAll (opnds o.op) = true) (hd : isDefer o.op = false) : execOp a.eval o = execOp e.eval o := by
  have hs : ∀ cs b, o.op ≠ .select cs b := fun cs b h => by rw [h] at hd; cases hd
  exact execOp_congr o hs fun x hx => hA.evs ho x (mem_opnds hs x hx)

/-- One operation that is carried out, from the environment to the fenced layer. -/
theorem upon_of_next {P : Program} {ro : Option Nat} {n m : Nat} {o : Oper} {a : Act} {K : Act → World → Prop} {Q : Exit → Act → World → Prop} {r : Result Next}
    (h : nextP P (fun v w' => K (a.put o.dst v) w') (fun ch w' => Q (.panic ch) a w') r) : o.uponIn (FW ro) m P a K Q r := by
  unfold nextP at h
  split at h
  · exact h
  · exact h
  · refine ⟨fun hh => by simp [FW] at hh, CallsIn.mono (callsIn_FW h) ?_⟩
    intro e w' he
    cases e <;> first | exact he | exact he.elim
  · refine ⟨fun hh => by simp [FW] at hh, RoundIn.mono (roundIn_FW h) ?_⟩
    intro e w' he
    cases e <;> first | exact he | exact he.elim
  · exact h
  · exact h.elim

theorem wp_of_vcOp {P : Program} {ro : Option Nat} {n m : Nat} {e : Env} {a : Act} {o : Oper} {kp : List PanicEntry → World → Prop} {k : Value → World → Prop} {K : Act → World → Prop} {Q : Exit → Act → World → Prop} {w : World}
    (hA : Agree n e a) (ho : e.hasAll (opnds o.op) = true) (hd : isDefer o.op = false) (h : vcOp P e o kp k w) (hk : ∀ v w', k v w' → K (a.put o.dst v) w') (hkp : ∀ ch w', kp ch w' → Q (.panic ch) a w') : o.wpIn (FW ro) m P a w K Q := by
  refine ⟨fun _ _ => trivial, ?_⟩
  have hsem : o.semAt (FW ro).round a.eval = execOp a.eval o := Oper.semAt_eq _ _ _ fun c hc => by rw [hc] at hd; cases hd
  rw [hsem, execOp_env hA ho hd]
  refine upon_of_next (n := n) ?_
  have := vcOp_exec h
  unfold nextP at this ⊢
  split at this
  · exact hk _ _ this
  · exact hk _ _ this
  · refine Calls.mono this ?_
    intro e w' he; cases e <;> first | exact hk _ _ he | exact hkp _ _ he | exact he.elim
  · refine RoundIn.mono this ?_
    intro e w' he; cases e <;> first | exact hk _ _ he | exact hkp _ _ he | exact he.elim
  · exact hkp _ _ this
  · exact this.elim

theorem isDefer_of_vcOp {P : Program} {e : Env} {o : Oper} {kp : List PanicEntry → World → Prop} {k : Value → World → Prop} {w : World} (h : vcOp P e o kp k w) : isDefer o.op = false := by
  cases ho : o.op <;> first | rfl | (unfold vcOp semOf at h; simp only [ho] at h)

theorem wanted_env {n : Nat} {e : Env} {a : Act} (hA : Agree n e a) {ops : Array Oper} {o : Oper} {run : (Value → World → Prop) → World → Prop} {k : Value → World → Prop} {w : World}
    (h : guardV (guardOf ops.toList e o) run k w) :
    (Region.wanted o (yielded ops a.tmps) = true ∧ run k w) ∨ (Region.wanted o (yielded ops a.tmps) = false ∧ k undef w) := by
  unfold guardOf at h
  cases hg : o.guard with
  | none => rw [hg] at h; exact .inl ⟨by simp [Region.wanted, hg], h⟩
  | some jw =>
    obtain ⟨j, want⟩ := jw
    rw [hg] at h
    replace h : guardW (bindO (bindO (nth ops.toList j) dstOf) e.get, want) run k w := h
    replace h := h.out
    split at h
    · rename_i b want' heq
      simp only [Prod.mk.injEq] at heq
      obtain ⟨hb, rfl⟩ := heq
      have hy : yielded ops a.tmps j = some b := by
        unfold yielded
        rw [nth_eq] at hb
        cases ho' : ops[j]? with
        | none => have : ops.toList[j]? = none := by simpa using ho'
                  rw [this] at hb; simp [bindO] at hb
        | some oj =>
          have h1 : ops.toList[j]? = some oj := by simpa using ho'
          rw [h1] at hb
          simp only [bindO, dstOf] at hb
          cases hd : oj.dst with
          | none => rw [hd] at hb; simp at hb
          | some t =>
            rw [hd] at hb
            have := hA.2 t _ hb
            simp only [Option.bind_some, hd]
            rw [Array.getD_eq_getD_getElem?] at this
            cases ht : a.tmps[t]? with
            | none => rw [ht] at this; simp [undef] at this
            | some u => rw [ht] at this; simp at this; rw [this]
      have hwn : Region.wanted o (yielded ops a.tmps) = (b == want) := by
        simp [Region.wanted, hg, hy]
      rw [hwn]
      cases b <;> cases want <;> simp only [eqB] at h <;> first | exact .inl ⟨rfl, h⟩ | exact .inr ⟨rfl, h⟩
    · rename_i vs want' heq
      simp only [Prod.mk.injEq] at heq
      obtain ⟨hb, rfl⟩ := heq
      refine .inr ⟨?_, h⟩
      have hy : yielded ops a.tmps j = none := by
        unfold yielded
        rw [nth_eq] at hb
        cases ho' : ops[j]? with
        | none => rfl
        | some oj =>
          have h1 : ops.toList[j]? = some oj := by simpa using ho'
          rw [h1] at hb
          simp only [bindO, dstOf] at hb
          cases hd : oj.dst with
          | none => simp [hd]
          | some t =>
            rw [hd] at hb
            have := hA.2 t _ hb
            simp only [Option.bind_some, hd]
            rw [Array.getD_eq_getD_getElem?] at this
            cases ht : a.tmps[t]? with
            | none => rfl
            | some u => rw [ht] at this; simp at this; rw [this]
      simp [Region.wanted, hg, hy]
    · exact h.elim

theorem vcOps_sound {P : Program} {ro : Option Nat} {n m : Nat} {ops : Array Oper} {Q : Exit → Act → World → Prop} {Kp : List PanicEntry → Env → World → Prop} {K : Env → World → Prop} :
    ∀ (rest : List Oper) (i : Nat) (e : Env) (a : Act) (w : World), (∀ j, rest[j]? = ops[i + j]?) → i + rest.length = ops.size → Agree n e a →
      (∀ e' a' w', Agree n e' a' → a'.defers = a.defers → K e' w' → Q .normal a' w') →
      (∀ ch e' a' w', Agree n e' a' → a'.defers = a.defers → Kp ch e' w' → Q (.panic ch) a' w') →
      vcOps P n ops.toList Kp rest e K w → wpOpsIn (FW ro) m P ops Q (List.range' i rest.length) a w := by
  intro rest
  induction rest with
  | nil => intro i e a w _ _ hA hK _ h; exact hK _ _ _ hA rfl h
  | cons o r ih =>
    intro i e a w hr hl hA hK hKp h
    simp only [vcOps] at h
    split at h
    · rename_i h1 h2
      have hi : ops[i]? = some o := by simpa using (hr 0).symm
      simp only [List.length_cons, List.range'_succ, wpOpsIn, hi]
      have hdst : ∀ t, o.dst = some t → t < n := fun t ht => by
        rw [ht] at h2; exact Nat.le_of_ble_eq_true (by simpa [okDst, Nat.blt] using h2)
      have next : ∀ v w', vcOps P n ops.toList Kp r (e.put o.dst v) K w' → wpOpsIn (FW ro) m P ops Q (List.range' (i + 1) r.length) (a.put o.dst v) w' := fun v w' hv =>
        ih (i + 1) (e.put o.dst v) (a.put o.dst v) w' (fun j => by have := hr (j + 1); simpa [Nat.add_assoc, Nat.add_comm 1 j] using this) (by simpa [Nat.add_assoc, Nat.add_comm 1] using hl)
          (hA.put _ _ hdst) (fun e' a' w'' h' hd => hK e' a' w'' h' (by rw [hd]; cases o.dst <;> rfl)) (fun ch e' a' w'' h' hd => hKp ch e' a' w'' h' (by rw [hd]; cases o.dst <;> rfl)) hv
      rcases wanted_env hA h with ⟨hw, hrun⟩ | ⟨hw, hskip⟩
      · rw [hw, if_pos rfl]
        exact wp_of_vcOp hA h1 (isDefer_of_vcOp hrun) hrun next (fun ch w' hp => hKp ch e a w' hA rfl hp)
      · rw [hw, if_neg (by simp)]
        exact ⟨fun _ _ => trivial, next _ _ hskip⟩
    · exact h.elim

end Go.V
/- Regions whose order is drawn, code, and functions, over the environments' operations. -/
set_option linter.unusedSimpArgs false
set_option linter.unusedVariables false
namespace Go.V
open Go

/-- what a panic within a region is to meet: the act's size, its deferred calls, and a condition -/
abbrev PB := Nat × List Deferred × (List PanicEntry → World → Prop)
def PB.at (B : PB) (a : Act) (ch : List PanicEntry) (w : World) : Prop := a.tmps.size = B.1 ∧ a.defers = B.2.1 ∧ B.2.2 ch w
theorem PB.at_put {B : PB} {a : Act} {d : Option Nat} {v : Value} {ch : List PanicEntry} {w : World} (h : B.at (a.put d v) ch w) : B.at a ch w := by
  obtain ⟨h1, h2, h3⟩ := h
  refine ⟨?_, ?_, h3⟩
  · cases d <;> simpa [Act.put] using h1
  · cases d <;> simpa [Act.put] using h2
/-! ### whatever order is drawn -/
section
variable {P : Program} {B : PB} {ops : Array Oper} {S : World → Prop}
/-- Operation number i is carried out (or passed over). -/
def opX (P : Program) (B : PB) (ops : Array Oper) (i : Nat) (K : Act → World → Prop) (a : Act) (w : World) : Prop :=
  match ops[i]? with
  | none => K a w
  | some o => if Region.wanted o (yielded ops a.tmps) then isDefer o.op = false ∧ nextP P (fun v w' => K (a.put o.dst v) w') (fun ch w' => B.at a ch w') ((execOp a.eval o).run P w) else K (a.put o.dst undef) w
theorem nextP_mono {k k' : Value → World → Prop} {kp kp' : List PanicEntry → World → Prop} (h : ∀ v w, k v w → k' v w) (hp : ∀ ch w, kp ch w → kp' ch w) {r : Result Next} (hr : nextP P k kp r) : nextP P k' kp' r := by
  unfold nextP at hr ⊢
  split at hr
  · exact h _ _ hr
  · exact h _ _ hr
  · exact Calls.mono hr fun e w' he => by cases e <;> first | exact h _ _ he | exact hp _ _ he | exact he.elim
  · exact RoundIn.mono hr fun e w' he => by cases e <;> first | exact h _ _ he | exact hp _ _ he | exact he.elim
  · exact hp _ _ hr
  · exact hr.elim
theorem opX_mono {i : Nat} {a : Act} {w : World} {K K' : Act → World → Prop} (h : ∀ a w, K a w → K' a w) (hh : opX P B ops i K a w) : opX P B ops i K' a w := by
  unfold opX at *
  split
  · rename_i ho; simp only [ho] at hh; exact h _ _ hh
  · rename_i o ho
    simp only [ho] at hh
    split
    · rename_i hw; simp only [hw, if_true] at hh; exact ⟨hh.1, nextP_mono (fun v w' => h _ _) (fun _ _ h => h) hh.2⟩
    · rename_i hw; simp only [hw] at hh; exact h _ _ hh
theorem opIn_of_opX {ro : Option Nat} {m i : Nat} {Q : Exit → Act → World → Prop} {K : Act → World → Prop} {a : Act} {w : World} (hp : ∀ ch a w, B.at a ch w → Q (.panic ch) a w) (h : opX P B ops i K a w) : wpOpIn (FW ro) m P ops Q i K a w := by
  unfold opX at h
  unfold wpOpIn
  split
  · rename_i ho; simp only [ho] at h; exact h
  · rename_i o ho
    simp only [ho] at h
    split
    · rename_i hw
      simp only [hw, if_true] at h
      refine ⟨fun _ _ => trivial, ?_⟩
      rw [Oper.semAt_eq _ _ _ fun c hc => by rw [hc] at h; exact absurd h.1 (by simp [isDefer])]
      exact upon_of_next (n := 0) (nextP_mono (fun _ _ h => h) (fun ch w' h => hp ch a w' h) h.2)
    · rename_i hw; simp only [hw] at h; exact ⟨fun _ _ => trivial, h⟩
def anyX (P : Program) (B : PB) (ops : Array Oper) (R : Nat → World → World → Prop) (Q : Act → World → Prop) : Nat → Array Bool → Act → World → Prop
  | 0, listed, a, w => Region.ready .any ops listed = [] ∧ Q a w
  | fuel + 1, listed, a, w =>
    (Region.ready .any ops listed = [] → Q a w) ∧
    ∀ i ∈ Region.ready .any ops listed, opX P B ops i (fun a' w' => R i w w' ∧ anyX P B ops R Q fuel (listed.setIfInBounds i true) a' w') a w
theorem anyIn_of_anyX {R : Nat → World → World → Prop} {ro : Option Nat} {m : Nat} {Q : Act → World → Prop} {Q' : Exit → Act → World → Prop} (hp : ∀ ch a w, B.at a ch w → Q' (.panic ch) a w) (hQ : ∀ a w, Q a w → Q' .normal a w) : ∀ (fuel : Nat) (listed : Array Bool) (a : Act) (w : World),
    anyX P B ops R Q fuel listed a w → wpAnyIn (FW ro) m P .any ops Q' fuel listed a w
  | 0, _, _, _, h => ⟨h.1, hQ _ _ h.2⟩
  | fuel + 1, _, _, _, h => ⟨fun h0 => hQ _ _ (h.1 h0), fun i hi => opIn_of_opX hp (opX_mono (fun a' w' h' => anyIn_of_anyX hp hQ fuel _ a' w' h'.2) (h.2 i hi))⟩
/-- In every world of S the operation leaves v in its slot and does nothing else. -/
def YieldsS (P : Program) (ops : Array Oper) (S : World → Prop) (o : Oper) (v : Value) (a : Act) : Prop :=
  (Region.wanted o (yielded ops a.tmps) = true ∧ isDefer o.op = false ∧ ∀ w, S w → (execOp a.eval o).run P w = .ok (.value v) w) ∨
  (Region.wanted o (yielded ops a.tmps) = false ∧ v = undef)
theorem YieldsS.opX {i : Nat} {o : Oper} {v : Value} {a : Act} (hi : ops[i]? = some o) (hy : YieldsS P ops S o v a) {K : Act → World → Prop} {w : World} (hS : S w)
    (h : K (a.put o.dst v) w) : opX P B ops i K a w := by
  unfold Go.V.opX
  simp only [hi]
  rcases hy with ⟨hw, hd, hv⟩ | ⟨hw, rfl⟩
  · simp only [hw, if_true]; exact ⟨hd, by rw [hv w hS]; exact h⟩
  · simp only [hw, Bool.false_eq_true, if_false]; exact h
theorem YieldsS.of_same {o : Oper} {v : Value} {a a' : Act} (hy : YieldsS P ops S o v a) (he : execOp a'.eval o = execOp a.eval o)
    (hw : Region.wanted o (yielded ops a'.tmps) = Region.wanted o (yielded ops a.tmps)) : YieldsS P ops S o v a' := by
  unfold YieldsS at *
  rw [he, hw]
  exact hy
theorem opX_put {j : Nat} {oi oj : Oper} {v : Value} (hj : ops[j]? = some oj) (hap : oi.apart ops oj = true) (hsi : ∀ cs b, oi.op ≠ .select cs b) (hsj : ∀ cs b, oj.op ≠ .select cs b)
    {K : Act → World → Prop} {a : Act} {w : World} (hy : YieldsS P ops S oi v a) (h : opX P B ops j K (a.put oi.dst v) w) :
    opX P B ops j (fun a' w' => YieldsS P ops S oi v a' ∧ K (a'.put oi.dst v) w') a w := by
  obtain ⟨h1, h2, h3⟩ := Oper.apart_spec hap
  have keep : ∀ u, YieldsS P ops S oi v (a.put oj.dst u) := fun u => hy.of_same (execOp_put oi hsi a oj.dst u h3) (wanted_put oi a oj.dst u h3)
  unfold opX at *
  simp only [hj] at *
  rw [wanted_put oj a oi.dst v h1] at h
  split
  · rename_i hw
    simp only [hw, if_true] at h
    refine ⟨h.1, ?_⟩
    have h' := h.2
    rw [execOp_put oj hsj a oi.dst v h1] at h'
    exact nextP_mono (fun u w' hu => ⟨keep u, by rw [← Act.put_comm a v u h2]; exact hu⟩) (fun ch w' h => PB.at_put h) h'
  · rename_i hw
    simp only [hw] at h
    exact ⟨keep _, by rw [← Act.put_comm a v undef h2]; exact h⟩
theorem anyX_first {R : Nat → World → World → Prop} {Q : Act → World → Prop} {i : Nat} {oi : Oper} {v : Value} (hi : ops[i]? = some oi) (hsel : ∀ (j : Nat) (o : Oper) cs b, ops[j]? = some o → o.op ≠ .select cs b)
    (hR : ∀ w, R i w w) :
    ∀ (fuel : Nat) (listed : Array Bool) (a : Act) (w : World),
      (∀ j oj, ops[j]? = some oj → j ≠ i → listed.getD j true = false → (∀ e ∈ oj.after, Region.binds .any e = true → e.on ≠ i) → oi.apart ops oj = true ∧ ∀ w w', S w → R j w w' → S w') →
      i ∈ Region.ready .any ops listed → YieldsS P ops S oi v a → S w →
      anyX P B ops R Q fuel (listed.setIfInBounds i true) (a.put oi.dst v) w → anyX P B ops R Q (fuel + 1) listed a w := by
  intro fuel
  induction fuel with
  | zero =>
    intro listed a w _ hr hy hS H
    refine ⟨fun h => (by rw [h] at hr; cases hr), fun j hj => ?_⟩
    by_cases hji : j = i
    · subst hji; exact hy.opX hi hS ⟨hR w, H⟩
    · have := ready_mono hj hji
      rw [H.1] at this
      cases this
  | succ fuel ih =>
    intro listed a w hfree hr hy hS H
    refine ⟨fun h => (by rw [h] at hr; cases hr), fun j hj => ?_⟩
    by_cases hji : j = i
    · subst hji; exact hy.opX hi hS ⟨hR w, H⟩
    · have h1 := H.2 j (ready_mono hj hji)
      obtain ⟨hjun, oj, hoj, hall⟩ := mem_ready.1 hj
      have hnot : ∀ e ∈ oj.after, Region.binds .any e = true → e.on ≠ i := fun e he hb heq => by
        have h1 := hall e he hb
        have h0 := (mem_ready.1 hr).1
        rw [heq] at h1
        rcases Nat.lt_or_ge i listed.size with h' | h'
        · simp [h'] at h0 h1; rw [h0] at h1; cases h1
        · simp [Array.getElem?_eq_none h'] at h1
      obtain ⟨hap, hpres⟩ := hfree j oj hoj hji hjun hnot
      have h2 := opX_put hoj hap (fun cs b => hsel i oi cs b hi) (fun cs b => hsel j oj cs b hoj) hy h1
      have hfree' : ∀ k ok, ops[k]? = some ok → k ≠ i → (listed.setIfInBounds j true).getD k true = false →
          (∀ e ∈ ok.after, Region.binds .any e = true → e.on ≠ i) → oi.apart ops ok = true ∧ ∀ w w', S w → R k w w' → S w' := fun k ok hk hki hun hno => by
        refine hfree k ok hk hki ?_ hno
        by_cases hjk : j = k
        · subst hjk; exact hjun
        · rw [getD_set_ne true hjk] at hun; exact hun
      refine opX_mono (fun a' w' h3 => ⟨h3.2.1, ih (listed.setIfInBounds j true) a' w' hfree' (ready_mono hr (Ne.symm hji)) h3.1 (hpres _ _ hS h3.2.1) ?_⟩) h2
      rw [Array.setIfInBounds_comm _ _ hji]
      exact h3.2.2
end

/-! ### what waits for what, in numbers -/
/-- of an operation: the operations for which it waits, the slots at which it looks, the slot that it writes: as bits -/
structure Row where
  after : Nat
  looks : Nat
  dst : Nat
  quiet : Bool
  pure : Bool
def bindsG : Ground → Bool
  | .textOnly _ => false
  | .gcOnly _ => false
  | _ => true
theorem bindsG_eq (e : Edge) : Region.binds .any e = bindsG e.ground := by
  unfold Region.binds bindsG
  cases e.ground <;> rfl
def edgeMask : List Edge → Nat
  | [] => 0
  | e :: r => match bindsG e.ground with | true => Nat.lor (Nat.pow 2 e.on) (edgeMask r) | false => edgeMask r
def looksMask : List Operand → Nat
  | [] => 0
  | .tmp t :: r => Nat.lor (Nat.pow 2 t) (looksMask r)
  | _ :: r => looksMask r
def dstMask : Option Nat → Nat
  | some d => Nat.pow 2 d
  | none => 0
def guardMask (ops : List Oper) : Option (Nat × Bool) → Nat
  | some (j, _) => dstMask (bindO (nth ops j) dstOf)
  | none => 0
/-- operations that only look -/
def isReadOp : Op → Bool
  | .move _ | .assign _ | .pick .. | .load .. | .binOp .. | .unOp .. | .convert .. | .makeInterface .. | .makeFunc .. | .fieldAddr .. | .field .. | .indexAddr .. | .index .. | .extract .. | .nilCheck .. | .slice .. | .lookup .. | .typeAssert .. => true
  | .call { callee := .builtin .len, .. } | .call { callee := .builtin .cap, .. } | .call { callee := .builtin .max, .. } | .call { callee := .builtin .min, .. } => true
  | _ => false
/-- operations that do not look at memory -/
def isPureOp : Op → Bool
  | .move _ | .assign _ | .pick .. | .binOp .. | .unOp .. | .makeFunc .. | .fieldAddr .. | .field .. | .indexAddr .. | .index .. | .extract .. | .nilCheck .. | .slice .. => true
  | .call { callee := .builtin .len, .. } | .call { callee := .builtin .cap, .. } | .call { callee := .builtin .max, .. } | .call { callee := .builtin .min, .. } => true
  | _ => false
def rowOf (ops : List Oper) (o : Oper) : Row := ⟨edgeMask o.after.toList, Nat.lor (looksMask (opnds o.op)) (guardMask ops o.guard), dstMask o.dst, isReadOp o.op, isPureOp o.op⟩
def bit (m j : Nat) : Bool := match Nat.beq (Nat.land m (Nat.pow 2 j)) 0 with | true => false | false => true
def offs (a b : Nat) : Bool := Nat.beq (Nat.land a b) 0
theorem bit_eq (m j : Nat) : bit m j = m.testBit j := by
  have h : Nat.land m (Nat.pow 2 j) = m &&& 2 ^ j := rfl
  unfold bit
  rw [h]
  cases hb : m.testBit j with
  | true =>
    have : ¬ (m &&& 2 ^ j = 0) := fun h0 => by
      have := congrArg (fun x => x.testBit j) h0
      simp [hb] at this
    split
    · rename_i he; exact absurd (Nat.eq_of_beq_eq_true he) this
    · rfl
  | false =>
    have : m &&& 2 ^ j = 0 := by
      apply Nat.eq_of_testBit_eq
      intro i
      simp only [Nat.testBit_and, Nat.zero_testBit, Nat.testBit_two_pow]
      by_cases hij : j = i
      · subst hij; simp [hb]
      · simp [hij]
    split
    · rfl
    · rename_i he; rw [this] at he; cases he
theorem offs_spec {a b : Nat} (h : offs a b = true) (i : Nat) (ha : a.testBit i = true) : b.testBit i = false := by
  have h0 : a &&& b = 0 := Nat.eq_of_beq_eq_true h
  have := congrArg (fun x => x.testBit i) h0
  simp only [Nat.testBit_and, ha, Bool.true_and, Nat.zero_testBit] at this
  exact this
theorem lor_bit (a b i : Nat) : (Nat.lor a b).testBit i = (a.testBit i || b.testBit i) := Nat.testBit_or a b i
theorem pow_bit (d i : Nat) : (Nat.pow 2 d).testBit i = decide (d = i) := by
  have : Nat.pow 2 d = 2 ^ d := rfl
  rw [this, Nat.testBit_two_pow]
theorem edgeMask_bit : ∀ (l : List Edge) (e : Edge), e ∈ l → Region.binds .any e = true → (edgeMask l).testBit e.on = true
  | [], _, h, _ => by cases h
  | x :: r, e, h, hb => by
    simp only [edgeMask]
    cases h with
    | head =>
      rw [bindsG_eq] at hb
      simp only [hb, lor_bit, pow_bit, decide_true, Bool.true_or]
    | tail _ h =>
      have ih := edgeMask_bit r e h hb
      split
      · simp [lor_bit, ih]
      · exact ih
theorem edgeMask_bit' : ∀ (l : List Edge) (k : Nat), (edgeMask l).testBit k = true → ∃ e ∈ l, Region.binds .any e = true ∧ e.on = k
  | [], k, h => by simp [edgeMask] at h
  | x :: r, k, h => by
    simp only [edgeMask] at h
    split at h
    · rename_i hb
      simp only [lor_bit, pow_bit, Bool.or_eq_true, decide_eq_true_eq] at h
      rcases h with h | h
      · exact ⟨x, by simp, by rw [bindsG_eq]; exact hb, h⟩
      · obtain ⟨e, he, h1, h2⟩ := edgeMask_bit' r k h; exact ⟨e, by simp [he], h1, h2⟩
    · obtain ⟨e, he, h1, h2⟩ := edgeMask_bit' r k h; exact ⟨e, by simp [he], h1, h2⟩
theorem looksMask_bit : ∀ (l : List Operand) (t : Nat), Operand.tmp t ∈ l → (looksMask l).testBit t = true
  | [], _, h => by cases h
  | x :: r, t, h => by
    cases h with
    | head => simp [looksMask, lor_bit, pow_bit]
    | tail _ h =>
      have ih := looksMask_bit r t h
      cases x <;> simp [looksMask, lor_bit, ih]
theorem row_looks {ops : Array Oper} {o : Oper} (hs : ∀ cs b, o.op ≠ .select cs b) {t : Nat} (h : t ∈ o.looksAt ops) : (rowOf ops.toList o).looks.testBit t = true := by
  simp only [rowOf, lor_bit]
  unfold Oper.looksAt at h
  rw [List.mem_append] at h
  rcases h with h | h
  · obtain ⟨x, hx, hxt⟩ := List.mem_filterMap.1 h
    cases x <;> simp at hxt
    subst hxt
    rw [looksMask_bit _ _ (mem_opnds hs _ (by simpa using hx))]
    rfl
  · cases hg : o.guard with
    | none => rw [hg] at h; simp at h
    | some jw =>
      obtain ⟨j, want⟩ := jw
      rw [hg] at h
      simp only at h
      simp only [guardMask, nth_eq]
      cases ho : ops[j]? with
      | none => rw [ho] at h; simp at h
      | some oj =>
        rw [ho] at h
        have h1 : ops.toList[j]? = some oj := by simpa using ho
        rw [h1]
        simp only [bindO, dstOf]
        cases hd : oj.dst with
        | none => simp [hd] at h
        | some d => simp [hd] at h; subst h; simp [dstMask, pow_bit]
def apartR (x y : Row) : Bool := match offs x.dst y.looks, offs x.dst y.dst, offs y.dst x.looks with | true, true, true => true | _, _, _ => false
theorem apartR_spec {ops : Array Oper} {x y : Oper} (hx : ∀ cs b, x.op ≠ .select cs b) (hy : ∀ cs b, y.op ≠ .select cs b) (h : apartR (rowOf ops.toList x) (rowOf ops.toList y) = true) : x.apart ops y = true := by
  unfold apartR at h
  split at h
  · rename_i h1 h2 h3
    unfold Oper.apart
    have d1 : ∀ d, x.dst = some d → d ∉ y.looksAt ops ∧ y.dst ≠ some d := fun d hd => by
      have hb : (rowOf ops.toList x).dst.testBit d = true := by simp [rowOf, hd, dstMask, pow_bit]
      refine ⟨fun hm => ?_, fun hm => ?_⟩
      · have := offs_spec h1 d hb; rw [row_looks hy hm] at this; cases this
      · have := offs_spec h2 d hb; simp [rowOf, hm, dstMask, pow_bit] at this
    have d2 : ∀ d, y.dst = some d → d ∉ x.looksAt ops := fun d hd hm => by
      have hb : (rowOf ops.toList y).dst.testBit d = true := by simp [rowOf, hd, dstMask, pow_bit]
      have := offs_spec h3 d hb; rw [row_looks hx hm] at this; cases this
    cases hxd : x.dst with
    | none =>
      cases hyd : y.dst with
      | none => rfl
      | some d => simpa using d2 d hyd
    | some d =>
      obtain ⟨a1, a2⟩ := d1 d hxd
      cases hyd : y.dst with
      | none => simpa using a1
      | some d' =>
        have a3 := d2 d' hyd
        rw [hyd] at a2
        simp only [Bool.and_eq_true]
        refine ⟨⟨by simpa using a1, ?_⟩, by simpa using a3⟩
        simpa using a2
  · cases h

/-! ### plans: which operation is taken first, which may come up -/
/-- takeP: an operation that does not look at memory; takeX: one that looks, and whatever may write waits for it; takeS: one that yields the same in a class of worlds that is never left; run: one that is carried out; alt: whichever comes up -/
inductive Plan where
  | done
  | takeP (i : Nat) (r : Plan)
  | takeX (i : Nat) (r : Plan)
  | takeS (i : Nat) (r : Plan)
  | takeU (i : Nat) (r : Plan)
  | run (i : Nat) (r : Plan)
  | alt (p q : Plan)
def Plan.heads : Plan → List Nat
  | .run i _ => [i]
  | .takeX i _ => [i]
  | .alt p q => p.heads ++ q.heads
  | _ => []
def Plan.usesS : Plan → Bool
  | .done => false
  | .takeP _ r => r.usesS
  | .takeX _ r => r.usesS
  | .takeS _ _ => true
  | .takeU _ r => r.usesS
  | .run _ r => r.usesS
  | .alt p q => match p.usesS with | true => true | false => q.usesS
/-- the operations that are taken each in a class of its own -/
def Plan.us : Plan → List Nat
  | .done => []
  | .takeP _ r => r.us
  | .takeX _ r => r.us
  | .takeS _ r => r.us
  | .takeU i r => i :: r.us
  | .run _ r => r.us
  | .alt p q => p.us ++ q.us
def and4 (a b c d : Bool) : Bool := match a, b, c, d with | true, true, true, true => true | _, _, _, _ => false
theorem and4_spec {a b c d : Bool} (h : and4 a b c d = true) : a = true ∧ b = true ∧ c = true ∧ d = true := by
  cases a <;> cases b <;> cases c <;> cases d <;> simp [and4] at h ⊢
def and3 (a b c : Bool) : Bool := match a, b, c with | true, true, true => true | _, _, _ => false
theorem and3_spec {a b c : Bool} (h : and3 a b c = true) : a = true ∧ b = true ∧ c = true := by
  cases a <;> cases b <;> cases c <;> simp [and3] at h ⊢
def memN : List Nat → Nat → Bool
  | [], _ => false
  | a :: r, x => match Nat.beq a x with | true => true | false => memN r x
theorem memN_spec : ∀ {l : List Nat} {x : Nat}, memN l x = true → x ∈ l
  | [], _, h => by cases h
  | a :: r, x, h => by
    simp only [memN] at h
    split at h
    · rename_i hb; rw [Nat.eq_of_beq_eq_true hb]; simp
    · exact List.mem_cons_of_mem _ (memN_spec h)
def subM (a m : Nat) : Bool := Nat.beq (Nat.land a m) a
theorem subM_spec {a m : Nat} (h : subM a m = true) (i : Nat) (ha : a.testBit i = true) : m.testBit i = true := by
  have h0 : a &&& m = a := Nat.eq_of_beq_eq_true h
  have := congrArg (fun x => x.testBit i) h0
  simpa [ha] using this
def readyR (rs : List Row) (m i : Nat) : Bool := match nth rs i with | some r => (match bit m i with | true => false | false => subM r.after m) | none => false
/-- every operation that has not come up waits for i, or is apart from it (and, where 'x' is asked, only looks) -/
def freeR (x : Bool) (r : Row) (i m : Nat) : List Row → Nat → Bool
  | [], _ => true
  | y :: l, j => match (match Nat.beq i j with | true => true | false => (match bit m j with | true => true | false => (match bit y.after i with | true => true | false => (match apartR r y with | true => (match x with | true => y.quiet | false => true) | false => false)))) with
    | true => freeR x r i m l (j + 1)
    | false => false
/-- whatever is ready is among hs -/
def headsR (hs : List Nat) (m : Nat) : List Row → Nat → Bool
  | [], _ => true
  | y :: r, j => match (match bit m j with | true => true | false => (match subM y.after m with | true => memN hs j | false => true)) with
    | true => headsR hs m r (j + 1)
    | false => false
def someReady (rs : List Row) (m : Nat) : List Nat → Bool
  | i :: _ => readyR rs m i
  | [] => false
def isAll (n m : Nat) : Bool := Nat.beq (m + 1) (Nat.pow 2 n)
def orB (a b : Bool) : Bool := match a with | true => true | false => b
theorem orB_spec {a b : Bool} (h : orB a b = true) : a = true ∨ b = true := by
  cases a
  · exact .inr h
  · exact .inl rfl
def planC (rs : List Row) (n : Nat) : Plan → Nat → Bool
  | .done, m => isAll n m
  | .takeP i p, m => match nth rs i with
    | some x => and4 (readyR rs m i) (freeR false x i m rs 0) x.pure (planC rs n p (Nat.lor m (Nat.pow 2 i)))
    | none => false
  | .takeX i p, m => match nth rs i with
    | some x => and4 (readyR rs m i) (orB (freeR true x i m rs 0) (headsR [i] m rs 0)) true (planC rs n p (Nat.lor m (Nat.pow 2 i)))
    | none => false
  | .takeS i p, m => match nth rs i with
    | some x => and4 (readyR rs m i) (freeR false x i m rs 0) true (planC rs n p (Nat.lor m (Nat.pow 2 i)))
    | none => false
  | .takeU i p, m => match nth rs i with
    | some x => and4 (readyR rs m i) (freeR false x i m rs 0) true (planC rs n p (Nat.lor m (Nat.pow 2 i)))
    | none => false
  | .run i p, m => and4 (headsR [i] m rs 0) (readyR rs m i) (loud rs i) (planC rs n p (Nat.lor m (Nat.pow 2 i)))
  | .alt p q, m => and3 (match headsR (p.heads ++ q.heads) m rs 0 with | true => someReady rs m (p.heads ++ q.heads) | false => false) (altC rs n p m) (altC rs n q m)
where
  loud (rs : List Row) (i : Nat) : Bool := match nth rs i with | some x => (match x.quiet with | true => false | false => true) | none => false
  altC (rs : List Row) (n : Nat) : Plan → Nat → Bool
  | .run i p, m => match loud rs i with | true => planC rs n p (Nat.lor m (Nat.pow 2 i)) | false => false
  | .takeX i p, m => planC rs n p (Nat.lor m (Nat.pow 2 i))
  | .alt p q, m => match altC rs n p m with | true => altC rs n q m | false => false
  | _, _ => false
def rowsOf (ops : List Oper) : List Row := mapL (rowOf ops) ops

/-- the listed ones, as bits -/
def Bits (ops : Array Oper) (listed : Array Bool) (m : Nat) : Prop := listed.size = ops.size ∧ (∀ j, j < ops.size → listed.getD j true = m.testBit j ∧ listed.getD j false = m.testBit j) ∧ ∀ j, ops.size ≤ j → m.testBit j = false
theorem Bits.set {ops : Array Oper} {listed : Array Bool} {m : Nat} (h : Bits ops listed m) {i : Nat} (hi : i < ops.size) : Bits ops (listed.setIfInBounds i true) (Nat.lor m (Nat.pow 2 i)) := by
  refine ⟨by simp [h.1], fun j hj => ?_, fun j hj => by rw [lor_bit, pow_bit, h.2.2 j hj]; simp; omega⟩
  have := h.2.1 j hj
  rw [lor_bit, pow_bit]
  by_cases hij : i = j
  · subst hij; simp [h.1, hi]
  · simp only [hij, decide_false, Bool.or_false]
    rw [getD_set_ne true hij, getD_set_ne false hij]; exact this
theorem Bits.init (ops : Array Oper) : Bits ops (Array.replicate ops.size false) 0 := by
  refine ⟨by simp, fun j hj => ?_, fun j _ => by simp⟩
  simp [hj]
section
variable {ops : Array Oper}
theorem nth_rows {i : Nat} {x : Row} (h : nth (rowsOf ops.toList) i = some x) : ∃ o, ops[i]? = some o ∧ x = rowOf ops.toList o := by
  rw [nth_eq, rowsOf, mapL_eq] at h
  simp at h
  obtain ⟨o, ho, rfl⟩ := h
  exact ⟨o, ho, rfl⟩
theorem nth_rows' {i : Nat} {o : Oper} (h : ops[i]? = some o) : nth (rowsOf ops.toList) i = some (rowOf ops.toList o) := by
  rw [nth_eq, rowsOf, mapL_eq]; simp [h]
theorem ready_of {listed : Array Bool} {m i : Nat} (hB : Bits ops listed m) (h : readyR (rowsOf ops.toList) m i = true) : i ∈ Region.ready .any ops listed := by
  unfold readyR at h
  split at h
  · rename_i x hx
    obtain ⟨o, ho, rfl⟩ := nth_rows hx
    have hlt : i < ops.size := (Array.getElem?_eq_some_iff.1 ho).1
    split at h
    · cases h
    · rename_i hbit
      rw [bit_eq] at hbit
      refine mem_ready.2 ⟨by rw [(hB.2.1 i hlt).1, hbit], o, ho, fun e he hb => ?_⟩
      have h1 := subM_spec h e.on (edgeMask_bit _ e (by simpa using he) hb)
      by_cases hlt' : e.on < ops.size
      · rw [(hB.2.1 _ hlt').2, h1]
      · exfalso
        rw [hB.2.2 _ (by omega)] at h1; cases h1
  · cases h
theorem of_ready {listed : Array Bool} {m i : Nat} (hB : Bits ops listed m) (h : i ∈ Region.ready .any ops listed) :
    ∃ o, ops[i]? = some o ∧ i < ops.size ∧ m.testBit i = false ∧ subM (rowOf ops.toList o).after m = true := by
  obtain ⟨h0, o, ho, hall⟩ := mem_ready.1 h
  have hlt : i < ops.size := (Array.getElem?_eq_some_iff.1 ho).1
  refine ⟨o, ho, hlt, by rw [← (hB.2.1 i hlt).1]; exact h0, ?_⟩
  unfold subM
  have : (edgeMask o.after.toList) &&& m = edgeMask o.after.toList := by
    apply Nat.eq_of_testBit_eq
    intro k
    simp only [Nat.testBit_and]
    cases hk : (edgeMask o.after.toList).testBit k with
    | false => rfl
    | true =>
      obtain ⟨e, he, hb, hek⟩ := edgeMask_bit' _ _ hk
      have h1 := hall e (by simpa using he) hb
      rw [hek] at h1
      have hlt' : k < ops.size := by
        rcases Nat.lt_or_ge k ops.size with h' | h'
        · exact h'
        · simp [Array.getElem?_eq_none (show listed.size ≤ k by rw [hB.1]; exact h')] at h1
      rw [← (hB.2.1 k hlt').2, h1]; rfl
  have h2 : Nat.land (rowOf ops.toList o).after m = (rowOf ops.toList o).after := this
  rw [h2]; exact Nat.beq_refl _
theorem free_of {x : Bool} {r : Row} {i m : Nat} : ∀ (rs : List Row) (j0 : Nat), freeR x r i m rs j0 = true → ∀ k y, nth rs k = some y → j0 + k ≠ i → m.testBit (j0 + k) = false → y.after.testBit i = false → apartR r y = true ∧ (x = true → y.quiet = true)
  | [], _, _, k, y, hy, _, _, _ => by simp [nth] at hy
  | z :: l, j0, h, k, y, hy, hne, hm, ha => by
    simp only [freeR] at h
    split at h
    · rename_i h1
      cases k with
      | zero =>
        simp only [nth, Option.some.injEq] at hy
        subst hy
        simp only [Nat.add_zero] at hne hm
        have hb : Nat.beq i j0 = false := by
          cases hb : Nat.beq i j0 with
          | false => rfl
          | true => exact absurd (Nat.eq_of_beq_eq_true hb).symm hne
        simp only [hb, bit_eq, hm, ha] at h1
        split at h1
        · rename_i hap
          refine ⟨hap, fun hx => ?_⟩
          subst hx
          exact h1
        · cases h1
      | succ k =>
        simp only [nth] at hy
        exact free_of l (j0 + 1) h k y hy (by omega) (by rw [show j0 + 1 + k = j0 + (k + 1) by omega]; exact hm) ha
    · cases h
theorem heads_of {hs : List Nat} {m : Nat} : ∀ (rs : List Row) (j0 : Nat), headsR hs m rs j0 = true → ∀ k y, nth rs k = some y → m.testBit (j0 + k) = false → subM y.after m = true → (j0 + k) ∈ hs
  | [], _, _, k, y, hy, _, _ => by simp [nth] at hy
  | z :: r, j0, h, k, y, hy, hm, ha => by
    simp only [headsR] at h
    split at h
    · rename_i h1
      cases k with
      | zero =>
        simp only [nth, Option.some.injEq] at hy
        subst hy
        simp only [Nat.add_zero] at hm ⊢
        simp only [bit_eq, hm, ha] at h1
        exact memN_spec h1
      | succ k =>
        simp only [nth] at hy
        have := heads_of r (j0 + 1) h k y hy (by rw [show j0 + 1 + k = j0 + (k + 1) by omega]; exact hm) ha
        rw [show j0 + 1 + k = j0 + (k + 1) by omega] at this
        exact this
    · cases h
theorem all_of {listed : Array Bool} {m : Nat} (hB : Bits ops listed m) (h : isAll ops.size m = true) : Region.ready .any ops listed = [] := by
  cases hr : Region.ready .any ops listed with
  | nil => rfl
  | cons i t =>
    exfalso
    obtain ⟨o, ho, hlt, hm, _⟩ := of_ready hB (i := i) (by rw [hr]; simp)
    have : m + 1 = 2 ^ ops.size := Nat.eq_of_beq_eq_true h
    have h2 : m = 2 ^ ops.size - 1 := by omega
    rw [h2, Nat.testBit_two_pow_sub_one] at hm
    simp at hm
    omega
end

/-- A value that is the same in every world of S. -/
structure takeW (P : Program) (S : World → Prop) (s : Sem Value) (K : Value → Prop) (w : World) : Prop where
  out : match s.run P w with
    | .ok v w' => w' = w ∧ (∀ w', S w' → s.run P w' = .ok v w') ∧ K v
    | .halt _ _ => False
structure pickT (c a b : Value) (K : Value → Prop) : Prop where
  out : match c with
    | .bool true => K a
    | .bool false => K b
    | _ => False
structure nilT (x : Value) (K : Value → Prop) : Prop where
  out : match x with
    | .pointer (some _) => K x
    | .func (.func _) _ _ => K x
    | .func (.yield _) _ _ => K x
    | .iface _ _ => K x
    | _ => False
def takeOp (P : Program) (S : World → Prop) (e : Env) (o : Oper) (K : Value → Prop) (w : World) : Prop :=
  match semOf e o with
  | some s => takeW P S s K w
  | none =>
    match o.op with
    | .move x | .assign x => K (e.eval x)
    | .pick c a b => pickT (e.eval c) (e.eval a) (e.eval b) K
    | .nilCheck x => nilT (e.eval x) K
    | _ => False
structure guardT (g : Option Value × Bool) (run : (Value → Prop) → Prop) (K : Value → Prop) : Prop where
  out : match g with
    | (some (.bool b), want) => match eqB b want with | true => run K | false => K undef
    | (some (.tuple _), _) => K undef
    | _ => False
def guardTV (g : Option (Option Value × Bool)) (run : (Value → Prop) → Prop) (K : Value → Prop) : Prop :=
  match g with
  | none => run K
  | some g => guardT g run K
/-- any world -/
def anyW (_ : World) : Prop := True
/-- just this world -/
def sameW (w : World) (w' : World) : Prop := w' = w
/-- S, where it is used -/
structure keepS (S : World → Prop) (K : World → Prop) (w : World) : Prop where
  out : S w ∧ K w
/-- the classes that operation j must keep: those of the operations that don't come ahead of it -/
def keptBy (rs : List Row) (s : Bool) (us : List Nat) (j : Nat) : List Nat :=
  match s with
  | true => 0 :: go us
  | false => go us
where
  go : List Nat → List Nat
    | [] => []
    | i :: r => match nth rs j with
      | some x => (match bit x.after i with | true => go r | false => (i + 1) :: go r)
      | none => (i + 1) :: go r
/-- A region by its plan: cs is the class of what is taken by takeS, cl i that of operation i, kp j what is asked behind operation j. -/
def vcPlan (P : Program) (n : Nat) (Kp : List PanicEntry → World → Prop) (ops : List Oper) (kp : Nat → (World → Prop) → World → Prop) (cs : World → Prop) (cl : Nat → World → Prop) (K : Env → World → Prop) : Plan → Env → World → Prop
  | .done, e, w => K e w
  | .takeP i r, e, w =>
    match nth ops i with
    | some o =>
      match e.hasAll (opnds o.op), okDst n o.dst with
      | true, true => guardTV (guardOf ops e o) (fun k => takeOp P anyW e o k w) (fun v => vcPlan P n Kp ops kp cs cl K r (e.put o.dst v) w)
      | _, _ => False
    | none => False
  | .takeX i r, e, w =>
    match nth ops i with
    | some o =>
      match e.hasAll (opnds o.op), okDst n o.dst with
      | true, true => guardTV (guardOf ops e o) (fun k => takeOp P (sameW w) e o k w) (fun v => vcPlan P n Kp ops kp cs cl K r (e.put o.dst v) w)
      | _, _ => False
    | none => False
  | .takeS i r, e, w =>
    match nth ops i with
    | some o =>
      match e.hasAll (opnds o.op), okDst n o.dst with
      | true, true => guardTV (guardOf ops e o) (fun k => takeOp P cs e o k w) (fun v => vcPlan P n Kp ops kp cs cl K r (e.put o.dst v) w)
      | _, _ => False
    | none => False
  | .takeU i r, e, w =>
    match nth ops i with
    | some o =>
      match e.hasAll (opnds o.op), okDst n o.dst with
      | true, true => guardTV (guardOf ops e o) (fun k => takeOp P (cl i) e o k w) (fun v => vcPlan P n Kp ops kp cs cl K r (e.put o.dst v) w)
      | _, _ => False
    | none => False
  | .run i r, e, w =>
    match nth ops i with
    | some o =>
      match e.hasAll (opnds o.op), okDst n o.dst with
      | true, true => guardV (guardOf ops e o) (vcOp P e o Kp) (fun v w' => kp i (fun w'' => vcPlan P n Kp ops kp cs cl K r (e.put o.dst v) w'') w') w
      | _, _ => False
    | none => False
  | .alt p q, e, w => vcPlan P n Kp ops kp cs cl K p e w ∧ vcPlan P n Kp ops kp cs cl K q e w

theorem takeOp_spec {P : Program} {S : World → Prop} {e : Env} {o : Oper} {K : Value → Prop} {w : World} (h : takeOp P S e o K w) :
    isDefer o.op = false ∧ ∃ v, (∀ w, S w → (execOp e.eval o).run P w = .ok (.value v) w) ∧ K v := by
  refine ⟨by cases ho : o.op <;> first | rfl | (unfold takeOp semOf at h; simp only [ho] at h), ?_⟩
  unfold takeOp at h
  split at h
  · rename_i s hs
    replace h := h.out
    split at h
    · rename_i v w' hr
      obtain ⟨_, hv, hK⟩ := h
      refine ⟨v, fun w hw => ?_, hK⟩
      rw [semOf_exec hs]
      simp only [Sem.run_bind, Result.andThen, hv w hw]
      rfl
    · exact h.elim
  · obtain ⟨dst, op, type, pos, after, guard⟩ := o
    cases op <;> simp only at h
    case move x => exact ⟨_, fun w _ => rfl, h⟩
    case assign x => exact ⟨_, fun w _ => rfl, h⟩
    case pick c a b =>
      replace h := h.out
      split at h
      · rename_i hc; exact ⟨_, fun w _ => by simp only [execOp, hc]; rfl, h⟩
      · rename_i hc; exact ⟨_, fun w _ => by simp only [execOp, hc]; rfl, h⟩
      · exact h.elim
    case nilCheck x =>
      replace h := h.out
      split at h
      · rename_i hc; exact ⟨_, fun w _ => by simp only [execOp, hc]; rfl, hc ▸ h⟩
      · rename_i hc; exact ⟨_, fun w _ => by simp only [execOp, hc]; rfl, hc ▸ h⟩
      · rename_i hc; exact ⟨_, fun w _ => by simp only [execOp, hc]; rfl, hc ▸ h⟩
      · rename_i hc; exact ⟨_, fun w _ => by simp only [execOp, hc]; rfl, hc ▸ h⟩
      · exact h.elim
    all_goals exact h.elim

/-- a guard, of values alone -/
theorem guardT_W {g : Option (Option Value × Bool)} {run : (Value → Prop) → Prop} {K : Value → Prop} {w : World} (h : guardTV g run K) :
    guardV g (fun k _ => run fun v => k v w) (fun v _ => K v) w := by
  cases g with
  | none => exact h
  | some g => exact ⟨(show guardT g run K from h).out⟩

theorem Agree.of_tmps {n : Nat} {e : Env} {a a' : Act} (h : Agree n e a) (ht : a'.tmps = a.tmps) : Agree n e a' := by
  unfold Agree at *; rw [ht]; exact h
theorem Act.put_ds (a : Act) (d : Option Nat) (v : Value) : (a.put d v).defers = a.defers := by cases d <;> rfl

theorem opX_of_vc {P : Program} {Kp : List PanicEntry → World → Prop} {ds : List Deferred} {n : Nat} {ops : Array Oper} {e : Env} {a : Act} {i : Nat} {o : Oper} {k : Value → World → Prop} {K : Act → World → Prop} {w : World}
    (hi : ops[i]? = some o) (hA : Agree n e a) (hd0 : a.defers = ds) (ho : e.hasAll (opnds o.op) = true) (h : guardV (guardOf ops.toList e o) (vcOp P e o Kp) k w)
    (hk : ∀ v w', k v w' → K (a.put o.dst v) w') : opX P (n, ds, Kp) ops i K a w := by
  unfold opX
  simp only [hi]
  rcases wanted_env hA h with ⟨hw, hrun⟩ | ⟨hw, hskip⟩
  · have hd := isDefer_of_vcOp hrun
    rw [hw, if_pos rfl]
    refine ⟨hd, ?_⟩
    rw [execOp_env hA ho hd]
    exact nextP_mono (fun v w' => hk v w') (fun ch w' h => ⟨hA.1, hd0, h⟩) (vcOp_exec hrun)
  · rw [hw, if_neg (by simp)]
    exact hk _ _ hskip
theorem okDst_spec {n : Nat} {d : Option Nat} (h : okDst n d = true) : ∀ t, d = some t → t < n := fun t ht => by
  rw [ht] at h; exact Nat.le_of_ble_eq_true (by simpa [okDst, Nat.blt] using h)

section
variable {P : Program} {n : Nat} {Kp : List PanicEntry → World → Prop} {ops : Array Oper} {kp : Nat → (World → Prop) → World → Prop} {cs : World → Prop} {us : List Nat} {cl : Nat → World → Prop} {K : Env → World → Prop} {Q : Act → World → Prop} {ds : List Deferred}
theorem nth_arr {i : Nat} {o : Oper} (h : nth ops.toList i = some o) : ops[i]? = some o := by rw [nth_eq] at h; simpa using h
/-- how many operations have not come up -/
def leftOf (n m : Nat) : Nat := (List.range n).countP fun j => !m.testBit j
theorem leftOf_set {n m i : Nat} (hi : i < n) (hm : m.testBit i = false) : leftOf n (Nat.lor m (Nat.pow 2 i)) + 1 ≤ leftOf n m := by
  unfold leftOf
  have h1 : ∀ l : List Nat, l.countP (fun j => !(Nat.lor m (Nat.pow 2 i)).testBit j) ≤ l.countP (fun j => !m.testBit j) := fun l =>
    List.countP_mono_left fun j _ hj => by
      simp only [lor_bit, pow_bit, Bool.not_or, Bool.and_eq_true] at hj
      exact hj.1
  obtain ⟨l1, l2, hl⟩ := List.append_of_mem (List.mem_range.2 hi)
  rw [hl, List.countP_append, List.countP_append, List.countP_cons, List.countP_cons]
  have ha := h1 l1
  have hb := h1 l2
  have hc : (!(Nat.lor m (Nat.pow 2 i)).testBit i) = false := by simp [lor_bit, pow_bit]
  simp only [hc, hm, Bool.not_false, if_true, Bool.false_eq_true, if_false]
  omega
theorem leftOf_zero (n : Nat) : leftOf n 0 ≤ n := by
  unfold leftOf
  have := List.countP_le_length (p := fun j => !Nat.testBit 0 j) (l := List.range n)
  simp
/-- what an operation does to the world: those that look leave it; the classes are kept that it must keep -/
def relOf (ops : List Oper) (cs : World → Prop) (us : List Nat) (cl : Nat → World → Prop) (j : Nat) (w w' : World) : Prop :=
  (∀ x, nth (rowsOf ops) j = some x → x.quiet = true → w' = w) ∧ (cs w → cs w') ∧ ∀ i ∈ us, (∀ x, nth (rowsOf ops) j = some x → x.after.testBit i = false) → cl i w → cl i w'
/-- what is asked behind an operation holds the classes -/
def KpOk (ops : List Oper) (kp : Nat → (World → Prop) → World → Prop) (cs : World → Prop) (us : List Nat) (cl : Nat → World → Prop) : Prop :=
  ∀ j (K : World → Prop) w, kp j K w → K w ∧ cs w ∧ ∀ i ∈ us, (∀ x, nth (rowsOf ops) j = some x → x.after.testBit i = false) → cl i w
/-- what a fork shows of each of its heads -/
theorem vcAlt_spec : ∀ (p : Plan) (m : Nat) (e : Env) (w : World), planC.altC (rowsOf ops.toList) ops.size p m = true → vcPlan P n Kp ops.toList kp cs cl K p e w → ∀ i ∈ p.heads,
    ∃ o r, nth ops.toList i = some o ∧ (∀ q ∈ r.us, q ∈ p.us) ∧ planC (rowsOf ops.toList) ops.size r (Nat.lor m (Nat.pow 2 i)) = true ∧ e.hasAll (opnds o.op) = true ∧ okDst n o.dst = true ∧
      ((planC.loud (rowsOf ops.toList) i = true ∧ guardV (guardOf ops.toList e o) (vcOp P e o Kp) (fun v w' => kp i (fun w'' => vcPlan P n Kp ops.toList kp cs cl K r (e.put o.dst v) w'') w') w) ∨
        guardTV (guardOf ops.toList e o) (fun k => takeOp P (sameW w) e o k w) (fun v => vcPlan P n Kp ops.toList kp cs cl K r (e.put o.dst v) w))
  | .done, _, _, _, h, _, _, _ => by simp [planC.altC] at h
  | .takeP _ _, _, _, _, h, _, _, _ => by simp [planC.altC] at h
  | .takeS _ _, _, _, _, h, _, _, _ => by simp [planC.altC] at h
  | .takeU _ _, _, _, _, h, _, _, _ => by simp [planC.altC] at h
  | .takeX j r, m, e, w, hc, h, i, hi => by
    simp only [Plan.heads, List.mem_singleton] at hi
    subst hi
    simp only [vcPlan] at h
    simp only [planC.altC] at hc
    split at h
    · rename_i o ho
      split at h
      · rename_i h1 h2
        exact ⟨o, r, ho, fun q hq => hq, hc, h1, h2, .inr h⟩
      · exact h.elim
    · exact h.elim
  | .run j r, m, e, w, hc, h, i, hi => by
    simp only [Plan.heads, List.mem_singleton] at hi
    subst hi
    simp only [vcPlan] at h
    simp only [planC.altC] at hc
    split at hc
    · rename_i hl
      split at h
      · rename_i o ho
        split at h
        · rename_i h1 h2
          exact ⟨o, r, ho, fun q hq => hq, hc, h1, h2, .inl ⟨hl, h⟩⟩
        · exact h.elim
      · exact h.elim
    · cases hc
  | .alt p q, m, e, w, hc, h, i, hi => by
    simp only [vcPlan] at h
    simp only [Plan.heads, List.mem_append] at hi
    simp only [planC.altC] at hc
    split at hc
    · rename_i hc1
      rcases hi with hi | hi
      · obtain ⟨o, r, h1, h2, h3⟩ := vcAlt_spec p m e w hc1 h.1 i hi
        exact ⟨o, r, h1, fun x hx => List.mem_append.2 (.inl (h2 x hx)), h3⟩
      · obtain ⟨o, r, h1, h2, h3⟩ := vcAlt_spec q m e w hc h.2 i hi
        exact ⟨o, r, h1, fun x hx => List.mem_append.2 (.inr (h2 x hx)), h3⟩
    · cases hc

theorem vcPlan_sound (hsel : Region.noSelect ops = true) (hkp : KpOk ops.toList kp cs us cl) (hQ : ∀ e' a' w', Agree n e' a' → a'.defers = ds → K e' w' → Q a' w') :
    ∀ (fuel : Nat) (p : Plan) (m : Nat) (listed : Array Bool) (e : Env) (a : Act) (w : World), leftOf ops.size m ≤ fuel → Bits ops listed m → planC (rowsOf ops.toList) ops.size p m = true →
      Agree n e a → a.defers = ds → cs w → (∀ q ∈ p.us, q ∈ us) → (∀ i ∈ us, m.testBit i = false → cl i w) → vcPlan P n Kp ops.toList kp cs cl K p e w → anyX P (n, ds, Kp) ops (relOf ops.toList cs us cl) Q fuel listed a w := by
  have hns : ∀ (i : Nat) (o : Oper), ops[i]? = some o → ∀ cs b, o.op ≠ .select cs b := fun i o ho cs b => Region.noSelect_spec hsel i o cs b ho
  intro fuel
  induction fuel with
  | zero =>
    intro p m listed e a w hm hB hP hA hd hS hus hcl h
    have absurdReady : ∀ i, readyR (rowsOf ops.toList) m i = true → False := fun i hi => by
      obtain ⟨o, ho, hlt, hbit, _⟩ := of_ready hB (ready_of hB hi)
      have := leftOf_set hlt hbit; omega
    cases p with
    | done => exact ⟨all_of hB hP, hQ _ _ _ hA hd h⟩
    | takeP i r => exfalso; simp only [planC] at hP; split at hP; exact absurdReady i (and4_spec hP).1; cases hP
    | takeX i r => exfalso; simp only [planC] at hP; split at hP; exact absurdReady i (and4_spec hP).1; cases hP
    | takeS i r => exfalso; simp only [planC] at hP; split at hP; exact absurdReady i (and4_spec hP).1; cases hP
    | takeU i r => exfalso; simp only [planC] at hP; split at hP; exact absurdReady i (and4_spec hP).1; cases hP
    | run i r => exfalso; simp only [planC] at hP; exact absurdReady i (and4_spec hP).2.1
    | alt p q =>
      exfalso
      simp only [planC] at hP
      have h1 := (and3_spec hP).1
      split at h1
      · unfold someReady at h1
        split at h1
        · exact absurdReady _ h1
        · cases h1
      · cases h1
  | succ fuel ih =>
    intro p m listed e a w hm hB hP hA hd hS hus hcl h
    have fork : ∀ i o r, (∀ q ∈ r.us, q ∈ us) → i < ops.size → m.testBit i = false → (∀ x, nth (rowsOf ops.toList) i = some x → ∀ q, x.after.testBit q = true → m.testBit q = true) → planC.loud (rowsOf ops.toList) i = true → nth ops.toList i = some o → planC (rowsOf ops.toList) ops.size r (Nat.lor m (Nat.pow 2 i)) = true → e.hasAll (opnds o.op) = true → okDst n o.dst = true →
        guardV (guardOf ops.toList e o) (vcOp P e o Kp) (fun v w' => kp i (fun w'' => vcPlan P n Kp ops.toList kp cs cl K r (e.put o.dst v) w'') w') w →
        opX P (n, ds, Kp) ops i (fun a' w' => relOf ops.toList cs us cl i w w' ∧ anyX P (n, ds, Kp) ops (relOf ops.toList cs us cl) Q fuel (listed.setIfInBounds i true) a' w') a w := fun i o r hru hlt hbit hsub hloud hi hr h1 h2 hg =>
      opX_of_vc (nth_arr hi) hA hd h1 hg fun v w' hv => by
        obtain ⟨hv', hs', hc'⟩ := hkp i _ _ hv
        refine ⟨⟨fun x hx hq => ?_, fun _ => hs', fun q hq hw _ => hc' q hq hw⟩, ih r _ _ _ _ _ (by have := leftOf_set hlt hbit; omega) (hB.set hlt) hr (hA.put _ _ (okDst_spec h2)) (by rw [Act.put_ds, hd]) hs' hru (fun q hq hqm => hc' q hq fun x hx => ?_) hv'⟩
        · unfold planC.loud at hloud
          rw [hx] at hloud
          simp only [hq] at hloud
          cases hloud
        · rw [lor_bit, pow_bit, Bool.or_eq_false_iff] at hqm
          cases hxq : x.after.testBit q with
          | false => rfl
          | true => have := hsub x hx q hxq; rw [hqm.1] at this; cases this
    have forkT : ∀ i o r, (∀ q ∈ r.us, q ∈ us) → i < ops.size → m.testBit i = false → nth ops.toList i = some o → planC (rowsOf ops.toList) ops.size r (Nat.lor m (Nat.pow 2 i)) = true → e.hasAll (opnds o.op) = true → okDst n o.dst = true →
        guardTV (guardOf ops.toList e o) (fun k => takeOp P (sameW w) e o k w) (fun v => vcPlan P n Kp ops.toList kp cs cl K r (e.put o.dst v) w) →
        opX P (n, ds, Kp) ops i (fun a' w' => relOf ops.toList cs us cl i w w' ∧ anyX P (n, ds, Kp) ops (relOf ops.toList cs us cl) Q fuel (listed.setIfInBounds i true) a' w') a w := fun i o r hru hlt hbit ho p3 h1 h2 h => by
      have hi := nth_arr ho
      have hT := guardT_W (w := w) h
      have hfin : ∀ v, vcPlan P n Kp ops.toList kp cs cl K r (e.put o.dst v) w → anyX P (n, ds, Kp) ops (relOf ops.toList cs us cl) Q fuel (listed.setIfInBounds i true) (a.put o.dst v) w := fun v hv =>
        ih r _ _ _ _ _ (by have := leftOf_set hlt hbit; omega) (hB.set hlt) p3 (hA.put _ _ (okDst_spec h2)) (by rw [Act.put_ds, hd]) hS hru (fun q hq hqm => hcl q hq (by rw [lor_bit, Bool.or_eq_false_iff] at hqm; exact hqm.1)) hv
      have hrel : relOf ops.toList cs us cl i w w := ⟨fun _ _ _ => rfl, fun h => h, fun _ _ _ h => h⟩
      unfold opX
      simp only [hi]
      rcases wanted_env hA hT with ⟨hw, hrun⟩ | ⟨hw, hskip⟩
      · obtain ⟨hdf, v, hv, hK⟩ := takeOp_spec hrun
        rw [hw, if_pos rfl]
        refine ⟨hdf, ?_⟩
        rw [execOp_env hA h1 hdf, hv w rfl]
        exact ⟨hrel, hfin v hK⟩
      · rw [hw, if_neg (by simp)]
        exact ⟨hrel, hfin undef hskip⟩
    have take : ∀ (C : World → Prop) (x : Bool) (i : Nat) (r : Plan) (o : Oper), nth ops.toList i = some o → readyR (rowsOf ops.toList) m i = true → freeR x (rowOf ops.toList o) i m (rowsOf ops.toList) 0 = true →
        planC (rowsOf ops.toList) ops.size r (Nat.lor m (Nat.pow 2 i)) = true → e.hasAll (opnds o.op) = true → okDst n o.dst = true → C w →
        (∀ j w1 w2, (x = true → ∀ y, nth (rowsOf ops.toList) j = some y → y.quiet = true) → (∀ y, nth (rowsOf ops.toList) j = some y → y.after.testBit i = false) → C w1 → relOf ops.toList cs us cl j w1 w2 → j < ops.size → C w2) →
        guardTV (guardOf ops.toList e o) (fun k => takeOp P C e o k w) (fun v => vcPlan P n Kp ops.toList kp cs cl K r (e.put o.dst v) w) → (∀ q ∈ r.us, q ∈ us) →
        anyX P (n, ds, Kp) ops (relOf ops.toList cs us cl) Q (fuel + 1) listed a w := by
      intro C x i r o ho p1 p2 p3 h1 h2 hC hpres h hru
      have hi := nth_arr ho
      have hready := ready_of hB p1
      obtain ⟨o', ho', hlt, hbit, _⟩ := of_ready hB hready
      have hfree : ∀ j oj, ops[j]? = some oj → j ≠ i → listed.getD j true = false → (∀ e ∈ oj.after, Region.binds .any e = true → e.on ≠ i) →
          o.apart ops oj = true ∧ ∀ w w', C w → relOf ops.toList cs us cl j w w' → C w' := by
        intro j oj hj hne hun hno
        have hjlt : j < ops.size := (Array.getElem?_eq_some_iff.1 hj).1
        have hna : (rowOf ops.toList oj).after.testBit i = false := by
          cases hk : (rowOf ops.toList oj).after.testBit i with
          | false => rfl
          | true =>
            obtain ⟨e', he', hb', hon⟩ := edgeMask_bit' _ _ hk
            exact absurd hon (hno e' (by simpa using he') hb')
        have hfr := free_of _ 0 p2 j _ (nth_rows' hj) (by simpa using hne) (by rw [Nat.zero_add, ← (hB.2.1 j hjlt).1]; exact hun) hna
        refine ⟨apartR_spec (hns i o hi) (hns j oj hj) hfr.1, fun w1 w2 hc1 hr => hpres j w1 w2 (fun hx y hy => ?_) (fun y hy => ?_) hc1 hr hjlt⟩
        · rw [nth_rows' hj] at hy
          cases hy
          exact hfr.2 hx
        · rw [nth_rows' hj] at hy
          cases hy
          exact hna
      have hT := guardT_W (w := w) h
      have hfin : ∀ v, vcPlan P n Kp ops.toList kp cs cl K r (e.put o.dst v) w → anyX P (n, ds, Kp) ops (relOf ops.toList cs us cl) Q fuel (listed.setIfInBounds i true) (a.put o.dst v) w := fun v hv =>
        ih r _ _ _ _ _ (by have := leftOf_set hlt hbit; omega) (hB.set hlt) p3 (hA.put _ _ (okDst_spec h2)) (by rw [Act.put_ds, hd]) hS hru (fun q hq hqm => hcl q hq (by rw [lor_bit, Bool.or_eq_false_iff] at hqm; exact hqm.1)) hv
      rcases wanted_env hA hT with ⟨hw, hrun⟩ | ⟨hw, hskip⟩
      · obtain ⟨hdf, v, hv, hK⟩ := takeOp_spec hrun
        refine anyX_first (S := C) hi (Region.noSelect_spec hsel) (fun w => ⟨fun _ _ _ => rfl, fun h => h, fun _ _ _ h => h⟩) fuel listed a w hfree hready (.inl ⟨hw, hdf, fun w' hw' => ?_⟩) hC (hfin v hK)
        rw [execOp_env hA h1 hdf]; exact hv w' hw'
      · exact anyX_first (S := C) hi (Region.noSelect_spec hsel) (fun w => ⟨fun _ _ _ => rfl, fun h => h, fun _ _ _ h => h⟩) fuel listed a w hfree hready (.inr ⟨hw, rfl⟩) hC (hfin undef hskip)
    cases p with
    | done =>
      have he' := all_of hB hP
      exact ⟨fun _ => hQ _ _ _ hA hd h, fun i hi => by rw [he'] at hi; cases hi⟩
    | takeP i r =>
      simp only [vcPlan] at h
      split at h
      · rename_i o ho
        split at h
        · rename_i h1 h2
          simp only [planC, nth_rows' (nth_arr ho)] at hP
          obtain ⟨p1, p2, _, p3⟩ := and4_spec hP
          exact take anyW false i r o ho p1 p2 p3 h1 h2 trivial (fun _ _ _ _ _ _ _ _ => trivial) h hus
        · exact h.elim
      · exact h.elim
    | takeX i r =>
      simp only [vcPlan] at h
      split at h
      · rename_i o ho
        split at h
        · rename_i h1 h2
          simp only [planC, nth_rows' (nth_arr ho)] at hP
          obtain ⟨p1, p2, _, p3⟩ := and4_spec hP
          rcases orB_spec p2 with p2 | p2
          case' inr =>
            have hi := nth_arr ho
            have hready := ready_of hB p1
            obtain ⟨o', ho', hlt, hbit, _⟩ := of_ready hB hready
            have hop := forkT i o r hus hlt hbit ho p3 h1 h2 h
            refine ⟨fun he => ?_, fun j hj => ?_⟩
            · rw [he] at hready; cases hready
            · obtain ⟨oj, hoj, _, hjb, hjs⟩ := of_ready hB hj
              have := heads_of _ 0 p2 j _ (nth_rows' hoj) (by rw [Nat.zero_add]; exact hjb) hjs
              simp only [Nat.zero_add, List.mem_singleton] at this
              subst this; exact hop
          refine take (sameW w) true i r o ho p1 p2 p3 h1 h2 rfl (fun j w1 w2 hq _ hc hr hj => ?_) h hus
          have hoj : ops[j]? = some ops[j] := by simp [hj]
          have := hr.1 _ (nth_rows' hoj) (hq rfl _ (nth_rows' hoj))
          rw [this]; exact hc
        · exact h.elim
      · exact h.elim
    | takeS i r =>
      simp only [vcPlan] at h
      split at h
      · rename_i o ho
        split at h
        · rename_i h1 h2
          simp only [planC, nth_rows' (nth_arr ho)] at hP
          obtain ⟨p1, p2, _, p3⟩ := and4_spec hP
          exact take cs false i r o ho p1 p2 p3 h1 h2 hS (fun j w1 w2 _ _ hc hr _ => hr.2.1 hc) h hus
        · exact h.elim
      · exact h.elim
    | takeU i r =>
      simp only [vcPlan] at h
      split at h
      · rename_i o ho
        split at h
        · rename_i h1 h2
          simp only [planC, nth_rows' (nth_arr ho)] at hP
          obtain ⟨p1, p2, _, p3⟩ := and4_spec hP
          have hiu : i ∈ us := hus i (by simp [Plan.us])
          have hbit : m.testBit i = false := by
            obtain ⟨_, _, _, hb, _⟩ := of_ready hB (ready_of hB p1); exact hb
          exact take (cl i) false i r o ho p1 p2 p3 h1 h2 (hcl i hiu hbit) (fun j w1 w2 _ hna hc hr _ => hr.2.2 i hiu (fun x hx => hna x hx) hc) h (fun q hq => hus q (by simp [Plan.us, hq]))
        · exact h.elim
      · exact h.elim
    | run i r =>
      simp only [vcPlan] at h
      split at h
      · rename_i o ho
        split at h
        · rename_i h1 h2
          simp only [planC] at hP
          obtain ⟨p1, p2, p4, p3⟩ := and4_spec hP
          have hready := ready_of hB p2
          obtain ⟨o', ho', hlt, hbit, hsb⟩ := of_ready hB hready
          have hop := fork i o r hus hlt hbit (fun x hx => by rw [nth_rows' ho'] at hx; cases hx; exact subM_spec hsb) p4 ho p3 h1 h2 h
          refine ⟨fun he => ?_, fun j hj => ?_⟩
          · rw [he] at hready; cases hready
          · obtain ⟨oj, hoj, _, hjb, hjs⟩ := of_ready hB hj
            have := heads_of _ 0 p1 j _ (nth_rows' hoj) (by rw [Nat.zero_add]; exact hjb) hjs
            simp only [Nat.zero_add, List.mem_singleton] at this
            subst this; exact hop
        · exact h.elim
      · exact h.elim
    | alt p q =>
      simp only [planC] at hP
      obtain ⟨p1, p2, p3⟩ := and3_spec hP
      simp only [vcPlan] at h
      split at p1
      · rename_i hh
        refine ⟨fun he => ?_, fun j hj => ?_⟩
        · unfold someReady at p1
          split at p1
          · have := ready_of hB p1; rw [he] at this; cases this
          · cases p1
        · obtain ⟨oj, hoj, hjlt, hjb, hjs⟩ := of_ready hB hj
          have hmem := heads_of _ 0 hh j _ (nth_rows' hoj) (by rw [Nat.zero_add]; exact hjb) hjs
          rw [Nat.zero_add, List.mem_append] at hmem
          rcases hmem with hi | hi
          · obtain ⟨o, r, b1, bu, b2, b3, b4, b5⟩ := vcAlt_spec p m e w p2 h.1 j hi
            rcases b5 with ⟨b0, b5⟩ | b5
            · exact fork j o r (fun x hx => hus x (List.mem_append.2 (.inl (bu x hx)))) hjlt hjb (fun x hx => by rw [nth_rows' hoj] at hx; cases hx; exact subM_spec hjs) b0 b1 b2 b3 b4 b5
            · exact forkT j o r (fun x hx => hus x (List.mem_append.2 (.inl (bu x hx)))) hjlt hjb b1 b2 b3 b4 b5
          · obtain ⟨o, r, b1, bu, b2, b3, b4, b5⟩ := vcAlt_spec q m e w p3 h.2 j hi
            rcases b5 with ⟨b0, b5⟩ | b5
            · exact fork j o r (fun x hx => hus x (List.mem_append.2 (.inr (bu x hx)))) hjlt hjb (fun x hx => by rw [nth_rows' hoj] at hx; cases hx; exact subM_spec hjs) b0 b1 b2 b3 b4 b5
            · exact forkT j o r (fun x hx => hus x (List.mem_append.2 (.inr (bu x hx)))) hjlt hjb b1 b2 b3 b4 b5
      · cases p1
theorem kpOk_none : KpOk ops.toList (fun _ K w => K w) anyW [] (fun _ => anyW) := fun j K w h => ⟨h, trivial, fun i hi => by cases hi⟩
theorem kpOk_S {S : World → Prop} : KpOk ops.toList (fun _ K w => keepS S K w) S [] (fun _ => S) := fun j K w h => ⟨h.out.2, h.out.1, fun i hi => by cases hi⟩
/-- what is asked behind operation j: the class, unless j comes behind all that was taken in it -/
def keepJ (rs : List Row) (us : List Nat) (S : World → Prop) (j : Nat) (K : World → Prop) (w : World) : Prop :=
  match keptBy.go rs j us with
  | [] => K w
  | _ :: _ => keepS S K w
theorem go_nil {rs : List Row} {j : Nat} : ∀ {us : List Nat}, keptBy.go rs j us = [] → ∀ i ∈ us, ¬ ∀ x, nth rs j = some x → x.after.testBit i = false
  | [], _, i, hi => by cases hi
  | q :: r, h, i, hi => by
    simp only [keptBy.go] at h
    cases hn : nth rs j with
    | none => rw [hn] at h; simp at h
    | some x =>
      rw [hn] at h
      simp only at h
      cases hb : bit x.after q with
      | false => rw [hb] at h; simp at h
      | true =>
        rw [hb] at h
        cases hi with
        | head => intro hx; rw [bit_eq, hx x rfl] at hb; cases hb
        | tail _ hi => have := go_nil h i hi; rwa [hn] at this
theorem kpOk_J {S : World → Prop} {us : List Nat} : KpOk ops.toList (fun j K w => keepJ (rowsOf ops.toList) us S j K w) anyW us (fun _ => S) := fun j K w h => by
  replace h : keepJ (rowsOf ops.toList) us S j K w := h
  unfold keepJ at h
  split at h
  · rename_i hg
    exact ⟨h, trivial, fun i hi hx => absurd hx (go_nil hg i hi)⟩
  · exact ⟨h.out.2, trivial, fun i hi hx => h.out.1⟩
end
end Go.V
/- Regions whose order is drawn, by what each operation keeps: a fact for each operation, and one for the world. -/
set_option linter.unusedSimpArgs false
set_option linter.unusedVariables false
namespace Go.V
open Go
/-- what is asked behind operation i: its fact, and that no fact is lost -/
structure bagK (Φ : Nat → Value → World → Prop) (Ψ : World → Prop) (i : Nat) (w : World) (v : Value) (w' : World) : Prop where
  out : Ψ w' ∧ Φ i v w' ∧ ∀ j u, Φ j u w → Φ j u w'
/-- the operations whose slots are among 'looks' -/
def depsOf (looks : Nat) : List Oper → Nat → List (Nat × Nat)
  | [], _ => []
  | o :: r, j => match o.dst with
    | some t => match bit looks t with | true => (j, t) :: depsOf looks r (j + 1) | false => depsOf looks r (j + 1)
    | none => depsOf looks r (j + 1)
def allDst : List Oper → Nat → List (Nat × Nat)
  | [], _ => []
  | o :: r, j => match o.dst with | some t => (j, t) :: allDst r (j + 1) | none => allDst r (j + 1)
def depIn (after : Nat) : List (Nat × Nat) → Bool
  | [] => true
  | (j, _) :: r => match bit after j with | true => depIn after r | false => false
def notIn : Option Nat → List (Nat × Nat) → Bool
  | none, _ => true
  | some _, [] => true
  | some t, (_, u) :: r => match Nat.beq t u with | true => false | false => notIn (some t) r
def bagC1 (ops : List Oper) : List Oper → Nat → Bool
  | [], _ => true
  | o :: r, i => match and3 (depIn (rowOf ops o).after (depsOf (rowOf ops o).looks ops 0)) (Nat.blt (rowOf ops o).after (Nat.pow 2 i)) (notIn o.dst (allDst r (i + 1))) with | true => bagC1 ops r (i + 1) | false => false
def noBind (e : Env) : List (Nat × Nat) → Bool
  | [] => true
  | (_, t) :: r => match has (e.get t) with | true => false | false => noBind e r
def bagC (ops : List Oper) (e : Env) : Bool := match bagC1 ops ops 0 with | true => noBind e (allDst ops 0) | false => false
/-- what the fact of an operation is about: what it yields, or, if it yields nothing, the values at which it looks -/
def aboutV (d : Option Nat) (v : Value) (l : List Value) : Value := match d with | some _ => v | none => .tuple ⟨l⟩
def slotsV (e : Env) : List (Nat × Nat) → List Value
  | [] => []
  | (_, t) :: r => optGet (e.get t) :: slotsV e r
def bagOp (P : Program) (n : Nat) (ops : List Oper) (Φ : Nat → Value → World → Prop) (Ψ : World → Prop) (i : Nat) (o : Oper) (w : World) (all : List (Nat × Nat)) : List (Nat × Nat) → Env → Prop
  | [], e => match e.hasAll (opnds o.op), okDst n o.dst with
    | true, true => guardV (guardOf ops e o) (vcOp P e o noP) (fun v w' => bagK Φ Ψ i w (aboutV o.dst v (slotsV e all)) w') w
    | _, _ => False
  | (j, t) :: r, e => ∀ v, Φ j v w → bagOp P n ops Φ Ψ i o w all r ((t, v) :: e)
def bagOps (P : Program) (n : Nat) (ops : List Oper) (Φ : Nat → Value → World → Prop) (Ψ : World → Prop) (e : Env) : List Oper → Nat → Prop
  | [], _ => True
  | o :: r, i => (∀ w, Ψ w → bagOp P n ops Φ Ψ i o w (depsOf (rowOf ops o).looks ops 0) (depsOf (rowOf ops o).looks ops 0) e) ∧ bagOps P n ops Φ Ψ e r (i + 1)
/-- the operations that yield nothing, and at what they look -/
def allMute (ops : List Oper) : List Oper → Nat → List (Nat × List (Nat × Nat))
  | [], _ => []
  | o :: r, j => match o.dst with | some _ => allMute ops r (j + 1) | none => (j, depsOf (rowOf ops o).looks ops 0) :: allMute ops r (j + 1)
def bagMute (Φ : Nat → Value → World → Prop) (K : Env → World → Prop) (e : Env) (w : World) : List (Nat × List (Nat × Nat)) → Prop
  | [] => K e w
  | (j, d) :: r => Φ j (.tuple ⟨slotsV e d⟩) w → bagMute Φ K e w r
def bagEnd (Φ : Nat → Value → World → Prop) (K : Env → World → Prop) (mu : List (Nat × List (Nat × Nat))) : List (Nat × Nat) → Env → World → Prop
  | [], e, w => bagMute Φ K e w mu
  | (j, t) :: r, e, w => ∀ v, Φ j v w → bagEnd Φ K mu r ((t, v) :: e) w
def vcBag (P : Program) (n : Nat) (ops : List Oper) (e : Env) (K : Env → World → Prop) (w : World) : Prop :=
  ∃ Ψ : World → Prop, ∃ Φ : Nat → Value → World → Prop, Ψ w ∧ (∀ w, Ψ w → bagEnd Φ K (allMute ops ops 0) (allDst ops 0) e w) ∧ bagOps P n ops Φ Ψ e ops 0
def memD : List (Nat × Nat) → Nat → Bool
  | [], _ => false
  | (_, u) :: r, t => match Nat.beq u t with | true => true | false => memD r t
/-- without what the region's own slots held -/
def dropD (ds : List (Nat × Nat)) : Env → Env
  | [] => []
  | (k, v) :: r => match memD ds k with | true => dropD ds r | false => (k, v) :: dropD ds r
theorem dropD_get (ds : List (Nat × Nat)) : ∀ {e : Env} {t : Nat} {v : Value}, (dropD ds e).get t = some v → memD ds t = false ∧ e.get t = some v
  | [], t, v, h => by simp [dropD, Env.get] at h
  | (k, u) :: r, t, v, h => by
    simp only [dropD] at h
    split at h
    · rename_i hm
      obtain ⟨h1, h2⟩ := dropD_get ds h
      have hne : k ≠ t := fun hh => by rw [hh, h1] at hm; cases hm
      refine ⟨h1, ?_⟩
      rw [Env.get_cons, if_neg hne]; exact h2
    · rename_i hm
      rw [Env.get_cons] at h ⊢
      split at h
      · rename_i ht
        rw [if_pos ht]
        exact ⟨by rw [← ht]; exact hm, h⟩
      · rename_i ht
        rw [if_neg ht]
        exact dropD_get ds h
theorem agree_dropD {n : Nat} {e : Env} {a : Act} (ds : List (Nat × Nat)) (h : Agree n e a) : Agree n (dropD ds e) a := ⟨h.1, fun t v ht => h.2 t v (dropD_get ds ht).2⟩
section
variable {P : Program} {n : Nat} {ops : Array Oper} {Φ : Nat → Value → World → Prop} {Ψ : World → Prop} {e : Env} {ds : List Deferred} {K : Env → World → Prop} {Q : Act → World → Prop}
theorem mem_allDst : ∀ {l : List Oper} {i j t : Nat}, (j, t) ∈ allDst l i ↔ ∃ k o, l[k]? = some o ∧ o.dst = some t ∧ j = i + k
  | [], i, j, t => by simp [allDst]
  | o :: r, i, j, t => by
    have ih := mem_allDst (l := r) (i := i + 1) (j := j) (t := t)
    constructor
    · intro h
      simp only [allDst] at h
      split at h
      · rename_i u hu
        rcases List.mem_cons.1 h with h | h
        · cases h; exact ⟨0, o, rfl, hu, rfl⟩
        · obtain ⟨k, o', h1, h2, h3⟩ := ih.1 h
          exact ⟨k + 1, o', by simpa using h1, h2, by omega⟩
      · obtain ⟨k, o', h1, h2, h3⟩ := ih.1 h
        exact ⟨k + 1, o', by simpa using h1, h2, by omega⟩
    · rintro ⟨k, o', h1, h2, h3⟩
      simp only [allDst]
      cases k with
      | zero =>
        simp at h1; subst h1
        rw [h2]; simp; exact .inl (by omega)
      | succ k =>
        have hm := ih.2 ⟨k, o', by simpa using h1, h2, by omega⟩
        split
        · exact List.mem_cons_of_mem _ hm
        · exact hm
theorem mem_depsOf {looks : Nat} : ∀ {l : List Oper} {i j t : Nat}, (j, t) ∈ depsOf looks l i → ∃ k o, l[k]? = some o ∧ o.dst = some t ∧ j = i + k
  | [], i, j, t, h => by simp [depsOf] at h
  | o :: r, i, j, t, h => by
    simp only [depsOf] at h
    have ih := mem_depsOf (looks := looks) (l := r) (i := i + 1) (j := j) (t := t)
    split at h
    · rename_i u hu
      split at h
      · rcases List.mem_cons.1 h with h | h
        · cases h; exact ⟨0, o, rfl, hu, rfl⟩
        · obtain ⟨k, o', h1, h2, h3⟩ := ih h
          exact ⟨k + 1, o', by simpa using h1, h2, by omega⟩
      · obtain ⟨k, o', h1, h2, h3⟩ := ih h
        exact ⟨k + 1, o', by simpa using h1, h2, by omega⟩
    · obtain ⟨k, o', h1, h2, h3⟩ := ih h
      exact ⟨k + 1, o', by simpa using h1, h2, by omega⟩
theorem depIn_spec {after : Nat} : ∀ {l : List (Nat × Nat)}, depIn after l = true → ∀ p ∈ l, after.testBit p.1 = true
  | [], _, p, hp => by cases hp
  | (j, t) :: r, h, p, hp => by
    simp only [depIn] at h
    split at h
    · rename_i hb
      rw [bit_eq] at hb
      rcases List.mem_cons.1 hp with h' | h'
      · subst h'; exact hb
      · exact depIn_spec h p h'
    · cases h
theorem notIn_spec {d : Option Nat} : ∀ {l : List (Nat × Nat)}, notIn d l = true → ∀ t, d = some t → ∀ p ∈ l, p.2 ≠ t
  | [], _, t, _, p, hp => by cases hp
  | (j, u) :: r, h, t, hd, p, hp => by
    subst hd
    simp only [notIn] at h
    split at h
    · cases h
    · rename_i hb
      rcases List.mem_cons.1 hp with h' | h'
      · subst h'
        intro he
        rw [← he] at hb
        rw [Nat.beq_refl] at hb
        cases hb
      · exact notIn_spec h t rfl p h'
theorem noBind_spec {e : Env} : ∀ {l : List (Nat × Nat)}, noBind e l = true → ∀ p ∈ l, e.get p.2 = none
  | [], _, p, hp => by cases hp
  | (j, t) :: r, h, p, hp => by
    simp only [noBind] at h
    split at h
    · cases h
    · rename_i hb
      rcases List.mem_cons.1 hp with h' | h'
      · subst h'
        cases hg : e.get t with
        | none => rfl
        | some v => rw [hg] at hb; cases hb
      · exact noBind_spec h p h'
theorem bagC1_spec (os : List Oper) : ∀ (l : List Oper) (i : Nat), bagC1 os l i = true → ∀ (k : Nat) o, l[k]? = some o →
    depIn (rowOf os o).after (depsOf (rowOf os o).looks os 0) = true ∧ (rowOf os o).after < 2 ^ (i + k) ∧ ∀ (k' : Nat) o' t, k < k' → l[k']? = some o' → o.dst = some t → o'.dst ≠ some t
  | [], i, _, k, o, h => by simp at h
  | x :: r, i, h, k, o, hk => by
    simp only [bagC1] at h
    split at h
    · rename_i hc
      obtain ⟨h1, h2, h3⟩ := and3_spec hc
      cases k with
      | zero =>
        simp at hk; subst hk
        refine ⟨h1, by have := Nat.le_of_ble_eq_true (by simpa [Nat.blt] using h2); exact this, fun k' o' t hlt ho' hd hd' => ?_⟩
        obtain ⟨k'', rfl⟩ : ∃ k'', k' = k'' + 1 := ⟨k' - 1, by omega⟩
        have hm : (i + 1 + k'', t) ∈ allDst r (i + 1) := mem_allDst.2 ⟨k'', o', by simpa using ho', hd', rfl⟩
        exact notIn_spec h3 t hd _ hm rfl
      | succ k =>
        have := bagC1_spec os r (i + 1) h k o (by simpa using hk)
        refine ⟨this.1, by rw [show i + (k + 1) = i + 1 + k by omega]; exact this.2.1, fun k' o' t hlt ho' hd => ?_⟩
        obtain ⟨k'', rfl⟩ : ∃ k'', k' = k'' + 1 := ⟨k' - 1, by omega⟩
        exact this.2.2 k'' o' t (by omega) (by simpa using ho') hd
    · cases h
theorem bagOps_spec {os : List Oper} : ∀ {l : List Oper} {i : Nat}, bagOps P n os Φ Ψ e l i → ∀ (k : Nat) o, l[k]? = some o → ∀ w, Ψ w → bagOp P n os Φ Ψ (i + k) o w (depsOf (rowOf os o).looks os 0) (depsOf (rowOf os o).looks os 0) e
  | [], i, _, k, o, h => by simp at h
  | x :: r, i, h, k, o, hk => by
    cases k with
    | zero => simp at hk; subst hk; exact h.1
    | succ k =>
      have := bagOps_spec h.2 k o (by simpa using hk)
      rw [show i + (k + 1) = i + 1 + k by omega]; exact this
/-- what holds when the operations m have come up -/
structure BagI (n : Nat) (ops : Array Oper) (Φ : Nat → Value → World → Prop) (Ψ : World → Prop) (e : Env) (ds : List Deferred) (m : Nat) (a : Act) (w : World) : Prop where
  size : a.tmps.size = n
  ds : a.defers = ds
  Ψ : Ψ w
  old : ∀ t v, e.get t = some v → a.tmps.getD t undef = v
  new : ∀ (j : Nat) o t, ops[j]? = some o → o.dst = some t → m.testBit j = true → Φ j (a.tmps.getD t undef) w
  mute : ∀ (j : Nat) o, ops[j]? = some o → o.dst = none → m.testBit j = true → Φ j (.tuple ⟨(depsOf (rowOf ops.toList o).looks ops.toList 0).map fun p => a.tmps.getD p.2 undef⟩) w ∧ ∀ p ∈ depsOf (rowOf ops.toList o).looks ops.toList 0, m.testBit p.1 = true
theorem agree_cons {e : Env} {a : Act} (h : Agree n e a) (t : Nat) : Agree n ((t, a.tmps.getD t undef) :: e) a := ⟨h.1, fun u v hu => by
  rw [Env.get_cons] at hu
  split at hu
  · rename_i ht; cases hu; rw [ht]
  · exact h.2 u v hu⟩
theorem slotsV_eq {e : Env} {a : Act} (hA : Agree n e a) : ∀ {l : List (Nat × Nat)}, (∀ p ∈ l, ∃ v, e.get p.2 = some v) → slotsV e l = l.map fun p => a.tmps.getD p.2 undef
  | [], _ => rfl
  | (j, t) :: r, h => by
    obtain ⟨v, hv⟩ := h (j, t) (by simp)
    simp only [slotsV, List.map_cons]
    rw [slotsV_eq hA fun p hp => h p (List.mem_cons_of_mem _ hp), hv, hA.2 t v hv]; rfl
theorem get_some_cons {e : Env} {t u : Nat} {v : Value} (h : ∃ x, e.get t = some x) : ∃ x, Env.get ((u, v) :: e) t = some x := by
  rw [Env.get_cons]
  split
  · exact ⟨_, rfl⟩
  · exact h
theorem bagOp_inst {os : List Oper} {o : Oper} {i : Nat} {a : Act} {w : World} {all : List (Nat × Nat)} : ∀ {l : List (Nat × Nat)} {e : Env}, Agree n e a → (∀ p ∈ all, p ∈ l ∨ ∃ v, e.get p.2 = some v) → (∀ p ∈ l, Φ p.1 (a.tmps.getD p.2 undef) w) → bagOp P n os Φ Ψ i o w all l e →
    ∃ e', Agree n e' a ∧ e'.hasAll (opnds o.op) = true ∧ okDst n o.dst = true ∧ guardV (guardOf os e' o) (vcOp P e' o noP) (fun v w' => bagK Φ Ψ i w (aboutV o.dst v (all.map fun p => a.tmps.getD p.2 undef)) w') w
  | [], e, hA, hal, _, h => by
    simp only [bagOp] at h
    split at h
    · rename_i h1 h2
      rw [slotsV_eq hA fun p hp => (hal p hp).resolve_left (by simp)] at h
      exact ⟨e, hA, h1, h2, h⟩
    · exact h.elim
  | (j, t) :: r, e, hA, hal, hp, h => bagOp_inst (agree_cons hA t) (fun p hm => by
      rcases hal p hm with h' | h'
      · rcases List.mem_cons.1 h' with h' | h'
        · subst h'; exact .inr ⟨_, by rw [Env.get_cons, if_pos rfl]⟩
        · exact .inl h'
      · exact .inr (get_some_cons h')) (fun p hm => hp p (List.mem_cons_of_mem _ hm)) (h _ (hp (j, t) (by simp)))
theorem bagMute_inst {a : Act} {w : World} {e : Env} (hA : Agree n e a) : ∀ {l : List (Nat × List (Nat × Nat))}, (∀ q ∈ l, (∀ p ∈ q.2, ∃ v, e.get p.2 = some v) ∧ Φ q.1 (.tuple ⟨q.2.map fun p => a.tmps.getD p.2 undef⟩) w) → bagMute Φ K e w l → K e w
  | [], _, h => h
  | (j, d) :: r, hq, h => by
    have h1 := hq (j, d) (by simp)
    exact bagMute_inst hA (fun q hm => hq q (List.mem_cons_of_mem _ hm)) (h (by rw [slotsV_eq hA h1.1]; exact h1.2))
theorem bagEnd_inst {a : Act} {w : World} {mu : List (Nat × List (Nat × Nat))} {al : List (Nat × Nat)} (hmu : ∀ q ∈ mu, (∀ p ∈ q.2, p ∈ al) ∧ Φ q.1 (.tuple ⟨q.2.map fun p => a.tmps.getD p.2 undef⟩) w) : ∀ {l : List (Nat × Nat)} {e : Env}, Agree n e a → (∀ p ∈ al, p ∈ l ∨ ∃ v, e.get p.2 = some v) → (∀ p ∈ l, Φ p.1 (a.tmps.getD p.2 undef) w) → bagEnd Φ K mu l e w → ∃ e', Agree n e' a ∧ K e' w
  | [], e, hA, hal, _, h => ⟨e, hA, bagMute_inst hA (fun q hm => ⟨fun p hp => (hal p ((hmu q hm).1 p hp)).resolve_left (by simp), (hmu q hm).2⟩) h⟩
  | (j, t) :: r, e, hA, hal, hp, h => bagEnd_inst hmu (agree_cons hA t) (fun p hm => by
      rcases hal p hm with h' | h'
      · rcases List.mem_cons.1 h' with h' | h'
        · subst h'; exact .inr ⟨_, by rw [Env.get_cons, if_pos rfl]⟩
        · exact .inl h'
      · exact .inr (get_some_cons h')) (fun p hm => hp p (List.mem_cons_of_mem _ hm)) (h _ (hp (j, t) (by simp)))
theorem mem_allMute {os : List Oper} : ∀ {l : List Oper} {i j : Nat} {d : List (Nat × Nat)}, (j, d) ∈ allMute os l i → ∃ k o, l[k]? = some o ∧ o.dst = none ∧ j = i + k ∧ d = depsOf (rowOf os o).looks os 0
  | [], i, j, d, h => by simp [allMute] at h
  | o :: r, i, j, d, h => by
    simp only [allMute] at h
    have ih := mem_allMute (os := os) (l := r) (i := i + 1) (j := j) (d := d)
    split at h
    · obtain ⟨k, o', h1, h2, h3, h4⟩ := ih h
      exact ⟨k + 1, o', by simpa using h1, h2, by omega, h4⟩
    · rename_i hu
      rcases List.mem_cons.1 h with h | h
      · cases h; exact ⟨0, o, rfl, hu, rfl, rfl⟩
      · obtain ⟨k, o', h1, h2, h3, h4⟩ := ih h
        exact ⟨k + 1, o', by simpa using h1, h2, by omega, h4⟩
theorem put_getD {a : Act} {d : Option Nat} {v : Value} {t : Nat} (h : d ≠ some t) : (a.put d v).tmps.getD t undef = a.tmps.getD t undef := by
  cases d with
  | none => rfl
  | some d =>
    have hne : d ≠ t := fun hh => h (by rw [hh])
    simp only [Act.put, Array.getD]
    by_cases ht : t < a.tmps.size
    · simp [ht, hne]
    · simp [ht]
theorem put_size {a : Act} {d : Option Nat} {v : Value} : (a.put d v).tmps.size = a.tmps.size := by cases d <;> simp [Act.put]
theorem put_self {a : Act} {d : Nat} {v : Value} (h : d < a.tmps.size) : (a.put (some d) v).tmps.getD d undef = v := by simp [Act.put, Array.getD, h]
theorem bag_sound (hc : bagC ops.toList e = true) (hQ : ∀ e' a' w', Agree n e' a' → a'.defers = ds → K e' w' → Q a' w') (hend : ∀ w, Ψ w → bagEnd Φ K (allMute ops.toList ops.toList 0) (allDst ops.toList 0) e w) (hops : bagOps P n ops.toList Φ Ψ e ops.toList 0) :
    ∀ (fuel m : Nat) (listed : Array Bool) (a : Act) (w : World), leftOf ops.size m ≤ fuel → Bits ops listed m → BagI n ops Φ Ψ e ds m a w → anyX P (n, ds, noP) ops (fun _ _ _ => True) Q fuel listed a w := by
  unfold bagC at hc
  split at hc
  case h_2 => cases hc
  rename_i hc1
  have hget : ∀ (k : Nat) o, ops.toList[k]? = some o ↔ ops[k]? = some o := fun k o => by simp
  have C1 := fun k o hk => bagC1_spec ops.toList ops.toList 0 hc1 k o ((hget k o).2 hk)
  have nb := fun p hp => noBind_spec hc p hp
  have nbj : ∀ (j : Nat) o t, ops[j]? = some o → o.dst = some t → e.get t = none := fun j o t h1 h2 => nb (j, t) (mem_allDst.2 ⟨j, o, (hget j o).2 h1, h2, by omega⟩)
  have dist : ∀ (j i : Nat) o o' t, ops[j]? = some o → ops[i]? = some o' → j ≠ i → o.dst = some t → o'.dst ≠ some t := fun j i o o' t h1 h2 hne hd hd' => by
    rcases Nat.lt_or_ge j i with h | h
    · exact (C1 j o h1).2.2 i o' t h ((hget i o').2 h2) hd hd'
    · exact (C1 i o' h2).2.2 j o t (by omega) ((hget j o).2 h1) hd' hd
  have done : ∀ (m : Nat) (listed : Array Bool) (a : Act) (w : World), Bits ops listed m → Region.ready .any ops listed = [] → BagI n ops Φ Ψ e ds m a w → Q a w := by
    intro m listed a w hB hr hI
    have hall : ∀ j, j < ops.size → m.testBit j = true := by
      intro j
      induction j using Nat.strongRecOn with
      | ind j ih =>
        intro hj
        cases hm : m.testBit j with
        | true => rfl
        | false =>
          exfalso
          have hoj : ops[j]? = some ops[j] := by simp [hj]
          have hlt := (C1 j _ hoj).2.1
          rw [Nat.zero_add] at hlt
          have hrdy : j ∈ Region.ready .any ops listed := by
            refine ready_of hB ?_
            unfold readyR
            rw [nth_rows' hoj]
            simp only
            rw [bit_eq, hm]
            simp only
            unfold subM
            have : (rowOf ops.toList ops[j]).after &&& m = (rowOf ops.toList ops[j]).after := by
              apply Nat.eq_of_testBit_eq
              intro k
              simp only [Nat.testBit_and]
              cases hk : (rowOf ops.toList ops[j]).after.testBit k with
              | false => rfl
              | true =>
                have hkj : k < j := by
                  apply Decidable.byContradiction
                  intro hh
                  have h2 : 2 ^ j ≤ 2 ^ k := Nat.pow_le_pow_right (by decide) (by omega)
                  rw [Nat.testBit_lt_two_pow (Nat.lt_of_lt_of_le hlt h2)] at hk
                  cases hk
                rw [ih k hkj (by omega)]; rfl
            show Nat.beq (Nat.land (rowOf ops.toList ops[j]).after m) _ = true
            have h3 : Nat.land (rowOf ops.toList ops[j]).after m = (rowOf ops.toList ops[j]).after := this
            rw [h3]; exact Nat.beq_refl _
          rw [hr] at hrdy; cases hrdy
    obtain ⟨e', hA, hK⟩ := bagEnd_inst (n := n) (Φ := Φ) (K := K) (a := a) (al := allDst ops.toList 0) (fun q hq => by
      obtain ⟨j, d⟩ := q
      obtain ⟨k, o, h1, h2, h3, rfl⟩ := mem_allMute hq
      have hk : j = k := by omega
      subst hk
      have ho := (hget j o).1 h1
      refine ⟨fun p hp => ?_, (hI.mute j o ho h2 (hall j (Array.getElem?_eq_some_iff.1 ho).1)).1⟩
      obtain ⟨p1, p2⟩ := p
      obtain ⟨k', o', q1, q2, q3⟩ := mem_depsOf hp
      exact mem_allDst.2 ⟨k', o', q1, q2, q3⟩) ⟨hI.size, hI.old⟩ (fun p hp => .inl hp) (fun p hp => by
      obtain ⟨j, t⟩ := p
      obtain ⟨k, o, h1, h2, h3⟩ := mem_allDst.1 hp
      have hk : j = k := by omega
      subst hk
      have ho := (hget j o).1 h1
      exact hI.new j o t ho h2 (hall j (Array.getElem?_eq_some_iff.1 ho).1)) (hend w hI.Ψ)
    exact hQ _ _ _ hA hI.ds hK
  intro fuel
  induction fuel with
  | zero =>
    intro m listed a w hm hB hI
    have hr : Region.ready .any ops listed = [] := by
      cases hr : Region.ready .any ops listed with
      | nil => rfl
      | cons i t =>
        exfalso
        obtain ⟨o, ho, hlt, hbit, _⟩ := of_ready hB (by rw [hr]; simp : i ∈ Region.ready .any ops listed)
        have := leftOf_set hlt hbit; omega
    exact ⟨hr, done m listed a w hB hr hI⟩
  | succ fuel ih =>
    intro m listed a w hm hB hI
    refine ⟨fun hr => done m listed a w hB hr hI, fun i hi => ?_⟩
    obtain ⟨o, ho, hlt, hbit, hsub⟩ := of_ready hB hi
    have hop := bagOps_spec hops i o ((hget i o).2 ho) w hI.Ψ
    rw [Nat.zero_add] at hop
    have hdm : ∀ p ∈ depsOf (rowOf ops.toList o).looks ops.toList 0, m.testBit p.1 = true := fun p hp => subM_spec hsub p.1 (depIn_spec (C1 i o ho).1 _ hp)
    obtain ⟨e', hA, h1, h2, hg⟩ := bagOp_inst (a := a) ⟨hI.size, hI.old⟩ (fun p hp => .inl hp) (fun p hp => by
      obtain ⟨j, t⟩ := p
      obtain ⟨k, o', q1, q2, q3⟩ := mem_depsOf hp
      have hk : j = k := by omega
      subst hk
      exact hI.new j o' t ((hget j o').1 q1) q2 (hdm _ hp)) hop
    have keepD : ∀ (v : Value) (l : List (Nat × Nat)), (∀ p ∈ l, (∃ (k : Nat) (o' : Oper), ops.toList[k]? = some o' ∧ o'.dst = some p.2 ∧ p.1 = 0 + k) ∧ m.testBit p.1 = true) → (l.map fun p => (a.put o.dst v).tmps.getD p.2 undef) = l.map fun p => a.tmps.getD p.2 undef := fun v l hl => by
      refine List.map_congr_left fun p hp => ?_
      obtain ⟨⟨k, o', q1, q2, q3⟩, hb⟩ := hl p hp
      refine put_getD (dist k i o' o p.2 ((hget k o').1 q1) ho (fun hh => ?_) q2)
      rw [q3, Nat.zero_add, hh, hbit] at hb; cases hb
    refine opX_of_vc ho hA hI.ds h1 hg fun v w' hv => ⟨trivial, ?_⟩
    obtain ⟨k1, k2, k3⟩ := hv.out
    refine ih _ _ _ _ (by have := leftOf_set hlt hbit; omega) (hB.set hlt) ⟨by rw [put_size]; exact hI.size, by rw [Act.put_ds]; exact hI.ds, k1, fun t u ht => ?_, fun j oj t hj hd hb => ?_, fun j oj hj hd hb => ?_⟩
    · rw [put_getD fun hh => by rw [nbj i o t ho hh] at ht; cases ht]
      exact hI.old t u ht
    · by_cases hji : j = i
      · subst hji
        rw [ho] at hj; cases hj
        rw [hd, put_self (by rw [hI.size]; exact okDst_spec h2 t hd)]
        rw [hd] at k2; exact k2
      · rw [put_getD (dist j i oj o t hj ho hji hd)]
        refine k3 _ _ (hI.new j oj t hj hd ?_)
        rw [lor_bit, pow_bit] at hb
        simpa [Ne.symm hji] using hb
    · have hin : ∀ p ∈ depsOf (rowOf ops.toList oj).looks ops.toList 0, ∃ (k : Nat) (o' : Oper), ops.toList[k]? = some o' ∧ o'.dst = some p.2 ∧ p.1 = 0 + k := fun p hp => by
        obtain ⟨p1, p2⟩ := p
        exact mem_depsOf hp
      have up : ∀ q, m.testBit q = true → (Nat.lor m (Nat.pow 2 i)).testBit q = true := fun q hq => by rw [lor_bit, hq]; rfl
      by_cases hji : j = i
      · subst hji
        rw [ho] at hj; cases hj
        rw [keepD v _ fun p hp => ⟨hin p hp, hdm p hp⟩]
        rw [hd] at k2
        exact ⟨k2, fun p hp => up _ (hdm p hp)⟩
      · rw [lor_bit, pow_bit] at hb
        have hm' := hI.mute j oj hj hd (by simpa [Ne.symm hji] using hb)
        rw [keepD v _ fun p hp => ⟨hin p hp, hm'.2 p hp⟩]
        exact ⟨k3 _ _ hm'.1, fun p hp => up _ (hm'.2 p hp)⟩
end
end Go.V
/- Code and functions over environments. -/
set_option linter.unusedSimpArgs false
set_option linter.unusedVariables false
namespace Go.V
open Go

/-! ### code -/
inductive Note where
  | keep (ts : List Nat)
  | loop (vars consts : List Nat)
  | plan (p : Plan)
  | bag
abbrev Ann := List (Nat × Note)
def Ann.get : Ann → Nat → Option Note
  | [], _ => none
  | (k, v) :: e, t => match Nat.beq k t with | true => some v | false => Ann.get e t
/-- A loop: an invariant that bears a number, which every round lowers. -/
structure LoopW (body : List Value → World → (List Value → World → Prop) → Prop) (s : List Value) (w : World) : Prop where
  out : ∃ I : Nat → List Value → World → Prop, (∃ n, I n s w) ∧ ∀ n s w, I n s w → body s w (fun s' w' => ∃ m, m < n ∧ I m s' w')
/-- what a loop's body must leave as it was, and then -/
structure loopK (ds' ds : List Deferred) (a b : List Value) (k : Prop) : Prop where
  out : ds' = ds ∧ a = b ∧ k
theorem loopK_self (ds : List Deferred) (a : List Value) (k : Prop) : loopK ds ds a a k = k := propext ⟨fun h => h.out.2.2, fun h => ⟨rfl, rfl, h⟩⟩
/-- a draw of an order -/
structure drewW (w : World) (k : World → Prop) : Prop where
  out : k w.drew
def noSelL : List Oper → Bool
  | [] => true
  | o :: r => match o.op with | .select _ _ => false | _ => noSelL r
theorem noSelL_spec {ops : Array Oper} (h : noSelL ops.toList = true) : Region.noSelect ops = true := by
  unfold Region.noSelect
  rw [← Array.all_toList]
  generalize ops.toList = l at h
  induction l with
  | nil => rfl
  | cons o r ih =>
    simp only [noSelL] at h
    split at h
    · cases h
    · rename_i hne
      rw [List.all_cons, ih h, Bool.and_true]
      cases ho : o.op <;> first | rfl | exact absurd ho (hne _ _)
def thenQ (next : Env → List Deferred → World → Prop) (Q : Exit → Env → List Deferred → World → Prop) : Exit → Env → List Deferred → World → Prop
  | .normal, e, ds, w => next e ds w
  | x, e, ds, w => Q x e ds w
def blockQ (id : Nat) (ts : Option Note) (Q : Exit → Env → List Deferred → World → Prop) : Exit → Env → List Deferred → World → Prop
  | .exit i, e, ds, w => match Nat.beq i id with
    | true => Q .normal (match ts with | some (.keep l) => e.keep l | _ => e) ds w
    | false => Q (.exit i) e ds w
  | .normal, e, ds, w => Q .normal (match ts with | some (.keep l) => e.keep l | _ => e) ds w
  | x, e, ds, w => Q x e ds w
/-- The function value's body is entered. -/
def enterW (P : Program) (k : Value → World → Prop) : Result Next → Prop
  | .ok (.enter f args) w => Calls P f args w (retP k)
  | _ => False
def Loop.at (L : Loop) (st : LoopState) (j : Option Code) (d : Nat) : Loop := { L with state := st, pending := j, defers := d }
def callRun (P : Program) (f : Value) (args : Array Value) (w : World) : Result Next := (do let d ← Deferred.ofValue f args; invoke d.target d.args : Sem Next).run P w
/-- A range over a function, outermost. L: the loop's record, of which nothing is known but what is said. -/
structure rangeW (P : Program) (g : Value) (np : Nat) (B : Nat → (World → Prop) → (World → World) → List Value → World → (Option Code → World → Prop) → Prop) (Q : Nat → Option Code → World → Prop) (w : World) : Prop where
  out : ∀ L : Loop,
    (∀ args w' K, args.length = np → w'.heap[w.heap.size + 1]? = some (.loop (Loop.at L .ready none w.heap.size)) →
      B (w.heap.size + 1) (fun w₁ => w₁.heap[w.heap.size + 1]? = some (.loop (Loop.at L .ready none w.heap.size))) (fun w₁ => w₁.putObj (w.heap.size + 1) (.loop (Loop.at L .busy none w.heap.size)))
        args w' (fun j w'' => w''.heap[w.heap.size + 1]? = some (.loop (Loop.at L .busy none w.heap.size)) ∧
          K (.bool j.isNone) (w''.putObj (w.heap.size + 1) (.loop (Loop.at L (if j.isNone then .ready else .done) j w.heap.size)))) →
      callW P (.func (.yield (w.heap.size + 1)) #[] #[]) ⟨args⟩ K w') →
    enterW P (fun _ w₃ => ∃ st j, st ≠ .busy ∧ w₃.heap[w.heap.size + 1]? = some (.loop (Loop.at L st j w.heap.size)) ∧
        Q w.heap.size j (w₃.putObj (w.heap.size + 1) (.loop (Loop.at L .exhausted j w.heap.size))))
      (callRun P g #[.func (.yield (w.heap.size + 1)) #[] #[]] ((w.alloc (.deferred (some []))).alloc (.loop (Loop.at L .ready none w.heap.size))))
def putAll : List Nat → List Value → Env → Env
  | [], _, e => e
  | t :: r, s, e => putAll r s.tail ((t, s.headD undef) :: e)
def okAll (n : Nat) : List Nat → Bool
  | [] => true
  | t :: r => match Nat.blt t n with | true => okAll n r | false => false
/-- behind a range over a function: on, or out of the function -/
structure jumpW (j : Option Code) (a b : Prop) (c : Nat → Prop) : Prop where
  out : match j with
    | none => a
    | some .ret => b
    | some (.exit id) => c id
    | _ => False
def selQ (Q : Exit → Env → List Deferred → World → Prop) (e : Env) (ds : List Deferred) (w : World) : List Nat → Nat → Prop
  | [], _ => False
  | i :: r, id => match Nat.beq i id with | true => Q (.exit i) e ds w | false => selQ Q e ds w r id
theorem selQ_spec {Q : Exit → Env → List Deferred → World → Prop} {e : Env} {ds : List Deferred} {w : World} : ∀ {l : List Nat} {id : Nat}, selQ Q e ds w l id → Q (.exit id) e ds w
  | [], _, h => h.elim
  | i :: r, id, h => by
    simp only [selQ] at h
    split at h
    · rename_i hb
      rw [Nat.eq_of_beq_eq_true hb] at h; exact h
    · exact selQ_spec h
def jumpQ (ids : List Nat) (Q : Exit → Env → List Deferred → World → Prop) (e : Env) (ds : List Deferred) (d : Nat) (j : Option Code) (w : World) : Prop :=
  jumpW j (Q .normal e ({ target := .collected d, args := #[] } :: ds) w) (Q .ret e ({ target := .collected d, args := #[] } :: ds) w) (selQ Q e ({ target := .collected d, args := #[] } :: ds) w ids)
/-- the end of a round -/
def roundQ (k : Option Code → World → Prop) : Exit → Env → List Deferred → World → Prop
  | .normal, _, _, w => k none w
  | .ret, _, _, w => k (some .ret) w
  | .exit id, _, _, w => k (some (.exit id)) w
  | _, _, _, _ => False

/-- no jump leads into a scope -/
def scopeQ (Q : Exit → Env → List Deferred → World → Prop) : Exit → Env → List Deferred → World → Prop
  | .goto _, _, _, _ => False
  | x, e, ds, w => Q x e ds w

/-- THE GENERATOR. 'p': the place of the code in the whole (the root 1; of a pair 2p and 2p + 1). -/
def vc (P : Program) (n : Nat) (ann : Ann) : Option Nat → Code → Nat → Env → List Deferred → (Exit → Env → List Deferred → World → Prop) → World → Prop
  | _, .skip, _, e, ds, Q, w => Q .normal e ds w
  | _, .label _, _, e, ds, Q, w => Q .normal e ds w
  | _, .region _ ops draw, p, e, ds, Q, w =>
    match draw with
    | false => vcOps P n ops.toList (fun ch _ w' => Q (.panic ch) [] ds w') ops.toList e (fun e' w' => Q .normal e' ds w') w
    | true =>
      match ann.get p with
      | some (.plan pl) =>
        match and3 (noSelL ops.toList) (planC (rowsOf ops.toList) ops.size pl 0) (P.follows .mixedOrders) with
        | true => drewW w fun w =>
          match pl.us with
          | [] =>
            match pl.usesS with
            | true => ∃ S : World → Prop, S w ∧ vcPlan P n (fun ch w' => Q (.panic ch) [] ds w') ops.toList (fun _ K w => keepS S K w) S (fun _ => S) (fun e' w' => Q .normal e' ds w') pl e w
            | false => vcPlan P n (fun ch w' => Q (.panic ch) [] ds w') ops.toList (fun _ K w => K w) anyW (fun _ => anyW) (fun e' w' => Q .normal e' ds w') pl e w
          | q :: r => ∃ S : World → Prop, S w ∧
              vcPlan P n (fun ch w' => Q (.panic ch) [] ds w') ops.toList (fun j K w => keepJ (rowsOf ops.toList) (q :: r) S j K w) anyW (fun _ => S) (fun e' w' => Q .normal e' ds w') pl e w
        | false => False
      | some .bag =>
        match and3 (noSelL ops.toList) (bagC ops.toList (dropD (allDst ops.toList 0) e)) (P.follows .mixedOrders) with
        | true => drewW w fun w => vcBag P n ops.toList (dropD (allDst ops.toList 0) e) (fun e' w' => Q .normal e' ds w') w
        | false => False
      | _ => False
  | ro, .seq a b, p, e, ds, Q, w => vc P n ann ro a (2 * p) e ds (thenQ (fun e' ds' w' => vc P n ann ro b (2 * p + 1) e' ds' Q w') Q) w
  | ro, .cond c t f, p, e, ds, Q, w => match e.hasAll [c] with
    | true => condW (e.eval c) (vc P n ann ro t (2 * p) e ds Q w) (vc P n ann ro f (2 * p + 1) e ds Q w)
    | false => False
  | ro, .block id b, p, e, ds, Q, w => vc P n ann ro b (2 * p) e ds (blockQ id (ann.get p) Q) w
  | ro, .scope b, p, e, ds, Q, w => vc P n ann ro b (2 * p) e ds (scopeQ Q) w
  | ro, .loop b, p, e, ds, Q, w =>
    match ann.get p with
    | some (.loop vars consts) =>
      match e.hasTmps vars with
      | true => LoopW (fun s w' K => vc P n ann ro b (2 * p) (Env.bindAll vars s (e.keep consts)) ds
          (thenQ (fun e' ds' w'' => match and3 (e'.hasTmps vars) (e'.hasTmps consts) true with | true => loopK ds' ds (e'.vals consts) (e.vals consts) (K (e'.vals vars) w'') | false => False) Q) w') (e.vals vars) w
      | false => False
    | _ => False
  | _, .exit id, _, e, ds, Q, w => Q (.exit id) e ds w
  | _, .goto l, _, e, ds, Q, w => Q (.goto l) e ds w
  | _, .ret, _, e, ds, Q, w => Q .ret e ds w
  | none, .rangeFunc g ps assign body, p, e, ds, Q, w => match and3 (e.hasAll [g]) (okAll n ps.toList) true with
    | true => rangeW P (e.eval g) ps.size (fun l ready busy args w' k =>
        vc P n ann (some l) assign (2 * p) (putAll ps.toList args e) [] (fun x e' ds' w'' => match x with
          | .normal => ready w'' ∧ vc P n ann (some l) body (2 * p + 1) e' ds' (roundQ k) (busy w'')
          | _ => False) w') (jumpQ (match ann.get p with | some (.keep l) => l | _ => []) Q e ds) w
    | false => False
  | _, _, _, _, _, _, _ => False

theorem Agree.putAll {n : Nat} : ∀ (ts : List Nat) (s : List Value) (e : Env) (tm : Array Value) (ds : List Deferred), okAll n ts = true → s.length = ts.length → Agree n e { tmps := tm, defers := ds } →
    Agree n (putAll ts s e) { tmps := (ts.zip s).foldl (fun tmps p => tmps.setIfInBounds p.1 p.2) tm, defers := ds }
  | [], _, _, _, _, _, _, hA => hA
  | t :: r, s, e, tm, ds, hok, hl, hA => by
    cases s with
    | nil => cases hl
    | cons v s =>
      simp only [okAll] at hok
      split at hok
      · rename_i ht
        have hlt : t < n := Nat.le_of_ble_eq_true (by simpa [Nat.blt] using ht)
        have h' := Agree.put hA (some t) v (fun u hu => by cases hu; exact hlt)
        simp only [Go.V.putAll, List.headD_cons, List.tail_cons, List.zip_cons_cons, List.foldl_cons]
        exact Agree.putAll r s _ _ ds hok (by simpa using hl) h'
      · cases hok

theorem Agree.keepVals {n : Nat} {e e' : Env} {a : Act} (h : Agree n e' a) : ∀ (ts : List Nat), e'.hasTmps ts = true → e'.vals ts = e.vals ts → Agree n (e.keep ts) a
  | [], _, _ => ⟨h.1, fun t v ht => by simp [Env.keep, Env.get] at ht⟩
  | t :: r, hh, hv => by
    simp only [Env.hasTmps] at hh
    split at hh
    · rename_i h1
      simp only [Env.vals, List.cons.injEq] at hv
      have ih := Agree.keepVals h r hh hv.2
      simp only [Env.keep]
      split
      · rename_i v hev
        refine ⟨h.1, fun s u hs => ?_⟩
        rw [Env.get_cons] at hs
        split at hs
        · rename_i hts
          subst hts
          cases hs
          refine h.2 _ _ ?_
          have := hv.1
          rw [hev] at this
          cases hg : e'.get t with
          | none => rw [hg] at h1; cases h1
          | some u' => rw [hg] at this; simp only [optGet] at this; rw [this]
        · exact ih.2 s u hs
      · exact ih
    · cases hh
theorem andP {a b c : Bool} {X : Prop} (h : match and3 a b c with | true => X | false => False) : (a = true ∧ b = true ∧ c = true) ∧ X := by
  split at h
  · rename_i h4; exact ⟨and3_spec h4, h⟩
  · exact h.elim

theorem stepR_scope {P : Program} {b : Frame} {a : Act} {k : List Item} {cs : List Frame} {w : World} {c : Code} :
    step P (lone (b.atR a (.code (.scope c) :: k)) cs w) = .next (lone (b.atR a (.code c :: .inScope c :: k)) cs w) :=
  step_lone_go (by simp [stepG, stepG.exec, Frame.atR])
theorem stepR_inScope {P : Program} {b : Frame} {a : Act} {k : List Item} {cs : List Frame} {w : World} {c : Code} :
    step P (lone (b.atR a (.inScope c :: k)) cs w) = .next (lone (b.atR a k) cs w) :=
  step_lone_go (by simp [stepG, stepG.exec, Frame.atR])
theorem wpIn_scope {F : Fence} {n : Nat} {P : Program} {Q : Exit → Act → World → Prop} {a : Act} {w : World} {c : Code}
    (h : c.wpIn F n P (fun x a' w' => (∀ l, x ≠ .goto l) ∧ Q x a' w') a w) : (Code.scope c).wpIn F n P Q a w := by
  intro b k cs hro hb hr
  have h0 : (lone (b.atR a (.code (.scope c) :: k)) cs w).fenced P F := fenced_calm hb hr rfl
  obtain ⟨e, a₁, w₁, ⟨hng, hq⟩, harr⟩ := h b (.inScope c :: k) cs hro hb hr
  cases e with
  | normal => exact ⟨.normal, a₁, w₁, hq, .head h0 stepR_scope (StepsIn.trans harr (.one (fenced_calm hb hr rfl) stepR_inScope))⟩
  | exit id =>
    have hx : exitTo id (.inScope c :: k) = exitTo id k := by simp [exitTo]
    exact ⟨_, a₁, w₁, hq, fun k' hk => .head h0 stepR_scope (harr.1 k' (by rw [hx]; exact hk)),
      fun hr' hk => let ⟨k₁, h1, h2⟩ := harr.2 hr' (by rw [hx]; exact hk); ⟨k₁, h1, .head h0 stepR_scope h2⟩⟩
  | goto l => exact absurd rfl (hng l)
  | ret => exact ⟨_, a₁, w₁, hq, .of_steps (.one h0 stepR_scope) harr⟩
  | panic ch => exact ⟨_, a₁, w₁, hq, .of_steps (.one h0 stepR_scope) harr⟩
  | outgrown => exact ⟨_, a₁, w₁, hq, .of_steps (.one h0 stepR_scope) harr⟩

theorem vc_sound (P : Program) (n : Nat) (ann : Ann) : ∀ (c : Code) (ro : Option Nat) (p : Nat) (e : Env) (ds : List Deferred) (Q : Exit → Env → List Deferred → World → Prop) (w : World),
    vc P n ann ro c p e ds Q w → ∀ (m : Nat) (a : Act) (Q' : Exit → Act → World → Prop), Agree n e a → a.defers = ds →
      (∀ x e' ds' a' w', Agree n e' a' → a'.defers = ds' → Q x e' ds' w' → Q' x a' w') → c.wpIn (FW ro) m P Q' a w := by
  intro c
  induction c with
  | skip => intro ro p e ds Q w h m a Q' hA hd hQ; exact wpIn_skip (hQ _ _ _ _ _ hA hd h)
  | label l => intro ro p e ds Q w h m a Q' hA hd hQ; exact wpIn_label (hQ _ _ _ _ _ hA hd h)
  | region id ops draw =>
    intro ro p e ds Q w h m a Q' hA hd hQ
    cases draw with
    | false =>
      refine wpIn_region ?_
      have := vcOps_sound (ro := ro) (m := m) (Q := Q') (Kp := fun ch _ w' => Q (.panic ch) [] ds w') (K := fun e' w' => Q .normal e' ds w') ops.toList 0 e a w (fun j => by simp) (by simp) hA (fun e' a' w' h1 h2 h3 => hQ _ _ _ _ _ h1 (by rw [h2, hd]) h3) (fun ch e' a' w' h1 h2 h3 => hQ _ [] ds _ _ ⟨h1.1, fun t v h => by simp [Env.get] at h⟩ (by rw [h2, hd]) h3) h
      rw [List.range_eq_range']
      simpa using this
    | true =>
      simp only [vc] at h
      split at h
      · rename_i pl hpl
        obtain ⟨⟨h1, h2, h3⟩, hh⟩ := andP h
        refine wpIn_region_any h3 ?_
        have fin : ∀ (kp : Nat → (World → Prop) → World → Prop) (cs : World → Prop) (us : List Nat) (cl : Nat → World → Prop), KpOk ops.toList kp cs us cl → (∀ q ∈ pl.us, q ∈ us) → cs w.drew → (∀ i ∈ us, cl i w.drew) →
            vcPlan P n (fun ch w' => Q (.panic ch) [] ds w') ops.toList kp cs cl (fun e' w' => Q .normal e' ds w') pl e w.drew → wpAnyIn (FW ro) m P .any ops Q' ops.size (Array.replicate ops.size false) a w.drew := fun kp cs us cl hk hus hS hcl hv =>
          anyIn_of_anyX (Q := fun a' w' => Q' .normal a' w') (fun ch a' w' h => hQ _ [] ds _ _ ⟨h.1, fun t v h => by simp [Env.get] at h⟩ h.2.1 h.2.2) (fun _ _ hq => hq) _ _ _ _
            (vcPlan_sound (K := fun e' w' => Q .normal e' ds w') (ds := ds) (noSelL_spec h1) hk (fun e' a' w' q1 q2 q3 => hQ _ _ _ _ _ q1 q2 q3) ops.size pl 0 _ e a w.drew (leftOf_zero _) (Bits.init ops) h2 hA hd hS hus (fun i hi _ => hcl i hi) hv)
        replace hh := hh.out
        split at hh
        · rename_i hus
          split at hh
          · obtain ⟨S, hS, hv⟩ := hh
            exact fin _ _ [] _ kpOk_S (fun q hq => by rw [hus] at hq; cases hq) hS (fun i hi => by cases hi) hv
          · exact fin _ _ [] _ kpOk_none (fun q hq => by rw [hus] at hq; cases hq) trivial (fun i hi => by cases hi) hh
        · rename_i q r hus
          obtain ⟨S, hS, hv⟩ := hh
          exact fin _ _ (q :: r) _ kpOk_J (fun x hx => by rw [hus] at hx; exact hx) trivial (fun _ _ => hS) hv
      · rename_i hpl
        obtain ⟨⟨h1, h2, h3⟩, hh⟩ := andP h
        refine wpIn_region_any h3 ?_
        obtain ⟨Ψ, Φ, q1, q2, q3⟩ := hh.out
        exact anyIn_of_anyX (B := (n, ds, noP)) (Q := fun a' w' => Q' .normal a' w') (fun ch a' w' h => h.2.2.elim) (fun _ _ hq => hq) _ _ _ _
          (bag_sound (K := fun e' w' => Q .normal e' ds w') (ds := ds) h2 (fun e' a' w' p1 p2 p3 => hQ _ _ _ _ _ p1 p2 p3) q2 q3 ops.size 0 _ a w.drew (leftOf_zero _) (Bits.init ops) ⟨hA.1, hd, q1, (agree_dropD _ hA).2, fun j o t _ _ hb => by simp at hb, fun j o _ _ hb => by simp at hb⟩)
      · exact h.elim
  | seq x y ihx ihy =>
    intro ro p e ds Q w h m a Q' hA hd hQ
    refine wpIn_seq (ihx ro _ e ds _ w h m a _ hA hd ?_)
    intro ex e' ds' a' w' hA' hd' hq
    cases ex with
    | normal => exact ihy ro _ e' ds' Q w' hq m a' Q' hA' hd' hQ
    | exit id => exact hQ _ _ _ _ _ hA' hd' hq
    | goto l => exact hQ _ _ _ _ _ hA' hd' hq
    | ret => exact hQ _ _ _ _ _ hA' hd' hq
    | panic ch => exact hQ _ _ _ _ _ hA' hd' hq
    | outgrown => exact hQ _ _ _ _ _ hA' hd' hq
  | cond c t f iht ihf =>
    intro ro p e ds Q w h m a Q' hA hd hQ
    simp only [vc] at h
    split at h
    · rename_i hc
      have hev : a.eval c = e.eval c := hA.evs hc c (by simp)
      replace h := h.out
      split at h
      · rename_i hb; exact wpIn_cond (t := true) (by rw [hev, hb]) (by simpa using iht ro _ e ds Q w h m a Q' hA hd hQ)
      · rename_i hb; exact wpIn_cond (t := false) (by rw [hev, hb]) (by simpa using ihf ro _ e ds Q w h m a Q' hA hd hQ)
      · exact h.elim
    · exact h.elim
  | block id b ih =>
    intro ro p e ds Q w h m a Q' hA hd hQ
    refine wpIn_block (ih ro _ e ds _ w h m a _ hA hd ?_)
    intro ex e' ds' a' w' hA' hd' hq
    have hkeep : Agree n (match ann.get p with | some (.keep l) => e'.keep l | _ => e') a' := by
      split
      · exact hA'.keep _
      · exact hA'
    cases ex with
    | normal => exact hQ _ _ _ _ _ hkeep hd' hq
    | exit i =>
      simp only [blockQ] at hq
      split at hq
      · rename_i hb
        have : i = id := Nat.eq_of_beq_eq_true hb
        simp only [Exit.inBlock, this, if_true]
        exact hQ _ _ _ _ _ hkeep hd' hq
      · rename_i hb
        have : i ≠ id := fun hh => by subst hh; simp [Nat.beq_refl] at hb
        simp only [Exit.inBlock, this, if_false]
        exact hQ _ _ _ _ _ hA' hd' hq
    | goto l => exact hQ _ _ _ _ _ hA' hd' hq
    | ret => exact hQ _ _ _ _ _ hA' hd' hq
    | panic ch => exact hQ _ _ _ _ _ hA' hd' hq
    | outgrown => exact hQ _ _ _ _ _ hA' hd' hq
  | loop b ih =>
    intro ro p e ds Q w h m a Q' hA hd hQ
    simp only [vc] at h
    split at h
    · rename_i vars consts hann
      split at h
      · rename_i hv
        obtain ⟨I, ⟨n0, h0⟩, hstep⟩ := h.out
        refine wpIn_loop_ghost (fun k a' w' => ∃ s, I k s w' ∧ Agree n (Env.bindAll vars s (e.keep consts)) a' ∧ a'.defers = ds) n0 ⟨_, h0, hA.bindVals (hA.keep consts) vars hv, hd⟩ ?_
        rintro k a' w' ⟨s, hI, hA', hd'⟩
        refine ih ro _ _ ds _ w' (hstep k s w' hI) m a' _ hA' hd' ?_
        intro ex e'' ds'' a'' w'' hA'' hd'' hq
        cases ex with
        | normal =>
          simp only [thenQ] at hq
          obtain ⟨⟨hv'', hc'', _⟩, hq'⟩ := andP hq
          obtain ⟨hds, hcs, m', hm', hI'⟩ := hq'.out
          exact ⟨m', hm', _, hI', hA''.bindVals (hA''.keepVals consts hc'' hcs) vars hv'', by rw [hd'', hds]⟩
        | exit id => exact hQ _ _ _ _ _ hA'' hd'' hq
        | goto l => exact hQ _ _ _ _ _ hA'' hd'' hq
        | ret => exact hQ _ _ _ _ _ hA'' hd'' hq
        | panic ch => exact hQ _ _ _ _ _ hA'' hd'' hq
        | outgrown => exact hQ _ _ _ _ _ hA'' hd'' hq
      · exact h.elim
    · exact h.elim
  | exit id => intro ro p e ds Q w h m a Q' hA hd hQ; exact wpIn_exit (hQ _ _ _ _ _ hA hd h)
  | goto l => intro ro p e ds Q w h m a Q' hA hd hQ; exact wpIn_goto (hQ _ _ _ _ _ hA hd h)
  | ret => intro ro p e ds Q w h m a Q' hA hd hQ; exact wpIn_ret (hQ _ _ _ _ _ hA hd h)
  | scope b ih =>
    intro ro p e ds Q w h m a Q' hA hd hQ
    have h' : vc P n ann ro b (2 * p) e ds (scopeQ Q) w := by cases ro <;> exact h
    refine wpIn_scope (ih ro _ e ds _ w h' m a _ hA hd ?_)
    intro ex e' ds' a' w' hA' hd' hq
    cases ex with
    | goto l => exact hq.elim
    | normal => exact ⟨fun _ h => (by cases h), hQ _ _ _ _ _ hA' hd' hq⟩
    | exit id => exact ⟨fun _ h => (by cases h), hQ _ _ _ _ _ hA' hd' hq⟩
    | ret => exact ⟨fun _ h => (by cases h), hQ _ _ _ _ _ hA' hd' hq⟩
    | panic ch => exact ⟨fun _ h => (by cases h), hQ _ _ _ _ _ hA' hd' hq⟩
    | outgrown => exact ⟨fun _ h => (by cases h), hQ _ _ _ _ _ hA' hd' hq⟩
  | refuse why => intro ro p e ds Q w h; cases ro <;> exact h.elim
  | rangeFunc g ps assign body iha ihb =>
    intro ro p e ds Q w h m a Q' hA hd hQ
    cases ro with
    | some l => exact h.elim
    | none =>
      obtain ⟨⟨h1, h2, _⟩, hR'⟩ := andP h
      have hR := hR'.out
      refine wpIn_rangeFunc fun fn _ => ?_
      have hev : a.eval g = e.eval g := hA.evs h1 g (by simp)
      -- the record
      let L : Loop := { state := .ready, pending := none, fn, tmps := a.tmps, params := ps, assign, body, defers := 0 }
      have hcall := hR L ?_
      · unfold enterW at hcall
        split at hcall
        · rename_i f args w₂ hrun
          unfold callRun at hrun
          simp only [Sem.run_bind] at hrun
          cases hres : (Deferred.ofValue (e.eval g) #[.func (.yield (w.heap.size + 1)) #[] #[]]).run P ((w.alloc (.deferred (some []))).alloc (.loop (Loop.at L .ready none w.heap.size))) with
          | halt x y => rw [hres] at hrun; simp [Result.andThen] at hrun
          | ok d w₁' =>
            rw [hres] at hrun
            simp only [Result.andThen] at hrun
            refine ⟨w.heap.size + 1, [{ target := .collected w.heap.size, args := #[] }], _, d, w₁', f, args, w₂, run_enterLoop_outer fn a.tmps ps assign body, ?_, fun _ _ => trivial, hrun, fun hh => by simp [FW] at hh, CallsIn.mono (callsIn_FW hcall) ?_⟩
            · have harr : Array.map a.eval #[Operand.const (Value.func (Fn.yield (w.heap.size + 1)) #[] #[])] = #[Value.func (Fn.yield (w.heap.size + 1)) #[] #[]] := by simp [Act.eval]
              simp only [resolve, rangeCall, hev]
              rw [harr]
              exact hres
            · intro en w₃ hen
              cases en with
              | returned v =>
                obtain ⟨st, j, hst, hl, hq⟩ := hen
                refine ⟨j, _, run_endLoop (r := Loop.at L st j w.heap.size) hl hst, ?_⟩
                have hAg : Agree n e { a with defers := [{ target := .collected w.heap.size, args := #[] }] ++ a.defers } := hA.of_tmps rfl
                replace hq := jumpW.out hq
                cases j with
                | none => exact hQ _ _ _ _ _ hAg (by simp [hd]) hq
                | some cj =>
                  cases cj with
                  | ret => exact wpIn_ret (hQ _ _ _ _ _ hAg (by simp [hd]) hq)
                  | exit id => exact wpIn_exit (hQ _ _ _ _ _ hAg (by simp [hd]) (selQ_spec hq))
                  | _ => exact hq.elim
              | panicked ch => exact hen.elim
              | outgrown => exact hen.elim
        · exact hcall.elim
      · -- a call of yield
        intro args w' K hlen hready hB
        refine ⟨?_⟩
        have hy : (Instr.yield (w.heap.size + 1) ⟨args⟩).run P w' = _ := run_yield (r := Loop.at L .ready none w.heap.size) hready (by simpa [Loop.at, L] using hlen)
        have hrun : (do let d ← Deferred.ofValue (.func (.yield (w.heap.size + 1)) #[] #[]) ⟨args⟩; invoke d.target d.args : Sem Next).run P w' = (Instr.yield (w.heap.size + 1) ⟨args⟩).run P w' := by
          simp [Deferred.ofValue, Sem.run_bind, Result.andThen, invoke]
        rw [hrun, hy]
        show RoundIn Fence.wide 0 P _ _ _ _ _ _ _
        refine roundIn_of_wpIn (F := Fence.wide) trivial ?_
        have hAr : Agree n (putAll ps.toList args e) { tmps := (ps.toList.zip args).foldl (fun tmps p => tmps.setIfInBounds p.1 p.2) a.tmps, defers := [] } :=
          Agree.putAll ps.toList args e a.tmps [] h2 (by simpa using hlen) (hA.of_tmps rfl)
        have htm : ((Loop.at L .ready none w.heap.size).params.zip (⟨args⟩ : Array Value)).foldl (fun tmps (x : Tmp × Value) => match x with | (t, a) => tmps.setIfInBounds t a) (Loop.at L .ready none w.heap.size).tmps
            = (ps.toList.zip args).foldl (fun tmps p => tmps.setIfInBounds p.1 p.2) a.tmps := by
          rw [← Array.foldl_toList]
          simp [Loop.at, L, Array.toList_zip]
        rw [htm]
        refine iha (some (w.heap.size + 1)) _ _ [] _ w' hB 0 _ _ hAr rfl ?_
        intro ex e' ds' a' w'' hA' hd' hq
        cases ex with
        | normal =>
          obtain ⟨hrd, hb⟩ := hq
          refine ⟨_, run_beginRound (r := Loop.at L .ready none w.heap.size) hrd rfl, ?_⟩
          refine ihb (some (w.heap.size + 1)) _ e' ds' _ _ hb 0 a' _ hA' hd' ?_
          intro ey e'' ds'' a'' w₃ hA'' hd'' hk
          cases ey with
          | normal => exact ⟨_, _, run_endRound none hk.1, hk.2⟩
          | ret => exact ⟨_, _, run_endRound (some .ret) hk.1, hk.2⟩
          | exit id => exact ⟨_, _, run_endRound (some (.exit id)) hk.1, hk.2⟩
          | goto t => exact hk.elim
          | panic ch => exact hk.elim
          | outgrown => exact hk.elim
        | exit id => exact hq.elim
        | goto t => exact hq.elim
        | ret => exact hq.elim
        | panic ch => exact hq.elim
        | outgrown => exact hq.elim

/-! ### functions -/
structure resCell (P : Program) (t : TypeId) (a : Value) (k : Value → Prop) (w : World) : Prop where
  out : match a with
    | .pointer (some ad) => opW P (loadVar t ad) (fun v w' => w' = w ∧ k v) w
    | _ => False
/-- What the results are, read where the function leaves. -/
def resOne (P : Program) (e : Env) (r : ResultVar) (k : Value → Prop) (w : World) : Prop :=
  match r with
  | .tmp t => k (optGet (e.get t))
  | .cell a t => resCell P t (optGet (e.get a)) k w
def resAll (P : Program) (e : Env) : List ResultVar → (List Value → Prop) → World → Prop
  | [], k, _ => k []
  | r :: rs, k, w => resOne P e r (fun v => resAll P e rs (fun vs => k (v :: vs)) w) w
def hasRes (e : Env) : List ResultVar → Bool
  | [] => true
  | .tmp t :: r => match has (e.get t) with | true => hasRes e r | false => false
  | .cell t _ :: r => match has (e.get t) with | true => hasRes e r | false => false
def tupleOf : List Value → Value
  | [v] => v
  | vs => .tuple ⟨vs⟩
/-- The marks of ranges over functions among the deferred calls. -/
def leaveW : List Deferred → (World → Prop) → World → Prop
  | [], k, w => k w
  | { target := .collected r, .. } :: ds, k, w => w.heap[r]? = some (.deferred (some [])) ∧ leaveW ds k (w.putObj r (.deferred none))
  | _ :: _, _, _ => False
def finQP (P : Program) (rs : List ResultVar) (k : Value → World → Prop) (kp : List PanicEntry → World → Prop) : Exit → Env → List Deferred → World → Prop
  | .normal, e, ds, w | .ret, e, ds, w => match hasRes e rs with
    | true => leaveW ds (fun w' => resAll P e rs (fun vs => k (tupleOf vs) w') w') w
    | false => False
  | .panic ch, _, [], w => kp ch w
  | _, _, _, _ => False
abbrev finQ (P : Program) (rs : List ResultVar) (k : Value → World → Prop) : Exit → Env → List Deferred → World → Prop := finQP P rs k noP
def params : Nat → List Value → Env
  | _, [] => []
  | i, v :: r => (i, v) :: params (i + 1) r

theorem mapM_res {P : Program} {n : Nat} {e : Env} {a : Act} (hA : Agree n e a) {w : World} : ∀ (rs : List ResultVar) (k : List Value → Prop), hasRes e rs = true → resAll P e rs k w →
    ∃ vs, Sem.run P (rs.mapM (fun (r : ResultVar) => match r with
      | ResultVar.tmp t => (pure (a.tmps.getD t undef) : Sem Value)
      | ResultVar.cell ad t => do loadVar t (← asAddr (a.tmps.getD ad undef)))) w = Result.ok vs w ∧ k vs
  | [], k, _, h => ⟨[], rfl, h⟩
  | r :: rs, k, hh, h => by
    cases r with
    | tmp t =>
      simp only [hasRes] at hh
      split at hh
      · rename_i ht
        simp only [resAll, resOne] at h
        obtain ⟨vs, hvs, hk⟩ := mapM_res hA rs _ hh h
        refine ⟨optGet (e.get t) :: vs, ?_, hk⟩
        cases hg : e.get t with
        | none => rw [hg] at ht; cases ht
        | some v =>
          have := hA.2 t v hg
          simp only [List.mapM_cons, Sem.run_bind, Result.andThen, Sem.run_pure, this, optGet]
          rw [hvs]
      · cases hh
    | cell ad t =>
      simp only [hasRes] at hh
      split at hh
      · rename_i ht
        simp only [resAll, resOne] at h
        replace h := h.out
        split at h
        · rename_i p hg'
          have hg : e.get ad = some (.pointer (some p)) := by
            cases hg : e.get ad with
            | none => rw [hg] at ht; cases ht
            | some u => rw [hg] at hg'; simp only [optGet] at hg'; rw [hg']
          replace h := h.out
          split at h
          · rename_i v w' hrun
            obtain ⟨rfl, h⟩ := h
            obtain ⟨vs, hvs, hk⟩ := mapM_res hA rs _ hh h
            refine ⟨v :: vs, ?_, hk⟩
            have := hA.2 ad _ hg
            have ha : Sem.run P (asAddr (a.tmps.getD ad undef)) w' = .ok p w' := by rw [this]; rfl
            simp only [List.mapM_cons, Sem.run_bind, Result.andThen, Sem.run_pure, ha, hrun]
            rw [hvs]
          · exact h.elim
        · exact h.elim
      · cases hh

theorem Env.get_params : ∀ (l : List Value) (i t : Nat) (v : Value), (params i l).get t = some v → i ≤ t ∧ l[t - i]? = some v
  | [], _, _, _, h => by simp [params, Env.get] at h
  | u :: r, i, t, v, h => by
    simp only [params] at h
    rw [Env.get_cons] at h
    split at h
    · rename_i hit; subst hit; cases h; simp
    · rename_i hit
      obtain ⟨h1, h2⟩ := Env.get_params r (i + 1) t v h
      refine ⟨by omega, ?_⟩
      have : t - i = (t - (i + 1)) + 1 := by omega
      rw [this]; simpa using h2

theorem leaves_of {P : Program} {fn : Func} {tmps : Array Value} {R : Ending → World → Prop} : ∀ (ds : List Deferred) (w : World), leaveW ds (fun w' => ∃ v, (results fn tmps).run P w' = .ok v w' ∧ R (.returned v) w') w →
    LeavesInM (FW none) 0 P fn tmps R ds .returning w
  | [], w, h => h
  | { target := .collected r, args := as } :: ds, w, h => ⟨by simp, .inl ⟨r, _, rfl, run_takeDeferred h.1, leaves_of ds _ h.2⟩⟩
  | { target := .fn _ _, args := _ } :: _, _, h => h.elim
  | { target := .nil, args := _ } :: _, _, h => h.elim
  | { target := .builtin _ _ _ _, args := _ } :: _, _, h => h.elim
  | { target := .coroexit _, args := _ } :: _, _, h => h.elim
theorem leaveW_mono {k k' : World → Prop} (h : ∀ w, k w → k' w) : ∀ (ds : List Deferred) (w : World), leaveW ds k w → leaveW ds k' w
  | [], w, hk => h w hk
  | { target := .collected r, args := _ } :: ds, w, hk => ⟨hk.1, leaveW_mono h ds _ hk.2⟩
  | { target := .fn _ _, args := _ } :: _, _, h => h.elim
  | { target := .nil, args := _ } :: _, _, h => h.elim
  | { target := .builtin _ _ _ _, args := _ } :: _, _, h => h.elim
  | { target := .coroexit _, args := _ } :: _, _, h => h.elim

/-- **A FUNCTION's CONTRACT, BY THE GENERATOR.** -/
theorem calls_of_vcP {P : Program} {f : FuncId} {fn : Func} {c : Code} (ann : Ann) (hf : P.funcs[f]? = some fn) (hb : fn.body = some c) (args : List Value) (w : World) (k : Value → World → Prop) (kp : List PanicEntry → World → Prop)
    (hn : Nat.ble args.length fn.ntmps = true)
    (h : vc P fn.ntmps ann none c 1 (params 0 args) [] (finQP P fn.results.toList k kp) w) : Calls P f ⟨args⟩ w (retPP k kp) := by
  have hin : CallsIn Fence.wide 0 P f ⟨args⟩ w (retPP k kp) := by
    refine callsIn_of_wp_marks hf hb trivial ?_
    have hle : args.length ≤ fn.ntmps := Nat.le_of_ble_eq_true hn
    refine vc_sound P fn.ntmps ann c none 1 (params 0 args) [] _ w h 0 _ _ ⟨by simp; omega, fun t v ht => ?_⟩ rfl ?_
    · obtain ⟨_, h2⟩ := Env.get_params args 0 t v ht
      simp only [Nat.sub_zero] at h2
      have hlt : t < args.length := (List.getElem?_eq_some_iff.1 h2).1
      rw [Array.getD_eq_getD_getElem?, Array.getElem?_append_left (by simpa using hlt)]
      simp [h2]
    · intro x e' ds' a' w' hA hd hq
      have fin : ∀ (hq : match hasRes e' fn.results.toList with
          | true => leaveW ds' (fun w' => resAll P e' fn.results.toList (fun vs => k (tupleOf vs) w') w') w'
          | false => False), LeavesInM (FW none) 0 P fn a'.tmps (retPP k kp) a'.defers .returning w' := by
        intro hq
        rw [hd]
        split at hq
        · rename_i hres
          refine leaves_of ds' w' (leaveW_mono (fun w'' hw'' => ?_) ds' w' hq)
          obtain ⟨vs, hvs, hk⟩ := mapM_res hA fn.results.toList _ hres hw''
          refine ⟨tupleOf vs, ?_, hk⟩
          unfold results
          rw [Array.mapM_eq_mapM_toList]
          simp only [Sem.run_bind, Result.andThen, map_eq_pure_bind]
          erw [hvs]
          simp only [Sem.run_pure]
          cases vs with
          | nil => rfl
          | cons v r =>
            cases r with
            | nil => rfl
            | cons u r => simp [tupleOf]
        · exact hq.elim
      cases x with
      | normal => exact fin hq
      | ret => exact fin hq
      | exit id => exact hq.elim
      | goto l => exact hq.elim
      | panic ch =>
        cases ds' with
        | nil =>
          show LeavesInM _ _ _ _ a'.tmps _ a'.defers _ _
          rw [hd]; exact hq
        | cons d r => exact hq.elim
      | outgrown => exact hq.elim
  exact callsIn_wide.1 hin

theorem calls_of_vc {P : Program} {f : FuncId} {fn : Func} {c : Code} (ann : Ann) (hf : P.funcs[f]? = some fn) (hb : fn.body = some c) (args : List Value) (w : World) (k : Value → World → Prop)
    (hn : Nat.ble args.length fn.ntmps = true)
    (h : vc P fn.ntmps ann none c 1 (params 0 args) [] (finQ P fn.results.toList k) w) : Calls P f ⟨args⟩ w (retP k) := calls_of_vcP ann hf hb args w k noP hn h

def Loop0 (body : World → (World → Prop) → Prop) (w : World) : Prop :=
  LoopW (fun _ w K => body w (fun w => K [] w)) [] w
theorem Loop0.intro {body : World → (World → Prop) → Prop} {w : World} (I : Nat → World → Prop) (n : Nat) (h0 : I n w)
    (step : ∀ n w, I n w → body w (fun w' => ∃ m, m < n ∧ I m w')) : Loop0 body w := by
  refine ⟨⟨fun n s w => s = [] ∧ I n w, ⟨n, rfl, h0⟩, ?_⟩⟩
  rintro n s w ⟨rfl, h⟩
  have h' := step n w h
  simpa using h'
def Loop1 (body : Value → World → (Value → World → Prop) → Prop) (a0 : Value) (w : World) : Prop :=
  LoopW (fun s w K => body (s.headD undef) w (fun a0 w => K [a0] w)) [a0] w
theorem Loop1.intro {body : Value → World → (Value → World → Prop) → Prop} {a0 : Value} {w : World} (I : Nat → Value → World → Prop) (n : Nat) (h0 : I n a0 w)
    (step : ∀ n a0 w, I n a0 w → body a0 w (fun a0' w' => ∃ m, m < n ∧ I m a0' w')) : Loop1 body a0 w := by
  refine ⟨⟨fun n s w => ∃ a0, s = [a0] ∧ I n a0 w, ⟨n, _, rfl, h0⟩, ?_⟩⟩
  rintro n s w ⟨a0, rfl, h⟩
  have h' := step n a0 w h
  refine cast ?_ h'
  congr 1
  funext a0' w'
  apply propext
  constructor
  · rintro ⟨m, h1, h2⟩; exact ⟨m, h1, _, rfl, h2⟩
  · rintro ⟨m, h1, _, heq, h2⟩; cases heq; exact ⟨m, h1, h2⟩

def Loop2 (body : Value → Value → World → (Value → Value → World → Prop) → Prop) (a0 a1 : Value) (w : World) : Prop :=
  LoopW (fun s w K => body (s.headD undef) (s.tail.headD undef) w (fun a0 a1 w => K [a0, a1] w)) [a0, a1] w
theorem Loop2.intro {body : Value → Value → World → (Value → Value → World → Prop) → Prop} {a0 a1 : Value} {w : World} (I : Nat → Value → Value → World → Prop) (n : Nat) (h0 : I n a0 a1 w)
    (step : ∀ n a0 a1 w, I n a0 a1 w → body a0 a1 w (fun a0' a1' w' => ∃ m, m < n ∧ I m a0' a1' w')) : Loop2 body a0 a1 w := by
  refine ⟨⟨fun n s w => ∃ a0 a1, s = [a0, a1] ∧ I n a0 a1 w, ⟨n, _, _, rfl, h0⟩, ?_⟩⟩
  rintro n s w ⟨a0, a1, rfl, h⟩
  have h' := step n a0 a1 w h
  refine cast ?_ h'
  congr 1
  funext a0' a1' w'
  apply propext
  constructor
  · rintro ⟨m, h1, h2⟩; exact ⟨m, h1, _, _, rfl, h2⟩
  · rintro ⟨m, h1, _, _, heq, h2⟩; cases heq; exact ⟨m, h1, h2⟩

def Loop3 (body : Value → Value → Value → World → (Value → Value → Value → World → Prop) → Prop) (a0 a1 a2 : Value) (w : World) : Prop :=
  LoopW (fun s w K => body (s.headD undef) (s.tail.headD undef) (s.tail.tail.headD undef) w (fun a0 a1 a2 w => K [a0, a1, a2] w)) [a0, a1, a2] w
theorem Loop3.intro {body : Value → Value → Value → World → (Value → Value → Value → World → Prop) → Prop} {a0 a1 a2 : Value} {w : World} (I : Nat → Value → Value → Value → World → Prop) (n : Nat) (h0 : I n a0 a1 a2 w)
    (step : ∀ n a0 a1 a2 w, I n a0 a1 a2 w → body a0 a1 a2 w (fun a0' a1' a2' w' => ∃ m, m < n ∧ I m a0' a1' a2' w')) : Loop3 body a0 a1 a2 w := by
  refine ⟨⟨fun n s w => ∃ a0 a1 a2, s = [a0, a1, a2] ∧ I n a0 a1 a2 w, ⟨n, _, _, _, rfl, h0⟩, ?_⟩⟩
  rintro n s w ⟨a0, a1, a2, rfl, h⟩
  have h' := step n a0 a1 a2 w h
  refine cast ?_ h'
  congr 1
  funext a0' a1' a2' w'
  apply propext
  constructor
  · rintro ⟨m, h1, h2⟩; exact ⟨m, h1, _, _, _, rfl, h2⟩
  · rintro ⟨m, h1, _, _, _, heq, h2⟩; cases heq; exact ⟨m, h1, h2⟩

/-- A place where ways meet: K is what stands behind it, B the ways that lead there. -/
def joinW {α : Type} (K : α) (B : α → Prop) : Prop := B K
end Go.V
/- Laws of the single operations, as equations of the generated conditions, and what memory holds. -/
set_option linter.unusedSimpArgs false
set_option linter.unusedVariables false
namespace Go.V
open Go Go.RowKit

/-! ### types -/
def isSliceT (P : Program) (t : TypeId) : Bool := match P.underlying t with | some (.slice _) => true | _ => false
def isAggT (P : Program) (t : TypeId) : Bool := match P.underlying t with | some (.struct _) => true | some (.array _ _) => true | _ => false
def elemT (P : Program) (t : TypeId) : Nat := match P.underlying t with | some (.slice e) => e | some (.array _ e) => e | some (.pointer e) => e | _ => 0
def known (P : Program) (t : TypeId) : Bool := (P.info? t).isSome && (P.underlying t).isSome
def sizeT (P : Program) (t : TypeId) : Nat := match P.info? t with | some i => i.size | none => 0
def zeroT (P : Program) (t : TypeId) : Value := match P.info? t with | some i => i.zero.getD undef | none => undef
def hasZero (P : Program) (t : TypeId) : Bool := match P.info? t with | some i => i.zero.isSome | none => false
/-- where a field lies in its struct, if it takes cells -/
def fieldOff (P : Program) (t : TypeId) (f : Nat) : Option Nat := match P.underlying t with
  | some (.struct fs) => match fs[f]? with
    | some x => match P.info? x.type with | some i => if i.size = 0 then none else some x.offset | none => none
    | none => none
  | _ => none

section
variable {P : Program} {k : Value → World → Prop} {w w' : World}
theorem opW_ok {s : Sem Value} {v : Value} (h : s.run P w = .ok v w') : opW P s k w = k v w' := propext ⟨fun hh => by have := hh.out; rw [h] at this; exact this, fun hh => ⟨by rw [h]; exact hh⟩⟩
theorem opU_ok {s : Sem Unit} {u : Unit} (h : s.run P w = .ok u w') : opU P s k w = k undef w' := propext ⟨fun hh => by have := hh.out; rw [h] at this; exact this, fun hh => ⟨by rw [h]; exact hh⟩⟩
/-- taken as at any world: from the equation of the operation -/
theorem takeW_eq {S : World → Prop} {s : Sem Value} {K : Value → Prop} {v : Value} (h0 : s.run P w = .ok v w) (h : ∀ w, S w → s.run P w = .ok v w) : takeW P S s K w = K v :=
  propext ⟨fun hh => by have := hh.out; rw [h0] at this; exact this.2.2, fun hh => ⟨by rw [h0]; exact ⟨rfl, h, hh⟩⟩⟩
/-- an operation that does not look at memory -/
theorem takeW_pure {S : World → Prop} {s : Sem Value} {K : Value → Prop} {v : Value} (h : ∀ w, s.run P w = .ok v w) : takeW P S s K w = K v := takeW_eq (h w) fun w _ => h w
theorem takeW_same {s : Sem Value} {K : Value → Prop} {v : Value} (h : s.run P w = .ok v w) : takeW P (sameW w) s K w = K v := takeW_eq h fun w' hw' => by cases hw'; exact h
@[simp] theorem keepS_eq {S K : World → Prop} : keepS S K w = (S w ∧ K w) := propext ⟨fun h => h.out, fun h => ⟨h⟩⟩
/-- what an operation that yields in every world the same does when it is carried out -/
theorem run_of_opW {s : Sem Value} {v : Value} (h : opW P s (fun u w' => u = v ∧ w' = w) w) : s.run P w = .ok v w := by
  have := h.out
  split at this
  · rename_i u w' hr; obtain ⟨rfl, rfl⟩ := this; exact hr
  · exact this.elim
theorem run_of_eq {s : Sem Value} {v : Value} (h : ∀ k : Value → World → Prop, opW P s k w = k v w) : s.run P w = .ok v w := run_of_opW (by rw [h]; exact ⟨rfl, rfl⟩)
@[simp] theorem pickW_true {a b : Value} : pickW (.bool true) a b k w = k a w := propext ⟨fun h => h.out, fun h => ⟨h⟩⟩
@[simp] theorem pickW_false {a b : Value} : pickW (.bool false) a b k w = k b w := propext ⟨fun h => h.out, fun h => ⟨h⟩⟩
@[simp] theorem pickT_true {a b : Value} {K : Value → Prop} : pickT (.bool true) a b K = K a := propext ⟨fun h => h.out, fun h => ⟨h⟩⟩
@[simp] theorem pickT_false {a b : Value} {K : Value → Prop} : pickT (.bool false) a b K = K b := propext ⟨fun h => h.out, fun h => ⟨h⟩⟩
@[simp] theorem condW_true {a b : Prop} : condW (.bool true) a b = a := propext ⟨fun h => h.out, fun h => ⟨h⟩⟩
@[simp] theorem condW_false {a b : Prop} : condW (.bool false) a b = b := propext ⟨fun h => h.out, fun h => ⟨h⟩⟩
@[simp] theorem guardW_tt {run : (Value → World → Prop) → World → Prop} : guardW (some (.bool true), true) run k w = run k w := propext ⟨fun h => h.out, fun h => ⟨h⟩⟩
@[simp] theorem guardW_ff {run : (Value → World → Prop) → World → Prop} : guardW (some (.bool false), false) run k w = run k w := propext ⟨fun h => h.out, fun h => ⟨h⟩⟩
@[simp] theorem guardW_tf {run : (Value → World → Prop) → World → Prop} : guardW (some (.bool true), false) run k w = k undef w := propext ⟨fun h => h.out, fun h => ⟨h⟩⟩
@[simp] theorem guardW_ft {run : (Value → World → Prop) → World → Prop} : guardW (some (.bool false), true) run k w = k undef w := propext ⟨fun h => h.out, fun h => ⟨h⟩⟩
@[simp] theorem guardT_tt {run : (Value → Prop) → Prop} {K : Value → Prop} : guardT (some (.bool true), true) run K = run K := propext ⟨fun h => h.out, fun h => ⟨h⟩⟩
@[simp] theorem guardT_ff {run : (Value → Prop) → Prop} {K : Value → Prop} : guardT (some (.bool false), false) run K = run K := propext ⟨fun h => h.out, fun h => ⟨h⟩⟩
@[simp] theorem guardT_tf {run : (Value → Prop) → Prop} {K : Value → Prop} : guardT (some (.bool true), false) run K = K undef := propext ⟨fun h => h.out, fun h => ⟨h⟩⟩
@[simp] theorem guardT_ft {run : (Value → Prop) → Prop} {K : Value → Prop} : guardT (some (.bool false), true) run K = K undef := propext ⟨fun h => h.out, fun h => ⟨h⟩⟩
@[simp] theorem guardW_u {run : (Value → World → Prop) → World → Prop} {b : Bool} : guardW (some undef, b) run k w = k undef w := propext ⟨fun h => h.out, fun h => ⟨h⟩⟩
@[simp] theorem guardT_u {run : (Value → Prop) → Prop} {K : Value → Prop} {b : Bool} : guardT (some undef, b) run K = K undef := propext ⟨fun h => h.out, fun h => ⟨h⟩⟩
@[simp] theorem drewW_eq {k : World → Prop} : drewW w k = k w.drew := propext ⟨fun h => h.out, fun h => ⟨h⟩⟩
@[simp] theorem jumpW_none {a b : Prop} {c : Nat → Prop} : jumpW none a b c = a := propext ⟨fun h => h.out, fun h => ⟨h⟩⟩
@[simp] theorem jumpW_ret {a b : Prop} {c : Nat → Prop} : jumpW (some .ret) a b c = b := propext ⟨fun h => h.out, fun h => ⟨h⟩⟩
@[simp] theorem jumpW_exit {a b : Prop} {c : Nat → Prop} {id : Nat} : jumpW (some (.exit id)) a b c = c id := propext ⟨fun h => h.out, fun h => ⟨h⟩⟩
@[simp] theorem nilW_ptr {a : Addr} : nilW (.pointer (some a)) k w = k (.pointer (some a)) w := propext ⟨fun h => h.out, fun h => ⟨h⟩⟩
@[simp] theorem nilT_ptr {a : Addr} {K : Value → Prop} : nilT (.pointer (some a)) K = K (.pointer (some a)) := propext ⟨fun h => h.out, fun h => ⟨h⟩⟩
@[simp] theorem nilW_func {f : FuncId} {a b : Array Value} : nilW (.func (.func f) a b) k w = k (.func (.func f) a b) w := propext ⟨fun h => h.out, fun h => ⟨h⟩⟩
theorem run_underlying' {t : TypeId} {d : TypeDesc} (h : P.underlying t = some d) : (underlying t).run P w = .ok d w := by
  simp [underlying, program, Sem.run_bind, Sem.run, Result.andThen, h]
/-! ### integers, bools -/
section
variable {t : TypeId} {ox oy : Operand} {q : IntKind} {a b : Int}
theorem run_binS_int {op : BinOp} (h1 : op ≠ .shl) (h2 : op ≠ .shr) : (binS op t ox oy (.int q a) (.int q b)).run P w = (binOp op t (.int q a) (.int q b)).run P w := by
  unfold binS eqGuard
  cases op <;> simp [Sem.run_bind, Result.andThen] at h1 h2 ⊢
theorem w_lss : opW P (binS .lss t ox oy (.int q a) (.int q b)) k w = k (.bool (decide (a < b))) w := opW_ok (by rw [run_binS_int (by simp) (by simp)]; simp [binOp, Op.intCmp])
theorem w_leq : opW P (binS .leq t ox oy (.int q a) (.int q b)) k w = k (.bool (decide (a ≤ b))) w := opW_ok (by rw [run_binS_int (by simp) (by simp)]; simp [binOp, Op.intCmp])
theorem w_gtr : opW P (binS .gtr t ox oy (.int q a) (.int q b)) k w = k (.bool (decide (b < a))) w := opW_ok (by rw [run_binS_int (by simp) (by simp)]; simp [binOp, Op.intCmp])
theorem w_geq : opW P (binS .geq t ox oy (.int q a) (.int q b)) k w = k (.bool (decide (b ≤ a))) w := opW_ok (by rw [run_binS_int (by simp) (by simp)]; simp [binOp, Op.intCmp])
theorem w_eql : opW P (binS .eql t ox oy (.int q a) (.int q b)) k w = k (.bool (decide (a = b))) w := opW_ok (by rw [run_binS_int (by simp) (by simp)]; simp [binOp, Op.intCmp]; rfl)
theorem w_neq : opW P (binS .neq t ox oy (.int q a) (.int q b)) k w = k (.bool (!decide (a = b))) w := opW_ok (by rw [run_binS_int (by simp) (by simp)]; simp [binOp, Op.intCmp]; rfl)
theorem w_add : opW P (binS .add t ox oy (.int q a) (.int q b)) k w = k (.int q (q.wrap (a + b))) w := opW_ok (by rw [run_binS_int (by simp) (by simp)]; simp [binOp, Op.intArith])
theorem w_sub : opW P (binS .sub t ox oy (.int q a) (.int q b)) k w = k (.int q (q.wrap (a - b))) w := opW_ok (by rw [run_binS_int (by simp) (by simp)]; simp [binOp, Op.intArith])
theorem w_mul : opW P (binS .mul t ox oy (.int q a) (.int q b)) k w = k (.int q (q.wrap (a * b))) w := opW_ok (by rw [run_binS_int (by simp) (by simp)]; simp [binOp, Op.intArith])
theorem t_eql {S : World → Prop} {K : Value → Prop} : takeW P S (binS .eql t ox oy (.int q a) (.int q b)) K w = K (.bool (decide (a = b))) := takeW_pure fun w => run_of_eq fun k => w_eql
theorem t_neq {S : World → Prop} {K : Value → Prop} : takeW P S (binS .neq t ox oy (.int q a) (.int q b)) K w = K (.bool (!decide (a = b))) := takeW_pure fun w => run_of_eq fun k => w_neq
theorem t_add {S : World → Prop} {K : Value → Prop} : takeW P S (binS .add t ox oy (.int q a) (.int q b)) K w = K (.int q (q.wrap (a + b))) := takeW_pure fun w => run_of_eq fun k => w_add
theorem t_sub {S : World → Prop} {K : Value → Prop} : takeW P S (binS .sub t ox oy (.int q a) (.int q b)) K w = K (.int q (q.wrap (a - b))) := takeW_pure fun w => run_of_eq fun k => w_sub
theorem t_mul {S : World → Prop} {K : Value → Prop} : takeW P S (binS .mul t ox oy (.int q a) (.int q b)) K w = K (.int q (q.wrap (a * b))) := takeW_pure fun w => run_of_eq fun k => w_mul
theorem w_quo (h : b ≠ 0) : opW P (binS .quo t ox oy (.int q a) (.int q b)) k w = k (.int q (q.wrap (a.tdiv b))) w := opW_ok (by rw [run_binS_int (by simp) (by simp)]; simp [binOp, Op.intDiv, h])
theorem w_rem (h : b ≠ 0) : opW P (binS .rem t ox oy (.int q a) (.int q b)) k w = k (.int q (a.tmod b)) w := opW_ok (by rw [run_binS_int (by simp) (by simp)]; simp [binOp, Op.intDiv, h])
theorem w_not {x : Bool} : opW P (Op.unary .not (.bool x)) k w = k (.bool (!x)) w := opW_ok (by simp [Op.unary])
theorem w_neg : opW P (Op.unary .neg (.int q a)) k w = k (.int q (q.wrap (-a))) w := opW_ok (by simp [Op.unary, Op.intArith])
theorem w_min : opW P (Builtin.min_ #[t, t] t #[.int q a, .int q b]) k w = k (.int q (if b < a then b else a)) w := opW_ok (by simp [Builtin.min_, Builtin.min2])
theorem t_not {S : World → Prop} {K : Value → Prop} {x : Bool} : takeW P S (Op.unary .not (.bool x)) K w = K (.bool (!x)) := takeW_pure fun w => run_of_eq fun k => w_not
theorem t_min {S : World → Prop} {K : Value → Prop} : takeW P S (Builtin.min_ #[t, t] t #[.int q a, .int q b]) K w = K (.int q (if b < a then b else a)) := takeW_pure fun w => run_of_eq fun k => w_min
end
theorem run_binS_shift {op : BinOp} {t : TypeId} {ox oy : Operand} {q r : IntKind} {a b : Int} (h : op = .shl ∨ op = .shr) : (binS op t ox oy (.int q a) (.int r b)).run P w = (Op.shift op q a r b).run P w := by
  unfold binS eqGuard
  rcases h with rfl | rfl <;> simp [Sem.run_bind, Result.andThen, binOp]
theorem w_shr {t : TypeId} {ox oy : Operand} {q r : IntKind} {a b : Int} (h : 0 ≤ b) : opW P (binS .shr t ox oy (.int q a) (.int r b)) k w = k (.int q (a.fdiv (2 ^ (min b.toNat q.bits)))) w :=
  opW_ok (by rw [run_binS_shift (.inr rfl)]; simp [Op.shift, show ¬ b < 0 by omega])
theorem w_shl {t : TypeId} {ox oy : Operand} {q r : IntKind} {a b : Int} (h : 0 ≤ b) : opW P (binS .shl t ox oy (.int q a) (.int r b)) k w = k (.int q (q.wrap (a * 2 ^ (min b.toNat q.bits)))) w :=
  opW_ok (by rw [run_binS_shift (.inl rfl)]; simp [Op.shift, show ¬ b < 0 by omega])
def intT (P : Program) (t : TypeId) : Option IntKind := match P.underlying t with | some (.int q) => some q | _ => none
theorem w_conv {s d : TypeId} {q r : IntKind} {x : Int} (hs : (P.underlying s).isSome = true) (h : intT P d = some q) : opW P (convert s d (.int r x)) k w = k (.int q (q.wrap x)) w :=
  opW_ok (by
    unfold intT at h
    split at h
    · rename_i q' hu
      cases h
      cases hsu : P.underlying s with
      | none => rw [hsu] at hs; cases hs
      | some ds => simp [convert, Sem.run_bind, run_underlying' hsu, run_underlying' hu, Result.andThen, Conv.intToInt]
    · cases h)
theorem wrap_id {n : Int} (h : -9223372036854775808 ≤ n ∧ n ≤ 9223372036854775807) : IntKind.i64.wrap n = n := IntWalk.i64_in n h

/-! ### slices' lengths, addresses, loads -/
theorem run_underlying {t : TypeId} {d : TypeDesc} (h : P.underlying t = some d) : (underlying t).run P w = .ok d w := by
  simp [underlying, program, Sem.run_bind, Sem.run, Result.andThen, h]
theorem run_typeInfo {t : TypeId} {d : TypeInfo} (h : P.info? t = some d) : (typeInfo t).run P w = .ok d w := by
  simp [typeInfo, program, Sem.run_bind, Sem.run, Result.andThen, h]
theorem run_sizeOf {t : TypeId} (h : known P t = true) : (sizeOf t).run P w = .ok (sizeT P t) w := by
  simp only [known, Bool.and_eq_true] at h
  cases hi : P.info? t with
  | none => rw [hi] at h; simp at h
  | some i => simp [sizeOf, Sem.run_bind, Result.andThen, run_typeInfo hi, sizeT, hi]
theorem slice_desc {t : TypeId} (h : isSliceT P t = true) : P.underlying t = some (.slice (elemT P t)) := by
  unfold isSliceT at h
  unfold elemT
  split at h
  · rename_i e he; rw [he]
  · cases h
theorem w_len {t ty : TypeId} {a : Option Addr} {n c : Nat} (h : isSliceT P t = true) : opW P (Builtin.len_ #[t] ty #[.slice a n c]) k w = k (.int .i64 n) w :=
  opW_ok (by simp [Builtin.len_, Sem.run_bind, Result.andThen, run_underlying (slice_desc h), goInt])
theorem w_load {t : TypeId} {a : Addr} {v : Value} (h : isAggT P t = false) (hk : known P t = true) (hc : w.cell? a = some v) : opW P (Instr.loadAt t (.pointer (some a))) k w = k v w :=
  opW_ok (by
    simp only [known, Bool.and_eq_true] at hk
    cases hu : P.underlying t with
    | none => rw [hu] at hk; simp at hk
    | some d =>
      have : (isAgg t).run P w = .ok false w := by
        simp only [isAgg, Sem.run_bind, Result.andThen, run_underlying hu]
        unfold isAggT at h
        rw [hu] at h
        cases d <;> first | rfl | (simp at h)
      simp [Instr.loadAt, Instr.sureAddr, loadVar, Sem.run_bind, Result.andThen, this, load, Sem.run, hc])
/-- the cells from (b, o) on hold vs -/
def Cells (w : World) (b o : Nat) (vs : List Value) : Prop := ∀ j v, vs[j]? = some v → w.cell? ⟨b, o + j, none⟩ = some v
theorem add_none (b o n : Nat) : (⟨b, o, none⟩ : Addr).add n = ⟨b, o + n, none⟩ := by unfold Addr.add; split <;> simp_all
theorem run_loadCellsFrom {b o : Nat} : ∀ (vs : List Value) (i : Nat) (acc : Array Value), Cells w b (o + i) vs → (loadCellsFrom ⟨b, o, none⟩ i vs.length acc).run P w = .ok (acc ++ vs.toArray) w
  | [], i, acc, _ => by simp [loadCellsFrom]
  | v :: r, i, acc, h => by
    have h0 : w.cell? ⟨b, o + i, none⟩ = some v := by simpa using h 0 v (by simp)
    have hr : Cells w b (o + (i + 1)) r := fun j u hu => by
      have := h (j + 1) u (by simpa using hu)
      rw [show o + i + (j + 1) = o + (i + 1) + j by omega] at this; exact this
    simp only [List.length_cons, loadCellsFrom, Sem.run_bind, add_none, load, Sem.run, h0, Result.andThen]
    rw [run_loadCellsFrom r (i + 1) _ hr]
    simp
theorem w_loadAgg {t : TypeId} {b o : Nat} {vs : List Value} (h : isAggT P t = true) (hk : known P t = true) (hs : sizeT P t = vs.length) (hc : Cells w b o vs) :
    opW P (Instr.loadAt t (.pointer (some ⟨b, o, none⟩))) k w = k (.agg vs.toArray) w :=
  opW_ok (by
    have hk' := hk
    simp only [known, Bool.and_eq_true] at hk
    cases hu : P.underlying t with
    | none => rw [hu] at hk; simp at hk
    | some d =>
      have : (isAgg t).run P w = .ok true w := by
        simp only [isAgg, Sem.run_bind, Result.andThen, run_underlying hu]
        unfold isAggT at h
        rw [hu] at h
        cases d <;> first | rfl | (simp at h)
      have hl := run_loadCellsFrom (P := P) (w := w) (b := b) (o := o) vs 0 #[] (by simpa using hc)
      simp [Instr.loadAt, Instr.sureAddr, loadVar, Sem.run_bind, Result.andThen, this, loadCells, run_sizeOf hk', hs, hl])
theorem w_field {t : TypeId} {f o x : Nat} {b : Nat} (h : fieldOff P t f = some x) : opW P (Instr.fieldAt t (.pointer (some ⟨b, o, none⟩)) f) k w = k (.pointer (some ⟨b, o + x, none⟩)) w :=
  opW_ok (by
    unfold fieldOff at h
    split at h
    · rename_i fs hu
      split at h
      · rename_i g hg
        split at h
        · rename_i i hi
          split at h
          · cases h
          · rename_i hz
            cases h
            have hs : (sizeOf g.type).run P w = .ok i.size w := by simp [sizeOf, Sem.run_bind, Result.andThen, run_typeInfo hi]
            simp [Instr.fieldAt, Sem.run_bind, Result.andThen, run_underlying hu, hg, Instr.sureAddr, fieldPlace, hs, hz, add_none]
        · cases h
      · cases h
    · cases h)

/-! ### stores, new memory -/
theorem one_cells {v : Value} (h : v.oneCell' = true) : v.cells = #[v] := by cases v <;> first | rfl | cases h
theorem run_store1 {a : Addr} {v old : Value} (hv : v.oneCell' = true) (hc : w.cell? a = some old) (hf : w.frozen? a = false) : (store a v).run P w = .ok () (w.setCell a v) := by
  cases v <;> first | (simp only [store, Sem.run, hc, hf]; rfl) | cases hv
theorem w_store {t : TypeId} {a : Addr} {v old : Value} (hv : v.oneCell' = true) (hs : sizeT P t = 1) (hk : known P t = true) (hc : w.cell? a = some old) (hf : w.frozen? a = false) :
    opU P (Instr.storeAt t (.pointer (some a)) v) k w = k undef (w.setCell a v) :=
  opU_ok (u := ()) (by
    have h1 := run_store1 (P := P) hv hc hf
    have ha : a.add 0 = a := by simp [Addr.add]
    simp [Instr.storeAt, Instr.sureAddr, storeVar, Sem.run_bind, Result.andThen, one_cells hv, run_sizeOf hk, hs, storeCells, ha, h1])
/-- several cells stored, one behind the other -/
def setCells (w : World) (b : Nat) : Nat → List Value → World
  | _, [] => w
  | o, v :: r => setCells (w.setCell ⟨b, o, none⟩ v) b (o + 1) r
theorem run_storeCells {b o : Nat} : ∀ (vs : List Value) (i : Nat) (w : World), (∀ v ∈ vs, v.oneCell' = true) → (∀ j, j < vs.length → ∃ old, w.cell? ⟨b, o + i + j, none⟩ = some old) → (∀ j, j < vs.length → w.frozen? ⟨b, o + i + j, none⟩ = false) →
    (storeCells ⟨b, o, none⟩ vs i).run P w = .ok () (setCells w b (o + i) vs)
  | [], i, w, _, _, _ => by simp [storeCells, setCells]
  | v :: r, i, w, hv, hc, hf => by
    obtain ⟨old, h0⟩ := hc 0 (by simp)
    have f0 := hf 0 (by simp)
    simp only [Nat.add_zero] at h0 f0
    simp only [storeCells, Sem.run_bind, add_none, run_store1 (hv v (by simp)) h0 f0, Result.andThen, setCells]
    have ih := run_storeCells r (i + 1) (w.setCell ⟨b, o + i, none⟩ v) (fun u hu => hv u (by simp [hu]))
      (fun j hj => by
        obtain ⟨u, hu⟩ := hc (j + 1) (by simp; omega)
        refine ⟨u, ?_⟩
        have hne : (⟨b, o + i, none⟩ : Addr) ≠ ⟨b, o + i + (j + 1), none⟩ := by simp
        rw [show o + (i + 1) + j = o + i + (j + 1) by omega, World.cell?_setCell_other (h := hne)]; exact hu)
      (fun j hj => by rw [World.frozen?_setCell, show o + (i + 1) + j = o + i + (j + 1) by omega]; exact hf (j + 1) (by simp; omega))
    rw [ih, show o + (i + 1) = o + i + 1 by omega]
theorem w_storeAgg {t : TypeId} {b o : Nat} {vs : List Value} (hv : ∀ v ∈ vs, v.oneCell' = true) (hs : sizeT P t = vs.length) (hk : known P t = true)
    (hc : ∀ j, j < vs.length → ∃ old, w.cell? ⟨b, o + j, none⟩ = some old) (hf : ∀ j, j < vs.length → w.frozen? ⟨b, o + j, none⟩ = false) :
    opU P (Instr.storeAt t (.pointer (some ⟨b, o, none⟩)) (.agg vs.toArray)) k w = k undef (setCells w b o vs) :=
  opU_ok (u := ()) (by
    have h1 := run_storeCells (P := P) (b := b) (o := o) vs 0 w hv (by simpa using hc) (by simpa using hf)
    simp [Instr.storeAt, Instr.sureAddr, storeVar, Sem.run_bind, Result.andThen, run_sizeOf hk, hs, Value.cells, h1])
theorem w_box {t : TypeId} {v : Value} : opW P (Instr.box t v) k w = k (.pointer (some ⟨w.heap.size, 0, none⟩)) (w.alloc (.cells v.cells t (0, 0))) :=
  opW_ok (by simp [Instr.box, newVar, newRow])
theorem w_alloc {t : TypeId} (h : hasZero P t = true) : opW P (Instr.alloc t true (.tuple #[])) k w = k (.pointer (some ⟨w.heap.size, 0, none⟩)) (w.alloc (.cells (zeroT P t).cells t (0, 0))) :=
  opW_ok (by
    unfold hasZero at h
    split at h
    · rename_i i hi
      cases hz : i.zero with
      | none => rw [hz] at h; cases h
      | some z =>
        have : (zeroValue t).run P w = .ok z w := by simp [zeroValue, Sem.run_bind, Result.andThen, run_typeInfo hi, hz]
        simp [Instr.alloc, Sem.run_bind, Result.andThen, this, newVar, newRow, zeroT, hi, hz]
    · cases h)
theorem w_makeFunc {fn : Fn} {a b : Array Value} : opW P (Instr.makeFunc fn a b) k w = k (.func fn a b) w := opW_ok (by simp [Instr.makeFunc])
theorem w_extract {vs : Array Value} {i : Nat} {v : Value} (h : vs[i]? = some v) : opW P (Instr.extract (.tuple vs) i) k w = k v w := opW_ok (by simp [Instr.extract, h])
/-- a slice type: its elements' type, their cells, bytes and zero -/
structure STy (P : Program) (t e : TypeId) (size bytes : Nat) (z : Value) : Prop where
  u : P.underlying t = some (.slice e)
  i : (P.info? e).map (fun i => (i.zero, i.size, i.bytes)) = some (some z, size, bytes)
  zs : z.cells.size = size
  pos : 0 < size
theorem STy.info {t e : TypeId} {size bytes : Nat} {z : Value} (h : STy P t e size bytes z) : ∃ i, P.info? e = some i ∧ i.zero = some z ∧ i.size = size ∧ i.bytes = bytes := by
  have := h.i
  cases hi : P.info? e with
  | none => rw [hi] at this; cases this
  | some i => rw [hi] at this; simp at this; exact ⟨i, rfl, this.1, this.2.1, this.2.2⟩
theorem w_make {t e : TypeId} {size bytes n base : Nat} {z : Value} {q r : IntKind} (h : STy P t e size bytes z) (hb : bytes * n ≤ 281474976710656) (hn : n ≤ maxLen) (hbase : base ≤ w.heap.size)
    (hk : ∀ w', w'.ownsRow base e size (.slice (some ⟨w.heap.size, 0, none⟩) n n) n (madeCells z.cells (n * size)).toList → w.grownBy w' none → k (.slice (some ⟨w.heap.size, 0, none⟩) n n) w') :
    opW P (Instr.makeSlice t (.int q n) (.int r n)) k w := by
  obtain ⟨i, hi, hz, hs, hby⟩ := h.info
  obtain ⟨w', hr, ho, hg⟩ := run_make_full (P := P) w base t e i z size h.u hi hz hs q r n (by rw [hby]; exact hb) hn hbase
  rw [opW_ok hr]
  exact hk w' ho hg
theorem w_append_nil {t ty e : TypeId} {size bytes base : Nat} {z : Value} (h : STy P t e size bytes z) {v : Value} {n : Nat} {xs : List Value} (hown : w.ownsRow base e size v n xs) :
    opW P (Builtin.append_ #[t, t] ty #[v, .slice none 0 0]) k w = k v w := by
  obtain ⟨i, hi, hz, hs, hby⟩ := h.info
  exact opW_ok (run_append_owned_none (P := P) w base t ty e i size h.u hi v n xs hown)
theorem foldl_set : ∀ (l : List Value) (k : Nat) (cs : List Value), k + l.length ≤ cs.length → (l.zipIdx k).foldl (fun (cs : Array Value) (p : Value × Nat) => cs.setIfInBounds p.2 p.1) cs.toArray = (cs.take k ++ l ++ cs.drop (k + l.length)).toArray
  | [], k, cs, _ => by simp
  | v :: r, k, cs, h => by
    simp only [List.length_cons] at h
    simp only [List.zipIdx_cons, List.foldl_cons, List.setIfInBounds_toArray]
    rw [foldl_set r (k + 1) (cs.set k v) (by simp; omega)]
    congr 1
    apply List.ext_getElem?
    intro j
    simp only [List.append_assoc, List.getElem?_append, List.getElem?_take, List.getElem?_drop, List.length_take, List.length_set, List.length_cons, List.getElem?_set, List.getElem?_cons]
    by_cases h1 : j < k
    · have : min k cs.length = k := by omega
      have h2 : min (k + 1) cs.length = k + 1 := by omega
      simp [this, h2, h1, show j < k + 1 by omega, show ¬ k = j by omega]
    · have : min k cs.length = k := by omega
      have h2 : min (k + 1) cs.length = k + 1 := by omega
      simp only [this, h2, h1, if_false]
      by_cases h3 : j = k
      · subst h3; simp; omega
      · have h4 : ¬ j < k + 1 := by omega
        simp only [h4, if_false]
        have h5 : ¬ j - k = 0 := by omega
        by_cases h6 : j - (k + 1) < r.length
        · simp [h6, h5, show j - k - 1 = j - (k + 1) by omega, show j - k < r.length + 1 by omega]
        · simp [h6, show ¬ j - k < r.length + 1 by omega, show ¬ k = k + 1 + r.length + (j - (k + 1) - r.length) by omega, show k + 1 + r.length + (j - (k + 1) - r.length) = k + (r.length + 1) + (j - k - (r.length + 1)) by omega]
          intro hh; omega
/-- a slice of one element, made on the spot -/
theorem w_one {t e : TypeId} {size bytes : Nat} {z v : Value} (h : STy P t e size bytes z) (hv : v.cells.size = size) (hsm : size ≤ 16777216) :
    opW P (Instr.buildSlice t 1 #[(0, v)]) k w = k (.slice (some ⟨w.heap.size, 0, none⟩) 1 1) (w.alloc (.cells v.cells e (0, 0))) := by
  obtain ⟨i, hi, hz, hs, hby⟩ := h.info
  refine opW_ok (run_buildSlice (P := P) w t e 1 _ v.cells i z h.u hi hz (by rw [hs]; omega) (by rw [hs]; have := h.pos; omega) ?_)
  have hsz := h.zs
  have hpos := h.pos
  have hsize : (Array.map (fun x => z.cells[x % z.cells.size]!) (Array.range (1 * i.size))).size = size := by simp [hs]
  simp only [Instr.fill, Nat.zero_mul, hs, hv, Nat.zero_add]
  rw [if_neg (by simp [hs])]
  congr 1
  have hf := foldl_set v.cells.toList 0 (Array.map (fun x => z.cells[x % z.cells.size]!) (Array.range (1 * size))).toList (by simp [hv])
  rw [← Array.foldl_toList, Array.toList_zipIdx]
  have e1 : ((Array.map (fun x => z.cells[x % z.cells.size]!) (Array.range (1 * size))).toList).toArray = Array.map (fun x => z.cells[x % z.cells.size]!) (Array.range (1 * size)) := rfl
  rw [e1] at hf
  refine Eq.trans hf ?_
  have e2 : (Array.map (fun x => z.cells[x % z.cells.size]!) (Array.range (1 * size))).toList.length = size := by simp
  rw [List.take_zero, List.nil_append, List.drop_of_length_le (by rw [e2]; simp [hv]), List.append_nil]
end
end Go.V
/- What memory holds: slices of flat elements; calls of function values. -/
set_option linter.unusedSimpArgs false
set_option linter.unusedVariables false
namespace Go.V
open Go Go.RowKit

/-! ### slices of flat elements -/
structure Fl (α : Type) where
  sz : Nat
  e : α → List Value
  len : ∀ x, (e x).length = sz
def fI : Fl Int := ⟨1, fun n => [.int .i64 n], fun _ => rfl⟩
def flat {α : Type} (F : Fl α) : List α → List Value
  | [] => []
  | x :: r => F.e x ++ flat F r
section
variable {α : Type} {F : Fl α}
theorem flat_length : ∀ l : List α, (flat F l).length = l.length * F.sz
  | [] => by simp [flat]
  | x :: r => by simp [flat, flat_length r, F.len, Nat.add_mul, Nat.add_comm]
theorem flat_append : ∀ l m : List α, flat F (l ++ m) = flat F l ++ flat F m
  | [], m => rfl
  | x :: r, m => by simp [flat, flat_append r m]
theorem flat_one (x : α) : flat F [x] = F.e x := by simp [flat]
theorem flat_get : ∀ (l : List α) (i j : Nat) (x : α) (u : Value), l[i]? = some x → (F.e x)[j]? = some u → (flat F l)[i * F.sz + j]? = some u
  | [], i, j, x, u, h, _ => by simp at h
  | y :: r, 0, j, x, u, h, hu => by
    simp at h; subst h
    have hj : j < (F.e y).length := (List.getElem?_eq_some_iff.1 hu).1
    simp only [flat, Nat.zero_mul, Nat.zero_add]
    rw [List.getElem?_append_left hj]; exact hu
  | y :: r, i + 1, j, x, u, h, hu => by
    simp only [List.getElem?_cons_succ] at h
    simp only [flat]
    rw [List.getElem?_append_right (by rw [F.len, Nat.add_mul]; omega), F.len, show (i + 1) * F.sz + j - F.sz = i * F.sz + j by rw [Nat.add_mul]; omega]
    exact flat_get r i j x u h hu
theorem flat_set : ∀ (l : List α) (i : Nat) (x y : α), l[i]? = some x → F.sz = 1 → ∀ u, F.e y = [u] → flat F (l.set i y) = (flat F l).set i u
  | [], i, x, y, h, _, _, _ => by simp at h
  | z :: r, 0, x, y, h, hs, u, hu => by
    have hz := F.len z
    rw [hs] at hz
    match hez : F.e z, hz with
    | [v], _ => simp [flat, hez, hu]
  | z :: r, i + 1, x, y, h, hs, u, hu => by
    simp only [List.getElem?_cons_succ] at h
    have hz := F.len z
    rw [hs] at hz
    match hez : F.e z, hz with
    | [v], _ => simp [flat, hez, flat_set r i x y h hs u hu]
/-- v is a slice whose elements read as l -/
def IsSl (F : Fl α) (w : World) (v : Value) (l : List α) : Prop :=
  ∃ a c, v = .slice a l.length c ∧ l.length ≤ c ∧ ∀ i x, l[i]? = some x → ∃ b o, a = some ⟨b, o, none⟩ ∧ Cells w b (o + i * F.sz) (F.e x)
theorem Cells.lt {w : World} {b o : Nat} {vs : List Value} (h : Cells w b o vs) (hne : vs ≠ []) : b < w.heap.size := by
  cases vs with
  | nil => exact absurd rfl hne
  | cons v r => exact World.block_lt_of_cell? w ⟨b, o + 0, none⟩ (h 0 v rfl)
theorem Cells.same {w w' : World} {b o : Nat} {vs : List Value} (h : Cells w b o vs) (hs : w'.heap[b]? = w.heap[b]?) : Cells w' b o vs := fun j v hv => by
  rw [World.cell?_of_block (a := ⟨b, o + j, none⟩) hs]; exact h j v hv
theorem IsSl.below {w w' : World} {v : Value} {l : List α} (h : IsSl F w v l) (hb : Below w.heap.size w w') : IsSl F w' v l := by
  obtain ⟨a, c, rfl, hc, hx⟩ := h
  refine ⟨a, c, rfl, hc, fun i x hi => ?_⟩
  obtain ⟨b, o, ha, hcell⟩ := hx i x hi
  refine ⟨b, o, ha, fun j u hu => ?_⟩
  have hlt := World.block_lt_of_cell? w _ (hcell j u hu)
  rw [World.cell?_of_block (a := ⟨b, _, none⟩) (hb.block b hlt)]; exact hcell j u hu
theorem IsSl.nil (w : World) : IsSl F w (.slice none 0 0) [] := ⟨none, 0, rfl, Nat.le_refl _, fun i x h => by simp at h⟩
theorem IsSl.drew {w : World} {v : Value} {l : List α} (h : IsSl F w v l) : IsSl F w.drew v l := h.below ((Below.refl _ _).drew)
theorem IsSl.of_own {w : World} {base e : Nat} {v : Value} {l : List α} (h : w.ownsRow base e F.sz v l.length (flat F l)) : IsSl F w v l := by
  rcases h.2 with ⟨rfl, hn⟩ | ⟨g, cap, cur, rfl, hb, hg, hnc, _⟩
  · have : l = [] := List.eq_nil_of_length_eq_zero hn
    subst this; exact .nil w
  · refine ⟨_, _, rfl, hnc, fun i x hi => ⟨g, 0, rfl, fun j u hu => ?_⟩⟩
    have := h.cells (g := g) rfl (i * F.sz + j) u (flat_get l i j x u hi hu)
    rw [add_none] at this
    rw [show 0 + i * F.sz + j = 0 + (i * F.sz + j) by omega]; exact this
section
variable {P : Program} {k : Value → World → Prop} {w : World} {v : Value} {l : List α}
theorem w_lenS {t ty : TypeId} (h : isSliceT P t = true) (hs : IsSl F w v l) : opW P (Builtin.len_ #[t] ty #[v]) k w = k (.int .i64 l.length) w := by
  obtain ⟨a, c, rfl, _⟩ := hs
  exact w_len h
theorem run_index {t : TypeId} {b o n c : Nat} {q : IntKind} {i : Int} (h : isSliceT P t = true) (he : known P (elemT P t) = true) (h0 : 0 ≤ i) (h1 : i < n) (w : World) :
    (Instr.indexAt t (.slice (some ⟨b, o, none⟩) n c) (.int q i)).run P w = .ok (.pointer (some ⟨b, o + i.toNat * sizeT P (elemT P t), none⟩)) w := by
  simp [Instr.indexAt, Sem.run_bind, Result.andThen, run_underlying (slice_desc h), asIntOf, h0, h1, run_sizeOf he, add_none]
theorem w_indexS {t : TypeId} {q : IntKind} {i : Int} {x : α} (h : isSliceT P t = true) (he : known P (elemT P t) = true) (hz : sizeT P (elemT P t) = F.sz) (hs : IsSl F w v l) (h0 : 0 ≤ i) (hx : l[i.toNat]? = some x)
    (hk : ∀ b o, Cells w b o (F.e x) → k (.pointer (some ⟨b, o, none⟩)) w) : opW P (Instr.indexAt t v (.int q i)) k w := by
  obtain ⟨a, c, rfl, hc, hcell⟩ := hs
  obtain ⟨b, o, rfl, hcl⟩ := hcell _ _ hx
  have hlt : i < l.length := by have := (List.getElem?_eq_some_iff.1 hx).1; omega
  rw [opW_ok (run_index h he h0 hlt w), hz]
  exact hk b _ hcl
theorem t_lenS {S : World → Prop} {K : Value → Prop} {t ty : TypeId} (h : isSliceT P t = true) (hs : IsSl F w v l) : takeW P S (Builtin.len_ #[t] ty #[v]) K w = K (.int .i64 l.length) := by
  obtain ⟨a, c, rfl, _⟩ := hs
  exact takeW_pure fun w => run_of_eq fun k => w_len h
theorem t_load {S : World → Prop} {K : Value → Prop} {t : TypeId} {a : Addr} {u : Value} (h : isAggT P t = false) (hk : known P t = true) (hc : w.cell? a = some u) (hS : ∀ w', S w' → w'.cell? a = w.cell? a) : takeW P S (Instr.loadAt t (.pointer (some a))) K w = K u :=
  takeW_eq (run_of_eq fun k => w_load h hk hc) fun w' hw' => run_of_eq fun k => w_load h hk (by rw [hS w' hw', hc])
theorem x_load {K : Value → Prop} {t : TypeId} {a : Addr} {u : Value} (h : isAggT P t = false) (hk : known P t = true) (hc : w.cell? a = some u) : takeW P (sameW w) (Instr.loadAt t (.pointer (some a))) K w = K u :=
  takeW_same (run_of_eq fun k => w_load h hk hc)
theorem x_loadAgg {K : Value → Prop} {t : TypeId} {b o : Nat} {vs : List Value} (h : isAggT P t = true) (hk : known P t = true) (hs : sizeT P t = vs.length) (hc : Cells w b o vs) : takeW P (sameW w) (Instr.loadAt t (.pointer (some ⟨b, o, none⟩))) K w = K (.agg vs.toArray) :=
  takeW_same (run_of_eq fun k => w_loadAgg h hk hs hc)
theorem t_field {S : World → Prop} {K : Value → Prop} {t : TypeId} {f o x b : Nat} (h : fieldOff P t f = some x) : takeW P S (Instr.fieldAt t (.pointer (some ⟨b, o, none⟩)) f) K w = K (.pointer (some ⟨b, o + x, none⟩)) :=
  takeW_pure fun w => run_of_eq fun k => w_field h
end
end

/-! ### rows of the call's own -/
section
variable {α : Type} {F : Fl α} {w : World}
/-- a slice of the call's own at the head of block g: its elements are l -/
def OwnS (F : Fl α) (w : World) (base e g c : Nat) (l : List α) : Prop := w.ownsRow base e F.sz (.slice (some ⟨g, 0, none⟩) l.length c) l.length (flat F l)
theorem OwnS.ge {base e g c : Nat} {l : List α} (h : OwnS F w base e g c l) : base ≤ g ∧ g < w.heap.size := World.ownsRow.lt h g rfl
theorem OwnS.cell {base e g c : Nat} {l : List α} (h : OwnS F w base e g c l) {i : Nat} {x : α} (hx : l[i]? = some x) : Cells w g (i * F.sz) (F.e x) := fun j u hu => by
  have hlt : i < l.length := (List.getElem?_eq_some_iff.1 hx).1
  have hj : j < F.sz := by rw [← F.len x]; exact (List.getElem?_eq_some_iff.1 hu).1
  rw [World.ownsRow.cellAt h (i * F.sz + j) (by
    have : (i + 1) * F.sz ≤ l.length * F.sz := Nat.mul_le_mul_right _ hlt
    rw [Nat.add_mul] at this; omega)]
  exact flat_get l i j x u hx hu
theorem OwnS.free {base e g c : Nat} {l : List α} (h : OwnS F w base e g c l) (j : Nat) : w.frozen? ⟨g, j, none⟩ = false := World.ownsRow.frozenAt h j
/-- a store of one cell -/
theorem OwnS.store {base e g c : Nat} {l : List α} (h : OwnS F w base e g c l) (hF : F.sz = 1) {i : Nat} {x y : α} (hx : l[i]? = some x) {u : Value} (hu : F.e y = [u]) :
    OwnS F (w.setCell ⟨g, i, none⟩ u) base e g c (l.set i y) ∧ w.grownBy (w.setCell ⟨g, i, none⟩ u) (some g) ∧ (∃ old, w.cell? ⟨g, i, none⟩ = some old) := by
  have hs := World.ownsRow.stored h i u
  refine ⟨?_, hs.2, ?_⟩
  · unfold OwnS
    rw [flat_set l i x y hx hF u hu, List.length_set]
    exact hs.1
  · have := h.cell hx
    have hlen := F.len x
    rw [hF] at hlen this
    match he : F.e x, hlen with
    | [v], _ => exact ⟨v, by have h0 := this 0 v (by simp [he]); simpa using h0⟩
end

/-! ### rows known whole -/
/-- block b is a row of cells, all known, none frozen -/
def RowAt (w : World) (b : Nat) (t : TypeId) (vs : List Value) : Prop := w.heap[b]? = some (.cells vs.toArray t (0, 0))
section
variable {w w' : World} {b : Nat} {t : TypeId} {vs : List Value}
theorem RowAt.cell (h : RowAt w b t vs) {i : Nat} {u : Value} (hu : vs[i]? = some u) : w.cell? ⟨b, i, none⟩ = some u := by
  unfold RowAt at h
  simp [World.cell?, h, hu]
theorem RowAt.cells (h : RowAt w b t vs) : Cells w b 0 vs := fun j u hu => by rw [Nat.zero_add]; exact h.cell hu
theorem RowAt.free (h : RowAt w b t vs) (i : Nat) : w.frozen? ⟨b, i, none⟩ = false := by
  unfold RowAt at h
  simp [World.frozen?, h]
theorem RowAt.lt (h : RowAt w b t vs) : b < w.heap.size := (Array.getElem?_eq_some_iff.1 h).1
theorem RowAt.same (h : RowAt w b t vs) (hs : w'.heap[b]? = w.heap[b]?) : RowAt w' b t vs := by unfold RowAt; rw [hs]; exact h
theorem RowAt.below (h : RowAt w b t vs) (hb : Below w.heap.size w w') : RowAt w' b t vs := h.same (hb.block b h.lt)
theorem RowAt.drew (h : RowAt w b t vs) : RowAt w.drew b t vs := h
theorem RowAt.set (h : RowAt w b t vs) (i : Nat) (u : Value) : RowAt (w.setCell ⟨b, i, none⟩ u) b t (vs.set i u) := by
  unfold RowAt at *
  have hlt := (Array.getElem?_eq_some_iff.1 h).1
  simp [World.setCell, Array.getElem?_modify, h]
theorem RowAt.other (h : RowAt w b t vs) {b' : Nat} (hne : b' ≠ b) (i : Nat) (u : Value) : RowAt (w.setCell ⟨b', i, none⟩ u) b t vs :=
  h.same (Below.heap_setCell _ _ _ _ (Ne.symm hne))
theorem RowAt.new (w : World) (t : TypeId) (vs : Array Value) : RowAt (w.alloc (.cells vs t (0, 0))) w.heap.size t vs.toList := by
  unfold RowAt; rw [World.alloc_heap_new]
variable {P : Program} {k : Value → World → Prop}
theorem w_boxN {v : Value} (hk : ∀ w', Below w.heap.size w w' → w'.heap.size = w.heap.size + 1 → RowAt w' w.heap.size t v.cells.toList → k (.pointer (some ⟨w.heap.size, 0, none⟩)) w') : opW P (Instr.box t v) k w := by
  rw [w_box]
  exact hk _ ((Below.refl _ _).alloc (Nat.le_refl _) _) (by simp) (RowAt.new _ _ _)
theorem w_allocN (hz : hasZero P t = true) (hk : ∀ w', Below w.heap.size w w' → w'.heap.size = w.heap.size + 1 → RowAt w' w.heap.size t (zeroT P t).cells.toList → k (.pointer (some ⟨w.heap.size, 0, none⟩)) w') : opW P (Instr.alloc t true (.tuple #[])) k w := by
  rw [w_alloc hz]
  exact hk _ ((Below.refl _ _).alloc (Nat.le_refl _) _) (by simp) (RowAt.new _ _ _)
end

/-! ### calls of function values -/
def callOk (P : Program) (f : FuncId) : Bool := match P.funcs[f]? with
  | some fn => match fn.name == "runtime.NumGoroutine", fn.body with | false, some _ => true | _, _ => false
  | none => false
theorem callP_calls {P : Program} {f : FuncId} {first caps args : Array Value} {k : Value → World → Prop} {kp : List PanicEntry → World → Prop} {w : World} (hf : callOk P f = true) (h : Calls P f (first ++ args ++ caps) w (retPP k kp)) :
    callP P (.func (.func f) first caps) args k kp w := by
  refine ⟨?_⟩
  unfold callOk at hf
  split at hf
  · rename_i fn hfn
    split at hf
    · rename_i h1 h2
      have h1' : ¬ fn.name = "runtime.NumGoroutine" := by simpa using h1
      have hr : (do let d ← Deferred.ofValue (.func (.func f) first caps) args; invoke d.target d.args : Sem Next).run P w = .ok (.enter f (first ++ args ++ caps)) w := by
        simp [Deferred.ofValue, Sem.run_bind, Result.andThen, invoke, callFunc, program, Sem.run, hfn, h1', h2]
      rw [hr]
      exact h
    · cases hf
  · cases hf
theorem callW_calls {P : Program} {f : FuncId} {first caps args : Array Value} {k : Value → World → Prop} {w : World} (hf : callOk P f = true) (h : Calls P f (first ++ args ++ caps) w (retP k)) :
    callW P (.func (.func f) first caps) args k w := callP_calls hf h

end Go.V
/- More laws of memory. -/
set_option linter.unusedSimpArgs false
set_option linter.unusedVariables false
namespace Go.V
open Go Go.RowKit
section
variable {P : Program} {k : Value → World → Prop} {w w' : World} {b : Nat} {t : TypeId}
/-- only block b may differ -/
structure Only (b : Nat) (w w' : World) : Prop where
  size : w'.heap.size = w.heap.size
  rest : ∀ B, B ≤ b → Below B w w'
  other : ∀ b', b' ≠ b → w'.heap[b']? = w.heap[b']?
theorem Only.refl (b : Nat) (w : World) : Only b w w := ⟨rfl, fun _ _ => Below.refl _ _, fun _ _ => rfl⟩
theorem Only.trans {w'' : World} (h : Only b w w') (h' : Only b w' w'') : Only b w w'' :=
  ⟨h'.size.trans h.size, fun B hB => (h.rest B hB).trans (h'.rest B hB), fun b' hb' => (h'.other b' hb').trans (h.other b' hb')⟩
theorem Only.setCell (b i : Nat) (w : World) (u : Value) : Only b w (w.setCell ⟨b, i, none⟩ u) :=
  ⟨by simp, fun B hB => (Below.refl _ _).setCell hB _, fun b' hb' => Below.heap_setCell _ _ _ _ hb'⟩
theorem only_setCells : ∀ (vs : List Value) (o : Nat) (w : World), Only b w (setCells w b o vs)
  | [], o, w => Only.refl _ _
  | v :: r, o, w => (Only.setCell b o w v).trans (only_setCells r (o + 1) _)
theorem rowAt_setCells : ∀ (vs pre old : List Value) (w : World), RowAt w b t (pre ++ old) → vs.length = old.length → RowAt (setCells w b pre.length vs) b t (pre ++ vs)
  | [], pre, old, w, h, hl => by
    have : old = [] := List.eq_nil_of_length_eq_zero hl.symm
    subst this; exact h
  | v :: r, pre, [], w, h, hl => by simp at hl
  | v :: r, pre, u :: old, w, h, hl => by
    have h1 := h.set pre.length v
    rw [List.set_append_right _ _ (Nat.le_refl _), Nat.sub_self, List.set_cons_zero] at h1
    have h2 := rowAt_setCells r (pre ++ [v]) old _ (by simpa using h1) (by simpa using hl)
    simpa [setCells] using h2
theorem w_storeRow {vs old : List Value} (hr : RowAt w b t old) (hl : vs.length = old.length) (hv : ∀ v ∈ vs, v.oneCell' = true) (hs : sizeT P t = vs.length) (hk : known P t = true)
    (h : ∀ w', Only b w w' → RowAt w' b t vs → k undef w') : opU P (Instr.storeAt t (.pointer (some ⟨b, 0, none⟩)) (.agg vs.toArray)) k w := by
  rw [w_storeAgg hv hs hk (fun j hj => ?_) (fun j hj => hr.free _)]
  · exact h _ (only_setCells vs 0 w) (rowAt_setCells vs [] old w hr hl)
  · obtain ⟨u, hu⟩ : ∃ u, old[j]? = some u := ⟨old[j], List.getElem?_eq_getElem (by omega)⟩
    exact ⟨u, by rw [Nat.zero_add]; exact hr.cell hu⟩
/-- of the blocks that were there only those of p may differ -/
structure Off (p : Nat → Prop) (w w' : World) : Prop where
  size : w.heap.size ≤ w'.heap.size
  block : ∀ b, b < w.heap.size → ¬ p b → w'.heap[b]? = w.heap[b]?
theorem Off.refl (p : Nat → Prop) (w : World) : Off p w w := ⟨Nat.le_refl _, fun _ _ _ => rfl⟩
theorem Off.trans {p : Nat → Prop} {a b c : World} (h : Off p a b) (h' : Off p b c) : Off p a c :=
  ⟨Nat.le_trans h.size h'.size, fun i hi hp => (h'.block i (Nat.lt_of_lt_of_le hi h.size) hp).trans (h.block i hi hp)⟩
theorem Off.mono {p q : Nat → Prop} {a b : World} (h : Off p a b) (hpq : ∀ i, i < a.heap.size → p i → q i) : Off q a b := ⟨h.size, fun i hi hq => h.block i hi fun hp => hq (hpq i hi hp)⟩
theorem Off.below {p : Nat → Prop} {a b : World} (h : Below a.heap.size a b) : Off p a b := ⟨h.size, fun i hi _ => h.block i hi⟩
theorem Off.set {p : Nat → Prop} {g i : Nat} {w : World} {u : Value} (h : p g) : Off p w (w.setCell ⟨g, i, none⟩ u) := ⟨by simp, fun b _ hb => Below.heap_setCell _ _ _ _ (fun hh => hb (hh ▸ h))⟩
theorem Off.only {p : Nat → Prop} {g : Nat} {w w' : World} (h : Only g w w') (hg : p g) : Off p w w' := ⟨Nat.le_of_eq h.size.symm, fun b _ hb => h.other b fun hh => hb (hh ▸ hg)⟩
theorem Off.grown {p : Nat → Prop} {row : Option Nat} {w w' : World} (h : w.grownBy w' row) (hg : ∀ b, row = some b → p b) : Off p w w' := ⟨h.size, fun b hb hp => h.block b hb fun hh => hp (hg b hh.symm)⟩
theorem RowAt.off {p : Nat → Prop} {vs : List Value} (h : RowAt w b t vs) (ho : Off p w w') (hp : ¬ p b) : RowAt w' b t vs := h.same (ho.block b h.lt hp)
end
end Go.V
/- Slices of the call's own that may begin inside their block. -/
set_option linter.unusedSimpArgs false
set_option linter.unusedVariables false
namespace Go.V
open Go Go.RowKit
section
variable {P : Program} {k : Value → World → Prop} {w w' : World} {t e : TypeId} {α : Type} {F : Fl α}
theorem joinW_use1 {J : Value → World → Prop} {B : (Value → World → Prop) → Prop} (Pre : Value → World → Prop) (h1 : ∀ a w, Pre a w → J a w) (h2 : ∀ J', (∀ a w, Pre a w → J' a w) → B J') : joinW J B := h2 J h1
theorem joinW_use0 {J : World → Prop} {B : (World → Prop) → Prop} (Pre : World → Prop) (h1 : ∀ w, Pre w → J w) (h2 : ∀ J', (∀ w, Pre w → J' w) → B J') : joinW J B := h2 J h1
end
end Go.V
/- Slices: none and empty ones; copies. -/
set_option linter.unusedSimpArgs false
set_option linter.unusedVariables false
namespace Go.V
open Go Go.RowKit
section
variable {P : Program} {k : Value → World → Prop} {w w' : World} {t e : TypeId} {α : Type} {F : Fl α}
theorem w_build0 {size bytes : Nat} {z : Value} (h : STy P t e size bytes z) : opW P (Instr.buildSlice t 0 #[]) k w = k (.slice (some ⟨w.heap.size, 0, none⟩) 0 0) (w.alloc (.cells #[] e (0, 0))) := by
  obtain ⟨i, hi, hz, hs, hby⟩ := h.info
  have h0 : Array.range 0 = #[] := rfl
  exact opW_ok (by simp [Instr.buildSlice, run_underlying h.u, sizeOf, run_typeInfo hi, Sem.run_bind, Result.andThen, Instr.fill, newRow, h0])
theorem cells_flat {b : Nat} : ∀ (l : List α) (o : Nat), (∀ i x, l[i]? = some x → Cells w b (o + i * F.sz) (F.e x)) → Cells w b o (flat F l)
  | [], o, _ => fun j u hu => by simp [flat] at hu
  | x :: r, o, h => fun j u hu => by
    simp only [flat] at hu
    by_cases hj : j < F.sz
    · rw [List.getElem?_append_left (by rw [F.len]; exact hj)] at hu
      have := h 0 x rfl j u hu
      rwa [Nat.zero_mul, Nat.add_zero] at this
    · rw [List.getElem?_append_right (by rw [F.len]; omega), F.len] at hu
      have := cells_flat r (o + F.sz) (fun i y hy => by
        have := h (i + 1) y (by simpa using hy)
        rw [Nat.add_mul, Nat.one_mul] at this
        rwa [show o + F.sz + i * F.sz = o + (i * F.sz + F.sz) by omega]) (j - F.sz) u hu
      rwa [show o + F.sz + (j - F.sz) = o + j by omega] at this
theorem IsSl.flatAt {v : Value} {l : List α} (h : IsSl F w v l) (hne : l ≠ []) : ∃ b o c, v = .slice (some ⟨b, o, none⟩) l.length c ∧ Cells w b o (flat F l) := by
  obtain ⟨a, c, rfl, hc, hx⟩ := h
  obtain ⟨x, hx0⟩ : ∃ x, l[0]? = some x := by
    cases l with
    | nil => exact absurd rfl hne
    | cons x r => exact ⟨x, rfl⟩
  obtain ⟨b, o, rfl, _⟩ := hx 0 x hx0
  refine ⟨b, o, c, rfl, cells_flat l o fun i y hy => ?_⟩
  obtain ⟨b', o', hh, hcl⟩ := hx i y hy
  simp only [Option.some.injEq, Addr.mk.injEq, and_true] at hh
  obtain ⟨rfl, rfl⟩ := hh
  exact hcl
end
end Go.V
/- More of append and of slicing. -/
set_option linter.unusedSimpArgs false
set_option linter.unusedVariables false
namespace Go.V
open Go Go.RowKit
section
variable {P : Program} {k : Value → World → Prop} {w w' : World} {t e : TypeId} {α : Type} {F : Fl α}
theorem oneCell_flat (hone : ∀ x, ∀ u ∈ F.e x, u.oneCell' = true) : ∀ l : List α, ∀ u ∈ flat F l, u.oneCell' = true := by
  intro l
  induction l with
  | nil => intro u hu; simp [flat] at hu
  | cons x r ih =>
    intro u hu
    rcases List.mem_append.1 hu with h | h
    · exact hone x u h
    · exact ih u h
theorem run_sliceFrom {n c i : Nat} {q : IntKind} (ht : P.underlying t = some (.slice (P.elem t))) (hk : known P (P.elem t) = true) (hi : i ≤ n) {a : Option Addr} (w : World) :
    (Instr.sliceAt t (.slice a n c) (some (.int q i)) none none).run P w = .ok (.slice (if c = i then a else a.map (·.add (i * sizeT P (P.elem t)))) (n - i) (c - i)) w := by
  rw [run_sliceAt_slice _ _ _ _ _ _ ht, run_slice_l w t _ n c ht q i (by omega) (by omega), run_sizeOf hk]
  simp [Result.andThen, sliced]
theorem run_indexArr {n b o : Nat} {q : IntKind} {i : Int} (ht : P.underlying t = some (.array n e)) (he : known P e = true) (h0 : 0 ≤ i) (h1 : i < n) (w : World) :
    (Instr.indexAt t (.pointer (some ⟨b, o, none⟩)) (.int q i)).run P w = .ok (.pointer (some ⟨b, o + i.toNat * sizeT P e, none⟩)) w := by
  simp [Instr.indexAt, Instr.sureAddr, Sem.run_bind, Result.andThen, run_underlying ht, asIntOf, h0, h1, run_sizeOf he, add_none]
end
end Go.V
/- Reading a field of an element, or an element, in one step. -/
set_option linter.unusedSimpArgs false
set_option linter.unusedVariables false
namespace Go.V
open Go Go.RowKit
section
variable {P : Program} {k : Value → World → Prop} {K : Value → Prop} {S : World → Prop} {w : World} {α : Type} {F : Fl α} {v u : Value} {l : List α} {t st ft : TypeId} {f x : Nat} {q : IntKind} {i : Int} {a : α}
theorem IsSl.at (hs : IsSl F w v l) (h0 : 0 ≤ i) (hx : l[i.toNat]? = some a) : ∃ b o c, v = .slice (some ⟨b, o, none⟩) l.length c ∧ i < l.length ∧ Cells w b (o + i.toNat * F.sz) (F.e a) := by
  obtain ⟨ad, c, rfl, hc, hcell⟩ := hs
  obtain ⟨b, o, rfl, hcl⟩ := hcell _ _ hx
  exact ⟨b, o, c, rfl, by have := (List.getElem?_eq_some_iff.1 hx).1; omega, hcl⟩
theorem w_get (h : isSliceT P t = true) (he : known P (elemT P t) = true) (hz : sizeT P (elemT P t) = F.sz) (hf : fieldOff P st f = some x) (hg : isAggT P ft = false) (hk : known P ft = true)
    (hs : IsSl F w v l) (h0 : 0 ≤ i) (hx : l[i.toNat]? = some a) (hu : (F.e a)[x]? = some u) :
    opW P (Instr.indexAt t v (.int q i)) (fun p w => opW P (Instr.fieldAt st p f) (fun p w => opW P (Instr.loadAt ft p) k w) w) w = k u w := by
  obtain ⟨b, o, c, rfl, hlt, hcl⟩ := hs.at h0 hx
  rw [opW_ok (run_index h he h0 hlt w), hz, w_field hf, w_load hg hk (by rw [hcl x u hu])]
theorem t_get (h : isSliceT P t = true) (he : known P (elemT P t) = true) (hz : sizeT P (elemT P t) = F.sz) (hf : fieldOff P st f = some x) (hg : isAggT P ft = false) (hk : known P ft = true)
    (hs : IsSl F w v l) (h0 : 0 ≤ i) (hx : l[i.toNat]? = some a) (hu : (F.e a)[x]? = some u) :
    takeW P anyW (Instr.indexAt t v (.int q i)) (fun p => takeW P anyW (Instr.fieldAt st p f) (fun p => takeW P (sameW w) (Instr.loadAt ft p) K w) w) w = K u := by
  obtain ⟨b, o, c, rfl, hlt, hcl⟩ := hs.at h0 hx
  rw [takeW_pure (fun w => run_index h he h0 hlt w), hz, t_field hf, x_load hg hk (by rw [hcl x u hu])]
theorem w_getE (h : isSliceT P t = true) (he : known P (elemT P t) = true) (hz : sizeT P (elemT P t) = F.sz) (hg : isAggT P ft = false) (hk : known P ft = true)
    (hs : IsSl F w v l) (h0 : 0 ≤ i) (hx : l[i.toNat]? = some a) (hu : (F.e a)[0]? = some u) :
    opW P (Instr.indexAt t v (.int q i)) (fun p w => opW P (Instr.loadAt ft p) k w) w = k u w := by
  obtain ⟨b, o, c, rfl, hlt, hcl⟩ := hs.at h0 hx
  rw [opW_ok (run_index h he h0 hlt w), hz, w_load hg hk (by rw [← hcl 0 u hu]; rfl)]
theorem t_getE (h : isSliceT P t = true) (he : known P (elemT P t) = true) (hz : sizeT P (elemT P t) = F.sz) (hg : isAggT P ft = false) (hk : known P ft = true)
    (hs : IsSl F w v l) (h0 : 0 ≤ i) (hx : l[i.toNat]? = some a) (hu : (F.e a)[0]? = some u) :
    takeW P anyW (Instr.indexAt t v (.int q i)) (fun p => takeW P (sameW w) (Instr.loadAt ft p) K w) w = K u := by
  obtain ⟨b, o, c, rfl, hlt, hcl⟩ := hs.at h0 hx
  rw [takeW_pure (fun w => run_index h he h0 hlt w), hz, x_load hg hk (by rw [← hcl 0 u hu]; rfl)]
theorem w_getA (h : isSliceT P t = true) (he : known P (elemT P t) = true) (hz : sizeT P (elemT P t) = F.sz) (hg : isAggT P ft = true) (hk : known P ft = true) (hft : sizeT P ft = F.sz)
    (hs : IsSl F w v l) (h0 : 0 ≤ i) (hx : l[i.toNat]? = some a) :
    opW P (Instr.indexAt t v (.int q i)) (fun p w => opW P (Instr.loadAt ft p) k w) w = k (.agg (F.e a).toArray) w := by
  obtain ⟨b, o, c, rfl, hlt, hcl⟩ := hs.at h0 hx
  rw [opW_ok (run_index h he h0 hlt w), hz, w_loadAgg hg hk (by rw [hft, F.len]) hcl]
end

/-! ### slices of the call's own, nil or at the head of their block -/
section
variable {P : Program} {k : Value → World → Prop} {w w' : World} {α : Type} {F : Fl α} {v : Value} {l : List α} {t e : TypeId} {B : Nat}
/-- the block of v -/
def isOf (v : Value) (b : Nat) : Prop := v.ownBlock = some b
theorem run_append_own2 {size bytes : Nat} {z : Value} {ty : TypeId} (h : STy P t e size bytes z) {n : Nat} {xs : List Value} (hown : w.ownsRow B e size v n xs)
    (a : Addr) (m c : Nat) (news : List Value) (hl : news.length = m * size) (hnews : ∀ j u, news[j]? = some u → w.cell? (a.add j) = some u) (h1 : ∀ u ∈ news, u.oneCell' = true)
    (h63 : n + m ≤ maxLen) (hbytes : (n + m) * bytes ≤ 140737488355328) (hbase : B ≤ w.heap.size) :
    ∃ v' w', (Builtin.append_ #[t, t] ty #[v, .slice (some a) m c]).run P w = .ok v' w' ∧ w'.ownsRow B e size v' (n + m) (xs ++ news) ∧ w.grownBy w' v.ownBlock ∧ (∀ b, isOf v' b → isOf v b ∨ w.heap.size ≤ b) ∧
      (v' = .slice none 0 0 ↔ v = .slice none 0 0 ∧ m = 0) := by
  obtain ⟨i, hi, hz, hs, hby⟩ := h.info
  obtain ⟨v', w', hr, ho, hg, hnn⟩ := run_append_own (P := P) w (ty := ty) B t e i z size bytes h.u hi hz hs hby h.zs h.pos v n xs hown a m c news hl hnews h1 h63 hbytes hbase
  refine ⟨v', w', hr, ho, hg, fun b hb => ?_, hnn⟩
  have hm : maxLen ≤ 9223372036854775807 := by decide
  rcases hown.2 with ⟨rfl, hn⟩ | ⟨g, cap, cur, rfl, hgb, hgg, hnc, hcm, hcs, htk⟩
  · subst hn
    obtain ⟨v2, w2, hr2, ho2, _, _⟩ := run_append_own (P := P) w (ty := ty) w.heap.size t e i z size bytes h.u hi hz hs hby h.zs h.pos (.slice none 0 0) 0 [] (World.ownsRow_nil w _ e size) a m c news hl hnews h1 (by omega) hbytes (Nat.le_refl _)
    rw [hr] at hr2
    simp only [Result.ok.injEq] at hr2
    obtain ⟨rfl, rfl⟩ := hr2
    exact .inr (World.ownsRow.lt ho2 b hb).1
  · by_cases hroom : n + m ≤ cap
    · have := run_append_room (P := P) w t ty e i h.u hi g n cap cur hgg a m c news (by rw [hs]; exact hl) hnews h1 hroom (by rw [hs, hl, ← Nat.add_mul, hcs]; exact Nat.mul_le_mul_right _ hroom)
      rw [hr] at this
      simp only [Result.ok.injEq] at this
      rw [this.1] at hb
      exact .inl hb
    · have := run_append_grow (P := P) w t ty e i z h.u hi hz ⟨g, 0, none⟩ n cap xs (by rw [hown.1, hs]) (fun j y hy => hown.cells (g := g) rfl j y hy) a m c news (by rw [hs]; exact hl) hnews (by omega) (by omega) (growslice_fits (by omega) (by rw [hby]; exact hbytes))
      rw [hr] at this
      simp only [Result.ok.injEq] at this
      rw [this.1] at hb
      unfold isOf Value.ownBlock at hb
      simp at hb
      exact .inr (by omega)
def Mine (F : Fl α) (e : TypeId) (w : World) (B : Nat) (v : Value) (l : List α) : Prop := w.ownsRow B e F.sz v l.length (flat F l)
theorem Mine.nil (w : World) (B : Nat) : Mine F e w B (.slice none 0 0) [] := World.ownsRow_nil w B e F.sz
theorem Mine.sl (h : Mine F e w B v l) : IsSl F w v l := IsSl.of_own h
theorem Mine.ge (h : Mine F e w B v l) {b : Nat} (hb : isOf v b) : B ≤ b ∧ b < w.heap.size := World.ownsRow.lt h b hb
theorem Mine.grown {row : Option Nat} (h : Mine F e w B v l) (hg : w.grownBy w' row) (hne : ∀ b, isOf v b → row ≠ some b) : Mine F e w' B v l := by
  refine World.ownsRow.kept h hg ?_
  cases hv : v.ownBlock with
  | none => exact .inl rfl
  | some b => exact .inr fun hh => hne b hv hh.symm
theorem Mine.below (h : Mine F e w B v l) (hb : Below w.heap.size w w') : Mine F e w' B v l :=
  Mine.grown (row := none) h ⟨hb.os, hb.tape, hb.output, hb.size, fun k hk _ => hb.block k hk⟩ (by simp)
theorem Mine.off {p : Nat → Prop} (h : Mine F e w B v l) (ho : Off p w w') (hp : ∀ b, isOf v b → ¬ p b) : Mine F e w' B v l := by
  refine ⟨h.1, ?_⟩
  rcases h.2 with hn | ⟨g, cap, cur, rfl, hb, hgg, rest⟩
  · exact .inl hn
  · exact .inr ⟨g, cap, cur, rfl, hb, (ho.block g (Array.getElem?_eq_some_iff.1 hgg).1 (hp g rfl)).trans hgg, rest⟩
theorem Mine.at (h : Mine F e w B v l) (hne : l ≠ []) : ∃ g c, v = .slice (some ⟨g, 0, none⟩) l.length c ∧ isOf v g ∧ OwnS F w B e g c l := by
  have h0 := h
  rcases h.2 with ⟨_, hn⟩ | ⟨g, cap, cur, rfl, _⟩
  · exact absurd (List.eq_nil_of_length_eq_zero hn) hne
  · exact ⟨g, cap, rfl, rfl, h0⟩
/-- one more element: a slice of one, appended -/
theorem Mine.push {bytes : Nat} {z xv : Value} {x : α} {ty : TypeId} {K : Value → World → Prop} (h : STy P t e F.sz bytes z) (hone : ∀ u ∈ F.e x, u.oneCell' = true) (hxc : xv.cells.toList = F.e x) (hsm : F.sz ≤ 16777216)
    (hown : Mine F e w B v l) (hB : B ≤ w.heap.size) (hl : l.length + 1 ≤ maxLen) (hbytes : (l.length + 1) * bytes ≤ 140737488355328)
    (hk : ∀ v' w', Mine F e w' B v' (l ++ [x]) → Below B w w' → Off (isOf v) w w' → (∀ b, isOf v' b → isOf v b ∨ w.heap.size ≤ b) → K v' w') :
    opW P (Instr.buildSlice t 1 #[(0, xv)]) (fun s w => opW P (Builtin.append_ #[t, t] ty #[v, s]) (fun r w => K r w) w) w := by
  have hcs : xv.cells.size = F.sz := by rw [← F.len x, ← hxc]; simp
  rw [w_one h hcs hsm]
  have hb1 : Below w.heap.size w (w.alloc (.cells xv.cells e (0, 0))) := (Below.refl _ _).alloc (Nat.le_refl _) _
  have ho1 := hown.below hb1
  obtain ⟨v', w', hr, ho, hg, hnew, _⟩ := run_append_own2 (P := P) (ty := ty) h ho1 ⟨w.heap.size, 0, none⟩ 1 1 (F.e x) (by simp [F.len]) (fun j u hu => by
      rw [← hxc] at hu
      rw [add_none]
      simp only [World.cell?, World.alloc_heap_new]
      simpa using hu) hone hl hbytes (Nat.le_trans hB hb1.size)
  rw [opW_ok hr]
  refine hk v' w' ?_ ?_ ?_ ?_
  · unfold Mine
    rw [List.length_append, flat_append, flat_one]; exact ho
  · exact (hb1.mono hB).grown hg (Nat.le_trans hB hb1.size) fun b hb => (ho1.ge hb).1
  · exact (Off.below hb1).trans (Off.grown hg fun b hb => hb)
  · intro b hb
    rcases hnew b hb with h | h
    · exact .inl h
    · exact .inr (Nat.le_trans hb1.size h)
/-- a store of one cell into one's own -/
theorem Mine.setE {ft : TypeId} {q : IntKind} {i : Int} {x y : α} {u : Value} {K : Value → World → Prop} (h : isSliceT P t = true) (he : known P (elemT P t) = true) (hz : sizeT P (elemT P t) = F.sz) (hF : F.sz = 1) (hs : sizeT P ft = 1) (hkn : known P ft = true)
    (hown : Mine F e w B v l) (h0 : 0 ≤ i) (hx : l[i.toNat]? = some x) (hu : F.e y = [u]) (hu1 : u.oneCell' = true)
    (hk : ∀ w', Mine F e w' B v (l.set i.toNat y) → Below B w w' → Off (isOf v) w w' → K undef w') :
    opW P (Instr.indexAt t v (.int q i)) (fun p w => opU P (Instr.storeAt ft p u) K w) w := by
  have hne : l ≠ [] := fun hh => by rw [hh] at hx; simp at hx
  obtain ⟨g, c, rfl, hof, ho⟩ := hown.at hne
  have hlt : i < l.length := by have := (List.getElem?_eq_some_iff.1 hx).1; omega
  rw [opW_ok (run_index h he h0 hlt w), hz, hF, Nat.mul_one, Nat.zero_add]
  obtain ⟨ho', hg', old, hold⟩ := ho.store hF hx hu
  rw [w_store hu1 hs hkn hold (ho.free _)]
  refine hk _ ?_ ?_ (Off.set hof)
  · unfold OwnS at ho'
    rw [List.length_set] at ho'
    unfold Mine
    rw [List.length_set]; exact ho'
  · exact (Below.refl _ _).setCell (ho.ge.1) _
end
end Go.V
/- More of slices: a head of one, appending nothing, an element of several cells stored; bools compared. -/
set_option linter.unusedSimpArgs false
set_option linter.unusedVariables false
namespace Go.V
open Go Go.RowKit
section
variable {P : Program} {k : Value → World → Prop} {K : Value → Prop} {w w' : World} {α : Type} {F : Fl α} {v : Value} {l : List α} {t e : TypeId} {B : Nat}
theorem run_append_zero {ty : TypeId} {size bytes : Nat} {z : Value} (h : STy P t e size bytes z) {g o n cap c : Nat} {b : Option Addr} (hn : n ≤ cap) :
    (Builtin.append_ #[t, t] ty #[.slice (some ⟨g, o, none⟩) n cap, .slice b 0 c]).run P w = .ok (.slice (some ⟨g, o, none⟩) n cap) w := by
  obtain ⟨i, hi, hz, hs, hby⟩ := h.info
  have hf : (Builtin.firstCells i.size 0 (.slice b 0 c)).run P w = .ok #[] w := by
    cases b with
    | none => simp [Builtin.firstCells]
    | some a => simpa using run_firstCells_some (P := P) w i.size 0 a 0 c [] (by simp) (by simp)
  simp [Builtin.append_, run_underlying h.u, sizeOf, run_typeInfo hi, Builtin.lenOf, hn, hf, Sem.run_bind, Result.andThen, storeCells]
theorem t_loadAgg {S : World → Prop} {ft : TypeId} {b o : Nat} {vs : List Value} (h : isAggT P ft = true) (hk : known P ft = true) (hs : sizeT P ft = vs.length) (hw : Cells w b o vs) (hS : ∀ w', S w' → Cells w' b o vs) :
    takeW P S (Instr.loadAt ft (.pointer (some ⟨b, o, none⟩))) K w = K (.agg vs.toArray) :=
  takeW_eq (run_of_eq fun k => w_loadAgg h hk hs hw) fun w' hw' => run_of_eq fun k => w_loadAgg h hk hs (hS w' hw')
theorem rowAt_setMid {b : Nat} {e : TypeId} : ∀ (vs pre old post : List Value) (w : World), RowAt w b e (pre ++ old ++ post) → vs.length = old.length → RowAt (setCells w b pre.length vs) b e (pre ++ vs ++ post)
  | [], pre, old, post, w, h, hl => by
    have : old = [] := List.eq_nil_of_length_eq_zero hl.symm
    subst this; exact h
  | v :: r, pre, [], post, w, h, hl => by simp at hl
  | v :: r, pre, u :: old, post, w, h, hl => by
    have h1 := h.set pre.length v
    rw [List.append_assoc, List.set_append_right _ _ (Nat.le_refl _), Nat.sub_self, List.cons_append, List.set_cons_zero] at h1
    have h2 := rowAt_setMid r (pre ++ [v]) old post _ (by simpa using h1) (by simpa using hl)
    simpa [setCells] using h2
end
end Go.V
/- Strings; structs compared; slices of slices of elements. -/
set_option linter.unusedSimpArgs false
set_option linter.unusedVariables false
namespace Go.V
open Go Go.RowKit
section
variable {P : Program} {k : Value → World → Prop} {K : Value → Prop} {S : World → Prop} {w : World} {t ty : TypeId} {ox oy : Operand} {a b s : ByteArray}
theorem beqBytes (a b : ByteArray) : (a.toList == b.toList) = decide (a = b) := by
  have e : ∀ x y : ByteArray, x.toList = y.toList → x = y := fun x y h => by
    rw [ByteArray.toList_eq, ByteArray.toList_eq] at h
    obtain ⟨⟨x⟩⟩ := x
    obtain ⟨⟨y⟩⟩ := y
    simp at h
    subst h; rfl
  by_cases h : a = b
  · subst h; simp
  · rw [decide_eq_false h]
    simp only [beq_eq_false_iff_ne, ne_eq]
    exact fun hh => h (e a b hh)
theorem run_lenStr (h : P.underlying t = some .string) (w : World) : (Builtin.len_ #[t] ty #[.string s]).run P w = .ok (.int .i64 s.size) w := run_len_string w t ty s h
theorem w_lenStr (h : P.underlying t = some .string) : opW P (Builtin.len_ #[t] ty #[.string s]) k w = k (.int .i64 s.size) w := opW_ok (run_lenStr h w)
theorem t_lenStr (h : P.underlying t = some .string) : takeW P S (Builtin.len_ #[t] ty #[.string s]) K w = K (.int .i64 s.size) := takeW_pure fun w => run_lenStr h w
theorem run_eqlStr (h : P.underlying t = some .string) (w : World) : (binS .eql t ox oy (.string a) (.string b)).run P w = .ok (.bool (decide (a = b))) w := by
  have h1 := beqBytes a b
  simp [binS, eqGuard, binOp, Op.stringOp, h1, Sem.run_bind, Result.andThen]
theorem w_eqlStr (h : P.underlying t = some .string) : opW P (binS .eql t ox oy (.string a) (.string b)) k w = k (.bool (decide (a = b))) w := opW_ok (run_eqlStr h w)
theorem t_eqlStr (h : P.underlying t = some .string) : takeW P S (binS .eql t ox oy (.string a) (.string b)) K w = K (.bool (decide (a = b))) := takeW_pure fun w => run_eqlStr h w
theorem run_neqStr (h : P.underlying t = some .string) (w : World) : (binS .neq t ox oy (.string a) (.string b)).run P w = .ok (.bool (!decide (a = b))) w := by
  have h1 := beqBytes a b
  simp [binS, eqGuard, binOp, Op.stringOp, h1, bne, Sem.run_bind, Result.andThen]
theorem w_neqStr (h : P.underlying t = some .string) : opW P (binS .neq t ox oy (.string a) (.string b)) k w = k (.bool (!decide (a = b))) w := opW_ok (run_neqStr h w)
theorem run_isAgg {t : TypeId} (h : isAggT P t = false) (hk : known P t = true) (w : World) : (isAgg t).run P w = .ok false w := by
  simp only [known, Bool.and_eq_true] at hk
  cases hu : P.underlying t with
  | none => rw [hu] at hk; simp at hk
  | some d =>
    simp only [isAgg, Sem.run_bind, Result.andThen, run_underlying hu]
    unfold isAggT at h
    rw [hu] at h
    cases d <;> first | rfl | (simp at h)
theorem run_part {t : TypeId} {cs : Array Value} {off : Nat} {v : Value} (h : isAggT P t = false) (hk : known P t = true) (hv : cs[off]? = some v) (w : World) : (part t cs off).run P w = .ok v w := by
  simp [part, Sem.run_bind, Result.andThen, run_isAgg h hk, hv]
theorem w_addStr (h : a.size + b.size ≤ 9223372036854775807) : opW P (binS .add t ox oy (.string a) (.string b)) k w = k (.string (a ++ b)) w := opW_ok (by
  have h1 := run_string_add_sum (P := P) w a b h
  simp only [binS, eqGuard, binOp_string_add, h1, Sem.run_bind, Result.andThen]
  simp [Result.andThen, h1])
theorem w_sliceStr {q q' : IntKind} {i j : Int} (h : P.underlying t = some .string) (h0 : 0 ≤ i) (h1 : i ≤ j) (h2 : j ≤ s.size) : opW P (Instr.sliceAt t (.string s) (some (.int q i)) (some (.int q' j)) none) k w = k (.string (s.extract i.toNat j.toNat)) w := opW_ok (by
  rw [run_sliceAt_string _ _ _ _ _ _ h, run_slice_string w t s q q' i j h h0 h1 h2])
theorem w_headStr {q : IntKind} {j : Int} (h : P.underlying t = some .string) (h1 : 0 ≤ j) (h2 : j ≤ s.size) : opW P (Instr.sliceAt t (.string s) none (some (.int q j)) none) k w = k (.string (s.extract 0 j.toNat)) w := opW_ok (by
  rw [run_sliceAt_string _ _ _ _ _ _ h, run_slice_string_to_if w t s q j h, if_pos ⟨h1, h2⟩])
/-- worlds in which whatever was there at w is as it was -/
def after (w w' : World) : Prop := Below w.heap.size w w'
theorem after_refl (w : World) : after w w := Below.refl _ _
theorem r_get {b o ft st f x : Nat} {u : Value} (hf : fieldOff P st f = some x) (hg : isAggT P ft = false) (hk : known P ft = true) (hc : w.cell? ⟨b, o + x, none⟩ = some u) :
    opW P (Instr.fieldAt st (.pointer (some ⟨b, o, none⟩)) f) (fun p w => opW P (Instr.loadAt ft p) k w) w = k u w := by
  rw [w_field hf, w_load hg hk hc]
theorem r_getT {b o ft st f x : Nat} {u : Value} (hf : fieldOff P st f = some x) (hg : isAggT P ft = false) (hk : known P ft = true) (hc : w.cell? ⟨b, o + x, none⟩ = some u) :
    takeW P anyW (Instr.fieldAt st (.pointer (some ⟨b, o, none⟩)) f) (fun p => takeW P (sameW w) (Instr.loadAt ft p) K w) w = K u := by
  rw [t_field hf, x_load hg hk hc]
theorem r_loadA {w0 : World} {a : Addr} {ft : Nat} {u : Value} (hg : isAggT P ft = false) (hk : known P ft = true) (hc : w0.cell? a = some u) (ha : after w0 w) : takeW P (after w0) (Instr.loadAt ft (.pointer (some a))) K w = K u := by
  have h0 : ∀ w', after w0 w' → w'.cell? a = some u := fun w' h => by
    rw [← hc]; exact World.cell?_of_block (h.block a.block (World.block_lt_of_cell? w0 _ hc))
  exact t_load hg hk (h0 w ha) (fun w' h => by rw [h0 w' h, h0 w ha])
/-- worlds in which all that was there at w0, but the blocks of p, is as it was: the class 'Off p w0' -/
theorem cell_off {p : Nat → Prop} {w0 w : World} {a : Addr} {u : Value} (hc : w0.cell? a = some u) (hp : ¬ p a.block) (ha : Off p w0 w) : w.cell? a = some u := by
  rw [← hc]; exact World.cell?_of_block (ha.block a.block (World.block_lt_of_cell? w0 _ hc) hp)
theorem Cells.off {p : Nat → Prop} {w0 w : World} {b o : Nat} {vs : List Value} (hc : Cells w0 b o vs) (hp : ¬ p b) (ha : Off p w0 w) : Cells w b o vs := fun j u hu => cell_off (hc j u hu) hp ha
theorem r_getO {p : Nat → Prop} {w0 : World} {b o ft st f x : Nat} {u : Value} (hf : fieldOff P st f = some x) (hg : isAggT P ft = false) (hk : known P ft = true) (hc : w0.cell? ⟨b, o + x, none⟩ = some u) (hp : ¬ p b) (ha : Off p w0 w) :
    takeW P anyW (Instr.fieldAt st (.pointer (some ⟨b, o, none⟩)) f) (fun q => takeW P (Off p w0) (Instr.loadAt ft q) K w) w = K u := by
  rw [t_field hf, t_load hg hk (cell_off hc hp ha) (fun w' h => by rw [cell_off hc hp h, cell_off hc hp ha])]
theorem r_loadO {p : Nat → Prop} {w0 : World} {a : Addr} {ft : Nat} {u : Value} (hg : isAggT P ft = false) (hk : known P ft = true) (hc : w0.cell? a = some u) (hp : ¬ p a.block) (ha : Off p w0 w) : takeW P (Off p w0) (Instr.loadAt ft (.pointer (some a))) K w = K u :=
  t_load hg hk (cell_off hc hp ha) (fun w' h => by rw [cell_off hc hp h, cell_off hc hp ha])
theorem r_aggO {p : Nat → Prop} {w0 : World} {b o ft : Nat} {vs : List Value} (hg : isAggT P ft = true) (hk : known P ft = true) (hs : sizeT P ft = vs.length) (hc : Cells w0 b o vs) (hp : ¬ p b) (ha : Off p w0 w) : takeW P (Off p w0) (Instr.loadAt ft (.pointer (some ⟨b, o, none⟩))) K w = K (.agg vs.toArray) :=
  t_loadAgg hg hk hs (hc.off hp ha) fun w' h => hc.off hp h
theorem run_loadVarA {t : TypeId} {b : Nat} {vs : List Value} (h : isAggT P t = true) (hk : known P t = true) (hs : sizeT P t = vs.length) (hc : Cells w b 0 vs) : (loadVar t ⟨b, 0, none⟩).run P w = .ok (.agg vs.toArray) w := by
  have hk' := hk
  simp only [known, Bool.and_eq_true] at hk
  cases hu : P.underlying t with
  | none => rw [hu] at hk; simp at hk
  | some d =>
    have : (isAgg t).run P w = .ok true w := by
      simp only [isAgg, Sem.run_bind, Result.andThen, run_underlying hu]
      unfold isAggT at h
      rw [hu] at h
      cases d <;> first | rfl | (simp at h)
    have hl := run_loadCellsFrom (P := P) (w := w) (b := b) (o := 0) vs 0 #[] (by simpa using hc)
    simp [loadVar, Sem.run_bind, Result.andThen, this, loadCells, run_sizeOf hk', hs, hl]
theorem resCell_agg {t : TypeId} {b : Nat} {vs : List Value} (h : isAggT P t = true) (hk : known P t = true) (hs : sizeT P t = vs.length) (hc : Cells w b 0 vs) : resCell P t (.pointer (some ⟨b, 0, none⟩)) K w = K (.agg vs.toArray) :=
  propext ⟨fun hh => by have := hh.out; simp only [opW_ok (run_loadVarA h hk hs hc)] at this; exact this.2, fun hh => ⟨by simp only [opW_ok (run_loadVarA h hk hs hc)]; exact ⟨trivial, hh⟩⟩⟩
/-- a slice's block, if the slice has elements -/
theorem IsSl.ofLt {α : Type} {F : Fl α} {w : World} {v : Value} {l : List α} (h : IsSl F w v l) (hp : 0 < F.sz) (hne : l ≠ []) {b : Nat} (hb : isOf v b) : b < w.heap.size := by
  obtain ⟨b', o, c, rfl, hcl⟩ := h.flatAt hne
  simp only [isOf, Value.ownBlock, Option.some.injEq] at hb
  subst hb
  refine hcl.lt fun hh => ?_
  have := flat_length (F := F) l
  rw [hh] at this
  have h1 : 0 < l.length := List.length_pos_iff.2 hne
  have := Nat.mul_pos h1 hp
  simp at *
  omega
end
end Go.V
/- The insertion sort of slices of structs, by its condition. -/
set_option linter.unusedSimpArgs false
set_option linter.unusedVariables false
namespace Go.V
open Go Go.RowKit
section
variable {P : Program} {k : Value → World → Prop} {w : World} {α : Type} {F : Fl α} {t e e' : Nat} {v f : Value} {c : α → α → Int} {L : List α} {B : Nat}
end

section
variable {P : Program} {k : Value → World → Prop} {w w0 : World} {α : Type} {F : Fl α} {t e e' ty : Nat} {v u f : Value} {l m : List α} {B : Nat}
theorem Mine.pushS {S : World → Prop} {bytes : Nat} {z xv : Value} {x : α} {K : Value → World → Prop} (h : STy P t e F.sz bytes z) (hone : ∀ u ∈ F.e x, u.oneCell' = true) (hxc : xv.cells.toList = F.e x) (hsm : F.sz ≤ 16777216)
    (hown : Mine F e w B v l) (hB : B ≤ w.heap.size) (hl : l.length + 1 ≤ maxLen) (hbytes : (l.length + 1) * bytes ≤ 140737488355328) (hS : ∀ w', Below w.heap.size w w' → S w')
    (hk : ∀ v' w', Mine F e w' B v' (l ++ [x]) → Below B w w' → Off (isOf v) w w' → (∀ b, isOf v' b → isOf v b ∨ w.heap.size ≤ b) → S w' ∧ K v' w') :
    opW P (Instr.buildSlice t 1 #[(0, xv)]) (fun s w => keepS S (fun w => opW P (Builtin.append_ #[t, t] ty #[v, s]) (fun r w => keepS S (fun w => K r w) w) w) w) w := by
  have hcs : xv.cells.size = F.sz := by rw [← F.len x, ← hxc]; simp
  have hp := Mine.push (ty := ty) (K := fun r w => keepS S (fun w => K r w) w) h hone hxc hsm hown hB hl hbytes (fun v' w' h1 h2 h3 h4 => by rw [keepS_eq]; exact hk v' w' h1 h2 h3 h4)
  rw [w_one h hcs hsm] at hp ⊢
  rw [keepS_eq]
  exact ⟨hS _ ((Below.refl _ _).alloc (Nat.le_refl _) _), hp⟩
theorem run_append_zero_nil {size bytes : Nat} {z : Value} (h : STy P t e size bytes z) {c : Nat} {b : Option Addr} :
    (Builtin.append_ #[t, t] ty #[.slice none 0 0, .slice b 0 c]).run P w = .ok (.slice none 0 0) w := by
  obtain ⟨i, hi, hz, hs, hby⟩ := h.info
  have hf : (Builtin.firstCells i.size 0 (.slice b 0 c)).run P w = .ok #[] w := by
    cases b with
    | none => simp [Builtin.firstCells]
    | some a => simpa using run_firstCells_some (P := P) w i.size 0 a 0 c [] (by simp) (by simp)
  simp [Builtin.append_, run_underlying h.u, sizeOf, run_typeInfo hi, Builtin.lenOf, hf, Sem.run_bind, Result.andThen, storeCells]
/-- whatever elements, appended to one's own -/
theorem Mine.append {bytes : Nat} {z : Value} {K : Value → World → Prop} (h : STy P t e F.sz bytes z) (hone : ∀ x, ∀ u ∈ F.e x, u.oneCell' = true)
    (hown : Mine F e w B v l) (hs : IsSl F w u m) (hB : B ≤ w.heap.size) (hl : l.length + m.length ≤ maxLen) (hbytes : (l.length + m.length) * bytes ≤ 140737488355328)
    (hk : ∀ v' w', Mine F e w' B v' (l ++ m) → Below B w w' → Off (isOf v) w w' → (∀ b, isOf v' b → isOf v b ∨ w.heap.size ≤ b) → K v' w') :
    opW P (Builtin.append_ #[t, t] ty #[v, u]) K w := by
  cases m with
  | nil =>
    obtain ⟨a, c, rfl, _⟩ := hs
    simp only [List.length_nil]
    have h0 := hown
    rcases hown.2 with ⟨rfl, hn⟩ | ⟨g, cap, cur, rfl, hb, hgg, hnc, hcm, hcs, htk⟩
    · rw [opW_ok (run_append_zero_nil h)]
      exact hk _ _ (by simpa using h0) (Below.refl _ _) (Off.refl _ _) (fun b hb => .inl hb)
    · rw [opW_ok (run_append_zero h hnc)]
      exact hk _ _ (by simpa using h0) (Below.refl _ _) (Off.refl _ _) (fun b hb => .inl hb)
  | cons x r =>
    obtain ⟨b, o, c, rfl, hcl⟩ := hs.flatAt (by simp)
    obtain ⟨v', w', hr, ho, hg, hnew, _⟩ := run_append_own2 (P := P) (ty := ty) h hown ⟨b, o, none⟩ (x :: r).length c (flat F (x :: r)) (flat_length _) (fun j u hu => by rw [add_none]; exact hcl j u hu) (oneCell_flat hone _) hl hbytes hB
    rw [opW_ok hr]
    refine hk v' w' ?_ ?_ (Off.grown hg fun b hb => hb) hnew
    · unfold Mine
      rw [List.length_append, flat_append]; exact ho
    · exact (Below.refl _ _).grown hg hB fun b hb => (hown.ge hb).1
end
end Go.V
/- Iterators: functions that hand values to a yield; a range over one. -/
set_option linter.unusedSimpArgs false
set_option linter.unusedVariables false
namespace Go.V
open Go Go.RowKit
theorem below_putObj {B r : Nat} {w : World} {o : Obj} (h : B ≤ r) : Below B w (w.putObj r o) := ⟨rfl, rfl, rfl, by simp, fun k hk => World.putObj_heap_other (by omega)⟩
theorem off_putObj {p : Nat → Prop} {r : Nat} {w : World} {o : Obj} (h : p r) : Off p w (w.putObj r o) := ⟨by simp, fun b _ hb => World.putObj_heap_other fun hh => hb (hh ▸ h)⟩
theorem enterW_calls {P : Program} {f : FuncId} {first caps args : Array Value} {k : Value → World → Prop} {w : World} (hf : callOk P f = true) (h : Calls P f (first ++ args ++ caps) w (retP k)) : enterW P k (callRun P (.func (.func f) first caps) args w) := by
  unfold callOk at hf
  split at hf
  · rename_i fn hfn
    split at hf
    · rename_i h1 h2
      have h1' : ¬ fn.name = "runtime.NumGoroutine" := by simpa using h1
      have hr : callRun P (.func (.func f) first caps) args w = .ok (.enter f (first ++ args ++ caps)) w := by
        simp [callRun, Deferred.ofValue, Sem.run_bind, Result.andThen, invoke, callFunc, program, Sem.run, hfn, h1', h2]
      rw [hr]
      exact h
    · cases hf
  · cases hf
/-- what an iterator hands its values to: 'args' one after the other; Inv n b F w: n were taken, the last answer was b, the blocks F may change -/
structure YLaw (P : Program) (wI : World) (yield : Value) (args : List (List Value)) (Inv : Nat → Bool → (Nat → Prop) → World → Prop) : Prop where
  stab : ∀ n b F w w' p, Inv n b F w → Off p w w' → (∀ b, F b → ¬ p b) → Inv n b F w'
  lt : ∀ n c F w b, Inv n c F w → F b → wI.heap.size ≤ b ∧ b < w.heap.size
  call : ∀ (n : Nat) (a : List Value) F w (kk : Value → World → Prop), Inv n true F w → Below wI.heap.size wI w → args[n]? = some a →
    (∀ b F' w', Below wI.heap.size wI w' → Off F w w' → (∀ b, F' b → F b ∨ w.heap.size ≤ b) → Inv (n + 1) b F' w' → kk (.bool b) w') → callW P yield ⟨a⟩ kk w
def IterLaw (P : Program) (f : FuncId) (caps : Array Value) (args : List (List Value)) (wI : World) (own : Nat → Prop) (w : World) : Prop :=
  ∀ yield Inv F0 k, YLaw P wI yield args Inv → (∀ b, own b → ¬ F0 b) → Inv 0 true F0 w → Below wI.heap.size wI w →
    (∀ n b F w', Below wI.heap.size wI w' → Inv n b F w' → (b = true → n = args.length) → k (.tuple #[]) w') → Calls P f (#[yield] ++ caps) w (retP k)
theorem range_of {P : Program} {f : FuncId} {caps : Array Value} {np : Nat} {args : List (List Value)} {wI w : World} {own : Nat → Prop} {Inv : Nat → Option Code → (Nat → Prop) → World → Prop} {F0 : Nat → Prop}
    {B : Nat → (World → Prop) → (World → World) → List Value → World → (Option Code → World → Prop) → Prop} {Q : Nat → Option Code → World → Prop} (hf : callOk P f = true)
    (hi : ∀ w1, Below w.heap.size w w1 → IterLaw P f caps args wI own w1) (hnp : ∀ a ∈ args, a.length = np) (hb : Below wI.heap.size wI w) (hown : ∀ b, own b → ¬ F0 b ∧ b < w.heap.size) (h0 : Inv 0 none F0 w)
    (stab : ∀ n j F w w' p, Inv n j F w → Off p w w' → (∀ b, F b → ¬ p b) → Inv n j F w') (lt : ∀ n j F w b, Inv n j F w → F b → wI.heap.size ≤ b ∧ b < w.heap.size)
    (hB : ∀ (n : Nat) (a : List Value) F w' (d : Nat) (ready : World → Prop) (o : Obj) (kk : Option Code → World → Prop), args[n]? = some a → Inv n none F w' → Below wI.heap.size wI w' → (∀ u, Below w'.heap.size w' u → ready u) → d < w'.heap.size → wI.heap.size ≤ d → ¬ F d →
      (∀ j F' u w'', Below w'.heap.size w' u → Below wI.heap.size wI w'' → Off (fun b => F b ∨ w'.heap.size ≤ b) (u.putObj d o) w'' → (∀ b, F' b → F b ∨ w'.heap.size ≤ b) → Inv (n + 1) j F' w'' → kk j w'') → B d ready (fun w => w.putObj d o) a w' kk)
    (hQ : ∀ n j F w' d, (j = none → n = args.length) → Below wI.heap.size wI w' → Inv n j F w' → d < w'.heap.size → w.heap.size ≤ d → ¬ F d → w'.heap[d]? = some (.deferred (some [])) → Q d j w') :
    rangeW P (.func (.func f) #[] caps) np B Q w := by
  refine ⟨fun L hy => ?_⟩
  have hsz := hb.size
  let J : Nat → Bool → (Nat → Prop) → World → Prop := fun n b F w' => ∃ F' j, b = j.isNone ∧ (∀ b, F b ↔ F' b ∨ b = w.heap.size ∨ b = w.heap.size + 1) ∧ ¬ F' w.heap.size ∧ ¬ F' (w.heap.size + 1) ∧ w'.heap[w.heap.size]? = some (.deferred (some [])) ∧
    w'.heap[w.heap.size + 1]? = some (.loop (Loop.at L (if j.isNone then .ready else .done) j w.heap.size)) ∧ Inv n j F' w'
  have hJ : YLaw P wI (.func (.yield (w.heap.size + 1)) #[] #[]) args J := by
    constructor
    · rintro n b F u u' p ⟨F', j, hb', hF', n1, n2, hd, hr, hi'⟩ ho hp
      have l1 := (Array.getElem?_eq_some_iff.1 hd).1
      have l2 := (Array.getElem?_eq_some_iff.1 hr).1
      exact ⟨F', j, hb', hF', n1, n2, by rw [ho.block _ l1 (hp _ ((hF' _).2 (.inr (.inl rfl))))]; exact hd, by rw [ho.block _ l2 (hp _ ((hF' _).2 (.inr (.inr rfl))))]; exact hr, stab _ _ _ _ _ _ hi' ho fun b hb => hp b ((hF' b).2 (.inl hb))⟩
    · rintro n c F u b ⟨F', j, hb', hF', n1, n2, hd, hr, hi'⟩ hFb
      have l2 := (Array.getElem?_eq_some_iff.1 hr).1
      rcases (hF' b).1 hFb with h | h | h
      · exact lt _ _ _ _ _ hi' h
      · omega
      · omega
    · rintro n a F u kk ⟨F', j, hb', hF', n1, n2, hd, hr, hi'⟩ hbu ha hkk
      cases j with
      | some j => cases hb'
      | none =>
      have l2 := (Array.getElem?_eq_some_iff.1 hr).1
      refine hy a u kk (hnp a (List.mem_of_getElem? ha)) hr ?_
      refine hB n a F' u (w.heap.size + 1) _ _ _ ha hi' hbu (fun u' hu' => by rw [hu'.block _ l2]; exact hr) l2 (by omega) n2 fun j F2 v u2 hv hb2 ho2 hF2 hi2 => ?_
      have l1 := (Array.getElem?_eq_some_iff.1 hd).1
      have hvs := hv.size
      have hvd : v.heap[w.heap.size]? = some (.deferred (some [])) := by rw [hv.block _ l1]; exact hd
      have hd2 : u2.heap[w.heap.size]? = some (.deferred (some [])) := by rw [ho2.block _ (by simp; omega) (fun h => h.elim n1 (by omega)), World.putObj_heap_other (by omega)]; exact hvd
      have hr2 : u2.heap[w.heap.size + 1]? = some (.loop (Loop.at L .busy none w.heap.size)) := by rw [ho2.block _ (by simp; omega) (fun h => h.elim n2 (by omega)), World.putObj_heap_same (by omega)]
      refine ⟨hr2, ?_⟩
      have l3 := (Array.getElem?_eq_some_iff.1 hr2).1
      have hsz2 : v.heap.size ≤ u2.heap.size := by have := ho2.size; simpa using this
      have hn1 : ¬ F2 w.heap.size := fun h => by rcases hF2 _ h with h | h <;> first | exact n1 h | omega
      have hn2 : ¬ F2 (w.heap.size + 1) := fun h => by rcases hF2 _ h with h | h <;> first | exact n2 h | omega
      refine hkk j.isNone (fun b => F2 b ∨ b = w.heap.size ∨ b = w.heap.size + 1) _ (hb2.trans (below_putObj (by omega))) ?_ (fun b hb => ?_) ⟨F2, j, rfl, fun b => Iff.rfl, hn1, hn2, by rw [World.putObj_heap_other (by omega)]; exact hd2, World.putObj_heap_same l3, stab _ _ _ _ _ (fun b => b = w.heap.size + 1) hi2 (off_putObj rfl) fun b hb hh => hn2 (hh ▸ hb)⟩
      · refine ⟨by simp; omega, fun b hb hn => ?_⟩
        have hne : b ≠ w.heap.size + 1 := fun hh => hn ((hF' b).2 (.inr (.inr hh)))
        rw [World.putObj_heap_other (by omega), ho2.block _ (by simp; omega) (fun h => h.elim (fun h => hn ((hF' b).2 (.inl h))) (by omega)), World.putObj_heap_other (by omega), hv.block _ hb]
      · rcases hb with h | h
        · rcases hF2 b h with h | h
          · exact .inl ((hF' b).2 (.inl h))
          · exact .inr h
        · exact .inl ((hF' b).2 (.inr h))
  have hw1 : Below w.heap.size w ((w.alloc (.deferred (some []))).alloc (.loop (Loop.at L .ready none w.heap.size))) := ((Below.refl _ _).alloc (Nat.le_refl _) _).trans (Below.alloc (Below.refl _ _) (by simp) _)
  refine enterW_calls hf ?_
  have hlt0 := fun b hb => (lt 0 none F0 w b h0 hb).2
  refine hi _ hw1 _ J (fun b => F0 b ∨ b = w.heap.size ∨ b = w.heap.size + 1) _ hJ (fun b hb' hh => ?_) ⟨F0, none, rfl, fun b => Iff.rfl, fun h => ?_, fun h => ?_, ?_, ?_, stab _ _ _ _ _ (fun _ => False) h0 (Off.below hw1) fun _ _ => id⟩ (hb.trans (hw1.mono hsz)) fun n b F w3 hb3 hinv hn => ?_
  · have := hown b hb'
    rcases hh with h | h | h
    · exact this.1 h
    · omega
    · omega
  · have := hlt0 _ h; omega
  · have := hlt0 _ h; omega
  · rw [Below.heap_alloc _ _ _ (by simp), World.alloc_heap_new]
  · rw [show w.heap.size + 1 = (w.alloc (.deferred (some []))).heap.size by simp, World.alloc_heap_new]; rfl
  · obtain ⟨F', j, hb', hF', n1, n2, hd, hr, hi'⟩ := hinv
    have l1 := (Array.getElem?_eq_some_iff.1 hd).1
    refine ⟨_, j, by cases j <;> simp, hr, ?_⟩
    exact hQ n j F' _ _ (fun hj => hn (by rw [hb', hj]; rfl)) (hb3.trans (below_putObj (by omega))) (stab _ _ _ _ _ (fun b => b = w.heap.size + 1) hi' (off_putObj rfl) fun b hb hh => n2 (hh ▸ hb)) (by simpa using l1) (Nat.le_refl _) n1 (by rw [World.putObj_heap_other (by omega)]; exact hd)
end Go.V
