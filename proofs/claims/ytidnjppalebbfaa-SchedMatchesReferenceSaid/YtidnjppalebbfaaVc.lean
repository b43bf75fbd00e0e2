/- A verification-condition generator over the kit's fenced weakest preconditions: environments of known slots, plain rules for code, loops with ghost measures, and regions whose order is drawn. -/
import Derived.CallsIn
import Derived.OrdersIn
import Derived.Sort.LoopGhostIn
import Derived.RangeFuncIn
import Derived.RangeFuncCalls
import Derived.KernelRfl
set_option linter.unusedSimpArgs false
set_option linter.unusedVariables false
namespace Go.V
open Go

/-! ### environments -/
abbrev Env := List (Nat × Value)
def Env.get : Env → Nat → Option Value
  | [], _ => none
  | (k, v) :: e, t => match Nat.beq k t with | true => some v | false => Env.get e t
def Env.ev (e : Env) : Operand → Option Value
  | .tmp t => e.get t
  | .const v => some v
  | .global g => some (.pointer (some ⟨g, 0, none⟩))
  | .func f => some (.func (.func f) #[] #[])
def optGet : Option Value → Value
  | some v => v
  | none => undef
def Env.eval (e : Env) (x : Operand) : Value := optGet (e.ev x)
def has : Option Value → Bool
  | some _ => true
  | none => false
def Env.hasAll (e : Env) : List Operand → Bool
  | [] => true
  | x :: r => match has (e.ev x) with | true => Env.hasAll e r | false => false
def Env.keep (e : Env) : List Nat → Env
  | [] => []
  | t :: r => match e.get t with | some v => (t, v) :: Env.keep e r | none => Env.keep e r
def Env.vals (e : Env) : List Nat → List Value
  | [] => []
  | t :: r => optGet (e.get t) :: Env.vals e r
def Env.hasTmps (e : Env) : List Nat → Bool
  | [] => true
  | t :: r => match has (e.get t) with | true => Env.hasTmps e r | false => false
/-- slots 'ts' hold the values 's' -/
def Env.bindAll : List Nat → List Value → Env → Env
  | [], _, e => e
  | t :: r, s, e => (t, s.headD undef) :: Env.bindAll r s.tail e
def Env.put (e : Env) (d : Option Nat) (v : Value) : Env := match d with | some d => (d, v) :: e | none => e

/-- an activation agrees with an environment -/
def Agree (n : Nat) (e : Env) (a : Act) : Prop := a.tmps.size = n ∧ ∀ t v, e.get t = some v → a.tmps.getD t undef = v

theorem Agree.ev {n : Nat} {e : Env} {a : Act} (h : Agree n e a) {x : Operand} (hx : has (e.ev x) = true) : a.eval x = e.eval x := by
  cases x with
  | tmp t =>
    simp only [Env.ev] at hx
    cases ht : e.get t with
    | none => simp [ht, has] at hx
    | some v => simp only [Act.eval, Env.eval, Env.ev, ht, optGet]; exact h.2 t v ht
  | const v => rfl
  | global g => rfl
  | func f => rfl
theorem Agree.evs {n : Nat} {e : Env} {a : Act} (h : Agree n e a) : ∀ {xs : List Operand}, e.hasAll xs = true → ∀ x ∈ xs, a.eval x = e.eval x
  | [], _, x, hx => by cases hx
  | y :: r, hh, x, hx => by
    simp only [Env.hasAll] at hh
    split at hh
    · rename_i h1
      cases hx with
      | head => exact h.ev h1
      | tail _ hx => exact h.evs hh x hx
    · cases hh
theorem Env.get_cons (k : Nat) (v : Value) (e : Env) (t : Nat) : Env.get ((k, v) :: e) t = if k = t then some v else e.get t := by
  simp only [Env.get]
  by_cases h : k = t
  · subst h; simp [Nat.beq_refl]
  · have : Nat.beq k t = false := by
      cases hb : Nat.beq k t with
      | true => exact absurd (Nat.eq_of_beq_eq_true hb) h
      | false => rfl
    simp [this, h]
theorem Agree.put {n : Nat} {e : Env} {a : Act} (h : Agree n e a) (d : Option Nat) (v : Value) (hd : ∀ t, d = some t → t < n) : Agree n (e.put d v) (a.put d v) := by
  cases d with
  | none => exact h
  | some d =>
    refine ⟨by simp [Act.put, h.1], fun t u ht => ?_⟩
    simp only [Env.put] at ht
    rw [Env.get_cons] at ht
    have hlt := hd d rfl
    split at ht
    · rename_i hdt; subst hdt; cases ht; simp [Act.put, Array.getD, h.1, hlt]
    · rename_i hdt
      have := h.2 t u ht
      simp only [Act.put]
      rw [← this]
      simp [Array.getD_eq_getD_getElem?, Array.getElem?_setIfInBounds_ne hdt]
theorem Env.get_keep (e : Env) : ∀ (ts : List Nat) (t : Nat) (v : Value), (e.keep ts).get t = some v → e.get t = some v
  | [], t, v, h => by simp [Env.keep, Env.get] at h
  | s :: r, t, v, h => by
    simp only [Env.keep] at h
    split at h
    · rename_i u hu
      rw [Env.get_cons] at h
      split at h
      · rename_i hst; subst hst; rw [hu]; exact h
      · exact Env.get_keep e r t v h
    · exact Env.get_keep e r t v h
theorem Agree.keep {n : Nat} {e : Env} {a : Act} (h : Agree n e a) (ts : List Nat) : Agree n (e.keep ts) a :=
  ⟨h.1, fun t v ht => h.2 t v (Env.get_keep e ts t v ht)⟩
/-- binding what the slots hold changes nothing that is said of the activation -/
theorem Agree.bindVals {n : Nat} {e e' : Env} {a : Act} (h : Agree n e a) (h' : Agree n e' a) : ∀ (ts : List Nat), e.hasTmps ts = true → Agree n (Env.bindAll ts (e.vals ts) e') a
  | [], _ => h'
  | t :: r, hh => by
    simp only [Env.hasTmps] at hh
    split at hh
    · rename_i h1
      have ih := Agree.bindVals h h' r hh
      refine ⟨h.1, fun s v hs => ?_⟩
      simp only [Env.bindAll, Env.vals, List.headD_cons, List.tail_cons] at hs
      rw [Env.get_cons] at hs
      split at hs
      · rename_i hts
        subst hts
        cases ht : e.get t with
        | none => simp [ht, has] at h1
        | some u => simp only [ht, optGet] at hs; cases hs; exact h.2 _ _ ht
      · exact ih.2 s v hs
    · cases hh

/-! ### operations -/
def retP (k : Value → World → Prop) : Ending → World → Prop
  | .returned v, w => k v w
  | _, _ => False
/-- What is asked of an operation's outcome. -/
def nextW (P : Program) (k : Value → World → Prop) : Result Next → Prop
  | .ok (.value v) w => k v w
  | .ok .skip w => k undef w
  | .ok (.enter f args) w => Calls P f args w (retP k)
  | .ok (.round l f tmps assign body) w => RoundIn Fence.wide 0 P l f tmps assign body w (retP k)
  | _ => False
/-- An operation that yields a value. -/
structure opW (P : Program) (s : Sem Value) (k : Value → World → Prop) (w : World) : Prop where
  out : match s.run P w with
    | .ok v w' => k v w'
    | .halt _ _ => False
/-- An operation that yields nothing. -/
structure opU (P : Program) (s : Sem Unit) (k : Value → World → Prop) (w : World) : Prop where
  out : match s.run P w with
    | .ok _ w' => k undef w'
    | .halt _ _ => False
structure pickW (c a b : Value) (k : Value → World → Prop) (w : World) : Prop where
  out : match c with
    | .bool true => k a w
    | .bool false => k b w
    | _ => False
structure condW (c : Value) (t f : Prop) : Prop where
  out : match c with
    | .bool true => t
    | .bool false => f
    | _ => False
/-- A call of a function value. -/
structure callW (P : Program) (f : Value) (args : Array Value) (k : Value → World → Prop) (w : World) : Prop where
  out : nextW P k ((do let d ← Deferred.ofValue f args; invoke d.target d.args : Sem Next).run P w)
structure invokeW (P : Program) (recv : Value) (name : String) (args : Array Value) (k : Value → World → Prop) (w : World) : Prop where
  out : nextW P k ((invoke (.fn (.method name) #[]) (#[recv] ++ args)).run P w)
structure nilW (x : Value) (k : Value → World → Prop) (w : World) : Prop where
  out : match x with
    | .pointer (some _) => k x w
    | .func (.func _) _ _ => k x w
    | .func (.yield _) _ _ => k x w
    | .iface _ _ => k x w
    | _ => False

def isConstOp : Operand → Bool
  | .const _ => true
  | _ => false
def mapL {α β : Type} (f : α → β) : List α → List β
  | [] => []
  | a :: r => f a :: mapL f r
theorem mapL_eq {α β : Type} (f : α → β) : ∀ l : List α, mapL f l = l.map f
  | [] => rfl
  | a :: r => by simp [mapL, mapL_eq f r]
def optL {α : Type} : Option α → List α
  | some a => [a]
  | none => []
/-- the operands of an operation, as a list (nothing for what is not taken in) -/
def opnds : Op → List Operand
  | .alloc _ | .ready _ | .waits _ => []
  | .move x | .assign x | .box _ x | .load _ x | .nilCheck x | .unOp _ _ x | .convert _ _ x | .sliceToArrayPointer _ x | .makeInterface _ x
  | .makeChan _ x | .fieldAddr _ x _ | .field _ x _ | .range _ x | .next x _ | .entry x | .typeAssert x _ _ _ | .extract x _ | .panic x | .recv _ x _ => [x]
  | .pick c a b => [c, a, b]
  | .build _ ps | .buildSlice _ _ ps => mapL (·.2) ps.toList
  | .store _ a v | .binOp _ _ a v _ | .makeSlice _ a v | .indexAddr _ a v | .index _ a v | .lookup _ a v _ | .mapEntry _ a v | .send a v => [a, v]
  | .makeFunc _ first captured => first.toList ++ captured.toList
  | .makeMap _ r => optL r
  | .slice _ x l h m => x :: (optL l ++ (optL h ++ optL m))
  | .mapUpdate _ m k v | .entryStore _ m k v | .insert _ m k v => [m, k, v]
  | .call c | .go c | .defer c => match c.callee with | .value f => f :: c.args.toList | .invoke r _ => r :: c.args.toList | .builtin _ => c.args.toList
  | .select _ _ => []

def evO (e : Env) : Option Operand → Option Value
  | some x => some (e.eval x)
  | none => none
theorem evO_eq (e : Env) (x : Option Operand) : evO e x = x.map e.eval := by cases x <;> rfl
/-- a binary operation, the guard of interfaces ahead of it -/
def binS (op : BinOp) (t : TypeId) (ox oy : Operand) (x y : Value) : Sem Value := do eqGuard op t ox oy x y; binOp op t x y
/-- The operation as a computation of one value, where it is one. -/
def semOf (e : Env) (o : Oper) : Option (Sem Value) :=
  match o.op with
  | .alloc t => some (Instr.alloc t true (.tuple #[]))
  | .box t x => some (Instr.box t (e.eval x))
  | .build t ps => some (Instr.build t ⟨mapL (fun p => (p.1, e.eval p.2)) ps.toList⟩)
  | .buildSlice t n ps => some (Instr.buildSlice t n ⟨mapL (fun p => (p.1, e.eval p.2)) ps.toList⟩)
  | .load t x => some (Instr.loadAt t (e.eval x))
  | .binOp op t x y _ => some (binS op t x y (e.eval x) (e.eval y))
  | .unOp op _ x => some (Op.unary op (e.eval x))
  | .convert s d x => some (convert s d (e.eval x))
  | .sliceToArrayPointer t x => some (Instr.arrayAt t (e.eval x))
  | .makeInterface t x => some (Instr.makeInterface t (e.eval x))
  | .makeFunc fn f c => some (Instr.makeFunc fn ⟨mapL e.eval f.toList⟩ ⟨mapL e.eval c.toList⟩)
  | .makeMap t r => some (Instr.makeMap t (evO e r))
  | .makeSlice t l c => some (Instr.makeSlice t (e.eval l) (e.eval c))
  | .slice t x l h m => some (Instr.sliceAt t (e.eval x) (evO e l) (evO e h) (evO e m))
  | .fieldAddr s x f => some (Instr.fieldAt s (e.eval x) f)
  | .field t x f => some (Instr.field t (e.eval x) f)
  | .indexAddr t x i => some (Instr.indexAt t (e.eval x) (e.eval i))
  | .index t x i => some (Instr.index t (e.eval x) (e.eval i))
  | .lookup t x i ok => some (Instr.lookup t (e.eval x) (e.eval i) ok)
  | .mapEntry t m i => some (Instr.mapEntry t (e.eval m) (e.eval i))
  | .range t x => some (Instr.range t (e.eval x))
  | .next it s => some (Instr.next (e.eval it) s o.type)
  | .entry it => some (Instr.entry (e.eval it))
  | .typeAssert x t u ok => some (Instr.typeAssert (e.eval x) t u ok)
  | .extract x i => some (Instr.extract (e.eval x) i)
  | .call c =>
    match c.callee with
    | .builtin .append => some (Builtin.append_ c.argTypes o.type ⟨mapL e.eval c.args.toList⟩)
    | .builtin .cap => some (Builtin.cap_ c.argTypes o.type ⟨mapL e.eval c.args.toList⟩)
    | .builtin .clear => some (Builtin.clear_ c.argTypes o.type ⟨mapL e.eval c.args.toList⟩)
    | .builtin .copy => some (Builtin.copy_ c.argTypes o.type ⟨mapL e.eval c.args.toList⟩)
    | .builtin .delete => some (Builtin.delete_ c.argTypes o.type ⟨mapL e.eval c.args.toList⟩)
    | .builtin .len => some (Builtin.len_ c.argTypes o.type ⟨mapL e.eval c.args.toList⟩)
    | .builtin .max => some (Builtin.max_ c.argTypes o.type ⟨mapL e.eval c.args.toList⟩)
    | .builtin .min => some (Builtin.min_ c.argTypes o.type ⟨mapL e.eval c.args.toList⟩)
    | _ => none
  | _ => none
/-- One operation in an environment. -/
def vcOp (P : Program) (e : Env) (o : Oper) (k : Value → World → Prop) (w : World) : Prop :=
  match semOf e o with
  | some s => opW P s k w
  | none =>
    match o.op with
    | .move x | .assign x => k (e.eval x) w
    | .pick c a b => pickW (e.eval c) (e.eval a) (e.eval b) k w
    | .store t x y => opU P (Instr.storeAt t (e.eval x) (e.eval y)) k w
    | .nilCheck x => nilW (e.eval x) k w
    | .mapUpdate t m i x | .insert t m i x => opU P (Instr.mapUpdate t (e.eval m) (e.eval i) (e.eval x)) k w
    | .entryStore t m i x => opU P (Instr.entryStore t (e.eval m) (e.eval i) (e.eval x)) k w
    | .call c =>
      match c.callee with
      | .value f => callW P (e.eval f) ⟨mapL e.eval c.args.toList⟩ k w
      | .invoke r name => invokeW P (e.eval r) name ⟨mapL e.eval c.args.toList⟩ k w
      | .builtin _ => False
    | _ => False

theorem nextW_val (P : Program) (s : Sem Value) (k : Value → World → Prop) (w : World) : opW P s k w → nextW P k ((do pure (.value (← s)) : Sem Next).run P w) := by
  intro h
  have h := h.out
  simp only [Sem.run_bind, Result.andThen]
  cases hs : s.run P w <;> rw [hs] at h <;> exact h
theorem nextW_unit (P : Program) (s : Sem Unit) (k : Value → World → Prop) (w : World) : opU P s k w → nextW P k ((do s; pure .skip : Sem Next).run P w) := by
  intro h
  have h := h.out
  simp only [Sem.run_bind, Result.andThen]
  cases hs : s.run P w <;> rw [hs] at h <;> exact h
theorem arr_mapL {α β : Type} (f : α → β) (a : Array α) : (⟨mapL f a.toList⟩ : Array β) = a.map f := by
  rw [mapL_eq]; apply Array.ext'; simp
theorem semOf_exec {e : Env} {o : Oper} {s : Sem Value} (h : semOf e o = some s) : execOp e.eval o = (do pure (.value (← s)) : Sem Next) := by
  obtain ⟨dst, op, type, pos, after, guard⟩ := o
  cases op
  case call c =>
    obtain ⟨callee, args, argTypes⟩ := c
    cases callee with
    | value f => simp [semOf] at h
    | invoke r name => simp [semOf] at h
    | builtin b =>
      cases b <;> simp only [semOf, reduceCtorEq, Option.some.injEq] at h
      all_goals (subst h; simp only [execOp, resolve, pure_bind, invoke, builtin, arr_mapL])
  all_goals simp only [semOf, reduceCtorEq, Option.some.injEq] at h
  all_goals (subst h; simp only [execOp, evO_eq, arr_mapL, binS])
/-- What the environment's walk of an operation shows of the machine's. -/
theorem vcOp_exec {P : Program} {e : Env} {o : Oper} {k : Value → World → Prop} {w : World} (h : vcOp P e o k w) : nextW P k ((execOp e.eval o).run P w) := by
  unfold vcOp at h
  split at h
  · rename_i s hs
    rw [semOf_exec hs]; exact nextW_val _ _ _ _ h
  · rename_i hs
    obtain ⟨dst, op, type, pos, after, guard⟩ := o
    cases op <;> simp only [semOf, reduceCtorEq] at hs <;> simp only [execOp, arr_mapL] at h ⊢
    case move x => exact h
    case assign x => exact h
    case pick c a b =>
      have h := h.out
      split at h
      · rename_i hc; rw [hc]; exact h
      · rename_i hc; rw [hc]; exact h
      · exact h.elim
    case nilCheck x =>
      have h := h.out
      split at h
      · rename_i hc; rw [hc] at h ⊢; exact h
      · rename_i hc; rw [hc] at h ⊢; exact h
      · rename_i hc; rw [hc] at h ⊢; exact h
      · rename_i hc; rw [hc] at h ⊢; exact h
      · exact h.elim
    case call c =>
      obtain ⟨callee, args, argTypes⟩ := c
      cases callee with
      | value f => simp only [resolve]; exact h.out
      | invoke r name => simp only [resolve, pure_bind]; exact h.out
      | builtin b => exact h.elim
    all_goals first
      | exact h.elim
      | exact nextW_unit _ _ _ _ h

theorem mem_opnds {op : Op} (hs : ∀ cs b, op ≠ .select cs b) : ∀ x ∈ op.operands, x ∈ opnds op := by
  intro x hx
  cases op <;> simp only [Op.operands, opnds, Call.operands, mapL_eq] at hx ⊢
  case select cs b => exact absurd rfl (hs cs b)
  case call c => cases hc : c.callee <;> simp_all [optL]
  case go c => cases hc : c.callee <;> simp_all [optL]
  case defer c => cases hc : c.callee <;> simp_all [optL]
  case makeMap t r => cases r <;> simp_all [optL]
  case slice t y l h m => cases l <;> cases h <;> cases m <;> simp_all [optL]
  all_goals simp_all

/-! ### regions -/
def nth {α : Type} : List α → Nat → Option α
  | [], _ => none
  | a :: _, 0 => some a
  | _ :: r, n + 1 => nth r n
theorem nth_eq {α : Type} : ∀ (l : List α) (n : Nat), nth l n = l[n]?
  | [], n => by simp [nth]
  | a :: r, 0 => by simp [nth]
  | a :: r, n + 1 => by simp [nth, nth_eq r n]
def bindO {α β : Type} (x : Option α) (f : α → Option β) : Option β := match x with | some a => f a | none => none
def dstOf (o : Oper) : Option Nat := o.dst
/-- the guard's value -/
def guardOf (ops : List Oper) (e : Env) (o : Oper) : Option (Option Value × Bool) :=
  match o.guard with
  | none => none
  | some (j, want) => some (bindO (bindO (nth ops j) dstOf) e.get, want)
def eqB : Bool → Bool → Bool
  | true, b => b
  | false, true => false
  | false, false => true
structure guardW (g : Option Value × Bool) (run : (Value → World → Prop) → World → Prop) (k : Value → World → Prop) (w : World) : Prop where
  out : match g with
    | (some (.bool b), want) => match eqB b want with | true => run k w | false => k undef w
    | (some (.tuple _), _) => k undef w
    | _ => False
def guardV (g : Option (Option Value × Bool)) (run : (Value → World → Prop) → World → Prop) (k : Value → World → Prop) (w : World) : Prop :=
  match g with
  | none => run k w
  | some g => guardW g run k w
def okDst (n : Nat) : Option Nat → Bool
  | none => true
  | some d => Nat.blt d n
def isDefer : Op → Bool
  | .defer _ => true
  | .select _ _ => true
  | _ => false
/-- The operations in the order of the text. -/
def vcOps (P : Program) (n : Nat) (ops : List Oper) : List Oper → Env → (Env → World → Prop) → World → Prop
  | [], e, K, w => K e w
  | o :: r, e, K, w =>
    match e.hasAll (opnds o.op), okDst n o.dst with
    | true, true => guardV (guardOf ops e o) (vcOp P e o) (fun v w' => vcOps P n ops r (e.put o.dst v) K w') w
    | _, _ => False

/-- the fence that lets everything in, in a round or not -/
def FW (ro : Option Nat) : Fence := { fn := fun _ => True, depth := none, alive := false, round := ro }
theorem FW_none : FW none = Fence.wide := rfl
theorem FW_some (l : Nat) : FW (some l) = Fence.wide.inRound l := rfl
theorem FW_room (ro : Option Nat) (n : Nat) : (FW ro).room n := fun _ h => by simp [FW] at h

theorem callsIn_FW {ro : Option Nat} {n : Nat} {P : Program} {f : FuncId} {args : Array Value} {w : World} {R : Ending → World → Prop} (h : Calls P f args w R) : CallsIn (FW ro) n P f args w R := by
  have h' : CallsIn Fence.wide n P f args w R := callsIn_wide.2 h
  exact h'
theorem roundIn_FW {ro : Option Nat} {n m : Nat} {P : Program} {l : Nat} {f : FuncId} {tmps : Array Value} {assign body : Code} {w : World} {R : Ending → World → Prop}
    (h : RoundIn Fence.wide m P l f tmps assign body w R) : RoundIn (FW ro) n P l f tmps assign body w R :=
  ⟨trivial, fun c cs _ => h.2 c cs (room_wide _)⟩

theorem execOp_env {e : Env} {a : Act} {n : Nat} (hA : Agree n e a) {o : Oper} (ho : e.hasAll (opnds o.op) = true) (hd : isDefer o.op = false) : execOp a.eval o = execOp e.eval o := by
  have hs : ∀ cs b, o.op ≠ .select cs b := fun cs b h => by rw [h] at hd; cases hd
  exact execOp_congr o hs fun x hx => hA.evs ho x (mem_opnds hs x hx)

/-- One operation that is carried out, from the environment to the fenced layer. -/
theorem upon_of_next {P : Program} {ro : Option Nat} {n m : Nat} {o : Oper} {a : Act} {K : Act → World → Prop} {Q : Exit → Act → World → Prop} {r : Result Next}
    (h : nextW P (fun v w' => K (a.put o.dst v) w') r) : o.uponIn (FW ro) m P a K Q r := by
  unfold nextW at h
  split at h
  · exact h
  · exact h
  · refine ⟨fun hh => by simp [FW] at hh, CallsIn.mono (callsIn_FW h) ?_⟩
    intro e w' he
    cases e <;> first | exact he | exact he.elim
  · refine ⟨fun hh => by simp [FW] at hh, RoundIn.mono (roundIn_FW h) ?_⟩
    intro e w' he
    cases e <;> first | exact he | exact he.elim
  · exact h.elim

theorem wp_of_vcOp {P : Program} {ro : Option Nat} {n m : Nat} {e : Env} {a : Act} {o : Oper} {k : Value → World → Prop} {K : Act → World → Prop} {Q : Exit → Act → World → Prop} {w : World}
    (hA : Agree n e a) (ho : e.hasAll (opnds o.op) = true) (hd : isDefer o.op = false) (h : vcOp P e o k w) (hk : ∀ v w', k v w' → K (a.put o.dst v) w') : o.wpIn (FW ro) m P a w K Q := by
  refine ⟨fun _ _ => trivial, ?_⟩
  have hsem : o.semAt (FW ro).round a.eval = execOp a.eval o := Oper.semAt_eq _ _ _ fun c hc => by rw [hc] at hd; cases hd
  rw [hsem, execOp_env hA ho hd]
  refine upon_of_next (n := n) ?_
  have := vcOp_exec h
  unfold nextW at this ⊢
  split at this
  · exact hk _ _ this
  · exact hk _ _ this
  · refine Calls.mono this ?_
    intro e w' he; cases e <;> first | exact hk _ _ he | exact he.elim
  · refine RoundIn.mono this ?_
    intro e w' he; cases e <;> first | exact hk _ _ he | exact he.elim
  · exact this.elim

theorem isDefer_of_vcOp {P : Program} {e : Env} {o : Oper} {k : Value → World → Prop} {w : World} (h : vcOp P e o k w) : isDefer o.op = false := by
  cases ho : o.op <;> first | rfl | (unfold vcOp semOf at h; simp only [ho] at h)

theorem wanted_env {n : Nat} {e : Env} {a : Act} (hA : Agree n e a) {ops : Array Oper} {o : Oper} {run : (Value → World → Prop) → World → Prop} {k : Value → World → Prop} {w : World}
    (h : guardV (guardOf ops.toList e o) run k w) :
    (Region.wanted o (yielded ops a.tmps) = true ∧ run k w) ∨ (Region.wanted o (yielded ops a.tmps) = false ∧ k undef w) := by
  unfold guardOf at h
  cases hg : o.guard with
  | none => rw [hg] at h; exact .inl ⟨by simp [Region.wanted, hg], h⟩
  | some jw =>
    obtain ⟨j, want⟩ := jw
    rw [hg] at h
    replace h : guardW (bindO (bindO (nth ops.toList j) dstOf) e.get, want) run k w := h
    replace h := h.out
    split at h
    · rename_i b want' heq
      simp only [Prod.mk.injEq] at heq
      obtain ⟨hb, rfl⟩ := heq
      have hy : yielded ops a.tmps j = some b := by
        unfold yielded
        rw [nth_eq] at hb
        cases ho' : ops[j]? with
        | none => have : ops.toList[j]? = none := by simpa using ho'
                  rw [this] at hb; simp [bindO] at hb
        | some oj =>
          have h1 : ops.toList[j]? = some oj := by simpa using ho'
          rw [h1] at hb
          simp only [bindO, dstOf] at hb
          cases hd : oj.dst with
          | none => rw [hd] at hb; simp at hb
          | some t =>
            rw [hd] at hb
            have := hA.2 t _ hb
            simp only [Option.bind_some, hd]
            rw [Array.getD_eq_getD_getElem?] at this
            cases ht : a.tmps[t]? with
            | none => rw [ht] at this; simp [undef] at this
            | some u => rw [ht] at this; simp at this; rw [this]
      have hwn : Region.wanted o (yielded ops a.tmps) = (b == want) := by
        simp [Region.wanted, hg, hy]
      rw [hwn]
      cases b <;> cases want <;> simp only [eqB] at h <;> first | exact .inl ⟨rfl, h⟩ | exact .inr ⟨rfl, h⟩
    · rename_i vs want' heq
      simp only [Prod.mk.injEq] at heq
      obtain ⟨hb, rfl⟩ := heq
      refine .inr ⟨?_, h⟩
      have hy : yielded ops a.tmps j = none := by
        unfold yielded
        rw [nth_eq] at hb
        cases ho' : ops[j]? with
        | none => rfl
        | some oj =>
          have h1 : ops.toList[j]? = some oj := by simpa using ho'
          rw [h1] at hb
          simp only [bindO, dstOf] at hb
          cases hd : oj.dst with
          | none => simp [hd]
          | some t =>
            rw [hd] at hb
            have := hA.2 t _ hb
            simp only [Option.bind_some, hd]
            rw [Array.getD_eq_getD_getElem?] at this
            cases ht : a.tmps[t]? with
            | none => rfl
            | some u => rw [ht] at this; simp at this; rw [this]
      simp [Region.wanted, hg, hy]
    · exact h.elim

theorem vcOps_sound {P : Program} {ro : Option Nat} {n m : Nat} {ops : Array Oper} {Q : Exit → Act → World → Prop} {K : Env → World → Prop} :
    ∀ (rest : List Oper) (i : Nat) (e : Env) (a : Act) (w : World), (∀ j, rest[j]? = ops[i + j]?) → i + rest.length = ops.size → Agree n e a →
      (∀ e' a' w', Agree n e' a' → a'.defers = a.defers → K e' w' → Q .normal a' w') →
      vcOps P n ops.toList rest e K w → wpOpsIn (FW ro) m P ops Q (List.range' i rest.length) a w := by
  intro rest
  induction rest with
  | nil => intro i e a w _ _ hA hK h; exact hK _ _ _ hA rfl h
  | cons o r ih =>
    intro i e a w hr hl hA hK h
    simp only [vcOps] at h
    split at h
    · rename_i h1 h2
      have hi : ops[i]? = some o := by simpa using (hr 0).symm
      simp only [List.length_cons, List.range'_succ, wpOpsIn, hi]
      have hdst : ∀ t, o.dst = some t → t < n := fun t ht => by
        rw [ht] at h2; exact Nat.le_of_ble_eq_true (by simpa [okDst, Nat.blt] using h2)
      have next : ∀ v w', vcOps P n ops.toList r (e.put o.dst v) K w' → wpOpsIn (FW ro) m P ops Q (List.range' (i + 1) r.length) (a.put o.dst v) w' := fun v w' hv =>
        ih (i + 1) (e.put o.dst v) (a.put o.dst v) w' (fun j => by have := hr (j + 1); simpa [Nat.add_assoc, Nat.add_comm 1 j] using this) (by simpa [Nat.add_assoc, Nat.add_comm 1] using hl)
          (hA.put _ _ hdst) (fun e' a' w'' h' hd => hK e' a' w'' h' (by rw [hd]; cases o.dst <;> rfl)) hv
      rcases wanted_env hA h with ⟨hw, hrun⟩ | ⟨hw, hskip⟩
      · rw [hw, if_pos rfl]
        exact wp_of_vcOp hA h1 (isDefer_of_vcOp hrun) hrun next
      · rw [hw, if_neg (by simp)]
        exact ⟨fun _ _ => trivial, next _ _ hskip⟩
    · exact h.elim

end Go.V
