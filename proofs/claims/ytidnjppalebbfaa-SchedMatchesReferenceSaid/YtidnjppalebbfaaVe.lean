/- Code and functions over environments. -/
import Derived.Test.YtidnjppalebbfaaVd
set_option linter.unusedSimpArgs false
set_option linter.unusedVariables false
namespace Go.V
open Go

/-! ### code -/
inductive Note where
  | keep (ts : List Nat)
  | loop (vars consts : List Nat)
  | plan (p : Plan)
abbrev Ann := List (Nat × Note)
def Ann.get : Ann → Nat → Option Note
  | [], _ => none
  | (k, v) :: e, t => match Nat.beq k t with | true => some v | false => Ann.get e t
/-- A loop: an invariant that bears a number, which every round lowers. -/
structure LoopW (body : List Value → World → (List Value → World → Prop) → Prop) (s : List Value) (w : World) : Prop where
  out : ∃ I : Nat → List Value → World → Prop, (∃ n, I n s w) ∧ ∀ n s w, I n s w → body s w (fun s' w' => ∃ m, m < n ∧ I m s' w')
/-- what a loop's body must leave as it was, and then -/
structure loopK (ds' ds : List Deferred) (a b : List Value) (k : Prop) : Prop where
  out : ds' = ds ∧ a = b ∧ k
theorem loopK_self (ds : List Deferred) (a : List Value) (k : Prop) : loopK ds ds a a k = k := propext ⟨fun h => h.out.2.2, fun h => ⟨rfl, rfl, h⟩⟩
/-- a draw of an order -/
structure drewW (w : World) (k : World → Prop) : Prop where
  out : k w.drew
def noSelL : List Oper → Bool
  | [] => true
  | o :: r => match o.op with | .select _ _ => false | _ => noSelL r
theorem noSelL_spec {ops : Array Oper} (h : noSelL ops.toList = true) : Region.noSelect ops = true := by
  unfold Region.noSelect
  rw [← Array.all_toList]
  generalize ops.toList = l at h
  induction l with
  | nil => rfl
  | cons o r ih =>
    simp only [noSelL] at h
    split at h
    · cases h
    · rename_i hne
      rw [List.all_cons, ih h, Bool.and_true]
      cases ho : o.op <;> first | rfl | exact absurd ho (hne _ _)
def thenQ (next : Env → List Deferred → World → Prop) (Q : Exit → Env → List Deferred → World → Prop) : Exit → Env → List Deferred → World → Prop
  | .normal, e, ds, w => next e ds w
  | x, e, ds, w => Q x e ds w
def blockQ (id : Nat) (ts : Option Note) (Q : Exit → Env → List Deferred → World → Prop) : Exit → Env → List Deferred → World → Prop
  | .exit i, e, ds, w => match Nat.beq i id with
    | true => Q .normal (match ts with | some (.keep l) => e.keep l | _ => e) ds w
    | false => Q (.exit i) e ds w
  | .normal, e, ds, w => Q .normal (match ts with | some (.keep l) => e.keep l | _ => e) ds w
  | x, e, ds, w => Q x e ds w
/-- The function value's body is entered. -/
def enterW (P : Program) (k : Value → World → Prop) : Result Next → Prop
  | .ok (.enter f args) w => Calls P f args w (retP k)
  | _ => False
def Loop.at (L : Loop) (st : LoopState) (j : Option Code) (d : Nat) : Loop := { L with state := st, pending := j, defers := d }
def callRun (P : Program) (f : Value) (args : Array Value) (w : World) : Result Next := (do let d ← Deferred.ofValue f args; invoke d.target d.args : Sem Next).run P w
/-- A range over a function, outermost. L: the loop's record, of which nothing is known but what is said. -/
structure rangeW (P : Program) (g : Value) (np : Nat) (B : Nat → (World → Prop) → (World → World) → List Value → World → (Option Code → World → Prop) → Prop) (Q : Nat → Option Code → World → Prop) (w : World) : Prop where
  out : ∀ L : Loop,
    (∀ args w' K, args.length = np → w'.heap[w.heap.size + 1]? = some (.loop (Loop.at L .ready none w.heap.size)) →
      B (w.heap.size + 1) (fun w₁ => w₁.heap[w.heap.size + 1]? = some (.loop (Loop.at L .ready none w.heap.size))) (fun w₁ => w₁.putObj (w.heap.size + 1) (.loop (Loop.at L .busy none w.heap.size)))
        args w' (fun j w'' => w''.heap[w.heap.size + 1]? = some (.loop (Loop.at L .busy none w.heap.size)) ∧
          K (.bool j.isNone) (w''.putObj (w.heap.size + 1) (.loop (Loop.at L (if j.isNone then .ready else .done) j w.heap.size)))) →
      callW P (.func (.yield (w.heap.size + 1)) #[] #[]) ⟨args⟩ K w') →
    enterW P (fun _ w₃ => ∃ st j, st ≠ .busy ∧ w₃.heap[w.heap.size + 1]? = some (.loop (Loop.at L st j w.heap.size)) ∧
        Q w.heap.size j (w₃.putObj (w.heap.size + 1) (.loop (Loop.at L .exhausted j w.heap.size))))
      (callRun P g #[.func (.yield (w.heap.size + 1)) #[] #[]] ((w.alloc (.deferred (some []))).alloc (.loop (Loop.at L .ready none w.heap.size))))
def putAll : List Nat → List Value → Env → Env
  | [], _, e => e
  | t :: r, s, e => putAll r s.tail ((t, s.headD undef) :: e)
def okAll (n : Nat) : List Nat → Bool
  | [] => true
  | t :: r => match Nat.blt t n with | true => okAll n r | false => false
/-- behind a range over a function: on, or out of the function -/
structure jumpW (j : Option Code) (a b : Prop) : Prop where
  out : match j with
    | none => a
    | some .ret => b
    | _ => False
def jumpQ (Q : Exit → Env → List Deferred → World → Prop) (e : Env) (ds : List Deferred) (d : Nat) (j : Option Code) (w : World) : Prop :=
  jumpW j (Q .normal e ({ target := .collected d, args := #[] } :: ds) w) (Q .ret e ({ target := .collected d, args := #[] } :: ds) w)
/-- the end of a round -/
def roundQ (k : Option Code → World → Prop) : Exit → Env → List Deferred → World → Prop
  | .normal, _, _, w => k none w
  | .ret, _, _, w => k (some .ret) w
  | _, _, _, _ => False

/-- no jump leads into a scope -/
def scopeQ (Q : Exit → Env → List Deferred → World → Prop) : Exit → Env → List Deferred → World → Prop
  | .goto _, _, _, _ => False
  | x, e, ds, w => Q x e ds w

/-- THE GENERATOR. 'p': the place of the code in the whole (the root 1; of a pair 2p and 2p + 1). -/
def vc (P : Program) (n : Nat) (ann : Ann) : Option Nat → Code → Nat → Env → List Deferred → (Exit → Env → List Deferred → World → Prop) → World → Prop
  | _, .skip, _, e, ds, Q, w => Q .normal e ds w
  | _, .label _, _, e, ds, Q, w => Q .normal e ds w
  | _, .region _ ops draw, p, e, ds, Q, w =>
    match draw with
    | false => vcOps P n ops.toList ops.toList e (fun e' w' => Q .normal e' ds w') w
    | true =>
      match ann.get p with
      | some (.plan pl) =>
        match and3 (noSelL ops.toList) (planC (rowsOf ops.toList) ops.size pl 0) (P.follows .mixedOrders) with
        | true => drewW w fun w =>
          match pl.usesS with
          | true => ∃ S : World → Prop, S w ∧ vcPlan P n ops.toList true S (fun e' w' => Q .normal e' ds w') pl e w
          | false => vcPlan P n ops.toList false anyW (fun e' w' => Q .normal e' ds w') pl e w
        | false => False
      | _ => False
  | ro, .seq a b, p, e, ds, Q, w => vc P n ann ro a (2 * p) e ds (thenQ (fun e' ds' w' => vc P n ann ro b (2 * p + 1) e' ds' Q w') Q) w
  | ro, .cond c t f, p, e, ds, Q, w => match e.hasAll [c] with
    | true => condW (e.eval c) (vc P n ann ro t (2 * p) e ds Q w) (vc P n ann ro f (2 * p + 1) e ds Q w)
    | false => False
  | ro, .block id b, p, e, ds, Q, w => vc P n ann ro b (2 * p) e ds (blockQ id (ann.get p) Q) w
  | ro, .scope b, p, e, ds, Q, w => vc P n ann ro b (2 * p) e ds (scopeQ Q) w
  | ro, .loop b, p, e, ds, Q, w =>
    match ann.get p with
    | some (.loop vars consts) =>
      match e.hasTmps vars with
      | true => LoopW (fun s w' K => vc P n ann ro b (2 * p) (Env.bindAll vars s (e.keep consts)) ds
          (thenQ (fun e' ds' w'' => match and3 (e'.hasTmps vars) (e'.hasTmps consts) true with | true => loopK ds' ds (e'.vals consts) (e.vals consts) (K (e'.vals vars) w'') | false => False) Q) w') (e.vals vars) w
      | false => False
    | _ => False
  | _, .exit id, _, e, ds, Q, w => Q (.exit id) e ds w
  | _, .goto l, _, e, ds, Q, w => Q (.goto l) e ds w
  | _, .ret, _, e, ds, Q, w => Q .ret e ds w
  | none, .rangeFunc g ps assign body, p, e, ds, Q, w => match and3 (e.hasAll [g]) (okAll n ps.toList) true with
    | true => rangeW P (e.eval g) ps.size (fun l ready busy args w' k =>
        vc P n ann (some l) assign (2 * p) (putAll ps.toList args e) [] (fun x e' ds' w'' => match x with
          | .normal => ready w'' ∧ vc P n ann (some l) body (2 * p + 1) e' ds' (roundQ k) (busy w'')
          | _ => False) w') (jumpQ Q e ds) w
    | false => False
  | _, _, _, _, _, _, _ => False

theorem Agree.putAll {n : Nat} : ∀ (ts : List Nat) (s : List Value) (e : Env) (tm : Array Value) (ds : List Deferred), okAll n ts = true → s.length = ts.length → Agree n e { tmps := tm, defers := ds } →
    Agree n (putAll ts s e) { tmps := (ts.zip s).foldl (fun tmps p => tmps.setIfInBounds p.1 p.2) tm, defers := ds }
  | [], _, _, _, _, _, _, hA => hA
  | t :: r, s, e, tm, ds, hok, hl, hA => by
    cases s with
    | nil => cases hl
    | cons v s =>
      simp only [okAll] at hok
      split at hok
      · rename_i ht
        have hlt : t < n := Nat.le_of_ble_eq_true (by simpa [Nat.blt] using ht)
        have h' := Agree.put hA (some t) v (fun u hu => by cases hu; exact hlt)
        simp only [Go.V.putAll, List.headD_cons, List.tail_cons, List.zip_cons_cons, List.foldl_cons]
        exact Agree.putAll r s _ _ ds hok (by simpa using hl) h'
      · cases hok

theorem Agree.keepVals {n : Nat} {e e' : Env} {a : Act} (h : Agree n e' a) : ∀ (ts : List Nat), e'.hasTmps ts = true → e'.vals ts = e.vals ts → Agree n (e.keep ts) a
  | [], _, _ => ⟨h.1, fun t v ht => by simp [Env.keep, Env.get] at ht⟩
  | t :: r, hh, hv => by
    simp only [Env.hasTmps] at hh
    split at hh
    · rename_i h1
      simp only [Env.vals, List.cons.injEq] at hv
      have ih := Agree.keepVals h r hh hv.2
      simp only [Env.keep]
      split
      · rename_i v hev
        refine ⟨h.1, fun s u hs => ?_⟩
        rw [Env.get_cons] at hs
        split at hs
        · rename_i hts
          subst hts
          cases hs
          refine h.2 _ _ ?_
          have := hv.1
          rw [hev] at this
          cases hg : e'.get t with
          | none => rw [hg] at h1; cases h1
          | some u' => rw [hg] at this; simp only [optGet] at this; rw [this]
        · exact ih.2 s u hs
      · exact ih
    · cases hh
theorem andP {a b c : Bool} {X : Prop} (h : match and3 a b c with | true => X | false => False) : (a = true ∧ b = true ∧ c = true) ∧ X := by
  split at h
  · rename_i h4; exact ⟨and3_spec h4, h⟩
  · exact h.elim

theorem stepR_scope {P : Program} {b : Frame} {a : Act} {k : List Item} {cs : List Frame} {w : World} {c : Code} :
    step P (lone (b.atR a (.code (.scope c) :: k)) cs w) = .next (lone (b.atR a (.code c :: .inScope c :: k)) cs w) :=
  step_lone_go (by simp [stepG, stepG.exec, Frame.atR])
theorem stepR_inScope {P : Program} {b : Frame} {a : Act} {k : List Item} {cs : List Frame} {w : World} {c : Code} :
    step P (lone (b.atR a (.inScope c :: k)) cs w) = .next (lone (b.atR a k) cs w) :=
  step_lone_go (by simp [stepG, stepG.exec, Frame.atR])
theorem wpIn_scope {F : Fence} {n : Nat} {P : Program} {Q : Exit → Act → World → Prop} {a : Act} {w : World} {c : Code}
    (h : c.wpIn F n P (fun x a' w' => (∀ l, x ≠ .goto l) ∧ Q x a' w') a w) : (Code.scope c).wpIn F n P Q a w := by
  intro b k cs hro hb hr
  have h0 : (lone (b.atR a (.code (.scope c) :: k)) cs w).fenced P F := fenced_calm hb hr rfl
  obtain ⟨e, a₁, w₁, ⟨hng, hq⟩, harr⟩ := h b (.inScope c :: k) cs hro hb hr
  cases e with
  | normal => exact ⟨.normal, a₁, w₁, hq, .head h0 stepR_scope (StepsIn.trans harr (.one (fenced_calm hb hr rfl) stepR_inScope))⟩
  | exit id =>
    have hx : exitTo id (.inScope c :: k) = exitTo id k := by simp [exitTo]
    exact ⟨_, a₁, w₁, hq, fun k' hk => .head h0 stepR_scope (harr.1 k' (by rw [hx]; exact hk)),
      fun hr' hk => let ⟨k₁, h1, h2⟩ := harr.2 hr' (by rw [hx]; exact hk); ⟨k₁, h1, .head h0 stepR_scope h2⟩⟩
  | goto l => exact absurd rfl (hng l)
  | ret => exact ⟨_, a₁, w₁, hq, .of_steps (.one h0 stepR_scope) harr⟩
  | panic ch => exact ⟨_, a₁, w₁, hq, .of_steps (.one h0 stepR_scope) harr⟩
  | outgrown => exact ⟨_, a₁, w₁, hq, .of_steps (.one h0 stepR_scope) harr⟩

theorem vc_sound (P : Program) (n : Nat) (ann : Ann) : ∀ (c : Code) (ro : Option Nat) (p : Nat) (e : Env) (ds : List Deferred) (Q : Exit → Env → List Deferred → World → Prop) (w : World),
    vc P n ann ro c p e ds Q w → ∀ (m : Nat) (a : Act) (Q' : Exit → Act → World → Prop), Agree n e a → a.defers = ds →
      (∀ x e' ds' a' w', Agree n e' a' → a'.defers = ds' → Q x e' ds' w' → Q' x a' w') → c.wpIn (FW ro) m P Q' a w := by
  intro c
  induction c with
  | skip => intro ro p e ds Q w h m a Q' hA hd hQ; exact wpIn_skip (hQ _ _ _ _ _ hA hd h)
  | label l => intro ro p e ds Q w h m a Q' hA hd hQ; exact wpIn_label (hQ _ _ _ _ _ hA hd h)
  | region id ops draw =>
    intro ro p e ds Q w h m a Q' hA hd hQ
    cases draw with
    | false =>
      refine wpIn_region ?_
      have := vcOps_sound (ro := ro) (m := m) (Q := Q') (K := fun e' w' => Q .normal e' ds w') ops.toList 0 e a w (fun j => by simp) (by simp) hA (fun e' a' w' h1 h2 h3 => hQ _ _ _ _ _ h1 (by rw [h2, hd]) h3) h
      rw [List.range_eq_range']
      simpa using this
    | true =>
      simp only [vc] at h
      split at h
      · rename_i pl hpl
        obtain ⟨⟨h1, h2, h3⟩, hh⟩ := andP h
        refine wpIn_region_any h3 ?_
        have fin : ∀ (u : Bool) (S : World → Prop), (u = false → ∀ w, S w) → S w.drew →
            vcPlan P n ops.toList u S (fun e' w' => Q .normal e' ds w') pl e w.drew → wpAnyIn (FW ro) m P .any ops Q' ops.size (Array.replicate ops.size false) a w.drew := fun u S hu hS hv =>
          anyIn_of_anyX (Q := fun a' w' => Q' .normal a' w') (fun _ _ hq => hq) _ _ _ _
            (vcPlan_sound (K := fun e' w' => Q .normal e' ds w') (ds := ds) (noSelL_spec h1) hu (fun e' a' w' q1 q2 q3 => hQ _ _ _ _ _ q1 q2 q3) ops.size pl 0 _ e a w.drew (leftOf_zero _) (Bits.init ops) h2 hA hd hS hv)
        replace hh := hh.out
        split at hh
        · obtain ⟨S, hS, hv⟩ := hh
          exact fin true S (fun h => by cases h) hS hv
        · exact fin false anyW (fun _ _ => trivial) trivial hh
      · exact h.elim
  | seq x y ihx ihy =>
    intro ro p e ds Q w h m a Q' hA hd hQ
    refine wpIn_seq (ihx ro _ e ds _ w h m a _ hA hd ?_)
    intro ex e' ds' a' w' hA' hd' hq
    cases ex with
    | normal => exact ihy ro _ e' ds' Q w' hq m a' Q' hA' hd' hQ
    | exit id => exact hQ _ _ _ _ _ hA' hd' hq
    | goto l => exact hQ _ _ _ _ _ hA' hd' hq
    | ret => exact hQ _ _ _ _ _ hA' hd' hq
    | panic ch => exact hQ _ _ _ _ _ hA' hd' hq
    | outgrown => exact hQ _ _ _ _ _ hA' hd' hq
  | cond c t f iht ihf =>
    intro ro p e ds Q w h m a Q' hA hd hQ
    simp only [vc] at h
    split at h
    · rename_i hc
      have hev : a.eval c = e.eval c := hA.evs hc c (by simp)
      replace h := h.out
      split at h
      · rename_i hb; exact wpIn_cond (t := true) (by rw [hev, hb]) (by simpa using iht ro _ e ds Q w h m a Q' hA hd hQ)
      · rename_i hb; exact wpIn_cond (t := false) (by rw [hev, hb]) (by simpa using ihf ro _ e ds Q w h m a Q' hA hd hQ)
      · exact h.elim
    · exact h.elim
  | block id b ih =>
    intro ro p e ds Q w h m a Q' hA hd hQ
    refine wpIn_block (ih ro _ e ds _ w h m a _ hA hd ?_)
    intro ex e' ds' a' w' hA' hd' hq
    have hkeep : Agree n (match ann.get p with | some (.keep l) => e'.keep l | _ => e') a' := by
      split
      · exact hA'.keep _
      · exact hA'
    cases ex with
    | normal => exact hQ _ _ _ _ _ hkeep hd' hq
    | exit i =>
      simp only [blockQ] at hq
      split at hq
      · rename_i hb
        have : i = id := Nat.eq_of_beq_eq_true hb
        simp only [Exit.inBlock, this, if_true]
        exact hQ _ _ _ _ _ hkeep hd' hq
      · rename_i hb
        have : i ≠ id := fun hh => by subst hh; simp [Nat.beq_refl] at hb
        simp only [Exit.inBlock, this, if_false]
        exact hQ _ _ _ _ _ hA' hd' hq
    | goto l => exact hQ _ _ _ _ _ hA' hd' hq
    | ret => exact hQ _ _ _ _ _ hA' hd' hq
    | panic ch => exact hQ _ _ _ _ _ hA' hd' hq
    | outgrown => exact hQ _ _ _ _ _ hA' hd' hq
  | loop b ih =>
    intro ro p e ds Q w h m a Q' hA hd hQ
    simp only [vc] at h
    split at h
    · rename_i vars consts hann
      split at h
      · rename_i hv
        obtain ⟨I, ⟨n0, h0⟩, hstep⟩ := h.out
        refine wpIn_loop_ghost (fun k a' w' => ∃ s, I k s w' ∧ Agree n (Env.bindAll vars s (e.keep consts)) a' ∧ a'.defers = ds) n0 ⟨_, h0, hA.bindVals (hA.keep consts) vars hv, hd⟩ ?_
        rintro k a' w' ⟨s, hI, hA', hd'⟩
        refine ih ro _ _ ds _ w' (hstep k s w' hI) m a' _ hA' hd' ?_
        intro ex e'' ds'' a'' w'' hA'' hd'' hq
        cases ex with
        | normal =>
          simp only [thenQ] at hq
          obtain ⟨⟨hv'', hc'', _⟩, hq'⟩ := andP hq
          obtain ⟨hds, hcs, m', hm', hI'⟩ := hq'.out
          exact ⟨m', hm', _, hI', hA''.bindVals (hA''.keepVals consts hc'' hcs) vars hv'', by rw [hd'', hds]⟩
        | exit id => exact hQ _ _ _ _ _ hA'' hd'' hq
        | goto l => exact hQ _ _ _ _ _ hA'' hd'' hq
        | ret => exact hQ _ _ _ _ _ hA'' hd'' hq
        | panic ch => exact hQ _ _ _ _ _ hA'' hd'' hq
        | outgrown => exact hQ _ _ _ _ _ hA'' hd'' hq
      · exact h.elim
    · exact h.elim
  | exit id => intro ro p e ds Q w h m a Q' hA hd hQ; exact wpIn_exit (hQ _ _ _ _ _ hA hd h)
  | goto l => intro ro p e ds Q w h m a Q' hA hd hQ; exact wpIn_goto (hQ _ _ _ _ _ hA hd h)
  | ret => intro ro p e ds Q w h m a Q' hA hd hQ; exact wpIn_ret (hQ _ _ _ _ _ hA hd h)
  | scope b ih =>
    intro ro p e ds Q w h m a Q' hA hd hQ
    have h' : vc P n ann ro b (2 * p) e ds (scopeQ Q) w := by cases ro <;> exact h
    refine wpIn_scope (ih ro _ e ds _ w h' m a _ hA hd ?_)
    intro ex e' ds' a' w' hA' hd' hq
    cases ex with
    | goto l => exact hq.elim
    | normal => exact ⟨fun _ h => (by cases h), hQ _ _ _ _ _ hA' hd' hq⟩
    | exit id => exact ⟨fun _ h => (by cases h), hQ _ _ _ _ _ hA' hd' hq⟩
    | ret => exact ⟨fun _ h => (by cases h), hQ _ _ _ _ _ hA' hd' hq⟩
    | panic ch => exact ⟨fun _ h => (by cases h), hQ _ _ _ _ _ hA' hd' hq⟩
    | outgrown => exact ⟨fun _ h => (by cases h), hQ _ _ _ _ _ hA' hd' hq⟩
  | refuse why => intro ro p e ds Q w h; cases ro <;> exact h.elim
  | rangeFunc g ps assign body iha ihb =>
    intro ro p e ds Q w h m a Q' hA hd hQ
    cases ro with
    | some l => exact h.elim
    | none =>
      obtain ⟨⟨h1, h2, _⟩, hR'⟩ := andP h
      have hR := hR'.out
      refine wpIn_rangeFunc fun fn _ => ?_
      have hev : a.eval g = e.eval g := hA.evs h1 g (by simp)
      -- the record
      let L : Loop := { state := .ready, pending := none, fn, tmps := a.tmps, params := ps, assign, body, defers := 0 }
      have hcall := hR L ?_
      · unfold enterW at hcall
        split at hcall
        · rename_i f args w₂ hrun
          unfold callRun at hrun
          simp only [Sem.run_bind] at hrun
          cases hres : (Deferred.ofValue (e.eval g) #[.func (.yield (w.heap.size + 1)) #[] #[]]).run P ((w.alloc (.deferred (some []))).alloc (.loop (Loop.at L .ready none w.heap.size))) with
          | halt x y => rw [hres] at hrun; simp [Result.andThen] at hrun
          | ok d w₁' =>
            rw [hres] at hrun
            simp only [Result.andThen] at hrun
            refine ⟨w.heap.size + 1, [{ target := .collected w.heap.size, args := #[] }], _, d, w₁', f, args, w₂, run_enterLoop_outer fn a.tmps ps assign body, ?_, fun _ _ => trivial, hrun, fun hh => by simp [FW] at hh, CallsIn.mono (callsIn_FW hcall) ?_⟩
            · have harr : Array.map a.eval #[Operand.const (Value.func (Fn.yield (w.heap.size + 1)) #[] #[])] = #[Value.func (Fn.yield (w.heap.size + 1)) #[] #[]] := by simp [Act.eval]
              simp only [resolve, rangeCall, hev]
              rw [harr]
              exact hres
            · intro en w₃ hen
              cases en with
              | returned v =>
                obtain ⟨st, j, hst, hl, hq⟩ := hen
                refine ⟨j, _, run_endLoop (r := Loop.at L st j w.heap.size) hl hst, ?_⟩
                have hAg : Agree n e { a with defers := [{ target := .collected w.heap.size, args := #[] }] ++ a.defers } := hA.of_tmps rfl
                replace hq := jumpW.out hq
                cases j with
                | none => exact hQ _ _ _ _ _ hAg (by simp [hd]) hq
                | some cj =>
                  cases cj with
                  | ret => exact wpIn_ret (hQ _ _ _ _ _ hAg (by simp [hd]) hq)
                  | _ => exact hq.elim
              | panicked ch => exact hen.elim
              | outgrown => exact hen.elim
        · exact hcall.elim
      · -- a call of yield
        intro args w' K hlen hready hB
        refine ⟨?_⟩
        have hy : (Instr.yield (w.heap.size + 1) ⟨args⟩).run P w' = _ := run_yield (r := Loop.at L .ready none w.heap.size) hready (by simpa [Loop.at, L] using hlen)
        have hrun : (do let d ← Deferred.ofValue (.func (.yield (w.heap.size + 1)) #[] #[]) ⟨args⟩; invoke d.target d.args : Sem Next).run P w' = (Instr.yield (w.heap.size + 1) ⟨args⟩).run P w' := by
          simp [Deferred.ofValue, Sem.run_bind, Result.andThen, invoke]
        rw [hrun, hy]
        show RoundIn Fence.wide 0 P _ _ _ _ _ _ _
        refine roundIn_of_wpIn (F := Fence.wide) trivial ?_
        have hAr : Agree n (putAll ps.toList args e) { tmps := (ps.toList.zip args).foldl (fun tmps p => tmps.setIfInBounds p.1 p.2) a.tmps, defers := [] } :=
          Agree.putAll ps.toList args e a.tmps [] h2 (by simpa using hlen) (hA.of_tmps rfl)
        have htm : ((Loop.at L .ready none w.heap.size).params.zip (⟨args⟩ : Array Value)).foldl (fun tmps (x : Tmp × Value) => match x with | (t, a) => tmps.setIfInBounds t a) (Loop.at L .ready none w.heap.size).tmps
            = (ps.toList.zip args).foldl (fun tmps p => tmps.setIfInBounds p.1 p.2) a.tmps := by
          rw [← Array.foldl_toList]
          simp [Loop.at, L, Array.toList_zip]
        rw [htm]
        refine iha (some (w.heap.size + 1)) _ _ [] _ w' hB 0 _ _ hAr rfl ?_
        intro ex e' ds' a' w'' hA' hd' hq
        cases ex with
        | normal =>
          obtain ⟨hrd, hb⟩ := hq
          refine ⟨_, run_beginRound (r := Loop.at L .ready none w.heap.size) hrd rfl, ?_⟩
          refine ihb (some (w.heap.size + 1)) _ e' ds' _ _ hb 0 a' _ hA' hd' ?_
          intro ey e'' ds'' a'' w₃ hA'' hd'' hk
          cases ey with
          | normal => exact ⟨_, _, run_endRound none hk.1, hk.2⟩
          | ret => exact ⟨_, _, run_endRound (some .ret) hk.1, hk.2⟩
          | exit id => exact hk.elim
          | goto t => exact hk.elim
          | panic ch => exact hk.elim
          | outgrown => exact hk.elim
        | exit id => exact hq.elim
        | goto t => exact hq.elim
        | ret => exact hq.elim
        | panic ch => exact hq.elim
        | outgrown => exact hq.elim

/-! ### functions -/
structure resCell (P : Program) (t : TypeId) (a : Value) (k : Value → Prop) (w : World) : Prop where
  out : match a with
    | .pointer (some ad) => opW P (loadVar t ad) (fun v w' => w' = w ∧ k v) w
    | _ => False
/-- What the results are, read where the function leaves. -/
def resOne (P : Program) (e : Env) (r : ResultVar) (k : Value → Prop) (w : World) : Prop :=
  match r with
  | .tmp t => k (optGet (e.get t))
  | .cell a t => resCell P t (optGet (e.get a)) k w
def resAll (P : Program) (e : Env) : List ResultVar → (List Value → Prop) → World → Prop
  | [], k, _ => k []
  | r :: rs, k, w => resOne P e r (fun v => resAll P e rs (fun vs => k (v :: vs)) w) w
def hasRes (e : Env) : List ResultVar → Bool
  | [] => true
  | .tmp t :: r => match has (e.get t) with | true => hasRes e r | false => false
  | .cell t _ :: r => match has (e.get t) with | true => hasRes e r | false => false
def tupleOf : List Value → Value
  | [v] => v
  | vs => .tuple ⟨vs⟩
/-- The marks of ranges over functions among the deferred calls. -/
def leaveW : List Deferred → (World → Prop) → World → Prop
  | [], k, w => k w
  | { target := .collected r, .. } :: ds, k, w => w.heap[r]? = some (.deferred (some [])) ∧ leaveW ds k (w.putObj r (.deferred none))
  | _ :: _, _, _ => False
def finQ (P : Program) (rs : List ResultVar) (k : Value → World → Prop) : Exit → Env → List Deferred → World → Prop
  | .normal, e, ds, w | .ret, e, ds, w => match hasRes e rs with
    | true => leaveW ds (fun w' => resAll P e rs (fun vs => k (tupleOf vs) w') w') w
    | false => False
  | _, _, _, _ => False
def params : Nat → List Value → Env
  | _, [] => []
  | i, v :: r => (i, v) :: params (i + 1) r

theorem mapM_res {P : Program} {n : Nat} {e : Env} {a : Act} (hA : Agree n e a) {w : World} : ∀ (rs : List ResultVar) (k : List Value → Prop), hasRes e rs = true → resAll P e rs k w →
    ∃ vs, Sem.run P (rs.mapM (fun (r : ResultVar) => match r with
      | ResultVar.tmp t => (pure (a.tmps.getD t undef) : Sem Value)
      | ResultVar.cell ad t => do loadVar t (← asAddr (a.tmps.getD ad undef)))) w = Result.ok vs w ∧ k vs
  | [], k, _, h => ⟨[], rfl, h⟩
  | r :: rs, k, hh, h => by
    cases r with
    | tmp t =>
      simp only [hasRes] at hh
      split at hh
      · rename_i ht
        simp only [resAll, resOne] at h
        obtain ⟨vs, hvs, hk⟩ := mapM_res hA rs _ hh h
        refine ⟨optGet (e.get t) :: vs, ?_, hk⟩
        cases hg : e.get t with
        | none => rw [hg] at ht; cases ht
        | some v =>
          have := hA.2 t v hg
          simp only [List.mapM_cons, Sem.run_bind, Result.andThen, Sem.run_pure, this, optGet]
          rw [hvs]
      · cases hh
    | cell ad t =>
      simp only [hasRes] at hh
      split at hh
      · rename_i ht
        simp only [resAll, resOne] at h
        replace h := h.out
        split at h
        · rename_i p hg'
          have hg : e.get ad = some (.pointer (some p)) := by
            cases hg : e.get ad with
            | none => rw [hg] at ht; cases ht
            | some u => rw [hg] at hg'; simp only [optGet] at hg'; rw [hg']
          replace h := h.out
          split at h
          · rename_i v w' hrun
            obtain ⟨rfl, h⟩ := h
            obtain ⟨vs, hvs, hk⟩ := mapM_res hA rs _ hh h
            refine ⟨v :: vs, ?_, hk⟩
            have := hA.2 ad _ hg
            have ha : Sem.run P (asAddr (a.tmps.getD ad undef)) w' = .ok p w' := by rw [this]; rfl
            simp only [List.mapM_cons, Sem.run_bind, Result.andThen, Sem.run_pure, ha, hrun]
            rw [hvs]
          · exact h.elim
        · exact h.elim
      · cases hh

theorem Env.get_params : ∀ (l : List Value) (i t : Nat) (v : Value), (params i l).get t = some v → i ≤ t ∧ l[t - i]? = some v
  | [], _, _, _, h => by simp [params, Env.get] at h
  | u :: r, i, t, v, h => by
    simp only [params] at h
    rw [Env.get_cons] at h
    split at h
    · rename_i hit; subst hit; cases h; simp
    · rename_i hit
      obtain ⟨h1, h2⟩ := Env.get_params r (i + 1) t v h
      refine ⟨by omega, ?_⟩
      have : t - i = (t - (i + 1)) + 1 := by omega
      rw [this]; simpa using h2

theorem leaves_of {P : Program} {fn : Func} {tmps : Array Value} {R : Ending → World → Prop} : ∀ (ds : List Deferred) (w : World), leaveW ds (fun w' => ∃ v, (results fn tmps).run P w' = .ok v w' ∧ R (.returned v) w') w →
    LeavesInM (FW none) 0 P fn tmps R ds .returning w
  | [], w, h => h
  | { target := .collected r, args := as } :: ds, w, h => ⟨by simp, .inl ⟨r, _, rfl, run_takeDeferred h.1, leaves_of ds _ h.2⟩⟩
  | { target := .fn _ _, args := _ } :: _, _, h => h.elim
  | { target := .nil, args := _ } :: _, _, h => h.elim
  | { target := .builtin _ _ _ _, args := _ } :: _, _, h => h.elim
  | { target := .coroexit _, args := _ } :: _, _, h => h.elim
theorem leaveW_mono {k k' : World → Prop} (h : ∀ w, k w → k' w) : ∀ (ds : List Deferred) (w : World), leaveW ds k w → leaveW ds k' w
  | [], w, hk => h w hk
  | { target := .collected r, args := _ } :: ds, w, hk => ⟨hk.1, leaveW_mono h ds _ hk.2⟩
  | { target := .fn _ _, args := _ } :: _, _, h => h.elim
  | { target := .nil, args := _ } :: _, _, h => h.elim
  | { target := .builtin _ _ _ _, args := _ } :: _, _, h => h.elim
  | { target := .coroexit _, args := _ } :: _, _, h => h.elim

/-- **A FUNCTION's CONTRACT, BY THE GENERATOR.** -/
theorem calls_of_vc {P : Program} {f : FuncId} {fn : Func} {c : Code} (ann : Ann) (hf : P.funcs[f]? = some fn) (hb : fn.body = some c) (args : List Value) (w : World) (k : Value → World → Prop)
    (hn : Nat.ble args.length fn.ntmps = true)
    (h : vc P fn.ntmps ann none c 1 (params 0 args) [] (finQ P fn.results.toList k) w) : Calls P f ⟨args⟩ w (retP k) := by
  have hin : CallsIn Fence.wide 0 P f ⟨args⟩ w (retP k) := by
    refine callsIn_of_wp_marks hf hb trivial ?_
    have hle : args.length ≤ fn.ntmps := Nat.le_of_ble_eq_true hn
    refine vc_sound P fn.ntmps ann c none 1 (params 0 args) [] _ w h 0 _ _ ⟨by simp; omega, fun t v ht => ?_⟩ rfl ?_
    · obtain ⟨_, h2⟩ := Env.get_params args 0 t v ht
      simp only [Nat.sub_zero] at h2
      have hlt : t < args.length := (List.getElem?_eq_some_iff.1 h2).1
      rw [Array.getD_eq_getD_getElem?, Array.getElem?_append_left (by simpa using hlt)]
      simp [h2]
    · intro x e' ds' a' w' hA hd hq
      have fin : ∀ (hq : match hasRes e' fn.results.toList with
          | true => leaveW ds' (fun w' => resAll P e' fn.results.toList (fun vs => k (tupleOf vs) w') w') w'
          | false => False), LeavesInM (FW none) 0 P fn a'.tmps (retP k) a'.defers .returning w' := by
        intro hq
        rw [hd]
        split at hq
        · rename_i hres
          refine leaves_of ds' w' (leaveW_mono (fun w'' hw'' => ?_) ds' w' hq)
          obtain ⟨vs, hvs, hk⟩ := mapM_res hA fn.results.toList _ hres hw''
          refine ⟨tupleOf vs, ?_, hk⟩
          unfold results
          rw [Array.mapM_eq_mapM_toList]
          simp only [Sem.run_bind, Result.andThen, map_eq_pure_bind]
          erw [hvs]
          simp only [Sem.run_pure]
          cases vs with
          | nil => rfl
          | cons v r =>
            cases r with
            | nil => rfl
            | cons u r => simp [tupleOf]
        · exact hq.elim
      cases x with
      | normal => exact fin hq
      | ret => exact fin hq
      | exit id => exact hq.elim
      | goto l => exact hq.elim
      | panic ch => exact hq.elim
      | outgrown => exact hq.elim
  exact callsIn_wide.1 hin

def Loop1 (body : Value → World → (Value → World → Prop) → Prop) (a0 : Value) (w : World) : Prop :=
  LoopW (fun s w K => body (s.headD undef) w (fun a0 w => K [a0] w)) [a0] w
theorem Loop1.intro {body : Value → World → (Value → World → Prop) → Prop} {a0 : Value} {w : World} (I : Nat → Value → World → Prop) (n : Nat) (h0 : I n a0 w)
    (step : ∀ n a0 w, I n a0 w → body a0 w (fun a0' w' => ∃ m, m < n ∧ I m a0' w')) : Loop1 body a0 w := by
  refine ⟨⟨fun n s w => ∃ a0, s = [a0] ∧ I n a0 w, ⟨n, _, rfl, h0⟩, ?_⟩⟩
  rintro n s w ⟨a0, rfl, h⟩
  have h' := step n a0 w h
  refine cast ?_ h'
  congr 1
  funext a0' w'
  apply propext
  constructor
  · rintro ⟨m, h1, h2⟩; exact ⟨m, h1, _, rfl, h2⟩
  · rintro ⟨m, h1, _, heq, h2⟩; cases heq; exact ⟨m, h1, h2⟩

def Loop2 (body : Value → Value → World → (Value → Value → World → Prop) → Prop) (a0 a1 : Value) (w : World) : Prop :=
  LoopW (fun s w K => body (s.headD undef) (s.tail.headD undef) w (fun a0 a1 w => K [a0, a1] w)) [a0, a1] w
theorem Loop2.intro {body : Value → Value → World → (Value → Value → World → Prop) → Prop} {a0 a1 : Value} {w : World} (I : Nat → Value → Value → World → Prop) (n : Nat) (h0 : I n a0 a1 w)
    (step : ∀ n a0 a1 w, I n a0 a1 w → body a0 a1 w (fun a0' a1' w' => ∃ m, m < n ∧ I m a0' a1' w')) : Loop2 body a0 a1 w := by
  refine ⟨⟨fun n s w => ∃ a0 a1, s = [a0, a1] ∧ I n a0 a1 w, ⟨n, _, _, rfl, h0⟩, ?_⟩⟩
  rintro n s w ⟨a0, a1, rfl, h⟩
  have h' := step n a0 a1 w h
  refine cast ?_ h'
  congr 1
  funext a0' a1' w'
  apply propext
  constructor
  · rintro ⟨m, h1, h2⟩; exact ⟨m, h1, _, _, rfl, h2⟩
  · rintro ⟨m, h1, _, _, heq, h2⟩; cases heq; exact ⟨m, h1, h2⟩

def Loop3 (body : Value → Value → Value → World → (Value → Value → Value → World → Prop) → Prop) (a0 a1 a2 : Value) (w : World) : Prop :=
  LoopW (fun s w K => body (s.headD undef) (s.tail.headD undef) (s.tail.tail.headD undef) w (fun a0 a1 a2 w => K [a0, a1, a2] w)) [a0, a1, a2] w
theorem Loop3.intro {body : Value → Value → Value → World → (Value → Value → Value → World → Prop) → Prop} {a0 a1 a2 : Value} {w : World} (I : Nat → Value → Value → Value → World → Prop) (n : Nat) (h0 : I n a0 a1 a2 w)
    (step : ∀ n a0 a1 a2 w, I n a0 a1 a2 w → body a0 a1 a2 w (fun a0' a1' a2' w' => ∃ m, m < n ∧ I m a0' a1' a2' w')) : Loop3 body a0 a1 a2 w := by
  refine ⟨⟨fun n s w => ∃ a0 a1 a2, s = [a0, a1, a2] ∧ I n a0 a1 a2 w, ⟨n, _, _, _, rfl, h0⟩, ?_⟩⟩
  rintro n s w ⟨a0, a1, a2, rfl, h⟩
  have h' := step n a0 a1 a2 w h
  refine cast ?_ h'
  congr 1
  funext a0' a1' a2' w'
  apply propext
  constructor
  · rintro ⟨m, h1, h2⟩; exact ⟨m, h1, _, _, _, rfl, h2⟩
  · rintro ⟨m, h1, _, _, _, heq, h2⟩; cases heq; exact ⟨m, h1, h2⟩

def Loop4 (body : Value → Value → Value → Value → World → (Value → Value → Value → Value → World → Prop) → Prop) (a0 a1 a2 a3 : Value) (w : World) : Prop :=
  LoopW (fun s w K => body (s.headD undef) (s.tail.headD undef) (s.tail.tail.headD undef) (s.tail.tail.tail.headD undef) w (fun a0 a1 a2 a3 w => K [a0, a1, a2, a3] w)) [a0, a1, a2, a3] w
theorem Loop4.intro {body : Value → Value → Value → Value → World → (Value → Value → Value → Value → World → Prop) → Prop} {a0 a1 a2 a3 : Value} {w : World} (I : Nat → Value → Value → Value → Value → World → Prop) (n : Nat) (h0 : I n a0 a1 a2 a3 w)
    (step : ∀ n a0 a1 a2 a3 w, I n a0 a1 a2 a3 w → body a0 a1 a2 a3 w (fun a0' a1' a2' a3' w' => ∃ m, m < n ∧ I m a0' a1' a2' a3' w')) : Loop4 body a0 a1 a2 a3 w := by
  refine ⟨⟨fun n s w => ∃ a0 a1 a2 a3, s = [a0, a1, a2, a3] ∧ I n a0 a1 a2 a3 w, ⟨n, _, _, _, _, rfl, h0⟩, ?_⟩⟩
  rintro n s w ⟨a0, a1, a2, a3, rfl, h⟩
  have h' := step n a0 a1 a2 a3 w h
  refine cast ?_ h'
  congr 1
  funext a0' a1' a2' a3' w'
  apply propext
  constructor
  · rintro ⟨m, h1, h2⟩; exact ⟨m, h1, _, _, _, _, rfl, h2⟩
  · rintro ⟨m, h1, _, _, _, _, heq, h2⟩; cases heq; exact ⟨m, h1, h2⟩

def Loop5 (body : Value → Value → Value → Value → Value → World → (Value → Value → Value → Value → Value → World → Prop) → Prop) (a0 a1 a2 a3 a4 : Value) (w : World) : Prop :=
  LoopW (fun s w K => body (s.headD undef) (s.tail.headD undef) (s.tail.tail.headD undef) (s.tail.tail.tail.headD undef) (s.tail.tail.tail.tail.headD undef) w (fun a0 a1 a2 a3 a4 w => K [a0, a1, a2, a3, a4] w)) [a0, a1, a2, a3, a4] w
theorem Loop5.intro {body : Value → Value → Value → Value → Value → World → (Value → Value → Value → Value → Value → World → Prop) → Prop} {a0 a1 a2 a3 a4 : Value} {w : World} (I : Nat → Value → Value → Value → Value → Value → World → Prop) (n : Nat) (h0 : I n a0 a1 a2 a3 a4 w)
    (step : ∀ n a0 a1 a2 a3 a4 w, I n a0 a1 a2 a3 a4 w → body a0 a1 a2 a3 a4 w (fun a0' a1' a2' a3' a4' w' => ∃ m, m < n ∧ I m a0' a1' a2' a3' a4' w')) : Loop5 body a0 a1 a2 a3 a4 w := by
  refine ⟨⟨fun n s w => ∃ a0 a1 a2 a3 a4, s = [a0, a1, a2, a3, a4] ∧ I n a0 a1 a2 a3 a4 w, ⟨n, _, _, _, _, _, rfl, h0⟩, ?_⟩⟩
  rintro n s w ⟨a0, a1, a2, a3, a4, rfl, h⟩
  have h' := step n a0 a1 a2 a3 a4 w h
  refine cast ?_ h'
  congr 1
  funext a0' a1' a2' a3' a4' w'
  apply propext
  constructor
  · rintro ⟨m, h1, h2⟩; exact ⟨m, h1, _, _, _, _, _, rfl, h2⟩
  · rintro ⟨m, h1, _, _, _, _, _, heq, h2⟩; cases heq; exact ⟨m, h1, h2⟩

def Loop6 (body : Value → Value → Value → Value → Value → Value → World → (Value → Value → Value → Value → Value → Value → World → Prop) → Prop) (a0 a1 a2 a3 a4 a5 : Value) (w : World) : Prop :=
  LoopW (fun s w K => body (s.headD undef) (s.tail.headD undef) (s.tail.tail.headD undef) (s.tail.tail.tail.headD undef) (s.tail.tail.tail.tail.headD undef) (s.tail.tail.tail.tail.tail.headD undef) w (fun a0 a1 a2 a3 a4 a5 w => K [a0, a1, a2, a3, a4, a5] w)) [a0, a1, a2, a3, a4, a5] w
theorem Loop6.intro {body : Value → Value → Value → Value → Value → Value → World → (Value → Value → Value → Value → Value → Value → World → Prop) → Prop} {a0 a1 a2 a3 a4 a5 : Value} {w : World} (I : Nat → Value → Value → Value → Value → Value → Value → World → Prop) (n : Nat) (h0 : I n a0 a1 a2 a3 a4 a5 w)
    (step : ∀ n a0 a1 a2 a3 a4 a5 w, I n a0 a1 a2 a3 a4 a5 w → body a0 a1 a2 a3 a4 a5 w (fun a0' a1' a2' a3' a4' a5' w' => ∃ m, m < n ∧ I m a0' a1' a2' a3' a4' a5' w')) : Loop6 body a0 a1 a2 a3 a4 a5 w := by
  refine ⟨⟨fun n s w => ∃ a0 a1 a2 a3 a4 a5, s = [a0, a1, a2, a3, a4, a5] ∧ I n a0 a1 a2 a3 a4 a5 w, ⟨n, _, _, _, _, _, _, rfl, h0⟩, ?_⟩⟩
  rintro n s w ⟨a0, a1, a2, a3, a4, a5, rfl, h⟩
  have h' := step n a0 a1 a2 a3 a4 a5 w h
  refine cast ?_ h'
  congr 1
  funext a0' a1' a2' a3' a4' a5' w'
  apply propext
  constructor
  · rintro ⟨m, h1, h2⟩; exact ⟨m, h1, _, _, _, _, _, _, rfl, h2⟩
  · rintro ⟨m, h1, _, _, _, _, _, _, heq, h2⟩; cases heq; exact ⟨m, h1, h2⟩

def Loop7 (body : Value → Value → Value → Value → Value → Value → Value → World → (Value → Value → Value → Value → Value → Value → Value → World → Prop) → Prop) (a0 a1 a2 a3 a4 a5 a6 : Value) (w : World) : Prop :=
  LoopW (fun s w K => body (s.headD undef) (s.tail.headD undef) (s.tail.tail.headD undef) (s.tail.tail.tail.headD undef) (s.tail.tail.tail.tail.headD undef) (s.tail.tail.tail.tail.tail.headD undef) (s.tail.tail.tail.tail.tail.tail.headD undef) w (fun a0 a1 a2 a3 a4 a5 a6 w => K [a0, a1, a2, a3, a4, a5, a6] w)) [a0, a1, a2, a3, a4, a5, a6] w
theorem Loop7.intro {body : Value → Value → Value → Value → Value → Value → Value → World → (Value → Value → Value → Value → Value → Value → Value → World → Prop) → Prop} {a0 a1 a2 a3 a4 a5 a6 : Value} {w : World} (I : Nat → Value → Value → Value → Value → Value → Value → Value → World → Prop) (n : Nat) (h0 : I n a0 a1 a2 a3 a4 a5 a6 w)
    (step : ∀ n a0 a1 a2 a3 a4 a5 a6 w, I n a0 a1 a2 a3 a4 a5 a6 w → body a0 a1 a2 a3 a4 a5 a6 w (fun a0' a1' a2' a3' a4' a5' a6' w' => ∃ m, m < n ∧ I m a0' a1' a2' a3' a4' a5' a6' w')) : Loop7 body a0 a1 a2 a3 a4 a5 a6 w := by
  refine ⟨⟨fun n s w => ∃ a0 a1 a2 a3 a4 a5 a6, s = [a0, a1, a2, a3, a4, a5, a6] ∧ I n a0 a1 a2 a3 a4 a5 a6 w, ⟨n, _, _, _, _, _, _, _, rfl, h0⟩, ?_⟩⟩
  rintro n s w ⟨a0, a1, a2, a3, a4, a5, a6, rfl, h⟩
  have h' := step n a0 a1 a2 a3 a4 a5 a6 w h
  refine cast ?_ h'
  congr 1
  funext a0' a1' a2' a3' a4' a5' a6' w'
  apply propext
  constructor
  · rintro ⟨m, h1, h2⟩; exact ⟨m, h1, _, _, _, _, _, _, _, rfl, h2⟩
  · rintro ⟨m, h1, _, _, _, _, _, _, _, heq, h2⟩; cases heq; exact ⟨m, h1, h2⟩

def Loop8 (body : Value → Value → Value → Value → Value → Value → Value → Value → World → (Value → Value → Value → Value → Value → Value → Value → Value → World → Prop) → Prop) (a0 a1 a2 a3 a4 a5 a6 a7 : Value) (w : World) : Prop :=
  LoopW (fun s w K => body (s.headD undef) (s.tail.headD undef) (s.tail.tail.headD undef) (s.tail.tail.tail.headD undef) (s.tail.tail.tail.tail.headD undef) (s.tail.tail.tail.tail.tail.headD undef) (s.tail.tail.tail.tail.tail.tail.headD undef) (s.tail.tail.tail.tail.tail.tail.tail.headD undef) w (fun a0 a1 a2 a3 a4 a5 a6 a7 w => K [a0, a1, a2, a3, a4, a5, a6, a7] w)) [a0, a1, a2, a3, a4, a5, a6, a7] w
theorem Loop8.intro {body : Value → Value → Value → Value → Value → Value → Value → Value → World → (Value → Value → Value → Value → Value → Value → Value → Value → World → Prop) → Prop} {a0 a1 a2 a3 a4 a5 a6 a7 : Value} {w : World} (I : Nat → Value → Value → Value → Value → Value → Value → Value → Value → World → Prop) (n : Nat) (h0 : I n a0 a1 a2 a3 a4 a5 a6 a7 w)
    (step : ∀ n a0 a1 a2 a3 a4 a5 a6 a7 w, I n a0 a1 a2 a3 a4 a5 a6 a7 w → body a0 a1 a2 a3 a4 a5 a6 a7 w (fun a0' a1' a2' a3' a4' a5' a6' a7' w' => ∃ m, m < n ∧ I m a0' a1' a2' a3' a4' a5' a6' a7' w')) : Loop8 body a0 a1 a2 a3 a4 a5 a6 a7 w := by
  refine ⟨⟨fun n s w => ∃ a0 a1 a2 a3 a4 a5 a6 a7, s = [a0, a1, a2, a3, a4, a5, a6, a7] ∧ I n a0 a1 a2 a3 a4 a5 a6 a7 w, ⟨n, _, _, _, _, _, _, _, _, rfl, h0⟩, ?_⟩⟩
  rintro n s w ⟨a0, a1, a2, a3, a4, a5, a6, a7, rfl, h⟩
  have h' := step n a0 a1 a2 a3 a4 a5 a6 a7 w h
  refine cast ?_ h'
  congr 1
  funext a0' a1' a2' a3' a4' a5' a6' a7' w'
  apply propext
  constructor
  · rintro ⟨m, h1, h2⟩; exact ⟨m, h1, _, _, _, _, _, _, _, _, rfl, h2⟩
  · rintro ⟨m, h1, _, _, _, _, _, _, _, _, heq, h2⟩; cases heq; exact ⟨m, h1, h2⟩

def Loop9 (body : Value → Value → Value → Value → Value → Value → Value → Value → Value → World → (Value → Value → Value → Value → Value → Value → Value → Value → Value → World → Prop) → Prop) (a0 a1 a2 a3 a4 a5 a6 a7 a8 : Value) (w : World) : Prop :=
  LoopW (fun s w K => body (s.headD undef) (s.tail.headD undef) (s.tail.tail.headD undef) (s.tail.tail.tail.headD undef) (s.tail.tail.tail.tail.headD undef) (s.tail.tail.tail.tail.tail.headD undef) (s.tail.tail.tail.tail.tail.tail.headD undef) (s.tail.tail.tail.tail.tail.tail.tail.headD undef) (s.tail.tail.tail.tail.tail.tail.tail.tail.headD undef) w (fun a0 a1 a2 a3 a4 a5 a6 a7 a8 w => K [a0, a1, a2, a3, a4, a5, a6, a7, a8] w)) [a0, a1, a2, a3, a4, a5, a6, a7, a8] w
theorem Loop9.intro {body : Value → Value → Value → Value → Value → Value → Value → Value → Value → World → (Value → Value → Value → Value → Value → Value → Value → Value → Value → World → Prop) → Prop} {a0 a1 a2 a3 a4 a5 a6 a7 a8 : Value} {w : World} (I : Nat → Value → Value → Value → Value → Value → Value → Value → Value → Value → World → Prop) (n : Nat) (h0 : I n a0 a1 a2 a3 a4 a5 a6 a7 a8 w)
    (step : ∀ n a0 a1 a2 a3 a4 a5 a6 a7 a8 w, I n a0 a1 a2 a3 a4 a5 a6 a7 a8 w → body a0 a1 a2 a3 a4 a5 a6 a7 a8 w (fun a0' a1' a2' a3' a4' a5' a6' a7' a8' w' => ∃ m, m < n ∧ I m a0' a1' a2' a3' a4' a5' a6' a7' a8' w')) : Loop9 body a0 a1 a2 a3 a4 a5 a6 a7 a8 w := by
  refine ⟨⟨fun n s w => ∃ a0 a1 a2 a3 a4 a5 a6 a7 a8, s = [a0, a1, a2, a3, a4, a5, a6, a7, a8] ∧ I n a0 a1 a2 a3 a4 a5 a6 a7 a8 w, ⟨n, _, _, _, _, _, _, _, _, _, rfl, h0⟩, ?_⟩⟩
  rintro n s w ⟨a0, a1, a2, a3, a4, a5, a6, a7, a8, rfl, h⟩
  have h' := step n a0 a1 a2 a3 a4 a5 a6 a7 a8 w h
  refine cast ?_ h'
  congr 1
  funext a0' a1' a2' a3' a4' a5' a6' a7' a8' w'
  apply propext
  constructor
  · rintro ⟨m, h1, h2⟩; exact ⟨m, h1, _, _, _, _, _, _, _, _, _, rfl, h2⟩
  · rintro ⟨m, h1, _, _, _, _, _, _, _, _, _, heq, h2⟩; cases heq; exact ⟨m, h1, h2⟩

/-- A place where ways meet: K is what stands behind it, B the ways that lead there. -/
def joinW {α : Type} (K : α) (B : α → Prop) : Prop := B K
end Go.V
