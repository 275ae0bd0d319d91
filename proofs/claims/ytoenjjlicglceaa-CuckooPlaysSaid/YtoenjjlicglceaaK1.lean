/-
  The logic of this claim's walks, part 1: 'ev' reckons out of a function's text what is to be shown of it; 'calls_ev' says that this is enough for its contract 'Ret'.
-/
import Derived.Test.YtoenjjlicglceaaK0
import Derived.Deep.LoopGhost
namespace Go.Fl

abbrev Env := Nat → Option Value
def upd (ρ : Env) (d : Nat) (v : Value) : Env := fun t => cond (Nat.beq t d) (some v) (ρ t)
def opv (ρ : Env) : Operand → Option Value
  | .tmp t => ρ t
  | .const v => some v
  | .global g => some (.pointer (some ⟨g, 0, none⟩))
  | .func f => some (.func (.func f) #[] #[])
def looks (ρ : Env) : List Operand → Option (List Value)
  | [] => some []
  | x :: xs => match opv ρ x with
    | some v => match looks ρ xs with
      | some vs => some (v :: vs)
      | none => none
    | none => none
def lookP (ρ : Env) : List (Nat × Operand) → Option (List (Nat × Value))
  | [] => some []
  | (i, x) :: xs => match opv ρ x with
    | some v => match lookP ρ xs with
      | some vs => some ((i, v) :: vs)
      | none => none
    | none => none
def lookO (ρ : Env) : Option Operand → Option (Option Value)
  | none => some none
  | some x => match opv ρ x with
    | some v => some (some v)
    | none => none
def looksT (ρ : Env) : List Nat → Option (List Value)
  | [] => some []
  | t :: ts => match ρ t with
    | some v => match looksT ρ ts with
      | some vs => some (v :: vs)
      | none => none
    | none => none
def mkEnv : List Nat → List Value → Env
  | s :: ss, v :: vs => upd (mkEnv ss vs) s v
  | _, _ => fun _ => none

structure Agree (n : Nat) (ρ : Env) (a : Act) : Prop where
  size : a.tmps.size = n
  defers : a.defers = []
  at_ : ∀ t v, ρ t = some v → a.tmps[t]? = some v

section
variable {P : Program} {n : Nat} {ρ : Env} {a : Act}

theorem beq_ne {t d : Nat} (e : ¬ t = d) : Nat.beq t d = false := by
  cases h : Nat.beq t d with
  | false => rfl
  | true => exact absurd (Nat.eq_of_beq_eq_true h) e

theorem Agree.eval (h : Agree n ρ a) {x : Operand} {v : Value} (hx : opv ρ x = some v) : a.eval x = v := by
  cases x with
  | tmp t => simp only [opv] at hx; simp [Act.eval, h.at_ _ _ hx]
  | const u => simp only [opv, Option.some.injEq] at hx; exact hx
  | global g => simp only [opv, Option.some.injEq] at hx; exact hx
  | func f => simp only [opv, Option.some.injEq] at hx; exact hx

theorem Agree.put (h : Agree n ρ a) {d : Nat} (hd : d < n) (v : Value) : Agree n (upd ρ d v) (a.put (some d) v) := by
  refine ⟨by simp [Act.put, h.size], h.defers, fun t u ht => ?_⟩
  simp only [upd] at ht
  by_cases e : t = d
  · subst e
    simp only [Nat.beq_refl, cond_true, Option.some.injEq] at ht
    subst ht
    simp [Act.put, h.size, hd]
  · have : Nat.beq t d = false := beq_ne e
    rw [this] at ht
    have := h.at_ t u ht
    simp [Act.put, Array.getElem?_setIfInBounds_ne (Ne.symm e), this]

theorem Agree.same (h : Agree n ρ a) {d : Nat} {v : Value} (hv : ρ d = some v) : Agree n (upd ρ d v) a := by
  refine ⟨h.size, h.defers, fun t u ht => ?_⟩
  simp only [upd] at ht
  by_cases e : t = d
  · subst e
    simp only [Nat.beq_refl, cond_true, Option.some.injEq] at ht
    subst ht
    exact h.at_ _ _ hv
  · have : Nat.beq t d = false := beq_ne e
    rw [this] at ht
    exact h.at_ t u ht

theorem Agree.looks (h : Agree n ρ a) : ∀ {xs : List Operand} {vs : List Value}, looks ρ xs = some vs → xs.map a.eval = vs
  | [], vs, hx => by simp only [Fl.looks, Option.some.injEq] at hx; subst hx; rfl
  | x :: xs, vs, hx => by
    simp only [Fl.looks] at hx
    split at hx
    · rename_i v hv
      split at hx
      · rename_i us hus
        simp only [Option.some.injEq] at hx
        subst hx
        rw [List.map_cons, h.eval hv, h.looks hus]
      · cases hx
    · cases hx

theorem Agree.lookP (h : Agree n ρ a) : ∀ {xs : List (Nat × Operand)} {vs : List (Nat × Value)}, lookP ρ xs = some vs → xs.map (fun (i, x) => (i, a.eval x)) = vs
  | [], vs, hx => by simp only [Fl.lookP, Option.some.injEq] at hx; subst hx; rfl
  | (i, x) :: xs, vs, hx => by
    simp only [Fl.lookP] at hx
    split at hx
    · rename_i v hv
      split at hx
      · rename_i us hus
        simp only [Option.some.injEq] at hx
        subst hx
        rw [List.map_cons, h.lookP hus, ← h.eval hv]
      · cases hx
    · cases hx

theorem Agree.lookO (h : Agree n ρ a) {x : Option Operand} {v : Option Value} (hx : lookO ρ x = some v) : x.map a.eval = v := by
  cases x with
  | none => simp only [Fl.lookO, Option.some.injEq] at hx; exact hx
  | some x =>
    simp only [Fl.lookO] at hx
    split at hx
    · rename_i u hu
      simp only [Option.some.injEq] at hx
      subst hx
      simp [h.eval hu]
    · cases hx

theorem looksT_sub : ∀ {ss : List Nat} {vs : List Value}, looksT ρ ss = some vs → ∀ t v, mkEnv ss vs t = some v → ρ t = some v
  | [], vs, _, t, v, ht => by simp [mkEnv] at ht
  | s :: ss, vs, h, t, v, ht => by
    simp only [looksT] at h
    split at h
    · rename_i u hu
      split at h
      · rename_i us hus
        simp only [Option.some.injEq] at h
        subst h
        simp only [mkEnv, upd] at ht
        by_cases e : t = s
        · subst e
          simp only [Nat.beq_refl, cond_true, Option.some.injEq] at ht
          subst ht; exact hu
        · have : Nat.beq t s = false := beq_ne e
          rw [this] at ht
          exact looksT_sub hus t v ht
      · cases h
    · cases h

theorem Agree.slots (h : Agree n ρ a) {ss : List Nat} {vs : List Value} (hs : looksT ρ ss = some vs) : Agree n (mkEnv ss vs) a :=
  ⟨h.size, h.defers, fun t v ht => h.at_ t v (looksT_sub hs t v ht)⟩

end

/-- A pure operation: the same value in every world. -/
structure PureSem (P : Program) (s : Sem Value) (K : Value → Prop) : Prop where
  ex : ∃ v, (∀ w, s.run P w = .ok v w) ∧ K v
structure ReadSem (P : Program) (s : Sem Value) (w : World) (K : Value → Prop) : Prop where
  ex : ∃ v, s.run P w = .ok v w ∧ K v
structure EffSem (P : Program) (s : Sem Value) (w : World) (K : Value → World → Prop) : Prop where
  ex : ∃ v w', s.run P w = .ok v w' ∧ K v w'
structure UnitSem (P : Program) (s : Sem Unit) (w : World) (K : World → Prop) : Prop where
  ex : ∃ w', s.run P w = .ok () w' ∧ K w'
/-- A test: both ways. -/
structure TestK (p : Prop) (A B : Prop) : Prop where
  yes : p → A
  no : ¬ p → B

/-- A function of the program that has a text. -/
def HasText (P : Program) (f : FuncId) : Prop := ∃ fn, P.funcs[f]? = some fn ∧ (fn.name == "runtime.NumGoroutine") = false ∧ fn.body.isNone = false

/-- THE CONTRACTS OF THIS CLAIM: called so in this world, the function returns, and K holds of what it returns and of the world behind it. (Of a function without a text: what the model answers in its stead.) -/
structure Ret (P : Program) (f : FuncId) (args : Array Value) (w : World) (K : Value → World → Prop) : Prop where
  up : Upon P K ((callFunc f args).run P w)

theorem Ret.mono {P : Program} {f : FuncId} {args : Array Value} {w : World} {K K' : Value → World → Prop} (h : Ret P f args w K) (hk : ∀ v w', K v w' → K' v w') : Ret P f args w K' := ⟨Upon.mono hk h.up⟩

theorem callFunc_run {P : Program} {g : FuncId} (h : HasText P g) (args : Array Value) (w : World) : (callFunc g args).run P w = .ok (.enter g args) w := by
  obtain ⟨fn, hf, hn, hb⟩ := h
  have hn' : ¬ fn.name = "runtime.NumGoroutine" := by simpa using hn
  have hb' : ¬ fn.body = none := by intro e; rw [e] at hb; cases hb
  simp [callFunc, hf, hn', hb', Sem.run, program]

theorem Ret.of_text {P : Program} {f : FuncId} {args : Array Value} {w : World} {K : Value → World → Prop} (ht : HasText P f)
    (h : Calls P f args w fun e w' => match e with | .returned v => K v w' | _ => False) : Ret P f args w K := by
  refine ⟨?_⟩; rw [callFunc_run ht]; exact h

theorem Ret.calls {P : Program} {f : FuncId} {args : Array Value} {w : World} {K : Value → World → Prop} (ht : HasText P f) (h : Ret P f args w K) :
    Calls P f args w fun e w' => ∃ v, e = .returned v ∧ K v w' := by
  have h := h.up
  rw [callFunc_run ht] at h
  exact Calls.mono h fun e w' he => by cases e <;> first | exact ⟨_, rfl, he⟩ | exact he.elim

theorem Ret.of_calls {P : Program} {f : FuncId} {args : Array Value} {w : World} {K : Value → World → Prop} (ht : HasText P f)
    (h : Calls P f args w fun e w' => ∃ v, e = .returned v ∧ K v w') : Ret P f args w K :=
  Ret.of_text ht (Calls.mono h fun e w' ⟨v, he, hk⟩ => by subst he; exact hk)

/-- Tests on whole numbers part the ways at once; every other binary operation is a step of its own. -/
def binV (P : Program) (op : BinOp) (T : TypeId) (x y : Operand) (a b : Value) (K : Value → Prop) : Prop :=
  match op, a, b with
  | .lss, .int .i64 i, .int .i64 j => TestK (i < j) (K (.bool true)) (K (.bool false))
  | .leq, .int .i64 i, .int .i64 j => TestK (i ≤ j) (K (.bool true)) (K (.bool false))
  | .gtr, .int .i64 i, .int .i64 j => TestK (j < i) (K (.bool true)) (K (.bool false))
  | .geq, .int .i64 i, .int .i64 j => TestK (j ≤ i) (K (.bool true)) (K (.bool false))
  | .eql, .int .i64 i, .int .i64 j => TestK (i = j) (K (.bool true)) (K (.bool false))
  | .neq, .int .i64 i, .int .i64 j => TestK (i = j) (K (.bool false)) (K (.bool true))
  | .lss, .int .u64 i, .int .u64 j => TestK (i < j) (K (.bool true)) (K (.bool false))
  | .leq, .int .u64 i, .int .u64 j => TestK (i ≤ j) (K (.bool true)) (K (.bool false))
  | .gtr, .int .u64 i, .int .u64 j => TestK (j < i) (K (.bool true)) (K (.bool false))
  | .geq, .int .u64 i, .int .u64 j => TestK (j ≤ i) (K (.bool true)) (K (.bool false))
  | .eql, .int .u64 i, .int .u64 j => TestK (i = j) (K (.bool true)) (K (.bool false))
  | .neq, .int .u64 i, .int .u64 j => TestK (i = j) (K (.bool false)) (K (.bool true))
  | op, a, b => PureSem P (do eqGuard op T x y a b; binOp op T a b) K

def evO (P : Program) (o : Oper) (ρ : Env) (w : World) (K : Value → World → Prop) : Prop :=
  match o.op with
  | .move x => match opv ρ x with | some v => K v w | none => False
  | .assign x => match opv ρ x with | some v => K v w | none => False
  | .pick c x y => match opv ρ c with
    | some (.bool true) => (match opv ρ x with | some v => K v w | none => False)
    | some (.bool false) => (match opv ρ y with | some v => K v w | none => False)
    | _ => False
  | .extract x i => match opv ρ x with
    | some (.tuple vs) => (match vs.toList[i]? with | some v => K v w | none => False)
    | _ => False
  | .nilCheck x => match opv ρ x with | some (.pointer (some p)) => K (.pointer (some p)) w | _ => False
  | .binOp op T x y _ => match opv ρ x, opv ρ y with
    | some v, some u => binV P op T x y v u fun r => K r w
    | _, _ => False
  | .unOp op _ x => match op, opv ρ x with
    | .not, some (.bool b) => K (.bool (!b)) w
    | _, some v => PureSem P (Op.unary op v) fun r => K r w
    | _, _ => False
  | .convert s d x => match opv ρ x with | some v => PureSem P (convert s d v) fun r => K r w | none => False
  | .fieldAddr T x f => match opv ρ x with | some v => PureSem P (Instr.fieldAt T v f) fun r => K r w | none => False
  | .field T x f => match opv ρ x with | some v => PureSem P (Instr.field T v f) fun r => K r w | none => False
  | .indexAddr T x i => match opv ρ x, opv ρ i with | some v, some u => PureSem P (Instr.indexAt T v u) fun r => K r w | _, _ => False
  | .index T x i => match opv ρ x, opv ρ i with | some v, some u => PureSem P (Instr.index T v u) fun r => K r w | _, _ => False
  | .build T ps => match lookP ρ ps.toList with | some l => PureSem P (Instr.build T l.toArray) fun r => K r w | none => False
  | .slice T x l h m => match opv ρ x, lookO ρ l, lookO ρ h, lookO ρ m with
    | some v, some l, some h, some m => PureSem P (Instr.sliceAt T v l h m) fun r => K r w
    | _, _, _, _ => False
  | .load T x => match opv ρ x with | some v => ReadSem P (Instr.loadAt T v) w fun r => K r w | none => False
  | .store T x y => match opv ρ x, opv ρ y with | some v, some u => UnitSem P (Instr.storeAt T v u) w fun w' => K undef w' | _, _ => False
  | .alloc T => EffSem P (Instr.alloc T true (.tuple #[])) w K
  | .box T x => match opv ρ x with | some v => EffSem P (Instr.box T v) w K | none => False
  | .buildSlice T k ps => match lookP ρ ps.toList with | some l => EffSem P (Instr.buildSlice T k l.toArray) w K | none => False
  | .makeSlice T x y => match opv ρ x, opv ρ y with | some v, some u => EffSem P (Instr.makeSlice T v u) w K | _, _ => False
  | .makeFunc fn xs ys => match looks ρ xs.toList, looks ρ ys.toList with | some vs, some us => EffSem P (Instr.makeFunc fn vs.toArray us.toArray) w K | _, _ => False
  | .makeMap T none => EffSem P (Instr.makeMap T none) w K
  | .lookup T x i ok => match opv ρ x, opv ρ i with | some v, some u => EffSem P (Instr.lookup T v u ok) w K | _, _ => False
  | .mapEntry T x i => match opv ρ x, opv ρ i with | some v, some u => EffSem P (Instr.mapEntry T v u) w K | _, _ => False
  | .entryStore T x i y => match opv ρ x, opv ρ i, opv ρ y with | some v, some u, some r => UnitSem P (Instr.entryStore T v u r) w fun w' => K undef w' | _, _, _ => False
  | .call ⟨.value f, args, _⟩ => match opv ρ f, looks ρ args.toList with
    | some (.func (.func g) first cap), some vs => Ret P g (first ++ vs.toArray ++ cap) w K
    | _, _ => False
  | .call ⟨.builtin b, args, ts⟩ => match b, looks ρ args.toList with
    | .len, some vs => PureSem P (Builtin.len_ ts o.type vs.toArray) fun r => K r w
    | .max, some vs => PureSem P (Builtin.max_ ts o.type vs.toArray) fun r => K r w
    | .min, some vs => PureSem P (Builtin.min_ ts o.type vs.toArray) fun r => K r w
    | .cap, some vs => EffSem P (Builtin.cap_ ts o.type vs.toArray) w K
    | .append, some vs => EffSem P (Builtin.append_ ts o.type vs.toArray) w K
    | .copy, some vs => EffSem P (Builtin.copy_ ts o.type vs.toArray) w K
    | .clear, some vs => EffSem P (Builtin.clear_ ts o.type vs.toArray) w K
    | .delete, some vs => EffSem P (Builtin.delete_ ts o.type vs.toArray) w K
    | _, _ => False
  | _ => False

def bcase (t : Bool) (A B : Prop) : Prop := match t with | true => A | false => B

/-- An operation that a guard may leave out. -/
def evG (ops : List Oper) (g : Option (Nat × Bool)) (ρ : Env) (A : Env → Prop) (B : Env → Prop) : Prop :=
  match g with
  | none => A ρ
  | some (i, want) => match ops[i]? with
    | none => False
    | some o => match o.dst with
      | none => False
      | some d => match ρ d with
        | none => False
        | some (.bool t) => bcase t (cond want (A (upd ρ d (.bool true))) (B (upd ρ d (.bool true)))) (cond want (B (upd ρ d (.bool false))) (A (upd ρ d (.bool false))))
        | some (.tuple _) => B ρ
        | some _ => False

/-- The operations of a region in the order of the text. (By the recursor itself: so the kernel meets at every step the term that the elaborator met.) -/
noncomputable def evL (P : Program) (ops : List Oper) (K : Env → World → Prop) (l : List Oper) : Env → World → Prop :=
  List.rec (motive := fun _ => Env → World → Prop) (fun ρ w => K ρ w)
    (fun o _ next ρ w => evG ops o.guard ρ
      (fun ρ => evO P o ρ w fun v w' => next (match o.dst with | some d => upd ρ d v | none => ρ) w')
      (fun ρ => next (match o.dst with | some d => upd ρ d undef | none => ρ) w)) l
theorem evL_cons (P : Program) (ops : List Oper) (K : Env → World → Prop) (o : Oper) (rest : List Oper) (ρ : Env) (w : World) : evL P ops K (o :: rest) ρ w = evG ops o.guard ρ
      (fun ρ => evO P o ρ w fun v w' => evL P ops K rest (match o.dst with | some d => upd ρ d v | none => ρ) w')
      (fun ρ => evL P ops K rest (match o.dst with | some d => upd ρ d undef | none => ρ) w) := rfl

/-- Operation r, read anew, yields what it yielded (what stands in its slot). -/
def reK (P : Program) (ops : List Oper) (ρ : Env) (w : World) (r : Nat) : Prop :=
  match ops[r]? with
  | some x => match x.op, x.dst with
    | .load T y, some d => evG ops x.guard ρ (fun ρ => match opv ρ y, ρ d with
      | some v, some u => ReadSem P (Instr.loadAt T v) w fun r => r = u
      | _, _ => False) (fun _ => True)
    | _, _ => False
  | none => False

def reL (P : Program) (ops : List Oper) (ρ : Env) (w : World) (A : Prop) : List Nat → Prop
  | [] => A
  | r :: rs => reK P ops ρ w r ∧ reL P ops ρ w A rs

/-- The operations of a region in an order that is given; behind some, loads that must read the same again. -/
noncomputable def evX (P : Program) (ops : List Oper) (K : Env → World → Prop) (c : List (Nat × List Nat)) : Env → World → Prop :=
  List.rec (motive := fun _ => Env → World → Prop) (fun ρ w => K ρ w)
    (fun p _ next ρ w => match ops[p.1]? with
      | none => False
      | some o => evG ops o.guard ρ
        (fun ρ => evO P o ρ w fun v w' => reL P ops ρ w' (next (match o.dst with | some d => upd ρ d v | none => ρ) w') p.2)
        (fun ρ => reL P ops ρ w (next (match o.dst with | some d => upd ρ d undef | none => ρ) w) p.2)) c
theorem evX_cons (P : Program) (ops : List Oper) (K : Env → World → Prop) (p : Nat × List Nat) (rest : List (Nat × List Nat)) (ρ : Env) (w : World) : evX P ops K (p :: rest) ρ w = match ops[p.1]? with
      | none => False
      | some o => evG ops o.guard ρ
        (fun ρ => evO P o ρ w fun v w' => reL P ops ρ w' (evX P ops K rest (match o.dst with | some d => upd ρ d v | none => ρ) w') p.2)
        (fun ρ => reL P ops ρ w (evX P ops K rest (match o.dst with | some d => upd ρ d undef | none => ρ) w) p.2) := rfl

structure drawK (P : Program) (n : Nat) (ops : Array Oper) (ρ : Env) (w : World) (K : Env → World → Prop) : Prop where
  ex : (∃ c, okOrder ops n c = true ∧ evX P ops.toList K c ρ w) ∨
    ∃ pre p q post, okOrder2 ops n pre p q post = true ∧ evX P ops.toList (fun ρ w => evX P ops.toList K (p :: q :: post) ρ w ∧ evX P ops.toList K (q :: p :: post) ρ w) pre ρ w

inductive Ex where
  | normal | exit (id : Nat) | ret

def seqQ (y : Env → World → Prop) (Q : Ex → Env → World → Prop) : Ex → Env → World → Prop
  | .normal, ρ, w => y ρ w
  | .exit i, ρ, w => Q (.exit i) ρ w
  | .ret, ρ, w => Q .ret ρ w
def blockQ (id : Nat) (Q : Ex → Env → World → Prop) : Ex → Env → World → Prop
  | .normal, ρ, w => Q .normal ρ w
  | .exit i, ρ, w => cond (Nat.beq i id) (Q .normal ρ w) (Q (.exit i) ρ w)
  | .ret, ρ, w => Q .ret ρ w
def CondK (v : Option Value) (A B : Prop) : Prop :=
  match v with
  | some (.bool true) => A
  | some (.bool false) => B
  | _ => False
/-- What a round hands on. -/
structure Again (ss : List Nat) (J : Nat → List Value → World → Prop) (k : Nat) (ρ : Env) (w : World) : Prop where
  ex : ∃ k' vs, k' < k ∧ looksT ρ ss = some vs ∧ J k' vs w
def loopQ (ss : List Nat) (J : Nat → List Value → World → Prop) (k : Nat) (Q : Ex → Env → World → Prop) : Ex → Env → World → Prop
  | .normal, ρ, w => Again ss J k ρ w
  | .exit i, ρ, w => Q (.exit i) ρ w
  | .ret, ρ, w => Q .ret ρ w
/-- What is known where a loop is left. -/
structure Leave (ss : List Nat) (E : List Value → World → Prop) (ρ : Env) (w : World) : Prop where
  ex : ∃ vs, looksT ρ ss = some vs ∧ E vs w
def loopX (ss : List Nat) (J : Nat → List Value → World → Prop) (k : Nat) (id : Nat) (st : List Nat) (E : List Value → World → Prop) (Q : Ex → Env → World → Prop) : Ex → Env → World → Prop
  | .normal, ρ, w => Again ss J k ρ w
  | .exit i, ρ, w => cond (Nat.beq i id) (Leave st E ρ w) (Q (.exit i) ρ w)
  | .ret, ρ, w => Q .ret ρ w
structure LoopK (body : Env → World → (Ex → Env → World → Prop) → Prop) (ρ : Env) (w : World) (Q : Ex → Env → World → Prop) : Prop where
  ex : ∃ (ss : List Nat) (J : Nat → List Value → World → Prop), (∃ k vs, looksT ρ ss = some vs ∧ J k vs w) ∧
    ((∀ k vs w, J k vs w → body (mkEnv ss vs) w (loopQ ss J k Q)) ∨
      ∃ (id : Nat) (st : List Nat) (E : List Value → World → Prop), (∀ k vs w, J k vs w → body (mkEnv ss vs) w (loopX ss J k id st E Q)) ∧ ∀ vs w, E vs w → Q (.exit id) (mkEnv st vs) w)

noncomputable def ev (P : Program) (n : Nat) (xs : List Nat) (c : Code) : Env → World → (Ex → Env → World → Prop) → Prop :=
  Code.rec (motive := fun _ => Env → World → (Ex → Env → World → Prop) → Prop)
    (skip := fun ρ w Q => Q .normal ρ w)
    (region := fun id ops draw ρ w Q => match draw with
      | false => evL P ops.toList (Q .normal) ops.toList ρ w
      | true => cond (xs.elem id) (drawK P n ops ρ w.drew (Q .normal)) (evL P ops.toList (Q .normal) ops.toList ρ w.drew))
    (seq := fun _ _ x y ρ w Q => x ρ w (seqQ (fun ρ w => y ρ w Q) Q))
    (cond := fun c _ _ x y ρ w Q => CondK (opv ρ c) (x ρ w Q) (y ρ w Q))
    (block := fun id _ x ρ w Q => x ρ w (blockQ id Q))
    (loop := fun _ x ρ w Q => LoopK x ρ w Q)
    (rangeFunc := fun _ _ _ _ _ _ _ _ _ => False)
    (exit := fun id ρ w Q => Q (.exit id) ρ w)
    (scope := fun _ _ _ _ _ => False)
    (label := fun _ ρ w Q => Q .normal ρ w)
    (goto := fun _ _ _ _ => False)
    (ret := fun ρ w Q => Q .ret ρ w)
    (refuse := fun _ _ _ _ => False) c

/-- The check of a text: slots that are there, regions that draw their order 'free'. -/
def okCode (n : Nat) (xs : List Nat) : Code → Bool
  | .region id ops draw => (ops.toList.all fun o => match o.dst with | some d => Nat.blt d n | none => true) && (!draw || xs.elem id || okOrder ops n (plain (List.range ops.size)))
  | .seq a b => okCode n xs a && okCode n xs b
  | .cond _ x y => okCode n xs x && okCode n xs y
  | .block _ c => okCode n xs c
  | .loop c => okCode n xs c
  | _ => true

section
variable {P : Program} {n : Nat}

/-- What an operation must show, as part 0 has it. -/
def StepG (P : Program) (o : Oper) (a : Act) (w : World) (K : Value → World → Prop) : Prop :=
  match cls o.op with
  | .pure => ∃ v, (∀ w', (execOp a.eval o).run P w' = .ok (.value v) w') ∧ K v w
  | .read => ∃ v, (execOp a.eval o).run P w = .ok (.value v) w ∧ K v w
  | .eff => Upon P K ((execOp a.eval o).run P w)

theorem StepG.mono {o : Oper} {a : Act} {w : World} {K K' : Value → World → Prop} (h : StepG P o a w K) (hk : ∀ v w, K v w → K' v w) : StepG P o a w K' := by
  unfold StepG at *
  split at h
  · obtain ⟨v, h1, h2⟩ := h; exact ⟨v, h1, hk _ _ h2⟩
  · obtain ⟨v, h1, h2⟩ := h; exact ⟨v, h1, hk _ _ h2⟩
  · exact Upon.mono hk h

theorem StepG.eff {o : Oper} {a : Act} {w : World} {K : Value → World → Prop} (hc : cls o.op = .eff) (h : Upon P K ((execOp a.eval o).run P w)) : StepG P o a w K := by
  unfold StepG; rw [hc]; exact h

theorem run_value (s : Sem Value) (w : World) : (do pure (Next.value (← s)) : Sem Next).run P w = (s.run P w).andThen fun v w' => .ok (.value v) w' := by
  simp

theorem binV_pure {op : BinOp} {T : TypeId} {x y : Operand} {v u : Value} {K : Value → Prop} (h : binV P op T x y v u K) :
    PureSem P (do eqGuard op T x y v u; binOp op T v u) K := by
  unfold binV at h
  split at h <;> first | exact h | skip
  all_goals rename_i i j
  · by_cases c : i < j
    · exact ⟨_, fun w => by simp [eqGuard, binOp, Op.intCmp, c], h.yes c⟩
    · exact ⟨_, fun w => by simp [eqGuard, binOp, Op.intCmp, c], h.no c⟩
  · by_cases c : i ≤ j
    · exact ⟨_, fun w => by simp [eqGuard, binOp, Op.intCmp, c], h.yes c⟩
    · exact ⟨_, fun w => by simp [eqGuard, binOp, Op.intCmp, c], h.no c⟩
  · by_cases c : j < i
    · exact ⟨_, fun w => by simp [eqGuard, binOp, Op.intCmp, c], h.yes c⟩
    · exact ⟨_, fun w => by simp [eqGuard, binOp, Op.intCmp, c], h.no c⟩
  · by_cases c : j ≤ i
    · exact ⟨_, fun w => by simp [eqGuard, binOp, Op.intCmp, c], h.yes c⟩
    · exact ⟨_, fun w => by simp [eqGuard, binOp, Op.intCmp, c], h.no c⟩
  · by_cases c : i = j
    · exact ⟨_, fun w => by simp [eqGuard, binOp, Op.intCmp, c], h.yes c⟩
    · exact ⟨_, fun w => by simp [eqGuard, binOp, Op.intCmp, c], h.no c⟩
  · by_cases c : i = j
    · exact ⟨_, fun w => by simp [eqGuard, binOp, Op.intCmp, c], h.yes c⟩
    · exact ⟨_, fun w => by simp [eqGuard, binOp, Op.intCmp, c], h.no c⟩
  · by_cases c : i < j
    · exact ⟨_, fun w => by simp [eqGuard, binOp, Op.intCmp, c], h.yes c⟩
    · exact ⟨_, fun w => by simp [eqGuard, binOp, Op.intCmp, c], h.no c⟩
  · by_cases c : i ≤ j
    · exact ⟨_, fun w => by simp [eqGuard, binOp, Op.intCmp, c], h.yes c⟩
    · exact ⟨_, fun w => by simp [eqGuard, binOp, Op.intCmp, c], h.no c⟩
  · by_cases c : j < i
    · exact ⟨_, fun w => by simp [eqGuard, binOp, Op.intCmp, c], h.yes c⟩
    · exact ⟨_, fun w => by simp [eqGuard, binOp, Op.intCmp, c], h.no c⟩
  · by_cases c : j ≤ i
    · exact ⟨_, fun w => by simp [eqGuard, binOp, Op.intCmp, c], h.yes c⟩
    · exact ⟨_, fun w => by simp [eqGuard, binOp, Op.intCmp, c], h.no c⟩
  · by_cases c : i = j
    · exact ⟨_, fun w => by simp [eqGuard, binOp, Op.intCmp, c], h.yes c⟩
    · exact ⟨_, fun w => by simp [eqGuard, binOp, Op.intCmp, c], h.no c⟩
  · by_cases c : i = j
    · exact ⟨_, fun w => by simp [eqGuard, binOp, Op.intCmp, c], h.yes c⟩
    · exact ⟨_, fun w => by simp [eqGuard, binOp, Op.intCmp, c], h.no c⟩

theorem evO_step {o : Oper} {ρ : Env} {w : World} {K : Value → World → Prop} (h : evO P o ρ w K) {a : Act} (ha : Agree n ρ a) : StepG P o a w K := by
  obtain ⟨dst, op, type, pos, after, guard⟩ := o
  unfold evO at h
  simp only at h
  split at h
  · split at h
    · rename_i hx; exact ⟨_, fun w' => by simp only [execOp, ha.eval hx]; rfl, h⟩
    · exact h.elim
  · split at h
    · rename_i hx; exact ⟨_, fun w' => by simp only [execOp, ha.eval hx]; rfl, h⟩
    · exact h.elim
  · split at h
    · rename_i hc
      split at h
      · rename_i hx; exact ⟨_, fun w' => by simp [execOp, ha.eval hx, ha.eval hc, asBool], h⟩
      · exact h.elim
    · rename_i hc
      split at h
      · rename_i hx; exact ⟨_, fun w' => by simp [execOp, ha.eval hx, ha.eval hc, asBool], h⟩
      · exact h.elim
    · exact h.elim
  · split at h
    · rename_i hx
      split at h
      · rename_i hv
        refine ⟨_, fun w' => ?_, h⟩
        rw [Array.getElem?_toList] at hv
        simp [execOp, ha.eval hx, Instr.extract, hv]
      · exact h.elim
    · exact h.elim
  · split at h
    · rename_i hx; exact ⟨_, fun w' => by simp [execOp, ha.eval hx], h⟩
    · exact h.elim
  · split at h
    · rename_i hx hy
      obtain ⟨v, hv, hk⟩ := (binV_pure h).ex
      exact ⟨v, fun w' => by simp only [execOp, ha.eval hx, ha.eval hy]; rw [run_value, hv]; rfl, hk⟩
    · exact h.elim
  · split at h
    · rename_i hx; exact ⟨_, fun w' => by simp [execOp, ha.eval hx, Op.unary], h⟩
    · rename_i hx
      obtain ⟨v, hv, hk⟩ := h.ex
      exact ⟨v, fun w' => by simp only [execOp, ha.eval hx]; rw [run_value, hv]; rfl, hk⟩
    · exact h.elim
  · split at h
    · rename_i hx
      obtain ⟨v, hv, hk⟩ := h.ex
      exact ⟨v, fun w' => by simp only [execOp, ha.eval hx]; rw [run_value, hv]; rfl, hk⟩
    · exact h.elim
  · split at h
    · rename_i hx
      obtain ⟨v, hv, hk⟩ := h.ex
      exact ⟨v, fun w' => by simp only [execOp, ha.eval hx]; rw [run_value, hv]; rfl, hk⟩
    · exact h.elim
  · split at h
    · rename_i hx
      obtain ⟨v, hv, hk⟩ := h.ex
      exact ⟨v, fun w' => by simp only [execOp, ha.eval hx]; rw [run_value, hv]; rfl, hk⟩
    · exact h.elim
  · split at h
    · rename_i hx hy
      obtain ⟨v, hv, hk⟩ := h.ex
      exact ⟨v, fun w' => by simp only [execOp, ha.eval hx, ha.eval hy]; rw [run_value, hv]; rfl, hk⟩
    · exact h.elim
  · split at h
    · rename_i hx hy
      obtain ⟨v, hv, hk⟩ := h.ex
      exact ⟨v, fun w' => by simp only [execOp, ha.eval hx, ha.eval hy]; rw [run_value, hv]; rfl, hk⟩
    · exact h.elim
  · split at h
    · rename_i ps _ l hx
      obtain ⟨v, hv, hk⟩ := h.ex
      have e : (Array.map (fun x => (x.1, a.eval x.2)) ps) = l.toArray := by
        have := ha.lookP hx
        rw [← this, ← Array.toList_map]
      exact ⟨v, fun w' => by simp only [execOp, e]; rw [run_value, hv]; rfl, hk⟩
    · exact h.elim
  · split at h
    · rename_i hx hl hh hm
      obtain ⟨v, hv, hk⟩ := h.ex
      exact ⟨v, fun w' => by simp only [execOp, ha.eval hx, ha.lookO hl, ha.lookO hh, ha.lookO hm]; rw [run_value, hv]; rfl, hk⟩
    · exact h.elim
  · split at h
    · rename_i hx
      obtain ⟨v, hv, hk⟩ := h.ex
      exact ⟨v, by simp only [execOp, ha.eval hx]; rw [run_value, hv]; rfl, hk⟩
    · exact h.elim
  · split at h
    · rename_i hx hy
      obtain ⟨w', hv, hk⟩ := h.ex
      refine StepG.eff rfl ?_
      simp only [execOp, ha.eval hx, ha.eval hy, Sem.run_bind, hv, Result.andThen_ok]
      exact hk
    · exact h.elim
  · obtain ⟨v, w', hv, hk⟩ := h.ex
    refine StepG.eff rfl ?_
    simp only [execOp]; rw [run_value, hv]; exact hk
  · split at h
    · rename_i hx
      obtain ⟨v, w', hv, hk⟩ := h.ex
      refine StepG.eff rfl ?_
      simp only [execOp, ha.eval hx]; rw [run_value, hv]; exact hk
    · exact h.elim
  · split at h
    · rename_i ps _ l hx
      obtain ⟨v, w', hv, hk⟩ := h.ex
      have e : (Array.map (fun x => (x.1, a.eval x.2)) ps) = l.toArray := by
        have := ha.lookP hx
        rw [← this, ← Array.toList_map]
      refine StepG.eff rfl ?_
      simp only [execOp, e]; rw [run_value, hv]; exact hk
    · exact h.elim
  · split at h
    · rename_i hx hy
      obtain ⟨v, w', hv, hk⟩ := h.ex
      refine StepG.eff rfl ?_
      simp only [execOp, ha.eval hx, ha.eval hy]; rw [run_value, hv]; exact hk
    · exact h.elim
  · split at h
    · rename_i xs ys _ _ vs us hx hy
      obtain ⟨v, w', hv, hk⟩ := h.ex
      have e1 : xs.map a.eval = vs.toArray := by rw [← ha.looks hx, ← Array.toList_map]
      have e2 : ys.map a.eval = us.toArray := by rw [← ha.looks hy, ← Array.toList_map]
      refine StepG.eff rfl ?_
      simp only [execOp, e1, e2]; rw [run_value, hv]; exact hk
    · exact h.elim
  · obtain ⟨v, w', hv, hk⟩ := h.ex
    refine StepG.eff rfl ?_
    simp only [execOp, Option.map_none]; rw [run_value, hv]; exact hk
  · split at h
    · rename_i hx hy
      obtain ⟨v, w', hv, hk⟩ := h.ex
      refine StepG.eff rfl ?_
      simp only [execOp, ha.eval hx, ha.eval hy]; rw [run_value, hv]; exact hk
    · exact h.elim
  · split at h
    · rename_i hx hy
      obtain ⟨v, w', hv, hk⟩ := h.ex
      refine StepG.eff rfl ?_
      simp only [execOp, ha.eval hx, ha.eval hy]; rw [run_value, hv]; exact hk
    · exact h.elim
  · split at h
    · rename_i hx hy hz
      obtain ⟨w', hv, hk⟩ := h.ex
      refine StepG.eff rfl ?_
      simp only [execOp, ha.eval hx, ha.eval hy, ha.eval hz, Sem.run_bind, hv, Result.andThen_ok]
      exact hk
    · exact h.elim
  · split at h
    · rename_i f args ts _ _ g first cap vs hx hy
      have e1 : args.map a.eval = vs.toArray := by rw [← ha.looks hy, ← Array.toList_map]
      refine StepG.eff rfl ?_
      simp only [execOp, resolve, e1, ha.eval hx, Deferred.ofValue, Sem.run_bind, Sem.run, invoke, pure, Result.andThen_ok]
      exact h.up
    · exact h.elim
  · split at h
    · rename_i args ts _ _ vs hy
      obtain ⟨v, hv, hk⟩ := h.ex
      have e1 : args.map a.eval = vs.toArray := by rw [← ha.looks hy, ← Array.toList_map]
      refine ⟨v, fun w' => ?_, hk⟩
      simp only [execOp, resolve, e1, Sem.run_bind, Sem.run, invoke, builtin, pure, Result.andThen_ok]
      rw [hv]; rfl
    · rename_i args ts _ _ vs hy
      obtain ⟨v, hv, hk⟩ := h.ex
      have e1 : args.map a.eval = vs.toArray := by rw [← ha.looks hy, ← Array.toList_map]
      refine ⟨v, fun w' => ?_, hk⟩
      simp only [execOp, resolve, e1, Sem.run_bind, Sem.run, invoke, builtin, pure, Result.andThen_ok]
      rw [hv]; rfl
    · rename_i args ts _ _ vs hy
      obtain ⟨v, hv, hk⟩ := h.ex
      have e1 : args.map a.eval = vs.toArray := by rw [← ha.looks hy, ← Array.toList_map]
      refine ⟨v, fun w' => ?_, hk⟩
      simp only [execOp, resolve, e1, Sem.run_bind, Sem.run, invoke, builtin, pure, Result.andThen_ok]
      rw [hv]; rfl
    all_goals first | exact h.elim | skip
    all_goals
      rename_i args ts _ _ vs hy
      obtain ⟨v, w', hv, hk⟩ := h.ex
      have e1 : args.map a.eval = vs.toArray := by rw [← ha.looks hy, ← Array.toList_map]
      refine StepG.eff rfl ?_
      simp only [execOp, resolve, e1, Sem.run_bind, Sem.run, invoke, builtin, pure, Result.andThen_ok]
      rw [hv]; exact hk
  · exact h.elim

theorem evG_G {ops : Array Oper} {o : Oper} {ρ : Env} {w : World} {A B : Env → Prop} {K : Value → World → Prop} (h : evG ops.toList o.guard ρ A B) {a : Act} (ha : Agree n ρ a)
    (hA : ∀ ρ', Agree n ρ' a → A ρ' → StepG P o a w K) (hB : ∀ ρ', Agree n ρ' a → B ρ' → K undef w) : G P ops o a w K := by
  unfold evG at h
  unfold G
  split at h
  · rename_i hg
    rw [if_pos (by simp [Region.wanted, hg])]
    exact hA _ ha h
  · rename_i i want hg
    have wd : ∀ d v, (ops[i]?).bind (·.dst) = some d → ρ d = some v → Region.wanted o (yielded ops a.tmps) = ((match v with | .bool b => some b | _ => none) == some want) := by
      intro d v hd hv
      simp only [Region.wanted, hg, yielded, hd, Option.bind_some, ha.at_ d v hv]
      cases v <;> rfl
    split at h
    · exact h.elim
    · rename_i oi hoi
      rw [Array.getElem?_toList] at hoi
      split at h
      · exact h.elim
      · rename_i d hd
        have hb : (ops[i]?).bind (·.dst) = some d := by rw [hoi]; exact hd
        split at h
        · exact h.elim
        · rename_i t hv
          rw [wd d _ hb hv]
          cases t <;> cases want
          · rw [if_pos (by simp)]; exact hA _ (ha.same hv) h
          · rw [if_neg (by simp)]; exact hB _ (ha.same hv) h
          · rw [if_neg (by simp)]; exact hB _ (ha.same hv) h
          · rw [if_pos (by simp)]; exact hA _ (ha.same hv) h
        · rename_i hv
          rw [wd d _ hb hv]
          rw [if_neg (by simp)]; exact hB _ ha h
        · exact h.elim

theorem evL_gen {ops : Array Oper} {K : Env → World → Prop} {K' : Act → World → Prop} (hK : ∀ ρ w a, Agree n ρ a → K ρ w → K' a w)
    (hd : ops.toList.all (fun o => match o.dst with | some d => Nat.blt d n | none => true) = true) :
    ∀ (l : List Oper) (k : Nat), (∀ j, l[j]? = ops[k + j]?) → ∀ (ρ : Env) (w : World) (a : Act), Agree n ρ a → evL P ops.toList K l ρ w → gen P ops K' (plain (List.range' k l.length)) a w
  | [], _, _, _, _, _, ha, h => hK _ _ _ ha h
  | o :: l, k, hl, ρ, w, a, ha, h => by
    have h0 : ops[k]? = some o := by simpa using (hl 0).symm
    have hl' : ∀ j, l[j]? = ops[k + 1 + j]? := fun j => by have := hl (j + 1); simpa [Nat.add_assoc, Nat.add_comm 1 j] using this
    have hdo : ∀ d, o.dst = some d → d < n := by
      intro d hdd
      have hm : o ∈ ops.toList := by
        obtain ⟨hlt, he⟩ := Array.getElem?_eq_some_iff.1 h0
        rw [← he]; simp
      have := List.all_eq_true.1 hd o hm
      rw [hdd] at this
      simpa [Nat.blt_eq] using this
    rw [evL_cons] at h
    simp only [List.length_cons, List.range'_succ, plain, List.map_cons, gen, h0]
    simp only [List.not_mem_nil, false_imp_iff, implies_true, true_and]
    refine evG_G h ha (fun ρ' ha' hA => ?_) (fun ρ' ha' hB => ?_)
    · refine (evO_step hA ha').mono fun v w' hv => ?_
      refine evL_gen hK hd l (k + 1) hl' _ _ _ ?_ hv
      cases ho : o.dst with
      | none => exact ha'
      | some d => exact ha'.put (hdo d ho) v
    · refine evL_gen hK hd l (k + 1) hl' _ _ _ ?_ hB
      cases ho : o.dst with
      | none => exact ha'
      | some d => exact ha'.put (hdo d ho) undef

theorem evG_wanted {ops : Array Oper} {o : Oper} {ρ : Env} {A B : Env → Prop} (h : evG ops.toList o.guard ρ A B) {a : Act} (ha : Agree n ρ a) (hw : Region.wanted o (yielded ops a.tmps) = true) :
    ∃ ρ', Agree n ρ' a ∧ A ρ' := by
  unfold evG at h
  split at h
  · exact ⟨ρ, ha, h⟩
  · rename_i i want hg
    have wd : ∀ d v, (ops[i]?).bind (·.dst) = some d → ρ d = some v → Region.wanted o (yielded ops a.tmps) = ((match v with | .bool b => some b | _ => none) == some want) := by
      intro d v hd hv
      simp only [Region.wanted, hg, yielded, hd, Option.bind_some, ha.at_ d v hv]
      cases v <;> rfl
    split at h
    · exact h.elim
    · rename_i oi hoi
      rw [Array.getElem?_toList] at hoi
      split at h
      · exact h.elim
      · rename_i d hd
        have hb : (ops[i]?).bind (·.dst) = some d := by rw [hoi]; exact hd
        split at h
        · exact h.elim
        · rename_i t hv
          rw [wd d _ hb hv] at hw
          cases t <;> cases want
          · exact ⟨_, ha.same hv, h⟩
          · simp at hw
          · simp at hw
          · exact ⟨_, ha.same hv, h⟩
        · rename_i hv
          rw [wd d _ hb hv] at hw
          simp at hw
        · exact h.elim

theorem reK_Re {ops : Array Oper} {ρ : Env} {w : World} {r : Nat} (h : reK P ops.toList ρ w r) {a : Act} (ha : Agree n ρ a) : Re P ops r a w := by
  intro x d hx hd hw
  unfold reK at h
  rw [Array.getElem?_toList, hx] at h
  simp only at h
  split at h
  · rename_i T y d' hop hdd
    rw [hd] at hdd; cases hdd
    obtain ⟨ρ', ha', h⟩ := evG_wanted h ha hw
    split at h
    · rename_i v u hv hu
      obtain ⟨r, hr, rfl⟩ := h.ex
      have : a.tmps.getD d undef = r := by simp [ha'.at_ _ _ hu]
      rw [this]
      unfold execOp
      rw [hop]
      simp only [ha'.eval hv]
      rw [run_value, hr]; rfl
    · exact h.elim
  · exact h.elim

theorem reL_all {ops : Array Oper} {ρ : Env} {w : World} {A : Prop} {a : Act} (ha : Agree n ρ a) : ∀ {rs : List Nat}, reL P ops.toList ρ w A rs → (∀ r ∈ rs, Re P ops r a w) ∧ A
  | [], h => ⟨by simp, h⟩
  | r :: rs, h => by
    obtain ⟨h1, h2⟩ := h
    obtain ⟨h3, h4⟩ := reL_all ha h2
    refine ⟨fun k hk => ?_, h4⟩
    rcases List.mem_cons.1 hk with rfl | hk
    · exact reK_Re h1 ha
    · exact h3 k hk

theorem evX_gen {ops : Array Oper} {K : Env → World → Prop} {K' : Act → World → Prop} (hK : ∀ ρ w a, Agree n ρ a → K ρ w → K' a w)
    (hd : ops.toList.all (fun o => match o.dst with | some d => Nat.blt d n | none => true) = true) :
    ∀ (c : List (Nat × List Nat)) (ρ : Env) (w : World) (a : Act), Agree n ρ a → evX P ops.toList K c ρ w → gen P ops K' c a w
  | [], _, _, _, ha, h => hK _ _ _ ha h
  | (i, rs) :: c, ρ, w, a, ha, h => by
    rw [evX_cons] at h
    split at h
    · exact h.elim
    · rename_i o ho
      rw [Array.getElem?_toList] at ho
      have hdo : ∀ d, o.dst = some d → d < n := by
        intro d hdd
        have hm : o ∈ ops.toList := by
          obtain ⟨hlt, he⟩ := Array.getElem?_eq_some_iff.1 ho
          rw [← he]; simp
        have := List.all_eq_true.1 hd o hm
        rw [hdd] at this
        simpa [Nat.blt_eq] using this
      simp only [gen, ho]
      refine evG_G h ha (fun ρ' ha' hA => ?_) (fun ρ' ha' hB => ?_)
      · refine (evO_step hA ha').mono fun v w' hv => ?_
        obtain ⟨h1, h2⟩ := reL_all ha' hv
        refine ⟨h1, evX_gen hK hd c _ _ _ ?_ h2⟩
        cases ho : o.dst with
        | none => exact ha'
        | some d => exact ha'.put (hdo d ho) v
      · obtain ⟨h1, h2⟩ := reL_all ha' hB
        refine ⟨h1, evX_gen hK hd c _ _ _ ?_ h2⟩
        cases ho : o.dst with
        | none => exact ha'
        | some d => exact ha'.put (hdo d ho) undef

/-- What is shown of an exit. -/
def Lift (n : Nat) (Q : Ex → Env → World → Prop) : Exit → Act → World → Prop
  | .normal, a, w => ∃ ρ, Agree n ρ a ∧ Q .normal ρ w
  | .exit i, a, w => ∃ ρ, Agree n ρ a ∧ Q (.exit i) ρ w
  | .ret, a, w => ∃ ρ, Agree n ρ a ∧ Q .ret ρ w
  | _, _, _ => False

theorem ev_sound (hm : P.follows .mixedOrders = true) {xs : List Nat} : ∀ (c : Code) (ρ : Env) (w : World) (Q : Ex → Env → World → Prop) (a : Act), okCode n xs c = true → Agree n ρ a → ev P n xs c ρ w Q → c.wp P (Lift n Q) a w
  | .skip, ρ, w, Q, a, _, ha, h => wp_skip ⟨ρ, ha, h⟩
  | .label _, ρ, w, Q, a, _, ha, h => wp_label ⟨ρ, ha, h⟩
  | .region _ ops false, ρ, w, Q, a, hok, ha, h => by
    simp only [okCode, Bool.not_false, Bool.true_or, Bool.and_true] at hok
    refine wp_region_plain ?_
    rw [List.range_eq_range', ← Array.length_toList]
    exact evL_gen (K' := fun a w => Lift n Q .normal a w) (fun ρ w a ha hq => ⟨ρ, ha, hq⟩) hok ops.toList 0 (by simp) ρ w a ha h
  | .region id ops true, ρ, w, Q, a, hok, ha, h => by
    simp only [okCode, Bool.not_true, Bool.false_or, Bool.and_eq_true, Bool.or_eq_true] at hok
    change cond (xs.elem id) _ _ at h
    cases hx : xs.elem id with
    | true =>
      rw [hx, cond_true] at h
      rcases h.ex with ⟨c, hc, h⟩ | ⟨pre, p, q, post, hc, h⟩
      · exact wp_region_order hm hc ha.size (evX_gen (K' := fun a w => Lift n Q .normal a w) (fun ρ w a ha hq => ⟨ρ, ha, hq⟩) hok.1 c ρ w.drew a ha h)
      · exact wp_region_order2 hm hc ha.size (evX_gen (K' := fun a w => gen P ops (Lift n Q .normal) (p :: q :: post) a w ∧ gen P ops (Lift n Q .normal) (q :: p :: post) a w)
          (fun ρ w a ha hq => ⟨evX_gen (K' := fun a w => Lift n Q .normal a w) (fun ρ w a ha hq => ⟨ρ, ha, hq⟩) hok.1 _ ρ w a ha hq.1, evX_gen (K' := fun a w => Lift n Q .normal a w) (fun ρ w a ha hq => ⟨ρ, ha, hq⟩) hok.1 _ ρ w a ha hq.2⟩) hok.1 pre ρ w.drew a ha h)
    | false =>
      rw [hx, cond_false] at h
      have hc := hok.2.resolve_left (by rw [hx]; simp)
      refine wp_region_order hm hc ha.size ?_
      rw [List.range_eq_range', ← Array.length_toList]
      exact evL_gen (K' := fun a w => Lift n Q .normal a w) (fun ρ w a ha hq => ⟨ρ, ha, hq⟩) hok.1 ops.toList 0 (by simp) ρ w.drew a ha h
  | .seq x y, ρ, w, Q, a, hok, ha, h => by
    simp only [okCode, Bool.and_eq_true] at hok
    refine wp_seq (wp_mono (ev_sound hm x ρ w _ a hok.1 ha h) fun e a' w' hq => ?_)
    cases e with
    | normal => obtain ⟨ρ', ha', hq'⟩ := hq; exact ev_sound hm y ρ' w' Q a' hok.2 ha' hq'
    | exit i => exact hq
    | ret => exact hq
    | goto l => exact hq.elim
    | panic c => exact hq.elim
    | outgrown => exact hq.elim
  | .cond c x y, ρ, w, Q, a, hok, ha, h => by
    simp only [okCode, Bool.and_eq_true] at hok
    change CondK (opv ρ c) (ev P n xs x ρ w Q) (ev P n xs y ρ w Q) at h
    simp only [CondK] at h
    split at h
    · rename_i hc; exact wp_cond_true (ha.eval hc) (ev_sound hm x ρ w Q a hok.1 ha h)
    · rename_i hc; exact wp_cond_false (ha.eval hc) (ev_sound hm y ρ w Q a hok.2 ha h)
    · exact h.elim
  | .block id c, ρ, w, Q, a, hok, ha, h => by
    simp only [okCode] at hok
    refine wp_block (wp_mono (ev_sound hm c ρ w _ a hok ha h) fun e a' w' hq => ?_)
    cases e with
    | normal => exact hq
    | exit i =>
      obtain ⟨ρ', ha', hq'⟩ := hq
      simp only [blockQ] at hq'
      simp only [Exit.inBlock]
      by_cases e : i = id
      · subst e
        rw [Nat.beq_refl] at hq'
        rw [if_pos rfl]
        exact ⟨ρ', ha', hq'⟩
      · rw [beq_ne e] at hq'
        rw [if_neg e]
        exact ⟨ρ', ha', hq'⟩
    | ret => exact hq
    | goto l => exact hq.elim
    | panic c => exact hq.elim
    | outgrown => exact hq.elim
  | .loop c, ρ, w, Q, a, hok, ha, h => by
    simp only [okCode] at hok
    obtain ⟨ss, J, ⟨k, vs, hs, hJ⟩, hr⟩ := LoopK.ex h
    refine wp_loop_ghost (fun k a w => ∃ vs, J k vs w ∧ Agree n (mkEnv ss vs) a) k ⟨vs, hJ, ha.slots hs⟩ fun k a w ⟨vs, hJ, ha⟩ => ?_
    rcases hr with hr | ⟨id, st, E, hr, hE⟩
    · refine wp_mono (ev_sound hm c _ w _ a hok ha (hr k vs w hJ)) fun e a' w' hq => ?_
      cases e with
      | normal =>
        obtain ⟨ρ', ha', ⟨k', vs', hlt, hs', hJ'⟩⟩ := hq
        exact ⟨k', hlt, vs', hJ', ha'.slots hs'⟩
      | exit i => exact hq
      | ret => exact hq
      | goto l => exact hq.elim
      | panic c => exact hq.elim
      | outgrown => exact hq.elim
    · refine wp_mono (ev_sound hm c _ w _ a hok ha (hr k vs w hJ)) fun e a' w' hq => ?_
      cases e with
      | normal =>
        obtain ⟨ρ', ha', ⟨k', vs', hlt, hs', hJ'⟩⟩ := hq
        exact ⟨k', hlt, vs', hJ', ha'.slots hs'⟩
      | exit i =>
        obtain ⟨ρ', ha', hq'⟩ := hq
        simp only [loopX] at hq'
        by_cases e : i = id
        · subst e
          rw [Nat.beq_refl, cond_true] at hq'
          obtain ⟨vs', hs', hE'⟩ := hq'.ex
          exact ⟨_, ha'.slots hs', hE vs' w' hE'⟩
        · rw [beq_ne e, cond_false] at hq'
          exact ⟨ρ', ha', hq'⟩
      | ret => exact hq
      | goto l => exact hq.elim
      | panic c => exact hq.elim
      | outgrown => exact hq.elim
  | .exit id, ρ, w, Q, a, _, ha, h => wp_exit ⟨ρ, ha, h⟩
  | .ret, ρ, w, Q, a, _, ha, h => wp_ret ⟨ρ, ha, h⟩
  | .rangeFunc .., _, _, _, _, _, _, h => False.elim h
  | .scope .., _, _, _, _, _, _, h => False.elim h
  | .goto .., _, _, _, _, _, _, h => False.elim h
  | .refuse .., _, _, _, _, _, _, h => False.elim h

/-- What a function returns, out of its slots (and, of a result that lies in memory, out of its cells). -/
def FinV (P : Program) (ρ : Env) (w : World) : List ResultVar → (List Value → Prop) → Prop
  | [], K => K []
  | .tmp t :: rs, K => match ρ t with
    | some v => FinV P ρ w rs fun vs => K (v :: vs)
    | none => False
  | .cell x T :: rs, K => match ρ x with
    | some (.pointer (some p)) => ReadSem P (Instr.loadAt T (.pointer (some p))) w fun v => FinV P ρ w rs fun vs => K (v :: vs)
    | _ => False

def oneOf : List Value → Value
  | [v] => v
  | vs => .tuple vs.toArray

def FinK (P : Program) (fn : Func) (K : Value → World → Prop) : Ex → Env → World → Prop
  | .exit _, _, _ => False
  | .normal, ρ, w => FinV P ρ w fn.results.toList fun vs => K (oneOf vs) w
  | .ret, ρ, w => FinV P ρ w fn.results.toList fun vs => K (oneOf vs) w

theorem finV_run {ρ : Env} {a : Act} (ha : Agree n ρ a) (w : World) : ∀ {rs : List ResultVar} {K : List Value → Prop}, FinV P ρ w rs K → ∃ vs, K vs ∧
    (rs.mapM (fun | .tmp t => pure (a.tmps.getD t undef) | .cell x t => (do loadVar t (← asAddr (a.tmps.getD x undef))) : ResultVar → Sem Value)).run P w = .ok vs w
  | [], K, h => ⟨[], h, rfl⟩
  | .tmp t :: rs, K, h => by
    simp only [FinV] at h
    split at h
    · rename_i v hv
      obtain ⟨vs, hk, hr⟩ := finV_run ha w h
      refine ⟨_, hk, ?_⟩
      rw [List.mapM_cons]
      have e1 : (pure (a.tmps.getD t undef) : Sem Value).run P w = .ok v w := by simp [ha.at_ t v hv, pure]
      rw [Sem.run_bind, e1, Result.andThen_ok, Sem.run_bind, hr]
      rfl
    · exact h.elim
  | .cell x T :: rs, K, h => by
    simp only [FinV] at h
    split at h
    · rename_i p hp
      obtain ⟨v, hv, h⟩ := h.ex
      obtain ⟨vs, hk, hr⟩ := finV_run ha w h
      refine ⟨_, hk, ?_⟩
      rw [List.mapM_cons]
      have e1 : (do loadVar T (← asAddr (a.tmps.getD x undef)) : Sem Value).run P w = .ok v w := by
        simp only [Instr.loadAt, Instr.sureAddr, Sem.run_bind, Sem.run, Result.andThen_ok, pure] at hv
        simp [ha.at_ x _ hp, asAddr, hv]
      rw [Sem.run_bind, e1, Result.andThen_ok, Sem.run_bind, hr]
      rfl
    · exact h.elim

/-- The arguments in their slots. -/
def argEnv : Nat → List Value → Env
  | _, [] => fun _ => none
  | k, v :: vs => upd (argEnv (k + 1) vs) k v

theorem argEnv_at : ∀ (l : List Value) (k t : Nat) (v : Value), argEnv k l t = some v → k ≤ t ∧ l[t - k]? = some v
  | [], k, t, v, h => by simp [argEnv] at h
  | x :: l, k, t, v, h => by
    simp only [argEnv, upd] at h
    by_cases e : t = k
    · subst e
      rw [Nat.beq_refl, cond_true] at h
      exact ⟨Nat.le_refl _, by simpa using h⟩
    · rw [beq_ne e, cond_false] at h
      have := argEnv_at l (k + 1) t v h
      refine ⟨by omega, ?_⟩
      rw [show t - k = (t - (k + 1)) + 1 by omega]
      simpa using this.2

def codeOf (fn : Func) : Code := match fn.body with | some c => c | none => .refuse ""
def okFn (fn : Func) (xs : List Nat) : Bool := (match fn.body with | some c => okCode fn.ntmps xs c | none => false) && !(fn.name == "runtime.NumGoroutine")

theorem calls_ev {f : FuncId} {fn : Func} {xs : List Nat} {args : List Value} {w : World} {K : Value → World → Prop} (hm : P.follows .mixedOrders = true)
    (hf : P.funcs[f]? = some fn) (hok : okFn fn xs = true) (hsz : Nat.ble args.length fn.ntmps = true)
    (h : ev P fn.ntmps xs (codeOf fn) (argEnv 0 args) w (FinK P fn K)) : Ret P f args.toArray w K := by
  unfold okFn at hok
  unfold codeOf at h
  cases hb : fn.body with
  | none => rw [hb] at hok; simp at hok
  | some c =>
  rw [hb] at hok h
  simp only [Bool.and_eq_true, Bool.not_eq_true'] at hok
  have hsz := Nat.le_of_ble_eq_true hsz
  refine Ret.of_text ⟨fn, hf, hok.2, by rw [hb]; rfl⟩ (calls_of_wp hf hb (wp_mono (ev_sound (n := fn.ntmps) hm c _ w _ _ hok.1 ?_ h) fun e a' w' hq => ?_))
  · refine ⟨by simp; omega, rfl, fun t v ht => ?_⟩
    have := argEnv_at args 0 t v ht
    have hlt := (List.getElem?_eq_some_iff.1 this.2).1
    rw [Array.getElem?_append_left (by simpa using hlt)]
    simpa using this.2
  · have fin : ∀ ρ, Agree fn.ntmps ρ a' → FinK P fn K .normal ρ w' → a'.defers = [] ∧ ∃ v, (results fn a'.tmps).run P w' = .ok v w' ∧ K v w' := by
      intro ρ ha' hq
      refine ⟨ha'.defers, ?_⟩
      obtain ⟨vs, hk, hr⟩ := finV_run (P := P) ha' w' hq
      refine ⟨oneOf vs, ?_, hk⟩
      unfold results
      rw [Sem.run_bind, Array.mapM_eq_mapM_toList, Sem.run_map]
      erw [hr]
      simp only [Result.andThen_ok]
      match vs with
      | [] => rfl
      | [v] => rfl
      | v :: u :: vs => rw [dif_neg (by simp)]; rfl
    cases e with
    | normal => obtain ⟨ρ, ha', hq'⟩ := hq; obtain ⟨h1, v, h2, h3⟩ := fin ρ ha' hq'; exact ⟨h1, v, h2, h3⟩
    | ret => obtain ⟨ρ, ha', hq'⟩ := hq; obtain ⟨h1, v, h2, h3⟩ := fin ρ ha' hq'; exact ⟨h1, v, h2, h3⟩
    | exit i => obtain ⟨ρ, _, hq'⟩ := hq; exact hq'.elim
    | goto l => exact hq.elim
    | panic c => exact hq.elim
    | outgrown => exact hq.elim

end
theorem PureSem.of {P : Program} {s : Sem Value} {K : Value → Prop} (v : Value) (h : ∀ w, s.run P w = .ok v w) (hK : K v) : PureSem P s K := ⟨v, h, hK⟩
theorem ReadSem.of {P : Program} {s : Sem Value} {w : World} {K : Value → Prop} (v : Value) (h : s.run P w = .ok v w) (hK : K v) : ReadSem P s w K := ⟨v, h, hK⟩
theorem EffSem.of {P : Program} {s : Sem Value} {w : World} {K : Value → World → Prop} (v : Value) (w' : World) (h : s.run P w = .ok v w') (hK : K v w') : EffSem P s w K := ⟨v, w', h, hK⟩
theorem UnitSem.of {P : Program} {s : Sem Unit} {w : World} {K : World → Prop} (w' : World) (h : s.run P w = .ok () w') (hK : K w') : UnitSem P s w K := ⟨w', h, hK⟩
theorem loop {body : Env → World → (Ex → Env → World → Prop) → Prop} {ρ : Env} {w : World} {Q : Ex → Env → World → Prop} (ss : List Nat) (J : Nat → List Value → World → Prop) (k : Nat) (vs : List Value)
    (h0 : looksT ρ ss = some vs) (hJ : J k vs w) (hr : ∀ k vs w, J k vs w → body (mkEnv ss vs) w (loopQ ss J k Q)) : LoopK body ρ w Q := ⟨ss, J, ⟨k, vs, h0, hJ⟩, .inl hr⟩
/-- A loop, and what is known where it is left. -/
theorem loopx {body : Env → World → (Ex → Env → World → Prop) → Prop} {ρ : Env} {w : World} {Q : Ex → Env → World → Prop} (id : Nat) (ss : List Nat) (J : Nat → List Value → World → Prop) (st : List Nat) (E : List Value → World → Prop) (k : Nat) (vs : List Value)
    (h0 : looksT ρ ss = some vs) (hJ : J k vs w) (hr : ∀ k vs w, J k vs w → body (mkEnv ss vs) w (loopX ss J k id st E Q)) (hE : ∀ vs w, E vs w → Q (.exit id) (mkEnv st vs) w) : LoopK body ρ w Q := ⟨ss, J, ⟨k, vs, h0, hJ⟩, .inr ⟨id, st, E, hr, hE⟩⟩
theorem leave {ss : List Nat} {E : List Value → World → Prop} {ρ : Env} {w : World} (vs : List Value) (hv : looksT ρ ss = some vs) (hE : E vs w) : Leave ss E ρ w := ⟨vs, hv, hE⟩
theorem again {ss : List Nat} {J : Nat → List Value → World → Prop} {k : Nat} {ρ : Env} {w : World} (k' : Nat) (hk : k' < k) (vs : List Value) (hv : looksT ρ ss = some vs) (hJ : J k' vs w) : Again ss J k ρ w := ⟨k', vs, hk, hv, hJ⟩
theorem draw {P : Program} {n : Nat} {ops : Array Oper} {ρ : Env} {w : World} {K : Env → World → Prop} (c : List (Nat × List Nat)) (hc : okOrder ops n c = true) (h : evX P ops.toList K c ρ w) : drawK P n ops ρ w K := ⟨.inl ⟨c, hc, h⟩⟩
theorem draw2 {P : Program} {n : Nat} {ops : Array Oper} {ρ : Env} {w : World} {K : Env → World → Prop} (pre : List (Nat × List Nat)) (p q : Nat × List Nat) (post : List (Nat × List Nat)) (hc : okOrder2 ops n pre p q post = true)
    (h : evX P ops.toList (fun ρ w => evX P ops.toList K (p :: q :: post) ρ w ∧ evX P ops.toList K (q :: p :: post) ρ w) pre ρ w) : drawK P n ops ρ w K := ⟨.inr ⟨pre, p, q, post, hc, h⟩⟩
theorem extern {P : Program} {f : FuncId} {args : Array Value} {w : World} {K : Value → World → Prop} (v : Value) (w' : World) (h : (callFunc f args).run P w = .ok (.value v) w') (hK : K v w') : Ret P f args w K := by
  refine ⟨?_⟩; rw [h]; exact hK
end Go.Fl
