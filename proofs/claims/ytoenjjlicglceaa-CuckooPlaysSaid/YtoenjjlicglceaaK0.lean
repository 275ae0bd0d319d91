/-
  The logic of this claim's walks, part 0: a region that draws its order may be walked in the order of its text, if any two operations that no edge orders are a pure one and any other, or two that only read.
  It holds for every program and every region that passes the check 'free'.
-/
import Derived.WalkKit
namespace Go.Fl

/-- What an operation does to memory, as far as the order of a region goes. -/
inductive Cls where
  | pure | read | eff
  deriving DecidableEq

def cls : Op → Cls
  | .move _ | .assign _ | .pick .. | .nilCheck _ | .binOp .. | .unOp .. | .convert .. | .fieldAddr .. | .field .. | .indexAddr .. | .index .. | .extract .. | .build .. | .slice .. => .pure
  | .load .. => .read
  | .call { callee := .builtin .len, .. } => .pure
  | .call { callee := .builtin .max, .. } => .pure
  | .call { callee := .builtin .min, .. } => .pure
  | _ => .eff

/-- An operation's outcome is a value (a Go function's: what it returns). -/
def Upon (P : Program) (K : Value → World → Prop) : Result Next → Prop
  | .ok (.value v) w' => K v w'
  | .ok .skip w' => K undef w'
  | .ok (.enter f args) w' => Calls P f args w' (fun e w'' => match e with | .returned v => K v w'' | _ => False)
  | _ => False

theorem Upon.mono {P : Program} {K K' : Value → World → Prop} (h : ∀ v w, K v w → K' v w) {r : Result Next} (hu : Upon P K r) : Upon P K' r := by
  cases r with
  | halt x w => exact hu.elim
  | ok n w =>
    cases n <;> simp only [Upon] at hu ⊢ <;> first | exact h _ _ hu | exact hu.elim | skip
    refine Calls.mono hu fun e w' he => ?_
    cases e <;> first | exact h _ _ he | exact he

theorem Upon.has {P : Program} {K : Value → World → Prop} {r : Result Next} (hu : Upon P K r) : ∃ v w, K v w := by
  cases r with
  | halt x w => exact hu.elim
  | ok n w =>
    cases n <;> simp only [Upon] at hu <;> first | exact ⟨_, _, hu⟩ | exact hu.elim | skip
    obtain ⟨e, w', _, hR, _⟩ := hu []
    cases e <;> first | exact ⟨_, _, hR⟩ | exact hR.elim

theorem nodup_le : ∀ (n : Nat) (l : List Nat), l.Nodup → (∀ j ∈ l, j < n) → l.length ≤ n
  | 0, l, _, h => by
    cases l with
    | nil => exact Nat.le_refl _
    | cons x l => exact absurd (h x List.mem_cons_self) (Nat.not_lt_zero _)
  | n + 1, l, hnd, h => by
    have h1 := nodup_le n (l.erase n) (hnd.erase n) fun j hj => by
      have h2 := h j (List.mem_of_mem_erase hj)
      have h3 : j ≠ n := fun e => by subst e; exact absurd hj hnd.not_mem_erase
      omega
    have := List.length_erase (a := n) (l := l)
    split at this <;> omega

theorem mem_of_nodup {l : List Nat} {n : Nat} (hnd : l.Nodup) (hlt : ∀ j ∈ l, j < n) (hlen : l.length = n) (j : Nat) (hj : j < n) : j ∈ l := by
  refine Classical.byContradiction fun hn => ?_
  have := nodup_le n (j :: l) (List.nodup_cons.2 ⟨hn, hnd⟩) fun k hk => by
    rcases List.mem_cons.1 hk with rfl | hk
    · exact hj
    · exact hlt k hk
  simp at this
  omega

section
variable {P : Program} {ops : Array Oper}

def G (P : Program) (ops : Array Oper) (o : Oper) (a : Act) (w : World) (K : Value → World → Prop) : Prop :=
  if Region.wanted o (yielded ops a.tmps) = true then
    match cls o.op with
    | .pure => ∃ v, (∀ w', (execOp a.eval o).run P w' = .ok (.value v) w') ∧ K v w
    | .read => ∃ v, (execOp a.eval o).run P w = .ok (.value v) w ∧ K v w
    | .eff => Upon P K ((execOp a.eval o).run P w)
  else K undef w

theorem G.mono {o : Oper} {a : Act} {w : World} {K K' : Value → World → Prop} (h : ∀ v w, K v w → K' v w) (hg : G P ops o a w K) : G P ops o a w K' := by
  unfold G at *
  split
  · rename_i hw
    rw [if_pos hw] at hg
    split at hg
    · obtain ⟨v, h1, h2⟩ := hg; exact ⟨v, h1, h _ _ h2⟩
    · obtain ⟨v, h1, h2⟩ := hg; exact ⟨v, h1, h _ _ h2⟩
    · exact hg.mono h
  · rename_i hw
    rw [if_neg hw] at hg
    exact h _ _ hg

theorem G.has {o : Oper} {a : Act} {w : World} {K : Value → World → Prop} (hg : G P ops o a w K) : ∃ v w', K v w' := by
  unfold G at hg
  split at hg
  · split at hg
    · obtain ⟨v, _, h2⟩ := hg; exact ⟨_, _, h2⟩
    · obtain ⟨v, _, h2⟩ := hg; exact ⟨_, _, h2⟩
    · exact hg.has
  · exact ⟨_, _, hg⟩

/-- The value of a pure operation. -/
noncomputable def pv (P : Program) (ops : Array Oper) (o : Oper) (a : Act) (w : World) : Value :=
  if Region.wanted o (yielded ops a.tmps) = true then match (execOp a.eval o).run P w with | .ok (.value v) _ => v | _ => undef else undef

theorem G.pure_out {o : Oper} {a : Act} {w : World} {K : Value → World → Prop} (hc : cls o.op = .pure) (hg : G P ops o a w K) :
    K (pv P ops o a default) w ∧ ∀ w' K', K' (pv P ops o a default) w' → G P ops o a w' K' := by
  unfold G at hg
  split at hg
  · rename_i hw
    simp only [hc] at hg
    obtain ⟨v, h1, h2⟩ := hg
    have e : pv P ops o a default = v := by simp only [pv, hw, if_true, h1]
    rw [e]
    refine ⟨h2, fun w' K' hk => ?_⟩
    simp only [G, hw, if_true, hc]
    exact ⟨v, h1, hk⟩
  · rename_i hw
    have e : pv P ops o a default = undef := by simp only [pv]; rw [if_neg hw]
    rw [e]
    refine ⟨hg, fun w' K' hk => ?_⟩
    simp only [G]
    rw [if_neg hw]
    exact hk

theorem G.read_out {o : Oper} {a : Act} {w : World} {K : Value → World → Prop} (hc : cls o.op = .read) (hg : G P ops o a w K) :
    K (pv P ops o a w) w ∧ ∀ K', K' (pv P ops o a w) w → G P ops o a w K' := by
  unfold G at hg
  split at hg
  · rename_i hw
    simp only [hc] at hg
    obtain ⟨v, h1, h2⟩ := hg
    have e : pv P ops o a w = v := by simp only [pv, hw, if_true, h1]
    rw [e]
    refine ⟨h2, fun K' hk => ?_⟩
    simp only [G, hw, if_true, hc]
    exact ⟨v, h1, hk⟩
  · rename_i hw
    have e : pv P ops o a w = undef := by simp only [pv]; rw [if_neg hw]
    rw [e]
    refine ⟨hg, fun K' hk => ?_⟩
    simp only [G]
    rw [if_neg hw]
    exact hk

theorem G.skip {o : Oper} (hs : ∀ cs b, o.op ≠ .select cs b) {a : Act} {dst : Option Tmp} {v : Value} (h : ∀ d, dst = some d → d ∉ o.looksAt ops) (w : World) (K : Value → World → Prop) :
    G P ops o (a.put dst v) w K ↔ G P ops o a w K := by
  unfold G
  rw [execOp_put o hs a dst v h, wanted_put o a dst v h]

theorem pv.skip {o : Oper} (hs : ∀ cs b, o.op ≠ .select cs b) {a : Act} {dst : Option Tmp} {v : Value} (h : ∀ d, dst = some d → d ∉ o.looksAt ops) (w : World) :
    pv P ops o (a.put dst v) w = pv P ops o a w := by
  unfold pv
  rw [execOp_put o hs a dst v h, wanted_put o a dst v h]

/-- Read anew in another world, operation r yields what it yielded. -/
def Re (P : Program) (ops : Array Oper) (r : Nat) (a : Act) (w : World) : Prop :=
  ∀ x d, ops[r]? = some x → x.dst = some d → Region.wanted x (yielded ops a.tmps) = true → (execOp a.eval x).run P w = .ok (.value (a.tmps.getD d undef)) w

/-- The operations of a list, one behind the other; behind each those are named that must read the same again. -/
def gen (P : Program) (ops : Array Oper) (K : Act → World → Prop) : List (Nat × List Nat) → Act → World → Prop
  | [], a, w => K a w
  | (i, rs) :: is, a, w => match ops[i]? with
    | none => False
    | some o => G P ops o a w fun v w' => (∀ r ∈ rs, Re P ops r a w') ∧ gen P ops K is (a.put o.dst v) w'

/-- Writing x's slot leaves alone what operation r looks at, and its slot. -/
def clearB (ops : Array Oper) (x : Oper) (r : Nat) : Bool :=
  match ops[r]?, x.dst with
  | some y, some d => !(y.looksAt ops).contains d && y.dst != some d && (match y.op with | .select .. => false | _ => true)
  | _, _ => true

theorem Re.skip {x : Oper} {r : Nat} (h : clearB ops x r = true) {a : Act} {v : Value} {w : World} (hr : Re P ops r (a.put x.dst v) w) : Re P ops r a w := by
  intro y d hy hd hw
  cases hx : x.dst with
  | none => rw [hx] at hr; exact hr y d hy hd hw
  | some e =>
    simp only [clearB, hy, hx, Bool.and_eq_true, Bool.not_eq_true', List.contains_eq_mem, decide_eq_false_iff_not, bne_iff_ne, ne_eq] at h
    have hs : ∀ cs b, y.op ≠ .select cs b := by intro cs b e'; rw [e'] at h; simp at h
    have hl : ∀ d', x.dst = some d' → d' ∉ y.looksAt ops := by intro d' hd'; rw [hx] at hd'; cases hd'; exact h.1.1
    have := hr y d hy hd (by rw [wanted_put y a x.dst v hl]; exact hw)
    rw [execOp_put y hs a x.dst v hl] at this
    rw [this]
    have hne : e ≠ d := by intro he; subst he; exact h.1.2 hd
    simp [Act.put, hx, Array.getElem?_setIfInBounds_ne hne]

theorem Re.keep {x : Oper} {r : Nat} (h : clearB ops x r = true) {a : Act} {v : Value} {w : World} (hr : Re P ops r a w) : Re P ops r (a.put x.dst v) w := by
  intro y d hy hd hw
  cases hx : x.dst with
  | none => rw [hx] at hw; exact hr y d hy hd hw
  | some e =>
    simp only [clearB, hy, hx, Bool.and_eq_true, Bool.not_eq_true', List.contains_eq_mem, decide_eq_false_iff_not, bne_iff_ne, ne_eq] at h
    have hs : ∀ cs b, y.op ≠ .select cs b := by intro cs b e'; rw [e'] at h; simp at h
    have hl : ∀ d', x.dst = some d' → d' ∉ y.looksAt ops := by intro d' hd'; rw [hx] at hd'; cases hd'; exact h.1.1
    have hw' : Region.wanted y (yielded ops a.tmps) = true := by rw [← wanted_put y a x.dst v hl]; exact hw
    have := hr y d hy hd hw'
    rw [← hx, execOp_put (ops := ops) y hs a x.dst v hl, this]
    have hne : e ≠ d := by intro he; subst he; exact h.1.2 hd
    simp [Act.put, hx, Array.getElem?_setIfInBounds_ne hne]

def swapB (ops : Array Oper) (x y : Oper) : Bool :=
  x.apart ops y && (cls x.op == .pure || cls y.op == .pure || (cls x.op == .read && cls y.op == .read))

/-- A load ahead of an operation that acts, which is to be read again behind it. -/
def reB (ops : Array Oper) (n i : Nat) (x y : Oper) (rs : List Nat) : Bool :=
  x.apart ops y && cls x.op == .read && rs.contains i && (match x.dst with | some d => Nat.blt d n && !(x.looksAt ops).contains d | none => false)

theorem gen_swap {K : Act → World → Prop} {n i j : Nat} {x y : Oper} {ri rj : List Nat} (hi : ops[i]? = some x) (hj : ops[j]? = some y) (hsx : ∀ cs b, x.op ≠ .select cs b) (hsy : ∀ cs b, y.op ≠ .select cs b)
    (hsw : (swapB ops x y || reB ops n i x y rj) = true) (hci : (ri.all fun r => clearB ops y r) = true) (hcj : (rj.all fun r => r == i || clearB ops x r) = true)
    (hex : cls x.op = .eff ∨ ri = []) (hey : cls y.op = .eff ∨ rj = [])
    {r : List (Nat × List Nat)} {a : Act} (ha : a.tmps.size = n) {w : World} (h : gen P ops K ((i, ri) :: (j, rj) :: r) a w) : gen P ops K ((j, rj.filter (· != i)) :: (i, ri) :: r) a w := by
  have hcj' : ∀ v w', (∀ r ∈ rj, Re P ops r (a.put x.dst v) w') → ∀ r ∈ rj.filter (· != i), Re P ops r a w' := by
    intro v w' hall r hr
    obtain ⟨hr1, hr2⟩ := List.mem_filter.1 hr
    have := List.all_eq_true.1 hcj r hr1
    simp only [Bool.or_eq_true, beq_iff_eq] at this
    rcases this with rfl | hc
    · simp at hr2
    · exact (hall r hr1).skip hc
  have hci' : ∀ v w', (∀ r ∈ ri, Re P ops r a w') → ∀ r ∈ ri, Re P ops r (a.put y.dst v) w' :=
    fun v w' hall r hr => (hall r hr).keep (List.all_eq_true.1 hci r hr)
  simp only [gen, hi, hj] at h ⊢
  rw [Bool.or_eq_true] at hsw
  rcases hsw with hsw | hsw
  · simp only [swapB, Bool.and_eq_true, Bool.or_eq_true, beq_iff_eq] at hsw
    obtain ⟨hap, hcl⟩ := hsw
    obtain ⟨h1, h2, h3⟩ := Oper.apart_spec hap
    rcases hcl with (hc | hc) | ⟨hcx, hcy⟩
    · -- x is pure
      obtain rfl : ri = [] := hex.resolve_left (by rw [hc]; simp)
      obtain ⟨⟨_, hk⟩, hback⟩ := h.pure_out hc
      rw [G.skip hsy h1] at hk
      refine hk.mono fun vy wy ⟨hre2, hr⟩ => ⟨hcj' _ _ hre2, ?_⟩
      rw [G.skip hsx h3]
      exact hback _ _ ⟨by simp, by rw [← Act.put_comm _ _ _ h2]; exact hr⟩
    · -- y is pure
      obtain rfl : rj = [] := hey.resolve_left (by rw [hc]; simp)
      have h' : G P ops x a w fun vx wx => (∀ r ∈ ri, Re P ops r a wx) ∧ gen P ops K r ((a.put y.dst (pv P ops y a default)).put x.dst vx) wx := by
        refine h.mono fun vx wx ⟨hre, hr⟩ => ⟨hre, ?_⟩
        obtain ⟨⟨_, hk⟩, _⟩ := hr.pure_out hc
        rw [pv.skip hsy h1] at hk
        rw [← Act.put_comm _ _ _ h2]
        exact hk
      obtain ⟨vx, wx, _, hr⟩ := h.has
      obtain ⟨_, hback⟩ := ((G.skip hsy h1 _ _).1 hr).pure_out hc
      refine hback _ _ ⟨by simp, ?_⟩
      rw [G.skip hsx h3]
      exact h'.mono fun vx wx ⟨hre, hr⟩ => ⟨hci' _ _ hre, hr⟩
    · obtain rfl : ri = [] := hex.resolve_left (by rw [hcx]; simp)
      obtain rfl : rj = [] := hey.resolve_left (by rw [hcy]; simp)
      obtain ⟨⟨_, hk⟩, hback⟩ := h.read_out hcx
      rw [G.skip hsy h1] at hk
      obtain ⟨⟨_, hk2⟩, hback2⟩ := hk.read_out hcy
      refine hback2 _ ⟨by simp, ?_⟩
      rw [G.skip hsx h3]
      exact hback _ ⟨by simp, by rw [← Act.put_comm _ _ _ h2]; exact hk2⟩
  · -- x is read, y acts, and x is read again behind it
    simp only [reB, Bool.and_eq_true, beq_iff_eq, List.contains_eq_mem, decide_eq_true_eq] at hsw
    obtain ⟨⟨⟨hap, hcx⟩, hmem⟩, hd⟩ := hsw
    obtain ⟨h1, h2, h3⟩ := Oper.apart_spec hap
    obtain rfl : ri = [] := hex.resolve_left (by rw [hcx]; simp)
    cases hxd : x.dst with
    | none => rw [hxd] at hd; cases hd
    | some d =>
    rw [hxd] at hd
    simp only [Bool.and_eq_true, Nat.blt_eq, Bool.not_eq_true', decide_eq_false_iff_not] at hd
    obtain ⟨⟨_, hk⟩, hback⟩ := h.read_out hcx
    rw [G.skip hsy h1] at hk
    rw [← hxd]
    refine hk.mono fun vy wy ⟨hre2, hr⟩ => ⟨hcj' _ _ hre2, ?_⟩
    rw [G.skip hsx h3]
    have hself : ∀ d', x.dst = some d' → d' ∉ x.looksAt ops := by intro d' hd'; rw [hxd] at hd'; cases hd'; exact hd.2
    have hx := hre2 i hmem x d hi hxd
    rw [wanted_put x a x.dst _ hself, execOp_put x hsx a x.dst _ hself] at hx
    have hval : ((a.put x.dst (pv P ops x a w)).tmps.getD d undef) = pv P ops x a w := by
      rw [hxd]; simp [Act.put, ha, hd.1]
    rw [hval] at hx
    rw [Act.put_comm _ _ _ h2] at hr
    unfold G
    by_cases hw : Region.wanted x (yielded ops a.tmps) = true
    · rw [if_pos hw, hcx]
      exact ⟨_, hx hw, by simp, hr⟩
    · rw [if_neg hw]
      have : pv P ops x a w = undef := by unfold pv; rw [if_neg hw]
      rw [this] at hr
      exact ⟨by simp, hr⟩

theorem gen_less {K : Act → World → Prop} {i : Nat} {rs rs' : List Nat} (hs : ∀ r ∈ rs', r ∈ rs) {r : List (Nat × List Nat)} {a : Act} {w : World} (h : gen P ops K ((i, rs) :: r) a w) : gen P ops K ((i, rs') :: r) a w := by
  simp only [gen] at h ⊢
  split
  · rename_i hi; rw [hi] at h; exact h
  · rename_i o hi; rw [hi] at h; exact h.mono fun v w' ⟨h1, h2⟩ => ⟨fun r hr => h1 r (hs r hr), h2⟩

/-- What is asked of two entries of an order, the first ahead of the second, which no edge orders. -/
def pairB (ops : Array Oper) (n : Nat) (p q : Nat × List Nat) : Bool :=
  match ops[p.1]?, ops[q.1]? with
  | some x, some y => (swapB ops x y || reB ops n p.1 x y q.2) && (p.2.all fun r => clearB ops y r) && (q.2.all fun r => r == p.1 || clearB ops x r)
  | _, _ => false

theorem put_size (a : Act) (d : Option Tmp) (v : Value) : (a.put d v).tmps.size = a.tmps.size := by cases d <;> simp [Act.put]

/-- For each entry that is passed: what is asked, the entries behind it being passed already. -/
def FrontOK (ops : Array Oper) (n j : Nat) (rj : List Nat) : List (Nat × List Nat) → Prop
  | [] => True
  | p :: pre => (pairB ops n p (j, rj.filter (· ∉ pre.map (·.1))) = true ∧ ∀ x, ops[p.1]? = some x → cls x.op = .eff ∨ p.2 = []) ∧ FrontOK ops n j rj pre

theorem gen_front {K : Act → World → Prop} {n j : Nat} {y : Oper} (hj : ops[j]? = some y) (hsel : ∀ (j : Nat) (o : Oper) cs b, ops[j]? = some o → o.op ≠ .select cs b) {rj : List Nat} (hey : cls y.op = .eff ∨ rj = []) :
    ∀ (pre post : List (Nat × List Nat)) (a : Act) (w : World), a.tmps.size = n → FrontOK ops n j rj pre → gen P ops K (pre ++ (j, rj) :: post) a w →
      ∃ rj', (∀ r ∈ rj, r ∉ pre.map (·.1) → r ∈ rj') ∧ gen P ops K ((j, rj') :: (pre ++ post)) a w
  | [], _, _, _, _, _, h => ⟨rj, fun _ h _ => h, h⟩
  | (i, ri) :: pre, post, a, w, ha, ⟨⟨hp, hex⟩, hall⟩, h => by
    cases hx : ops[i]? with
    | none => unfold pairB at hp; rw [hx] at hp; simp at hp
    | some x =>
    simp only [List.cons_append, gen, hx] at h
    have step : ∀ v w', gen P ops K (pre ++ (j, rj) :: post) (a.put x.dst v) w' → gen P ops K ((j, rj.filter (· ∉ pre.map (·.1))) :: (pre ++ post)) (a.put x.dst v) w' := by
      intro v w' hr
      obtain ⟨rj', h2, h3⟩ := gen_front hj hsel hey pre post _ _ (by rw [put_size]; exact ha) hall hr
      exact gen_less (fun r hr => by
        obtain ⟨hr1, hr2⟩ := List.mem_filter.1 hr
        exact h2 r hr1 (by simpa using hr2)) h3
    have h' : gen P ops K ((i, ri) :: (j, rj.filter (· ∉ pre.map (·.1))) :: (pre ++ post)) a w := by
      have : gen P ops K ((i, ri) :: (j, rj.filter (· ∉ pre.map (·.1))) :: (pre ++ post)) a w = G P ops x a w fun v w' => (∀ r ∈ ri, Re P ops r a w') ∧ gen P ops K ((j, rj.filter (· ∉ pre.map (·.1))) :: (pre ++ post)) (a.put x.dst v) w' := by
        rw [gen.eq_2, hx]
      rw [this]
      exact h.mono fun v w' ⟨h1, h2⟩ => ⟨h1, step v w' h2⟩
    unfold pairB at hp
    rw [hx, hj] at hp
    simp only [Bool.and_eq_true] at hp
    refine ⟨_, ?_, gen_swap hx hj (fun cs b => hsel i x cs b hx) (fun cs b => hsel j y cs b hj) hp.1.1 hp.1.2 hp.2 (hex x hx) (hey.imp id fun e => by rw [e]; rfl) ha h'⟩
    intro r hr hnot
    simp only [List.map_cons, List.mem_cons, not_or] at hnot
    exact List.mem_filter.2 ⟨List.mem_filter.2 ⟨hr, by simpa using hnot.2⟩, by simpa using hnot.1⟩

def Closed (ops : Array Oper) (listed : Array Bool) : Prop :=
  ∀ j, listed.getD j false = true → ∀ o, ops[j]? = some o → ∀ e ∈ o.after, Region.binds .any e = true → listed.getD e.on false = true

/-- For which operations does an operation wait, on some road? One bit each. -/
def mskOf (acc : List Nat) (l : List Edge) : Nat :=
  l.foldr (fun e s => if Region.binds .any e then Nat.lor (Nat.lor (Nat.shiftLeft 1 e.on) (acc.getD e.on 0)) s else s) 0
def msks : List Oper → List Nat → List Nat
  | [], acc => acc
  | o :: os, acc => msks os (acc ++ [mskOf acc o.after.toList])

def Waits (ops : Array Oper) (j i : Nat) : Prop :=
  ∀ listed, Closed ops listed → (∀ o, ops[j]? = some o → ∀ e ∈ o.after, Region.binds .any e = true → listed.getD e.on false = true) → listed.getD i false = true

theorem mskOf_bit {acc : List Nat} {i : Nat} : ∀ {l : List Edge}, (mskOf acc l).testBit i = true → ∃ e ∈ l, Region.binds .any e = true ∧ (e.on = i ∨ (acc.getD e.on 0).testBit i = true)
  | [], h => by simp [mskOf] at h
  | e :: l, h => by
    simp only [mskOf, List.foldr_cons] at h
    split at h
    · rename_i hb
      rw [show ∀ a b, Nat.lor a b = a ||| b from fun _ _ => rfl, show ∀ a b, Nat.lor a b = a ||| b from fun _ _ => rfl, show ∀ a b, Nat.shiftLeft a b = a <<< b from fun _ _ => rfl] at h
      rw [Nat.testBit_or, Nat.testBit_or, Bool.or_eq_true, Bool.or_eq_true, Nat.one_shiftLeft, Nat.testBit_two_pow] at h
      rcases h with (h | h) | h
      · exact ⟨e, List.mem_cons_self, hb, .inl (by simpa using h)⟩
      · exact ⟨e, List.mem_cons_self, hb, .inr h⟩
      · obtain ⟨e', he, h'⟩ := mskOf_bit h
        exact ⟨e', List.mem_cons_of_mem _ he, h'⟩
    · obtain ⟨e', he, h'⟩ := mskOf_bit h
      exact ⟨e', List.mem_cons_of_mem _ he, h'⟩

theorem msks_waits {ops : Array Oper} : ∀ (l : List Oper) (acc : List Nat), (∀ k, l[k]? = ops[acc.length + k]?) →
    (∀ j i, (acc.getD j 0).testBit i = true → Waits ops j i) → ∀ j i, ((msks l acc).getD j 0).testBit i = true → Waits ops j i
  | [], _, _, ha => ha
  | o :: os, acc, hl, ha => by
    refine msks_waits os _ (fun k => ?_) (fun j i h => ?_)
    · have := hl (k + 1)
      simp only [List.getElem?_cons_succ] at this
      rw [this]; simp only [List.length_append, List.length_cons, List.length_nil]; congr 1; omega
    · rcases Nat.lt_trichotomy j acc.length with hj | hj | hj
      · refine ha j i ?_
        rw [List.getD_eq_getElem?_getD, List.getElem?_append_left hj, ← List.getD_eq_getElem?_getD] at h
        exact h
      · subst hj
        rw [List.getD_eq_getElem?_getD, List.getElem?_append_right (Nat.le_refl _)] at h
        simp only [Nat.sub_self, List.getElem?_cons_zero, Option.getD_some] at h
        obtain ⟨e, he, hb, hx⟩ := mskOf_bit h
        intro listed hcl hpre
        have h0 := hl 0
        simp only [List.getElem?_cons_zero, Nat.add_zero] at h0
        have hle := hpre o h0.symm e (by simpa using he) hb
        rcases hx with rfl | hx
        · exact hle
        · exact ha e.on i hx listed hcl fun o' ho' e' he' hb' => hcl e.on hle o' ho' e' he' hb'
      · rw [List.getD_eq_getElem?_getD, List.getElem?_eq_none (by simp; omega)] at h
        simp at h

theorem msks_length : ∀ (l : List Oper) (acc : List Nat), (msks l acc).length = acc.length + l.length
  | [], _ => by simp [msks]
  | o :: l, acc => by rw [msks, msks_length l]; simp; omega

/-- What is asked of two entries of an order, the first ahead of the second, as the check has it: a load that the second one names may wait for the first one. -/
def pairC (ops : Array Oper) (n : Nat) (ms : List Nat) (p q : Nat × List Nat) : Bool :=
  match ops[p.1]?, ops[q.1]? with
  | some x, some y => (swapB ops x y || reB ops n p.1 x y q.2) && (p.2.all fun r => clearB ops y r) && (q.2.all fun r => r == p.1 || clearB ops x r || (ms.getD r 0).testBit p.1)
  | _, _ => false

/-- The check of an order: each operation once; no edge points back; two operations that no edge orders may be swapped; what does not act names nothing. -/
def okOrder (ops : Array Oper) (n : Nat) (c : List (Nat × List Nat)) : Bool :=
  Region.noSelect ops && Nat.beq c.length ops.size && goB (msks ops.toList []) c
where
  goB (ms : List Nat) : List (Nat × List Nat) → Bool
    | [] => true
    | p :: c => (match ops[p.1]? with
        | none => false
        | some x => !(p.2.contains p.1) && !((ms.getD p.1 0).testBit p.1) && (p.2.isEmpty || cls x.op == .eff) && (x.after.toList.all fun e => !(Region.binds .any e) || (Nat.blt e.on ops.size && !(Nat.beq e.on p.1))) && (c.all fun q => !(Nat.beq p.1 q.1) && (x.after.toList.all fun e => !(Region.binds .any e) || !(Nat.beq e.on q.1))
            && !(p.2.contains q.1) && !((ms.getD p.1 0).testBit q.1) && ((ms.getD q.1 0).testBit p.1 || pairC ops n ms p q))) && goB ms c

structure Good (ops : Array Oper) (n : Nat) (p q : Nat × List Nat) : Prop where
  ne : p.1 ≠ q.1
  edge : ∀ x, ops[p.1]? = some x → ∀ e ∈ x.after, Region.binds .any e = true → e.on ≠ q.1
  later : q.1 ∉ p.2
  nowait : ((msks ops.toList []).getD p.1 0).testBit q.1 = false
  pair : Waits ops q.1 p.1 ∨ pairC ops n (msks ops.toList []) p q = true

theorem okOrder_sel {n : Nat} {c : List (Nat × List Nat)} (h : okOrder ops n c = true) : ∀ (j : Nat) (o : Oper) cs b, ops[j]? = some o → o.op ≠ .select cs b := by
  simp only [okOrder, Bool.and_eq_true] at h
  exact fun j o cs b ho => Region.noSelect_spec h.1.1 j o cs b ho

theorem goB_good {n : Nat} : ∀ {c : List (Nat × List Nat)}, okOrder.goB ops n (msks ops.toList []) c = true →
    c.Pairwise (Good ops n) ∧ ∀ p ∈ c, ∃ x, ops[p.1]? = some x ∧ (cls x.op = .eff ∨ p.2 = []) ∧ (∀ e ∈ x.after, Region.binds .any e = true → e.on < ops.size ∧ e.on ≠ p.1) ∧ p.1 ∉ p.2 ∧ ((msks ops.toList []).getD p.1 0).testBit p.1 = false
  | [], _ => ⟨List.Pairwise.nil, by simp⟩
  | p :: c, h => by
    simp only [okOrder.goB, Bool.and_eq_true] at h
    obtain ⟨h1, h2⟩ := h
    obtain ⟨g1, g2⟩ := goB_good h2
    split at h1
    · cases h1
    · rename_i x hx
      simp only [Bool.and_eq_true, List.all_eq_true, Bool.or_eq_true, Bool.not_eq_true', beq_iff_eq] at h1
      refine ⟨List.pairwise_cons.2 ⟨fun q hq => ?_, g1⟩, fun q hq => ?_⟩
      · obtain ⟨⟨⟨⟨k1, k2⟩, k4⟩, k5⟩, k3⟩ := h1.2 q hq
        refine ⟨fun e => (by rw [e, Nat.beq_refl] at k1; cases k1), fun x' hx' e he hb hon => ?_, by simpa using k4, k5, ?_⟩
        · rw [hx] at hx'; cases hx'
          rcases k2 e (by simpa using he) with h0 | h0
          · rw [hb] at h0; cases h0
          · rw [hon, Nat.beq_refl] at h0; cases h0
        · exact k3.imp (fun h0 => msks_waits ops.toList [] (by simp) (fun j i h => by simp at h) _ _ h0) id
      · rcases List.mem_cons.1 hq with rfl | hq
        · refine ⟨x, hx, h1.1.1.2.symm.imp id fun h => by simpa using h, fun e he hb => ?_, by simpa using h1.1.1.1.1, h1.1.1.1.2⟩
          rcases h1.1.2 e (by simpa using he) with h0 | h0
          · rw [hb] at h0; cases h0
          · exact ⟨by simpa [Nat.blt_eq] using h0.1, fun e' => by rw [e', Nat.beq_refl] at h0; cases h0.2⟩
        · exact g2 q hq

theorem G.wpOp {Q : Exit → Act → World → Prop} {i : Nat} {o : Oper} (hi : ops[i]? = some o) {a : Act} {w : World} {K : Act → World → Prop} (h : G P ops o a w fun v w' => K (a.put o.dst v) w') :
    wpOp P ops Q i K a w := by
  unfold Go.wpOp
  simp only [hi]
  unfold G at h
  split at h
  · rename_i hw
    rw [if_pos hw]
    refine .inl ?_
    unfold Oper.wp
    split at h
    · obtain ⟨v, h1, h2⟩ := h; rw [h1]; exact h2
    · obtain ⟨v, h1, h2⟩ := h; rw [h1]; exact h2
    · generalize (execOp a.eval o).run P w = r at h
      cases r with
      | halt x w => exact h.elim
      | ok n w =>
        cases n <;> simp only [Upon] at h <;> simp only [Oper.upon] <;> first | exact h | exact h.elim | skip
        refine Calls.mono h fun e w' he => ?_
        cases e <;> first | exact he | exact he.elim
  · rename_i hw
    rw [if_neg hw]
    exact h

theorem getD_size {listed : Array Bool} {j : Nat} (h : listed.getD j false = true) : j < listed.size := by
  rcases Nat.lt_or_ge j listed.size with h' | h'
  · exact h'
  · simp [Array.getElem?_eq_none h'] at h

theorem gen_any {n : Nat} (hsel : ∀ (j : Nat) (o : Oper) cs b, ops[j]? = some o → o.op ≠ .select cs b) {Q : Exit → Act → World → Prop} : ∀ (fuel : Nat) (c : List (Nat × List Nat)) (listed : Array Bool) (a : Act) (w : World),
    a.tmps.size = n → listed.size = ops.size → Closed ops listed → c.Pairwise (Good ops n) → (∀ p ∈ c, ∃ x, ops[p.1]? = some x ∧ (cls x.op = .eff ∨ p.2 = []) ∧ (∀ e ∈ x.after, Region.binds .any e = true → e.on < ops.size ∧ e.on ≠ p.1) ∧ p.1 ∉ p.2 ∧ ((msks ops.toList []).getD p.1 0).testBit p.1 = false) →
    (∀ j, j ∈ c.map (·.1) ↔ (j < ops.size ∧ listed.getD j true = false)) → c.length ≤ fuel →
    gen P ops (Q .normal) c a w → wpAny P .any ops Q fuel listed a w := by
  have ready_nil : ∀ (listed : Array Bool) (c : List (Nat × List Nat)), (∀ j, j ∈ c.map (·.1) ↔ (j < ops.size ∧ listed.getD j true = false)) → c = [] → Region.ready .any ops listed = [] := by
    intro listed c hm hc
    simp only [Region.ready, List.filter_eq_nil_iff, List.mem_range]
    intro i hi hh
    have := (hm i).2 ⟨hi, by simp only [Bool.and_eq_true, Bool.not_eq_true'] at hh; exact hh.1⟩
    rw [hc] at this; cases this
  intro fuel
  induction fuel with
  | zero =>
    intro c listed a w hsz hls hcl hp hx hm hle h
    have : c = [] := by cases c; rfl; simp at hle
    subst this
    exact ⟨ready_nil _ _ hm rfl, h⟩
  | succ fuel ih =>
    intro c listed a w hsz hls hcl hp hx hm hle h
    refine ⟨fun hr => ?_, fun i hi => ?_⟩
    · cases c with
      | nil => exact h
      | cons k c =>
        exfalso
        have hk := (hm k.1).1 (List.mem_map.2 ⟨k, List.mem_cons_self, rfl⟩)
        have : k.1 ∈ Region.ready .any ops listed := by
          refine List.mem_filter.2 ⟨List.mem_range.2 hk.1, ?_⟩
          obtain ⟨o, ho⟩ : ∃ o, ops[k.1]? = some o := ⟨ops[k.1]'hk.1, by simp [hk.1]⟩
          simp only [hk.2, Bool.not_false, ho, Option.map_some, Option.getD_some, Bool.true_and, Array.all_eq_true_iff_forall_mem, Bool.or_eq_true, Bool.not_eq_true']
          intro e he
          cases hb : Region.binds .any e with
          | false => exact .inl rfl
          | true =>
            refine .inr ?_
            obtain ⟨o', ho', _, hown, _, _⟩ := hx k List.mem_cons_self
            rw [ho] at ho'; cases ho'
            obtain ⟨hlt, hne⟩ := hown e he hb
            cases hl : listed.getD e.on true with
            | true =>
              have h1 : e.on < listed.size := by omega
              simp [h1] at hl
              simp [h1, hl]
            | false =>
              have hm' := (hm e.on).2 ⟨hlt, hl⟩
              rcases List.mem_cons.1 hm' with h' | h'
              · exact absurd h' hne
              · obtain ⟨q, hq, he'⟩ := List.mem_map.1 h'
                exact absurd he'.symm (((List.pairwise_cons.1 hp).1 q hq).edge o ho e he hb)
        rw [hr] at this; cases this
    · obtain ⟨hir, hrd⟩ := List.mem_filter.1 hi
      simp only [Bool.and_eq_true, Bool.not_eq_true'] at hrd
      have hisz := List.mem_range.1 hir
      obtain ⟨o, ho⟩ : ∃ o, ops[i]? = some o := ⟨ops[i]'hisz, by simp [hisz]⟩
      have hpre : ∀ e ∈ o.after, Region.binds .any e = true → listed.getD e.on false = true := by
        have h2 := hrd.2
        simp only [ho, Option.map_some, Option.getD_some, Array.all_eq_true_iff_forall_mem, Bool.or_eq_true, Bool.not_eq_true'] at h2
        intro e he hb
        rcases h2 e he with h0 | h0
        · rw [hb] at h0; cases h0
        · exact h0
      have hic : i ∈ c.map (·.1) := (hm i).2 ⟨hisz, hrd.1⟩
      obtain ⟨⟨i', rs⟩, hmem, rfl⟩ := List.mem_map.1 hic
      obtain ⟨pre, post, rfl⟩ := List.append_of_mem hmem
      have hpw := List.pairwise_append.1 hp
      obtain ⟨y, hy, hey, _, hself, _⟩ := hx _ hmem
      rw [ho] at hy; cases hy
      have hnd : ((pre ++ (i', rs) :: post).map (·.1)).Nodup := List.pairwise_map.2 (hp.imp fun hg => hg.ne)
      have front : ∀ (A B : List (Nat × List Nat)), pre = A ++ B → FrontOK ops n i' rs B := by
        intro A B
        induction B generalizing A with
        | nil => intro _; trivial
        | cons p B ihB =>
          intro e
          refine ⟨⟨?_, fun x hx' => ?_⟩, ihB (A ++ [p]) (by rw [e]; simp)⟩
          · have hpm : p ∈ pre := by rw [e]; simp
            have hgd := hpw.2.2 p hpm _ List.mem_cons_self
            have hjc := (hm p.1).1 (List.mem_map.2 ⟨p, List.mem_append_left _ hpm, rfl⟩)
            have unl : ∀ k, k < ops.size → listed.getD k true = false → listed.getD k false = true → False := by
              intro k _ h1 h2
              have h3 := getD_size h2
              simp [h3] at h1 h2
              rw [h1] at h2; cases h2
            rcases hgd.pair with h0 | h0
            · exact (unl p.1 hjc.1 hjc.2 (h0 listed hcl (fun o' ho' => by rw [ho] at ho'; cases ho'; exact hpre))).elim
            · unfold pairC at h0
              unfold pairB
              split at h0
              · rename_i x y hxx hyy
                rw [hxx, hyy]
                simp only [Bool.and_eq_true, Bool.or_eq_true, List.all_eq_true, beq_iff_eq] at h0 ⊢
                have hpB : p.1 ∉ B.map (·.1) := by
                  have h2 : (pre.map (·.1)).Nodup := List.pairwise_map.2 (hpw.1.imp fun hg => hg.ne)
                  rw [e, List.map_append, List.map_cons] at h2
                  have := (List.nodup_append.1 h2).2.1
                  exact (List.nodup_cons.1 this).1
                refine ⟨⟨h0.1.1.imp id fun hre => ?_, h0.1.2⟩, fun r hr => ?_⟩
                · simp only [reB, Bool.and_eq_true, List.contains_eq_mem, decide_eq_true_eq] at hre ⊢
                  exact ⟨⟨hre.1.1, List.mem_filter.2 ⟨hre.1.2, by simpa using hpB⟩⟩, hre.2⟩
                · obtain ⟨hr1, hr2⟩ := List.mem_filter.1 hr
                  rcases h0.2 r hr1 with (h3 | h3) | h3
                  · exact .inl h3
                  · exact .inr h3
                  · exfalso
                    -- r waits for p, so it has not run; it stands ahead of i' in the order; not behind p; so ahead of p: no
                    have hw := msks_waits (ops := ops) ops.toList [] (by simp) (fun j i h => by simp at h) _ _ h3
                    have hrc : r ∈ (pre ++ (i', rs) :: post).map (·.1) := by
                      refine (hm r).2 ⟨?_, ?_⟩
                      · rcases Nat.lt_or_ge r ops.size with h | h
                        · exact h
                        · have hz : (msks ops.toList []).getD r 0 = 0 := by
                            rw [List.getD_eq_getElem?_getD, List.getElem?_eq_none (by rw [msks_length]; simpa using h)]; rfl
                          rw [hz] at h3; simp at h3
                      · cases hl : listed.getD r true with
                        | false => rfl
                        | true =>
                          exfalso
                          rcases Nat.lt_or_ge r listed.size with h | h
                          · have hl' : listed.getD r false = true := by simp [h] at hl ⊢; exact hl
                            exact unl p.1 hjc.1 hjc.2 (hw listed hcl (fun o' ho' e' he' hb' => hcl r hl' o' ho' e' he' hb'))
                          · have hz : (msks ops.toList []).getD r 0 = 0 := by
                              rw [List.getD_eq_getElem?_getD, List.getElem?_eq_none (by rw [msks_length]; simp; omega)]; rfl
                            rw [hz] at h3; simp at h3
                    rw [e] at hrc
                    simp only [List.append_assoc, List.cons_append, List.map_append, List.map_cons, List.mem_append, List.mem_cons] at hrc
                    have hr2' : r ∉ B.map (·.1) := by simpa using hr2
                    rcases hrc with h4 | h4 | h4 | h4 | h4
                    · obtain ⟨q, hq, rfl⟩ := List.mem_map.1 h4
                      have h5 := hpw.1
                      rw [e] at h5
                      have := ((List.pairwise_append.1 h5).2.2 q hq p List.mem_cons_self).nowait
                      rw [this] at h3; cases h3
                    · rw [h4] at h3
                      obtain ⟨_, _, _, _, _, h6⟩ := hx p (List.mem_append_left _ hpm)
                      rw [h6] at h3; cases h3
                    · exact hr2' h4
                    · subst h4
                      exact hself hr1
                    · obtain ⟨q, hq, rfl⟩ := List.mem_map.1 h4
                      exact ((List.pairwise_cons.1 hpw.2.1).1 q hq).later hr1
              · cases h0
          · have hpm : p ∈ pre := by rw [e]; simp
            obtain ⟨x', h1, h2, _⟩ := hx p (List.mem_append_left _ hpm); rw [hx'] at h1; cases h1; exact h2
      obtain ⟨rs', _, hg⟩ := gen_front ho hsel hey pre post a w hsz (front [] pre rfl) h
      have hne : ∀ p ∈ pre ++ post, p.1 ≠ i' := by
        intro p hpm
        rcases List.mem_append.1 hpm with h' | h'
        · exact (hpw.2.2 p h' _ List.mem_cons_self).ne
        · exact Ne.symm ((List.pairwise_cons.1 hpw.2.1).1 p h').ne
      simp only [gen, ho] at hg
      refine G.wpOp ho (hg.mono fun v w' ⟨_, hr⟩ => ih (pre ++ post) _ _ _ (by rw [put_size]; exact hsz) (by simpa using hls) ?_ ?_ ?_ ?_ ?_ hr)
      · intro j hj o' ho' e he hb
        rcases Nat.decEq i' j with hne | rfl
        · rw [getD_set_ne _ hne] at hj
          exact getD_set_true (hcl j hj o' ho' e he hb)
        · rw [ho] at ho'; cases ho'
          exact getD_set_true (hpre e he hb)
      · exact List.pairwise_append.2 ⟨hpw.1, (List.pairwise_cons.1 hpw.2.1).2, fun x hx y hy => hpw.2.2 x hx y (List.mem_cons_of_mem _ hy)⟩
      · intro p hpm
        refine hx p ?_
        rcases List.mem_append.1 hpm with h' | h'
        · exact List.mem_append_left _ h'
        · exact List.mem_append_right _ (List.mem_cons_of_mem _ h')
      · intro j
        rcases Nat.decEq i' j with hne' | rfl
        · rw [getD_set_ne _ hne', ← hm j]
          simp only [List.map_append, List.map_cons, List.mem_append, List.mem_cons]
          constructor
          · rintro (h' | h')
            · exact .inl h'
            · exact .inr (.inr h')
          · rintro (h' | h' | h')
            · exact .inl h'
            · exact absurd h'.symm hne'
            · exact .inr h'
        · constructor
          · intro h'
            obtain ⟨p, hpm, he⟩ := List.mem_map.1 h'
            exact absurd he (hne p hpm)
          · intro ⟨h1, h2⟩
            have : i' < listed.size := by omega
            simp [this] at h2
      · simp only [List.length_append, List.length_cons] at hle ⊢; omega

/-! Two operations that both act, and of which either may come first: both ways are shown. -/
theorem gen_append {K : Act → World → Prop} : ∀ (l1 l2 : List (Nat × List Nat)) (a : Act) (w : World), gen P ops K (l1 ++ l2) a w = gen P ops (gen P ops K l2) l1 a w
  | [], _, _, _ => rfl
  | (i, rs) :: l1, l2, a, w => by
    simp only [List.cons_append, gen]
    split
    · rfl
    · congr 1
      funext v w'
      rw [gen_append l1 l2]

theorem gen_mono {n : Nat} {K K' : Act → World → Prop} (hk : ∀ a w, a.tmps.size = n → K a w → K' a w) : ∀ (l : List (Nat × List Nat)) (a : Act) (w : World), a.tmps.size = n → gen P ops K l a w → gen P ops K' l a w
  | [], a, w, ha, h => hk a w ha h
  | (i, rs) :: l, a, w, ha, h => by
    simp only [gen] at h ⊢
    split
    · rename_i hi; rw [hi] at h; exact h
    · rename_i o hi
      rw [hi] at h
      exact h.mono fun v w' ⟨h1, h2⟩ => ⟨h1, gen_mono hk l _ _ (by rw [put_size]; exact ha) h2⟩

theorem G.both {o : Oper} {a : Act} {w : World} {K K' : Value → World → Prop} (hc : cls o.op ≠ .eff) (h : G P ops o a w K) (h' : G P ops o a w K') : G P ops o a w fun v w' => K v w' ∧ K' v w' := by
  cases hcl : cls o.op with
  | pure =>
    obtain ⟨h1, h2⟩ := h.pure_out hcl
    obtain ⟨h3, _⟩ := h'.pure_out hcl
    exact h2 _ _ ⟨h1, h3⟩
  | read =>
    obtain ⟨h1, h2⟩ := h.read_out hcl
    obtain ⟨h3, _⟩ := h'.read_out hcl
    exact h2 _ ⟨h1, h3⟩
  | eff => exact absurd hcl hc

/-- What is known of each entry by itself. -/
def Own (ops : Array Oper) (p : Nat × List Nat) : Prop :=
  ∃ x, ops[p.1]? = some x ∧ (cls x.op = .eff ∨ p.2 = []) ∧ (∀ e ∈ x.after, Region.binds .any e = true → e.on < ops.size ∧ e.on ≠ p.1) ∧ p.1 ∉ p.2 ∧ ((msks ops.toList []).getD p.1 0).testBit p.1 = false

theorem unl {listed : Array Bool} {k : Nat} (h1 : listed.getD k true = false) (h2 : listed.getD k false = true) : False := by
  have h3 := getD_size h2
  simp [h3] at h1 h2
  rw [h1] at h2; cases h2

theorem front_gen {n i' : Nat} {rs : List Nat} {pre post : List (Nat × List Nat)} {listed : Array Bool} (hls : listed.size = ops.size) (hcl : Closed ops listed) {o : Oper} (ho : ops[i']? = some o)
    (hpre : ∀ e ∈ o.after, Region.binds .any e = true → listed.getD e.on false = true) (hself : i' ∉ rs) (hx : ∀ p ∈ pre, Own ops p) (hpp : pre.Pairwise (Good ops n)) (hpi : ∀ p ∈ pre, Good ops n p (i', rs)) (hlate : ∀ q ∈ post, q.1 ∉ rs)
    (hm : ∀ j, j ∈ (pre ++ (i', rs) :: post).map (·.1) ↔ (j < ops.size ∧ listed.getD j true = false)) : ∀ (A B : List (Nat × List Nat)), pre = A ++ B → FrontOK ops n i' rs B := by
  intro A B
  induction B generalizing A with
  | nil => intro _; trivial
  | cons p B ihB =>
    intro e
    have hpm : p ∈ pre := by rw [e]; simp
    refine ⟨⟨?_, fun x hx' => ?_⟩, ihB (A ++ [p]) (by rw [e]; simp)⟩
    · have hgd := hpi p hpm
      have hjc := (hm p.1).1 (List.mem_map.2 ⟨p, List.mem_append_left _ hpm, rfl⟩)
      rcases hgd.pair with h0 | h0
      · exact (unl hjc.2 (h0 listed hcl (fun o' ho' => by rw [ho] at ho'; cases ho'; exact hpre))).elim
      · unfold pairC at h0
        unfold pairB
        split at h0
        · rename_i x y hxx hyy
          rw [hxx, hyy]
          simp only [Bool.and_eq_true, Bool.or_eq_true, List.all_eq_true, beq_iff_eq] at h0 ⊢
          have hpB : p.1 ∉ B.map (·.1) := by
            have h2 : (pre.map (·.1)).Nodup := List.pairwise_map.2 (hpp.imp fun hg => hg.ne)
            rw [e, List.map_append, List.map_cons] at h2
            have := (List.nodup_append.1 h2).2.1
            exact (List.nodup_cons.1 this).1
          refine ⟨⟨h0.1.1.imp id fun hre => ?_, h0.1.2⟩, fun r hr => ?_⟩
          · simp only [reB, Bool.and_eq_true, List.contains_eq_mem, decide_eq_true_eq] at hre ⊢
            exact ⟨⟨hre.1.1, List.mem_filter.2 ⟨hre.1.2, by simpa using hpB⟩⟩, hre.2⟩
          · obtain ⟨hr1, hr2⟩ := List.mem_filter.1 hr
            rcases h0.2 r hr1 with (h3 | h3) | h3
            · exact .inl h3
            · exact .inr h3
            · exfalso
              have hw := msks_waits (ops := ops) ops.toList [] (by simp) (fun j i h => by simp at h) _ _ h3
              have hrc : r ∈ (pre ++ (i', rs) :: post).map (·.1) := by
                refine (hm r).2 ⟨?_, ?_⟩
                · rcases Nat.lt_or_ge r ops.size with h | h
                  · exact h
                  · have hz : (msks ops.toList []).getD r 0 = 0 := by
                      rw [List.getD_eq_getElem?_getD, List.getElem?_eq_none (by rw [msks_length]; simpa using h)]; rfl
                    rw [hz] at h3; simp at h3
                · cases hl : listed.getD r true with
                  | false => rfl
                  | true =>
                    exfalso
                    rcases Nat.lt_or_ge r listed.size with h | h
                    · have hl' : listed.getD r false = true := by simp [h] at hl ⊢; exact hl
                      exact unl hjc.2 (hw listed hcl (fun o' ho' e' he' hb' => hcl r hl' o' ho' e' he' hb'))
                    · have hz : (msks ops.toList []).getD r 0 = 0 := by
                        rw [List.getD_eq_getElem?_getD, List.getElem?_eq_none (by rw [msks_length]; simp; omega)]; rfl
                      rw [hz] at h3; simp at h3
              rw [e] at hrc
              simp only [List.append_assoc, List.cons_append, List.map_append, List.map_cons, List.mem_append, List.mem_cons] at hrc
              have hr2' : r ∉ B.map (·.1) := by simpa using hr2
              rcases hrc with h4 | h4 | h4 | h4 | h4
              · obtain ⟨q, hq, rfl⟩ := List.mem_map.1 h4
                have h5 := hpp
                rw [e] at h5
                have := ((List.pairwise_append.1 h5).2.2 q hq p List.mem_cons_self).nowait
                rw [this] at h3; cases h3
              · rw [h4] at h3
                obtain ⟨_, _, _, _, _, h6⟩ := hx p hpm
                rw [h6] at h3; cases h3
              · exact hr2' h4
              · subst h4
                exact hself hr1
              · obtain ⟨q, hq, rfl⟩ := List.mem_map.1 h4
                exact hlate q hq hr1
        · cases h0
    · obtain ⟨x', h1, h2, _⟩ := hx p hpm; rw [hx'] at h1; cases h1; exact h2

theorem closed_set {listed : Array Bool} {k : Nat} {o : Oper} (hcl : Closed ops listed) (ho : ops[k]? = some o) (hpre : ∀ e ∈ o.after, Region.binds .any e = true → listed.getD e.on false = true) : Closed ops (listed.setIfInBounds k true) := by
  intro j hj o' ho' e he hb
  rcases Nat.decEq k j with hne | rfl
  · rw [getD_set_ne _ hne] at hj
    exact getD_set_true (hcl j hj o' ho' e he hb)
  · rw [ho] at ho'; cases ho'
    exact getD_set_true (hpre e he hb)

/-- The entries that are left when one is done. -/
theorem mem_set {listed : Array Bool} (hls : listed.size = ops.size) {pre post : List (Nat × List Nat)} {k : Nat} {rs : List Nat} (hm : ∀ j, j ∈ (pre ++ (k, rs) :: post).map (·.1) ↔ (j < ops.size ∧ listed.getD j true = false))
    (hne : ∀ p ∈ pre ++ post, p.1 ≠ k) : ∀ j, j ∈ (pre ++ post).map (·.1) ↔ (j < ops.size ∧ (listed.setIfInBounds k true).getD j true = false) := by
  intro j
  rcases Nat.decEq k j with hne' | rfl
  · rw [getD_set_ne _ hne', ← hm j]
    simp only [List.map_append, List.map_cons, List.mem_append, List.mem_cons]
    constructor
    · rintro (h' | h')
      · exact .inl h'
      · exact .inr (.inr h')
    · rintro (h' | h' | h')
      · exact .inl h'
      · exact absurd h'.symm hne'
      · exact .inr h'
  · constructor
    · intro h'
      obtain ⟨p, hpm, he⟩ := List.mem_map.1 h'
      exact absurd he (hne p hpm)
    · intro ⟨h1, h2⟩
      have : k < listed.size := by omega
      simp [this] at h2

theorem ready_out {listed : Array Bool} {k : Nat} (hk : k ∈ Region.ready .any ops listed) : k < ops.size ∧ listed.getD k true = false ∧ ∃ o, ops[k]? = some o ∧ ∀ e ∈ o.after, Region.binds .any e = true → listed.getD e.on false = true := by
  obtain ⟨hir, hrd⟩ := List.mem_filter.1 hk
  simp only [Bool.and_eq_true, Bool.not_eq_true'] at hrd
  have hisz := List.mem_range.1 hir
  obtain ⟨o, ho⟩ : ∃ o, ops[k]? = some o := ⟨ops[k]'hisz, by simp [hisz]⟩
  refine ⟨hisz, hrd.1, o, ho, ?_⟩
  have h2 := hrd.2
  simp only [ho, Option.map_some, Option.getD_some, Array.all_eq_true_iff_forall_mem, Bool.or_eq_true, Bool.not_eq_true'] at h2
  intro e he hb
  rcases h2 e he with h0 | h0
  · rw [hb] at h0; cases h0
  · exact h0

theorem ready_in {listed : Array Bool} (hls : listed.size = ops.size) {c : List Nat} (hm : ∀ j, j ∈ c ↔ (j < ops.size ∧ listed.getD j true = false)) {k : Nat} {o : Oper} (hk : k ∈ c) (ho : ops[k]? = some o)
    (hown : ∀ e ∈ o.after, Region.binds .any e = true → e.on < ops.size ∧ e.on ∉ c) : k ∈ Region.ready .any ops listed := by
  have hk' := (hm k).1 hk
  refine List.mem_filter.2 ⟨List.mem_range.2 hk'.1, ?_⟩
  simp only [hk'.2, Bool.not_false, ho, Option.map_some, Option.getD_some, Bool.true_and, Array.all_eq_true_iff_forall_mem, Bool.or_eq_true, Bool.not_eq_true']
  intro e he
  cases hb : Region.binds .any e with
  | false => exact .inl rfl
  | true =>
    refine .inr ?_
    obtain ⟨hlt, hne⟩ := hown e he hb
    cases hl : listed.getD e.on true with
    | true =>
      have h1 : e.on < listed.size := by omega
      simp [h1] at hl
      simp [h1, hl]
    | false => exact absurd ((hm e.on).2 ⟨hlt, hl⟩) hne

/-- A list's entries but one that stands in it, moved to the front. -/
theorem gen_any2 {n : Nat} (hsel : ∀ (j : Nat) (o : Oper) cs b, ops[j]? = some o → o.op ≠ .select cs b) {Q : Exit → Act → World → Prop} {i j : Nat} {ri rj : List Nat} (hij : i ≠ j) (hiL : i ∉ rj) (hjL : j ∉ ri)
    (hei : ∀ x, ops[i]? = some x → ∀ e ∈ x.after, Region.binds .any e = true → e.on ≠ j) (hej : ∀ x, ops[j]? = some x → ∀ e ∈ x.after, Region.binds .any e = true → e.on ≠ i) (hoi : Own ops (i, ri)) (hoj : Own ops (j, rj)) : ∀ (fuel : Nat) (pre post : List (Nat × List Nat)) (listed : Array Bool) (a : Act) (w : World),
    a.tmps.size = n → listed.size = ops.size → Closed ops listed → (pre ++ (i, ri) :: post).Pairwise (Good ops n) → (pre ++ (j, rj) :: post).Pairwise (Good ops n) → (∀ p ∈ pre ++ post, Own ops p) →
    (∀ p ∈ post, ∀ x, ops[p.1]? = some x → cls x.op ≠ .eff ∨ Waits ops p.1 i ∨ Waits ops p.1 j) →
    (∀ k, k ∈ (pre ++ (i, ri) :: (j, rj) :: post).map (·.1) ↔ (k < ops.size ∧ listed.getD k true = false)) → (pre ++ (i, ri) :: (j, rj) :: post).length ≤ fuel →
    gen P ops (fun a w => gen P ops (Q .normal) ((i, ri) :: (j, rj) :: post) a w ∧ gen P ops (Q .normal) ((j, rj) :: (i, ri) :: post) a w) pre a w → wpAny P .any ops Q fuel listed a w := by
  intro fuel
  induction fuel with
  | zero => intro pre post listed a w _ _ _ _ _ _ _ _ hle _; simp at hle
  | succ fuel ih =>
    intro pre post listed a w hsz hls hcl hp1 hp2 hx hpost hm hle h
    have hpw1 := List.pairwise_append.1 hp1
    have hpw2 := List.pairwise_append.1 hp2
    have hc1 := List.pairwise_cons.1 hpw1.2.1
    have hc2 := List.pairwise_cons.1 hpw2.2.1
    have hms : (pre ++ (i, ri) :: (j, rj) :: post).map (·.1) = pre.map (·.1) ++ i :: j :: post.map (·.1) := by simp
    refine ⟨fun hr => ?_, fun k hk => ?_⟩
    · exfalso
      cases pre with
      | nil =>
        obtain ⟨x, h1, _, h3, _⟩ := hoi
        have : i ∈ Region.ready .any ops listed := by
          refine ready_in hls hm (by simp) h1 fun e he hb => ⟨(h3 e he hb).1, ?_⟩
          intro hmem
          simp only [List.nil_append, List.map_cons, List.mem_cons] at hmem
          rcases hmem with h' | h' | h'
          · exact (h3 e he hb).2 h'
          · exact hei x h1 e he hb h'
          · obtain ⟨q, hq, he'⟩ := List.mem_map.1 h'
            exact absurd he'.symm ((hc1.1 q hq).edge x h1 e he hb)
        rw [hr] at this; cases this
      | cons p0 pre =>
        obtain ⟨x, h1, _, h3, _⟩ := hx p0 (by simp)
        have g1 := (List.pairwise_cons.1 hp1).1
        have g2 := (List.pairwise_cons.1 hp2).1
        have : p0.1 ∈ Region.ready .any ops listed := by
          refine ready_in hls hm (by simp) h1 fun e he hb => ⟨(h3 e he hb).1, ?_⟩
          intro hmem
          simp only [List.cons_append, List.map_cons, List.map_append, List.mem_cons, List.mem_append] at hmem
          rcases hmem with h' | h' | h' | h' | h'
          · exact (h3 e he hb).2 h'
          · obtain ⟨q, hq, he'⟩ := List.mem_map.1 h'
            exact absurd he'.symm ((g1 q (List.mem_append_left _ hq)).edge x h1 e he hb)
          · exact absurd h' ((g1 (i, ri) (by simp)).edge x h1 e he hb)
          · exact absurd h' ((g2 (j, rj) (by simp)).edge x h1 e he hb)
          · obtain ⟨q, hq, he'⟩ := List.mem_map.1 h'
            exact absurd he'.symm ((g1 q (by simp [hq])).edge x h1 e he hb)
        rw [hr] at this; cases this
    · obtain ⟨hkz, hkl, o, ho, hpre⟩ := ready_out hk
      have hkc := (hm k).2 ⟨hkz, hkl⟩
      have hsz' : ∀ (d : Option Tmp) (v : Value), (a.put d v).tmps.size = n := fun d v => by rw [put_size]; exact hsz
      have hls' : (listed.setIfInBounds k true).size = ops.size := by simpa using hls
      have hcl' := closed_set hcl ho hpre
      rw [hms] at hkc
      simp only [List.mem_append, List.mem_cons] at hkc
      rcases hkc with hkp | rfl | rfl | hkq
      · -- ahead of the two
        obtain ⟨⟨k', rs⟩, hmem, rfl⟩ := List.mem_map.1 hkp
        obtain ⟨A, B, rfl⟩ := List.append_of_mem hmem
        have e1 : A ++ (k', rs) :: B ++ (i, ri) :: (j, rj) :: post = A ++ (k', rs) :: (B ++ (i, ri) :: (j, rj) :: post) := by simp
        rw [e1] at hm
        have hpp := List.pairwise_append.1 hpw1.1
        have hpk := List.pairwise_cons.1 hpp.2.1
        have hok := hx (k', rs) (by simp)
        have hlate : ∀ q ∈ B ++ (i, ri) :: (j, rj) :: post, q.1 ∉ rs := by
          intro q hq
          simp only [List.mem_append, List.mem_cons] at hq
          rcases hq with hq | rfl | rfl | hq
          · exact (hpk.1 q hq).later
          · exact (hpw1.2.2 (k', rs) (by simp) (i, ri) (by simp)).later
          · exact (hpw2.2.2 (k', rs) (by simp) (j, rj) (by simp)).later
          · exact (hpw1.2.2 (k', rs) (by simp) q (by simp [hq])).later
        have hfr := front_gen hls hcl ho hpre (by obtain ⟨_, _, _, _, h4, _⟩ := hok; exact h4) (fun p hp => hx p (by simp [hp])) hpp.1 (fun p hp => hpp.2.2 p hp _ List.mem_cons_self) hlate hm [] A rfl
        obtain ⟨_, _, hg⟩ := gen_front ho hsel (by obtain ⟨y, hy, h4, _⟩ := hok; rw [ho] at hy; cases hy; exact h4) A B a w hsz hfr h
        simp only [gen, ho] at hg
        have hne : ∀ p ∈ A ++ (B ++ (i, ri) :: (j, rj) :: post), p.1 ≠ k' := by
          intro p hpm
          simp only [List.mem_append, List.mem_cons] at hpm
          rcases hpm with h' | h' | rfl | rfl | h'
          · exact (hpp.2.2 p h' _ List.mem_cons_self).ne
          · exact Ne.symm (hpk.1 p h').ne
          · exact Ne.symm (hpw1.2.2 (k', rs) (by simp) (i, ri) (by simp)).ne
          · exact Ne.symm (hpw2.2.2 (k', rs) (by simp) (j, rj) (by simp)).ne
          · exact Ne.symm (hpw1.2.2 (k', rs) (by simp) p (by simp [h'])).ne
        have hm' := mem_set hls hm hne
        refine G.wpOp ho (hg.mono fun v w' ⟨_, hr⟩ => ih (A ++ B) post _ _ _ (hsz' _ _) hls' hcl' ?_ ?_ (fun p hp => hx p ?_) hpost (fun q => by simpa using hm' q) ?_ hr)
        · exact hp1.sublist (by simp)
        · exact hp2.sublist (by simp)
        · simp only [List.mem_append, List.mem_cons] at hp ⊢
          rcases hp with (h' | h') | h'
          · exact .inl (.inl h')
          · exact .inl (.inr (.inr h'))
          · exact .inr h'
        · simp only [List.length_append, List.length_cons] at hle ⊢; omega
      · -- the first of the two
        have h1 : gen P ops (Q .normal) (pre ++ (k, ri) :: (j, rj) :: post) a w := by
          rw [gen_append]; exact gen_mono (n := n) (fun a w _ h => h.1) _ _ _ hsz h
        have hlate : ∀ q ∈ (j, rj) :: post, q.1 ∉ ri := by
          intro q hq
          rcases List.mem_cons.1 hq with rfl | hq
          · exact hjL
          · exact (hc1.1 q hq).later
        have hfr := front_gen hls hcl ho hpre (by obtain ⟨_, _, _, _, h4, _⟩ := hoi; exact h4) (fun p hp => hx p (by simp [hp])) hpw1.1 (fun p hp => hpw1.2.2 p hp _ List.mem_cons_self) hlate hm [] pre rfl
        obtain ⟨_, _, hg⟩ := gen_front ho hsel (by obtain ⟨y, hy, h4, _⟩ := hoi; rw [ho] at hy; cases hy; exact h4) pre ((j, rj) :: post) a w hsz hfr h1
        simp only [gen, ho] at hg
        have hne : ∀ p ∈ pre ++ (j, rj) :: post, p.1 ≠ k := by
          intro p hpm
          simp only [List.mem_append, List.mem_cons] at hpm
          rcases hpm with h' | rfl | h'
          · exact (hpw1.2.2 p h' _ List.mem_cons_self).ne
          · exact hij.symm
          · exact Ne.symm (hc1.1 p h').ne
        refine G.wpOp ho (hg.mono fun v w' ⟨_, hr⟩ => gen_any hsel fuel (pre ++ (j, rj) :: post) _ _ _ (hsz' _ _) hls' hcl' hp2 ?_ (mem_set hls hm hne) ?_ hr)
        · intro p hp
          simp only [List.mem_append, List.mem_cons] at hp
          rcases hp with h' | rfl | h'
          · exact hx p (by simp [h'])
          · exact hoj
          · exact hx p (by simp [h'])
        · simp only [List.length_append, List.length_cons] at hle ⊢; omega
      · -- the second one
        have h1 : gen P ops (Q .normal) (pre ++ (k, rj) :: (i, ri) :: post) a w := by
          rw [gen_append]; exact gen_mono (n := n) (fun a w _ h => h.2) _ _ _ hsz h
        have hm2 : ∀ q, q ∈ (pre ++ (k, rj) :: (i, ri) :: post).map (·.1) ↔ (q < ops.size ∧ listed.getD q true = false) := by
          intro q
          rw [← hm q]
          simp only [List.map_append, List.map_cons, List.mem_append, List.mem_cons]
          constructor
          · rintro (h | h | h | h)
            · exact .inl h
            · exact .inr (.inr (.inl h))
            · exact .inr (.inl h)
            · exact .inr (.inr (.inr h))
          · rintro (h | h | h | h)
            · exact .inl h
            · exact .inr (.inr (.inl h))
            · exact .inr (.inl h)
            · exact .inr (.inr (.inr h))
        have hlate : ∀ q ∈ (i, ri) :: post, q.1 ∉ rj := by
          intro q hq
          rcases List.mem_cons.1 hq with rfl | hq
          · exact hiL
          · exact (hc2.1 q hq).later
        have hfr := front_gen hls hcl ho hpre (by obtain ⟨_, _, _, _, h4, _⟩ := hoj; exact h4) (fun p hp => hx p (by simp [hp])) hpw2.1 (fun p hp => hpw2.2.2 p hp _ List.mem_cons_self) hlate hm2 [] pre rfl
        obtain ⟨_, _, hg⟩ := gen_front ho hsel (by obtain ⟨y, hy, h4, _⟩ := hoj; rw [ho] at hy; cases hy; exact h4) pre ((i, ri) :: post) a w hsz hfr h1
        simp only [gen, ho] at hg
        have hne : ∀ p ∈ pre ++ (i, ri) :: post, p.1 ≠ k := by
          intro p hpm
          simp only [List.mem_append, List.mem_cons] at hpm
          rcases hpm with h' | rfl | h'
          · exact (hpw2.2.2 p h' _ List.mem_cons_self).ne
          · exact hij
          · exact Ne.symm (hc2.1 p h').ne
        refine G.wpOp ho (hg.mono fun v w' ⟨_, hr⟩ => gen_any hsel fuel (pre ++ (i, ri) :: post) _ _ _ (hsz' _ _) hls' hcl' hp1 ?_ (mem_set hls hm2 hne) ?_ hr)
        · intro p hp
          simp only [List.mem_append, List.mem_cons] at hp
          rcases hp with h' | rfl | h'
          · exact hx p (by simp [h'])
          · exact hoi
          · exact hx p (by simp [h'])
        · simp only [List.length_append, List.length_cons] at hle ⊢; omega
      · -- behind the two: it does not act
        obtain ⟨⟨k', rs⟩, hmem, rfl⟩ := List.mem_map.1 hkq
        have hok := hx (k', rs) (by simp [hmem])
        have hlist : ∀ {q}, q ∈ (pre ++ (i, ri) :: (j, rj) :: post).map (·.1) → listed.getD q true = false := fun hq => ((hm _).1 hq).2
        have hne' : cls o.op ≠ .eff := by
          rcases hpost (k', rs) hmem o ho with h' | h' | h'
          · exact h'
          · exact (unl (hlist (by simp)) (h' listed hcl (fun o' ho' => by rw [ho] at ho'; cases ho'; exact hpre))).elim
          · exact (unl (hlist (by simp)) (h' listed hcl (fun o' ho' => by rw [ho] at ho'; cases ho'; exact hpre))).elim
        obtain rfl : rs = [] := by
          obtain ⟨y, hy, h4, _⟩ := hok
          rw [ho] at hy; cases hy
          exact h4.resolve_left hne'
        obtain ⟨A, B, rfl⟩ := List.append_of_mem hmem
        have front : ∀ l : List (Nat × List Nat), (∀ p ∈ l, Good ops n p (k', []) ∧ Own ops p ∧ listed.getD p.1 true = false) → FrontOK ops n k' [] l := by
          intro l
          induction l with
          | nil => intro _; trivial
          | cons p l ihl =>
            intro hl
            obtain ⟨hg, hw, hpl⟩ := hl p List.mem_cons_self
            refine ⟨⟨?_, fun x hx' => ?_⟩, ihl fun q hq => hl q (List.mem_cons_of_mem _ hq)⟩
            · rcases hg.pair with h0 | h0
              · exact (unl hpl (h0 listed hcl (fun o' ho' => by rw [ho] at ho'; cases ho'; exact hpre))).elim
              · unfold pairC at h0
                unfold pairB
                split at h0
                · rename_i x y hxx hyy
                  rw [hxx, hyy]
                  simp only [List.filter_nil, List.all_nil, Bool.and_true] at h0 ⊢
                  exact h0
                · cases h0
            · obtain ⟨x', h1, h2, _⟩ := hw; rw [hx'] at h1; cases h1; exact h2
        have hgA : ∀ p ∈ A, Good ops n p (k', []) := fun p hp => (List.pairwise_append.1 hc1.2).2.2 p hp _ List.mem_cons_self
        have hA : ∀ p ∈ A, Good ops n p (k', []) ∧ Own ops p ∧ listed.getD p.1 true = false := fun p hp => ⟨hgA p hp, hx p (by simp [hp]), hlist (by simp; exact .inr (.inr (.inr (.inl ⟨_, hp⟩))))⟩
        have hgi : Good ops n (i, ri) (k', []) := hc1.1 _ hmem
        have hgj : Good ops n (j, rj) (k', []) := hc2.1 _ hmem
        have f1 : FrontOK ops n k' [] ((i, ri) :: (j, rj) :: A) := front _ fun p hp => by
          simp only [List.mem_cons] at hp
          rcases hp with rfl | rfl | hp
          · exact ⟨hgi, hoi, hlist (by simp)⟩
          · exact ⟨hgj, hoj, hlist (by simp)⟩
          · exact hA p hp
        have f2 : FrontOK ops n k' [] ((j, rj) :: (i, ri) :: A) := front _ fun p hp => by
          simp only [List.mem_cons] at hp
          rcases hp with rfl | rfl | hp
          · exact ⟨hgj, hoj, hlist (by simp)⟩
          · exact ⟨hgi, hoi, hlist (by simp)⟩
          · exact hA p hp
        have f3 : FrontOK ops n k' [] pre := front _ fun p hp => ⟨hpw1.2.2 p hp _ (List.mem_cons_of_mem _ hmem), hx p (by simp [hp]), hlist (by simp; exact .inl ⟨_, hp⟩)⟩
        have hg : gen P ops (fun a w => gen P ops (Q .normal) ((i, ri) :: (j, rj) :: (A ++ B)) a w ∧ gen P ops (Q .normal) ((j, rj) :: (i, ri) :: (A ++ B)) a w) (pre ++ [(k', [])]) a w := by
          rw [gen_append]
          refine gen_mono (n := n) (fun a w ha hh => ?_) _ _ _ hsz h
          obtain ⟨_, _, g1⟩ := gen_front ho hsel (.inr rfl) ((i, ri) :: (j, rj) :: A) B a w ha f1 hh.1
          obtain ⟨_, _, g2⟩ := gen_front ho hsel (.inr rfl) ((j, rj) :: (i, ri) :: A) B a w ha f2 hh.2
          rw [gen.eq_2, ho] at g1 g2 ⊢
          exact (G.both hne' g1 g2).mono fun v w' h => ⟨by simp, h.1.2, h.2.2⟩
        obtain ⟨_, _, hg⟩ := gen_front ho hsel (.inr rfl) pre [] a w hsz f3 hg
        rw [List.append_nil, gen.eq_2, ho] at hg
        have hne : ∀ p ∈ (pre ++ (i, ri) :: (j, rj) :: A) ++ B, p.1 ≠ k' := by
          intro p hpm
          simp only [List.mem_append, List.mem_cons] at hpm
          rcases hpm with (h' | rfl | rfl | h') | h'
          · exact (hpw1.2.2 p h' _ (List.mem_cons_of_mem _ hmem)).ne
          · exact hgi.ne
          · exact hgj.ne
          · exact (hgA p h').ne
          · exact Ne.symm ((List.pairwise_cons.1 (List.pairwise_append.1 hc1.2).2.1).1 p h').ne
        have e1 : pre ++ (i, ri) :: (j, rj) :: (A ++ (k', []) :: B) = (pre ++ (i, ri) :: (j, rj) :: A) ++ (k', []) :: B := by simp
        rw [e1] at hm
        have hm' := mem_set hls hm hne
        refine G.wpOp ho (hg.mono fun v w' ⟨_, hr⟩ => ih pre (A ++ B) _ _ _ (hsz' _ _) hls' hcl' ?_ ?_ (fun p hp => hx p ?_) (fun p hp => hpost p ?_) (fun q => by simpa using hm' q) ?_ hr)
        · exact hp1.sublist (by simp)
        · exact hp2.sublist (by simp)
        · simp only [List.mem_append, List.mem_cons] at hp ⊢
          rcases hp with h' | h' | h'
          · exact .inl h'
          · exact .inr (.inl h')
          · exact .inr (.inr (.inr h'))
        · simp only [List.mem_append, List.mem_cons] at hp ⊢
          rcases hp with h' | h'
          · exact .inl h'
          · exact .inr (.inr h')
        · simp only [List.length_append, List.length_cons] at hle ⊢; omega

/-- The check of an order with two operations that may come either way. -/
def okOrder2 (ops : Array Oper) (n : Nat) (pre : List (Nat × List Nat)) (p q : Nat × List Nat) (post : List (Nat × List Nat)) : Bool :=
  let ms := msks ops.toList []
  Region.noSelect ops && Nat.beq (pre ++ p :: q :: post).length ops.size && okOrder.goB ops n ms (pre ++ p :: post) && okOrder.goB ops n ms (pre ++ q :: post) && !(Nat.beq p.1 q.1) && !(q.2.contains p.1) && !(p.2.contains q.1)
    && (match ops[p.1]? with | some x => x.after.toList.all fun e => !(Region.binds .any e) || !(Nat.beq e.on q.1) | none => false)
    && (match ops[q.1]? with | some x => x.after.toList.all fun e => !(Region.binds .any e) || !(Nat.beq e.on p.1) | none => false)
    && (post.all fun r => match ops[r.1]? with | some x => !(cls x.op == .eff) || (ms.getD r.1 0).testBit p.1 || (ms.getD r.1 0).testBit q.1 | none => false)

theorem wp_region_order2 {n : Nat} {Q : Exit → Act → World → Prop} {id : Nat} {a : Act} {w : World} (hm : P.follows .mixedOrders = true) {pre post : List (Nat × List Nat)} {p q : Nat × List Nat} (hc : okOrder2 ops n pre p q post = true) (ha : a.tmps.size = n)
    (h : gen P ops (fun a w => gen P ops (Q .normal) (p :: q :: post) a w ∧ gen P ops (Q .normal) (q :: p :: post) a w) pre a w.drew) : (Code.region id ops true).wp P Q a w := by
  obtain ⟨i, ri⟩ := p
  obtain ⟨j, rj⟩ := q
  simp only [okOrder2, Bool.and_eq_true, Bool.not_eq_true'] at hc
  obtain ⟨⟨⟨⟨⟨⟨⟨⟨⟨hs, hlen⟩, g1⟩, g2⟩, hne⟩, hL1⟩, hL2⟩, e1⟩, e2⟩, hpost⟩ := hc
  have hsel : ∀ (j : Nat) (o : Oper) cs b, ops[j]? = some o → o.op ≠ .select cs b := fun j o cs b ho => Region.noSelect_spec hs j o cs b ho
  obtain ⟨hp1, hx1⟩ := goB_good g1
  obtain ⟨hp2, hx2⟩ := goB_good g2
  have hlen := Nat.eq_of_beq_eq_true hlen
  have hij : i ≠ j := fun e => by rw [e, Nat.beq_refl] at hne; cases hne
  have edge : ∀ {k l : Nat}, (match ops[k]? with | some x => x.after.toList.all fun e => !(Region.binds .any e) || !(Nat.beq e.on l) | none => false) = true → ∀ x, ops[k]? = some x → ∀ e ∈ x.after, Region.binds .any e = true → e.on ≠ l := by
    intro k l h x hx e he hb hon
    rw [hx] at h
    simp only [List.all_eq_true, Bool.or_eq_true, Bool.not_eq_true'] at h
    rcases h e (by simpa using he) with h0 | h0
    · rw [hb] at h0; cases h0
    · rw [hon, Nat.beq_refl] at h0; cases h0
  have hwait : ∀ r k, ((msks ops.toList []).getD r 0).testBit k = true → Waits ops r k := msks_waits ops.toList [] (by simp) (fun j i h => by simp at h)
  have hpw1 := List.pairwise_append.1 hp1
  have hpw2 := List.pairwise_append.1 hp2
  have hc1 := List.pairwise_cons.1 hpw1.2.1
  have hc2 := List.pairwise_cons.1 hpw2.2.1
  have hnd : ((pre ++ (i, ri) :: (j, rj) :: post).map (·.1)).Nodup := by
    refine List.pairwise_map.2 (List.pairwise_append.2 ⟨hpw1.1.imp fun h => h.ne, List.pairwise_cons.2 ⟨fun r hr => ?_, List.pairwise_cons.2 ⟨fun r hr => (hc2.1 r hr).ne, hc1.2.imp fun h => h.ne⟩⟩, fun r hr s hs => ?_⟩)
    · rcases List.mem_cons.1 hr with rfl | hr
      · exact hij
      · exact (hc1.1 r hr).ne
    · simp only [List.mem_cons] at hs
      rcases hs with rfl | rfl | hs
      · exact (hpw1.2.2 r hr _ List.mem_cons_self).ne
      · exact (hpw2.2.2 r hr _ List.mem_cons_self).ne
      · exact (hpw1.2.2 r hr s (List.mem_cons_of_mem _ hs)).ne
  have hown : ∀ r ∈ pre ++ (i, ri) :: (j, rj) :: post, Own ops r := by
    intro r hr
    simp only [List.mem_append, List.mem_cons] at hr
    rcases hr with hr | rfl | rfl | hr
    · exact hx1 r (by simp [hr])
    · exact hx1 _ (by simp)
    · exact hx2 _ (by simp)
    · exact hx1 r (by simp [hr])
  have hlt : ∀ k ∈ (pre ++ (i, ri) :: (j, rj) :: post).map (·.1), k < ops.size := by
    intro k hk
    obtain ⟨r, hr, rfl⟩ := List.mem_map.1 hk
    obtain ⟨x, hxx, _⟩ := hown r hr
    exact (Array.getElem?_eq_some_iff.1 hxx).1
  refine wp_region_any hm (gen_any2 hsel hij (by simpa using hL1) (by simpa using hL2) (edge e1) (edge e2) (hown _ (by simp)) (hown _ (by simp)) ops.size pre post _ a _ ha (by simp) ?_ hp1 hp2 (fun r hr => hown r ?_) (fun r hr x hxx => ?_) ?_ (by omega) h)
  · intro j hj
    have := getD_size hj
    simp at this
    simp [this] at hj
  · simp only [List.mem_append, List.mem_cons] at hr ⊢
    rcases hr with h' | h'
    · exact .inl h'
    · exact .inr (.inr (.inr h'))
  · have := List.all_eq_true.1 hpost r hr
    rw [hxx] at this
    simp only [Bool.or_eq_true, Bool.not_eq_true', beq_eq_false_iff_ne, ne_eq] at this
    rcases this with (h' | h') | h'
    · exact .inl h'
    · exact .inr (.inl (hwait _ _ h'))
    · exact .inr (.inr (hwait _ _ h'))
  · intro k
    constructor
    · intro hk; have := hlt k hk; exact ⟨this, by simp [this]⟩
    · intro ⟨hk, _⟩
      exact mem_of_nodup hnd hlt (by simpa using hlen) k hk

theorem wp_region_order {n : Nat} {Q : Exit → Act → World → Prop} {id : Nat} {a : Act} {w : World} (hm : P.follows .mixedOrders = true) {c : List (Nat × List Nat)} (hc : okOrder ops n c = true) (ha : a.tmps.size = n)
    (h : gen P ops (Q .normal) c a w.drew) : (Code.region id ops true).wp P Q a w := by
  have hsel := okOrder_sel hc
  simp only [okOrder, Bool.and_eq_true] at hc
  obtain ⟨hp, hx⟩ := goB_good hc.2
  have hlen : c.length = ops.size := Nat.eq_of_beq_eq_true hc.1.2
  have hnd : (c.map (·.1)).Nodup := List.pairwise_map.2 (hp.imp fun hg => hg.ne)
  have hlt : ∀ j ∈ c.map (·.1), j < ops.size := by
    intro j hj
    obtain ⟨p, hpm, rfl⟩ := List.mem_map.1 hj
    obtain ⟨x, hxx, _, _⟩ := hx p hpm
    exact (Array.getElem?_eq_some_iff.1 hxx).1
  refine wp_region_any hm (gen_any hsel ops.size c _ a _ ha (by simp) ?_ hp hx ?_ (by omega) h)
  · intro j hj
    have := getD_size hj
    simp at this
    simp [this] at hj
  · intro j
    constructor
    · intro hj; have := hlt j hj; exact ⟨this, by simp [this]⟩
    · intro ⟨hj, _⟩
      exact mem_of_nodup hnd hlt (by simpa using hlen) j hj

/-- A plain order: nothing is named. -/
def plain (l : List Nat) : List (Nat × List Nat) := l.map fun i => (i, [])

theorem wp_region_plain {Q : Exit → Act → World → Prop} {id : Nat} {a : Act} {w : World} (h : gen P ops (Q .normal) (plain (List.range ops.size)) a w) : (Code.region id ops false).wp P Q a w := by
  refine wp_region ?_
  generalize List.range ops.size = l at h
  induction l generalizing a w with
  | nil => exact h
  | cons i l ih =>
    rw [wpOps_cons]
    simp only [plain, List.map_cons, gen] at h
    split at h
    · exact h.elim
    · rename_i o ho
      exact G.wpOp ho (h.mono fun v w' ⟨_, hr⟩ => ih hr)

end
end Go.Fl
