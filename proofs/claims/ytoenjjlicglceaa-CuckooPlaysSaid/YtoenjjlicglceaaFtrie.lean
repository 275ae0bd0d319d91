/-
  Chapter 14: the given program's trie in memory, and the walks of find, Put, Between, All.
-/
import Derived.Test.YtoenjjlicglceaaTtrie
import Derived.Test.YtoenjjlicglceaaFaddr
namespace Go.Fl
open Go.Proofs
set_option maxHeartbeats 2000000
set_option maxRecDepth 100000

def ptrV (b : Option Nat) : Value := .pointer (b.map fun b => ⟨b, 0, none⟩)
abbrev Nodes := Path → Option Nat
/-- A node's cells; the root bears the count, too. -/
def ncells (nd : Nodes) (val : Val) (cnt : Int) (u : Path) : List Value :=
  [.bool (val u).isSome, .int .i64 ((val u).getD 0), ptrV (nd (u ++ [false])), ptrV (nd (u ++ [true]))] ++ (if u = [] then [.int .i64 cnt] else [])
def ntype (u : Path) : Nat := if u = [] then 143 else 141
structure TrieN (w : World) (t : Nat) (nd : Nodes) (val : Val) (cnt : Int) (F : Nat → Prop) : Prop where
  root : nd [] = some t
  blk : ∀ u b, nd u = some b → Blk w.heap b (ncells nd val cnt u) (ntype u) ∧ F b
  inj : ∀ u v b, nd u = some b → nd v = some b → u = v
  deep : ∀ u b, nd u = some b → u.length ≤ 128
  up : ∀ u x, nd (u ++ [x]) ≠ none → nd u ≠ none
  has : ∀ u, val u ≠ none → nd u ≠ none
/-- A trie in memory, its blocks among those of F. -/
def TrieAt (w : World) (t : Nat) (val : Val) (cnt : Int) (F : Nat → Prop) : Prop := ∃ nd, TrieN w t nd val cnt F

section
variable {w w' : World} {t : Nat} {nd : Nodes} {val : Val} {cnt : Int} {F : Nat → Prop}
theorem TrieN.ext {S : Nat → Prop} (h : TrieN w t nd val cnt F) (he : Ext S w w') (hS : ∀ k, k < w.heap.size → F k → ¬ S k) : TrieN w' t nd val cnt F :=
  ⟨h.root, fun u b hu => ⟨he.blk (h.blk u b hu).1 (hS b (h.blk u b hu).1.lt (h.blk u b hu).2), (h.blk u b hu).2⟩, h.inj, h.deep, h.up, h.has⟩
theorem TrieN.mono {F' : Nat → Prop} (h : TrieN w t nd val cnt F) (hf : ∀ k, F k → F' k) : TrieN w t nd val cnt F' :=
  ⟨h.root, fun u b hu => ⟨(h.blk u b hu).1, hf _ (h.blk u b hu).2⟩, h.inj, h.deep, h.up, h.has⟩
theorem TrieN.old (h : TrieN w t nd val cnt F) : TrieN w t nd val cnt (fun k => F k ∧ k < w.heap.size) :=
  ⟨h.root, fun u b hu => ⟨(h.blk u b hu).1, (h.blk u b hu).2, (h.blk u b hu).1.lt⟩, h.inj, h.deep, h.up, h.has⟩
theorem TrieN.write (h : TrieN w t nd val cnt F) {u : Path} {b : Nat} (hu : nd u = some b) {val' : Val} {cnt' : Int} (hp : Put w w' b (ncells nd val' cnt' u) (ntype u)) (hsame : ∀ v, v ≠ u → ncells nd val' cnt' v = ncells nd val cnt v)
    (hhas : ∀ v, val' v ≠ none → nd v ≠ none) : TrieN w' t nd val' cnt' F := by
  refine ⟨h.root, fun v c hv => ⟨?_, (h.blk v c hv).2⟩, h.inj, h.deep, h.up, hhas⟩
  by_cases e : v = u
  · subst e
    rw [hu] at hv; cases hv
    exact hp.blk
  · have hcb : c ≠ b := fun e' => e (h.inj v u b (by rw [hv, e']) hu)
    have := (h.blk v c hv).1
    unfold Blk at this ⊢
    rw [hp.keep c hcb, hsame v e]; exact this

def Nodes.add (nd : Nodes) (v : Path) (b : Nat) : Nodes := fun x => if x = v then some b else nd x
theorem TrieN.new {w1 w2 : World} (h : TrieN w t nd val cnt F) {u : Path} {b : Nat} (hu : nd u = some b) (x : Bool) (hx : nd (u ++ [x]) = none) (hl : u.length < 128)
    (h1 : New w w1 [.bool false, .int .i64 0, .pointer none, .pointer none] 141) (h2 : Put w1 w2 b ((ncells nd val cnt u).set (2 + (if x = true then 1 else 0)) (ptrV (some w.heap.size))) (ntype u)) :
    TrieN w2 t (nd.add (u ++ [x]) w.heap.size) val cnt (Fresh F w) := by
  have hne : ∀ v : Path, u ++ [x] ≠ v ++ [] → True := fun _ _ => trivial
  have hold : ∀ v, v ≠ u ++ [x] → nd.add (u ++ [x]) w.heap.size v = nd v := fun v hv => by unfold Nodes.add; rw [if_neg hv]
  have hnew : nd.add (u ++ [x]) w.heap.size (u ++ [x]) = some w.heap.size := by unfold Nodes.add; rw [if_pos rfl]
  have hlt : ∀ v c, nd v = some c → c < w.heap.size := fun v c hv => (h.blk v c hv).1.lt
  have hbw := hlt u b hu
  refine ⟨?_, fun v c hv => ?_, fun v v' c hv hv' => ?_, fun v c hv => ?_, fun v y hv => ?_, fun v hv => ?_⟩
  · rw [hold [] (by simp)]; exact h.root
  · by_cases e : v = u ++ [x]
    · subst e
      rw [hnew] at hv; cases hv
      refine ⟨?_, .inr (Nat.le_refl _)⟩
      have hb1 : Blk w2.heap w.heap.size [.bool false, .int .i64 0, .pointer none, .pointer none] 141 := by
        have := h1.blk
        unfold Blk at this ⊢
        rw [h2.keep _ (by omega)]; exact this
      have hv0 : val (u ++ [x]) = none := by
        cases hc : val (u ++ [x]) with
        | none => rfl
        | some z => exact absurd hx (h.has _ (by rw [hc]; simp))
      have hc : ∀ y, nd.add (u ++ [x]) w.heap.size (u ++ [x] ++ [y]) = none := fun y => by
        rw [hold _ (by intro e; have := congrArg List.length e; simp at this)]
        cases hc : nd (u ++ [x] ++ [y]) with
        | none => rfl
        | some z => exact absurd hx (h.up _ y (by rw [hc]; simp))
      have e1 : ncells (nd.add (u ++ [x]) w.heap.size) val cnt (u ++ [x]) = [.bool false, .int .i64 0, .pointer none, .pointer none] := by
        unfold ncells
        rw [hv0, hc, hc, if_neg (by simp)]; rfl
      have e2 : ntype (u ++ [x]) = 141 := by unfold ntype; rw [if_neg (by simp)]
      rw [e1, e2]; exact hb1
    · rw [hold v e] at hv
      by_cases e' : v = u
      · subst e'
        rw [hu] at hv; cases hv
        refine ⟨?_, .inl (h.blk v b hu).2⟩
        have hb := h2.blk
        have e1 : ncells (nd.add (v ++ [x]) w.heap.size) val cnt v = (ncells nd val cnt v).set (2 + (if x = true then 1 else 0)) (ptrV (some w.heap.size)) := by
          unfold ncells
          cases x
          · rw [hnew, hold (v ++ [true]) (by simp)]; rfl
          · rw [hnew, hold (v ++ [false]) (by simp)]; rfl
        rw [e1]; exact hb
      · have hcb : c ≠ b := fun e2 => e' (h.inj v u b (by rw [hv, e2]) hu)
        refine ⟨?_, .inl (h.blk v c hv).2⟩
        have hb := (h.blk v c hv).1
        have e1 : ncells (nd.add (u ++ [x]) w.heap.size) val cnt v = ncells nd val cnt v := by
          unfold ncells
          rw [hold (v ++ [false]) (fun e2 => e' (List.append_inj_left' e2 rfl)), hold (v ++ [true]) (fun e2 => e' (List.append_inj_left' e2 rfl))]
        rw [e1]
        unfold Blk at hb ⊢
        rw [h2.keep c hcb, h1.keep c (hlt v c hv)]; exact hb
  · by_cases e : v = u ++ [x] <;> by_cases e' : v' = u ++ [x]
    · rw [e, e']
    · subst e
      rw [hnew] at hv; cases hv
      rw [hold v' e'] at hv'
      have := hlt v' _ hv'; omega
    · subst e'
      rw [hnew] at hv'; cases hv'
      rw [hold v e] at hv
      have := hlt v _ hv; omega
    · rw [hold v e] at hv
      rw [hold v' e'] at hv'
      exact h.inj v v' c hv hv'
  · by_cases e : v = u ++ [x]
    · subst e; simp; omega
    · rw [hold v e] at hv; exact h.deep v c hv
  · by_cases e : v ++ [y] = u ++ [x]
    · have : v = u := List.append_inj_left' e rfl
      subst this
      rw [hold v (by simp), hu]; simp
    · rw [hold _ e] at hv
      have := h.up v y hv
      by_cases e' : v = u ++ [x]
      · rw [e', hnew]; simp
      · rw [hold v e']; exact this
  · have := h.has v hv
    by_cases e' : v = u ++ [x]
    · rw [e', hnew]; simp
    · rw [hold v e']; exact this
end

theorem bldNode0 {K : Value → Prop} (hK : K (.agg #[.bool false, .int .i64 0, .pointer none, .pointer none])) : PureSem Try.prog (Instr.build 141 #[]) K := PureSem.of _ (fun w => by kernel_rfl) hK
theorem bldTrie0 {K : Value → Prop} (hK : K (.agg #[.bool false, .int .i64 0, .pointer none, .pointer none, .int .i64 0])) : PureSem Try.prog (Instr.build 143 #[]) K := PureSem.of _ (fun w => by kernel_rfl) hK

theorem ncells_get (nd : Nodes) (val : Val) (cnt : Int) (u : Path) (x : Bool) : (ncells nd val cnt u)[2 + (if x = true then 1 else 0)]? = some (ptrV (nd (u ++ [x]))) := by cases x <;> rfl
theorem ncells_len (nd : Nodes) (val : Val) (cnt : Int) (u : Path) : 4 ≤ (ncells nd val cnt u).length := by unfold ncells; simp

/-- find, making what is not there. -/
theorem find_spec2 (t : Nat) (nd : Nodes) (val : Val) (cnt : Int) (F : Nat → Prop) (p : Pfx) (w : World) (h : TrieN w t nd val cnt F) :
    Ret Try.prog 133 #[.pointer (some ⟨t, 0, none⟩), p.val, .bool true] w fun v w' =>
      (rightF p = false ∧ v = .pointer none ∧ Ext No w w') ∨ (rightF p = true ∧ ∃ nd' b, v = .pointer (some ⟨b, 0, none⟩) ∧ nd' (path p) = some b ∧ TrieN w' t nd' val cnt (Fresh F w) ∧ Ext F w w') := by
  refine calls_ev (args := [_, _, _]) mixed Try.func133 ok_133 rfl ?_
  refine bx (cs := _) rfl ?_
  intro w1 h1
  have hp1 : Blk w1.heap w.heap.size p.cells 35 := h1.blk
  refine eqNil ?_
  refine ldN (cs := p.cells) (rfl) (hp1.at_) ?_
  refine Ret.mono (aRight_spec p w1) ?_
  rintro v2 w2 ⟨rfl, e2⟩
  have e2' : Ext No w w2 := (h1.ext No).trans e2
  cases hr : rightF p with
  | false =>
    exact .inl ⟨rfl, rfl, e2'⟩
  | true =>
    obtain ⟨hl0, hl1, _⟩ := (right_iff p).1 hr
    have hpl := path_length p
    have hp2 := e2.blk hp1 id
    have s1 := h1.size
    have s2 := e2.size
    have hroot := (h.blk [] t h.root).1.lt
    refine fa ?_
    refine loopx 0 [0, 2, 4, 7, 8] (fun k vs w' => ∃ (i : Nat) (nd' : Nodes) (b : Nat), i ≤ p.len.toNat ∧ k = p.len.toNat - i ∧ vs = [.pointer (some ⟨t, 0, none⟩), .bool true, .pointer (some ⟨w.heap.size, 0, none⟩), .pointer (some ⟨b, 0, none⟩), .int .i64 i] ∧ nd' ((path p).take i) = some b ∧ TrieN w' t nd' val cnt (fun k => (F k ∧ k < w.heap.size) ∨ w2.heap.size ≤ k) ∧ Blk w'.heap w.heap.size p.cells 35 ∧ w2.heap.size ≤ w'.heap.size ∧ Ext F w w') [7] (fun vs w' => ∃ (nd' : Nodes) (b : Nat), vs = [.pointer (some ⟨b, 0, none⟩)] ∧ nd' (path p) = some b ∧ TrieN w' t nd' val cnt (fun k => (F k ∧ k < w.heap.size) ∨ w2.heap.size ≤ k) ∧ w2.heap.size ≤ w'.heap.size ∧ Ext F w w')
      p.len.toNat _ rfl ⟨0, nd, t, by omega, by omega, rfl, by rw [List.take_zero]; exact h.root, (h.old.ext e2' fun _ _ _ => id).mono fun k hk => .inl hk, hp2, Nat.le_refl _, e2'.of_no⟩ ?_ ?_
    · skip
      rintro k vs w3 ⟨i, nd', b, hi, rfl, rfl, hnd, hT, hp3, s3, e3⟩
      refine fa ?_
      refine ld1 (hp3.cell 2) ?_
      refine TestK.mk (fun hlt => ?_) (fun hlt => ?_)
      · skip
        have hi' : i < p.len.toNat := by omega
        have hbit : bitI p.adr i = if p.adr.bit i = true then 1 else 0 := rfl
        refine neNil ?_
        refine fa ?_
        refine ldN (cs := p.adr.cells) (rfl) (hp3.part ⟨[.int .i64 p.len], rfl⟩) ?_
        refine Ret.mono (aBit_spec p.adr i _) ?_
        rintro v4 w4 ⟨rfl, e4⟩
        have hT4 := hT.ext e4 fun _ _ _ => id
        have hp4 := e4.blk hp3 id
        have s4 : w3.heap.size ≤ w4.heap.size := e4.size
        obtain ⟨hb4, hbF⟩ := hT4.blk _ b hnd
        have htake : (path p).take (i + 1) = (path p).take i ++ [p.adr.bit i] := by
          rw [List.take_succ_eq_append_getElem (by omega)]
          congr 2
          exact bitsOf_get _ _ _ hi'
        have hcl0 := ncells_get nd' val cnt ((path p).take i) (p.adr.bit i)
        have hlen := ncells_len nd' val cnt ((path p).take i)
        have hil : ((path p).take i).length < 128 := by rw [List.length_take]; omega
        generalize (path p).take i = u at *
        generalize p.adr.bit i = x at *
        refine fa ?_
        refine iaA ((if x = true then 1 else 0)) (by rw [hbit]; split <;> rfl) (by split <;> omega) ?_
        have hoff : 0 + 2 + (if x = true then 1 else 0) * 1 = 2 + (if x = true then 1 else 0) := by omega
        rw [hoff]
        cases hc : nd' (u ++ [x]) with
        | none =>
          rw [hc] at hcl0
          refine ld1 ((hb4.cell _).trans hcl0) ?_
          refine eqNil' ?_
          refine bldNode0 ?_
          refine bx (cs := _) rfl ?_
          intro w5 h5
          have hb5 := (h5.ext No).blk hb4 id
          refine stN (vs := [ptrV (some w4.heap.size)]) rfl rfl rfl (hb5) (by show 2 + (if x = true then 1 else 0) + 1 ≤ _; split <;> omega) ?_
          intro w6 h6
          have hT6 := hT4.new hnd x hc hil h5 h6
          have hb6 := h6.blk
          have hcell6 : hcell w6.heap b (2 + (if x = true then 1 else 0)) = some (ptrV (some w4.heap.size)) := by
            rw [hb6.cell]
            show ((ncells nd' val cnt u).set _ _)[_]? = _
            rw [List.getElem?_set_self (by split <;> omega)]
          refine ld1 (hcell6) ?_
          have hs5 := h5.size
          have e6 : Ext (· = b) w4 w6 := ((h5.ext No).of_no).andThen (h6.ext (S := (· = b)) fun _ => rfl) fun _ _ h => h
          have s6 := e6.size
          have hpb : w.heap.size ≠ b := by
            rcases hbF with hb' | hb'
            · omega
            · omega
          refine add64 (by omega) (by omega) ?_
          refine again (p.len.toNat - (i + 1)) (by omega) _ rfl ⟨i + 1, _, w4.heap.size, by omega, rfl, rfl, ?_, hT6.mono fun k hk => hk.elim id fun h => .inr (by omega), e6.blk hp4 hpb, by omega, (e3.then_no e4).andThen e6 fun k hk e => ?_⟩
          · rw [htake]; unfold Nodes.add; rw [if_pos rfl]
          · rcases hbF with hb' | hb'
            · rw [e]; exact hb'.1
            · omega
        | some c =>
          rw [hc] at hcl0
          refine ld1 ((hb4.cell _).trans hcl0) ?_
          refine eqNil ?_
          refine ld1 ((hb4.cell _).trans hcl0) ?_
          refine add64 (by omega) (by omega) ?_
          refine again (p.len.toNat - (i + 1)) (by omega) _ rfl ⟨i + 1, nd', c, by omega, rfl, rfl, by rw [htake]; exact hc, hT4, hp4, by omega, e3.then_no e4⟩
      · skip
        have hin : i = p.len.toNat := by omega
        rw [hin, List.take_of_length_le (by omega)] at hnd
        refine leave _ rfl ⟨nd', b, rfl, hnd, hT, s3, e3⟩
    · skip
      rintro vs w3 ⟨nd', b, rfl, hnd, hT, s3, e3⟩
      exact .inr ⟨rfl, nd', b, rfl, hnd, hT.mono fun k hk ↦ hk.elim (fun h ↦ .inl h.1) fun h ↦ .inr (by omega), e3⟩

section
variable {w w' w1 w2 : World} {t : Nat} {nd : Nodes} {val : Val} {cnt : Int} {F : Nat → Prop}
theorem put_other (val : Val) (u v : Path) (h : Int) (hv : v ≠ u) : val.put u h v = val v := by unfold Val.put; rw [if_neg hv]
theorem put_self (val : Val) (u : Path) (h : Int) : val.put u h u = some h := by unfold Val.put; rw [if_pos rfl]
/-- The count written. -/
theorem TrieN.count (h : TrieN w t nd val cnt F) (c : Int) (hp : Put w w1 t (splice (ncells nd val cnt []) (0 + 4) [.int .i64 c]) (ntype [])) : TrieN w1 t nd val c F := by
  refine h.write h.root (val' := val) (cnt' := c) hp (fun v hv => ?_) h.has
  unfold ncells; rw [if_neg hv, if_neg hv]
/-- A hop written. -/
theorem TrieN.hop (h : TrieN w t nd val cnt F) {u : Path} {b : Nat} (hu : nd u = some b) (x : Int) (hp : Put w w1 b (splice (ncells nd val cnt u) (0 + 1) [.int .i64 x]) (ntype u))
    (hq : Put w1 w2 b (splice (splice (ncells nd val cnt u) (0 + 1) [.int .i64 x]) (0 + 0) [.bool true]) (ntype u)) : TrieN w2 t nd (val.put u x) cnt F := by
  have hpq := hp.trans hq
  refine h.write hu (val' := val.put u x) (cnt' := cnt) ?_ (fun v hv => ?_) fun v hv => ?_
  · have e : ncells nd (val.put u x) cnt u = splice (splice (ncells nd val cnt u) (0 + 1) [.int .i64 x]) (0 + 0) [.bool true] := by
      unfold ncells
      rw [put_self]; rfl
    rw [e]; exact hpq
  · unfold ncells
    rw [put_other _ _ _ _ hv]
  · by_cases e : v = u
    · rw [e, hu]; simp
    · rw [put_other _ _ _ _ e] at hv; exact h.has v hv
end

theorem TriePut_spec (t : Nat) (val : Val) (cnt : Int) (F : Nat → Prop) (p : Pfx) (hop : Int) (w : World) (h : TrieAt w t val cnt F) (hc0 : 0 ≤ cnt) (hc1 : cnt < 1000000000000) :
    Ret Try.prog 104 #[.pointer (some ⟨t, 0, none⟩), p.val, .int .i64 hop] w fun v w' =>
      (rightF p = false ∧ v = .tuple #[.int .i64 0, .bool false] ∧ Ext No w w') ∨ (rightF p = true ∧ v = .tuple #[.int .i64 ((val (path p)).getD 0), .bool (val (path p)).isSome] ∧
        TrieAt w' t (val.put (path p) hop) (if (val (path p)).isSome = true then cnt else cnt + 1) (Fresh F w) ∧ Ext F w w') := by
  obtain ⟨nd, hT⟩ := h
  refine calls_ev (args := [_, _, _]) mixed Try.func104 ok_104 rfl ?_
  refine bx (cs := _) rfl ?_
  intro w1 h1
  refine ldN (cs := p.cells) (rfl) (h1.blk.at_) ?_
  refine Ret.mono (find_spec2 t nd val cnt F p w1 (hT.ext (h1.ext No) fun _ _ _ ↦ id)) ?_
  rintro v2 w2 hres
  rcases hres with ⟨hr, rfl, e2⟩ | ⟨hr, nd', b, rfl, hnd, hT2, e2⟩
  · skip
    refine eqNil' ?_
    exact .inl ⟨hr, rfl, (h1.ext No).trans e2⟩
  · have e2' : Ext F w w2 := (h1.ext No).of_no.andThen e2 fun _ _ h => h
    have s1 := h1.size
    have hTF : TrieN w2.drew t nd' val cnt (Fresh F w) := (hT2.mono fun k hk => hk.imp id fun h => by omega).ext (Quiet.drew w2).ext fun _ _ _ => id
    obtain ⟨hb, hbF⟩ := hTF.blk _ b hnd
    have hlen := ncells_len nd' val cnt (path p)
    have hfin : ∀ {w5 : World}, Ext (Fresh F w) w2 w5 → Ext F w w5 := fun e => e2'.andThen e fun k hk h => h.elim id fun h => by omega
    refine eqNil ?_
    refine fa ?_
    refine ld1 ((hb.cell 1).trans rfl) ?_
    cases hv : val (path p) with
    | none =>
      refine fa ?_
      refine ld1 (v := .bool false) ((hb.cell 0).trans (by show some (Value.bool (val (path p)).isSome) = _; rw [hv]; rfl)) ?_
      have hbr := (hTF.blk [] t hTF.root)
      refine fa ?_
      refine ld1 ((hbr.1.cell 4).trans rfl) ?_
      refine add64 (by omega) (by omega) ?_
      refine fa ?_
      refine stN (vs := [.int .i64 (cnt + 1)]) rfl rfl rfl (hbr.1) (Nat.le_refl 5) ?_
      intro w3 h3
      have hT3 := hTF.count (cnt + 1) h3
      have e3 : Ext (Fresh F w) w2 w3 := h3.ext fun _ => hbr.2
      have hb3 := (hT3.blk _ b hnd)
      refine fa ?_
      refine stN (vs := [.int .i64 hop]) rfl rfl rfl (hb3.1) (by show 0 + 1 + 1 ≤ _; have := ncells_len nd' val (cnt + 1) (path p); omega) ?_
      intro w4 h4
      refine fa ?_
      refine stN (vs := [.bool true]) rfl rfl rfl (h4.blk) (by rw [splice_length]; show 0 + 0 + 1 ≤ _; have := ncells_len nd' val (cnt + 1) (path p); omega) ?_
      intro w5 h5
      have hT5 := hT3.hop hnd hop h4 h5
      exact .inr ⟨hr, rfl, ⟨nd', hT5⟩, hfin ((e3.andThen (h4.ext (S := Fresh F w) fun _ ↦ hb3.2) fun _ _ h ↦ h).andThen (h5.ext (S := Fresh F w) fun _ ↦ hb3.2) fun _ _ h ↦ h)⟩
    | some z =>
      refine fa ?_
      refine ld1 (v := .bool true) ((hb.cell 0).trans (by show some (Value.bool (val (path p)).isSome) = _; rw [hv]; rfl)) ?_
      refine fa ?_
      refine stN (vs := [.int .i64 hop]) rfl rfl rfl (hb) (by show 0 + 1 + 1 ≤ _; omega) ?_
      intro w4 h4
      refine fa ?_
      refine stN (vs := [.bool true]) rfl rfl rfl (h4.blk) (by rw [splice_length]; show 0 + 0 + 1 ≤ _; omega) ?_
      intro w5 h5
      have hT5 := hTF.hop hnd hop h4 h5
      exact .inr ⟨hr, rfl, ⟨nd', hT5⟩, hfin ((h4.ext (S := Fresh F w) fun _ ↦ hbF).andThen (h5.ext (S := Fresh F w) fun _ ↦ hbF) fun _ _ h ↦ h)⟩

/-- A route or none, as it lies in a variable. -/
def rtO (o : Option Rt) : Rt := o.getD ⟨⟨0, 0, 0⟩, 0⟩
theorem betw_step {val : Val} {a : Adr} {low : Int} {n : Nat} : betwGo val a low (n + 1) = if low < n then match val (bitsOf a n) with
      | some h => some ⟨⟨(cutA a n).hi, (cutA a n).lo, n⟩, h⟩
      | none => betwGo val a low n
    else betwGo val a low n := rfl

theorem betw_none {val : Val} {a : Adr} {low : Int} {n : Nat} (h : ∀ m, n ≤ m → val (bitsOf a m) = none) : ∀ m, n ≤ m → betwGo val a low m = betwGo val a low n := by
  intro m hm
  induction m with
  | zero => rw [show n = 0 by omega]
  | succ m ih =>
    rcases Nat.lt_or_ge m n with h' | h'
    · rw [show n = m + 1 by omega]
    · rw [betw_step, h m h', ih h']
      simp
theorem TrieN.below {w : World} {t : Nat} {nd : Nodes} {val : Val} {cnt : Int} {F : Nat → Prop} (h : TrieN w t nd val cnt F) {a : Adr} {n : Nat} (hn : nd (bitsOf a n) = none) : ∀ m, n ≤ m → val (bitsOf a m) = none := by
  have hnd : ∀ m, n ≤ m → nd (bitsOf a m) = none := by
    intro m hm
    induction m with
    | zero => rw [show n = 0 by omega] at hn; exact hn
    | succ m ih =>
      rcases Nat.lt_or_ge m n with h' | h'
      · rw [show n = m + 1 by omega] at hn; exact hn
      · rw [bitsOf_succ]
        cases hc : nd (bitsOf a m ++ [a.bit m]) with
        | none => rfl
        | some z => exact absurd (ih h') (h.up _ _ (by rw [hc]; simp))
  intro m hm
  cases hc : val (bitsOf a m) with
  | none => rfl
  | some z => exact absurd (hnd m hm) (h.has _ (by rw [hc]; simp))

theorem ncells_next {h : Array Obj} {b T : Nat} {nd : Nodes} {val : Val} {cnt : Int} {u : Path} (hb : Blk h b (ncells nd val cnt u) T) (x : Bool) : hcell h b (0 + 2 + (if x = true then 1 else 0) * 1) = some (ptrV (nd (u ++ [x]))) := by
  rw [hb.cell, Nat.mul_one, Nat.zero_add]
  exact ncells_get nd val cnt u x
theorem Between_spec (t : Nat) (val : Val) (cnt : Int) (F : Nat → Prop) (a : Adr) (low high : Int) (w : World) (h : TrieAt w t val cnt F) :
    Ret Try.prog 113 #[.pointer (some ⟨t, 0, none⟩), a.val, .int .i64 low, .int .i64 high] w fun v w' => v = .tuple #[(rtO (betw val a low high)).val, .bool (betw val a low high).isSome] ∧ Ext No w w' := by
  obtain ⟨nd, hT⟩ := h
  refine calls_ev (args := [_, _, _, _]) mixed Try.func113 ok_113 rfl ?_
  refine bx (cs := _) rfl ?_
  intro w1 h1
  refine al (cs := _) rfl ?_
  intro w2 h2
  refine al (cs := _) rfl ?_
  intro w3 h3
  have s1 := h1.size
  have s2 := h2.size
  have s3 := h3.size
  have e3 : Ext No w w3 := ((h1.ext No).trans (h2.ext No)).trans (h3.ext No)
  have hT3 := hT.ext e3 fun _ _ _ => id
  have ha3 : Blk w3.heap w.heap.size a.cells 33 := ((h2.ext No).trans (h3.ext No)).blk h1.blk id
  have hz3 : Blk w3.heap w1.heap.size (rtO none).cells 45 := (h3.ext No).blk h2.blk id
  have ho3 : Blk w3.heap w2.heap.size (rtO none).cells 45 := h3.blk
  refine eqNil ?_
  refine fa ?_
  refine loopx 0 [2, 3, 5, 8, 10, 11, 12, 13] (fun k vs w' => ∃ (n : Nat), n ≤ 128 ∧ k = 129 - n ∧ vs = [.int .i64 low, .int .i64 high, .pointer (some ⟨w.heap.size, 0, none⟩), .pointer (some ⟨w1.heap.size, 0, none⟩), .pointer (some ⟨w2.heap.size, 0, none⟩), .bool (betwGo val a low n).isSome, ptrV (nd (bitsOf a n)), .int .i64 n] ∧
      n ≤ upTo high ∧ Blk w'.heap w2.heap.size (rtO (betwGo val a low n)).cells 45 ∧ Ext (· = w2.heap.size) w3 w') [8, 10, 11] (fun vs w' => vs = [.pointer (some ⟨w1.heap.size, 0, none⟩), .pointer (some ⟨w2.heap.size, 0, none⟩), .bool (betw val a low high).isSome] ∧ Blk w'.heap w2.heap.size (rtO (betw val a low high)).cells 45 ∧ Ext (· = w2.heap.size) w3 w') 129 _ rfl
    ⟨0, by omega, by omega, by rw [show bitsOf a 0 = [] from rfl, hT.root]; rfl, by omega, ho3, Ext.refl _ _⟩ ?_ ?_
  · skip
    rintro k vs w4 ⟨n, hn, rfl, rfl, hnu, ho4, e4⟩
    cases hnd : nd (bitsOf a n) with
    | none =>
      have hbw : betw val a low high = betwGo val a low n := betw_none (hT.below hnd) _ hnu
      refine neNil' ?_
      refine leave _ rfl ⟨by rw [hbw], by rw [hbw]; exact ho4, e4⟩
    | some b =>
      have hb3 := (hT3.blk _ b hnd).1
      have hbl := (hT.blk _ b hnd).1.lt
      have hb4 := e4.blk hb3 (by omega)
      refine neNil ?_
      refine TestK.mk (fun hle => ?_) (fun hle => ?_)
      · skip
        have hst := betw_step (val := val) (a := a) (low := low) (n := n)
        cases hv : val (bitsOf a n) with
        | none =>
          have hs : betwGo val a low (n + 1) = betwGo val a low n := by rw [hst, hv]; simp
          refine fa ?_
          refine ld1 (v := .bool false) ((hb4.cell 0).trans (by show some (Value.bool (val (bitsOf a n)).isSome) = _; simp [hv])) ?_
          have hoN := (by rw [hs]; exact ho4 : Blk w4.heap w2.heap.size (rtO (betwGo val a low (n + 1))).cells 45)
          have eN := e4
          have hbN := eN.blk hb3 (by omega)
          refine TestK.mk (fun h128 => ?_) (fun h128 => ?_)
          · skip
            have hu : upTo high = n + 1 := by unfold upTo; rw [if_neg (by omega)]; omega
            have hbw : betw val a low high = betwGo val a low (n + 1) := by unfold betw; rw [hu]
            refine leave _ rfl ⟨by rw [hbw, hs] <;> rfl, by rw [hbw]; exact hoN, eN⟩
          · skip
            have haN := eN.blk ha3 (by omega)
            refine ldN (cs := a.cells) (rfl) (haN.at_) ?_
            refine Ret.mono (aBit_spec a n _) ?_
            rintro v9 w9 ⟨rfl, e9⟩
            have hbit : bitI a n = if a.bit n = true then 1 else 0 := rfl
            refine fa ?_
            refine iaA ((if a.bit n = true then 1 else 0)) (by rw [hbit]; split <;> rfl) (by split <;> omega) ?_
            refine ld1 (ncells_next (e9.blk hbN id) (a.bit n)) ?_
            refine add64 (by omega) (by omega) ?_
            refine again (129 - (n + 1)) (by omega) _ rfl ⟨n + 1, by omega, rfl, by rw [hs, bitsOf_succ] <;> rfl, by unfold upTo; split <;> omega, e9.blk hoN id, eN.then_no e9⟩
        | some z =>
          refine fa ?_
          refine ld1 (v := .bool true) ((hb4.cell 0).trans (by show some (Value.bool (val (bitsOf a n)).isSome) = _; simp [hv])) ?_
          refine TestK.mk (fun hlow => ?_) (fun hlow => ?_)
          · skip
            have hs : betwGo val a low (n + 1) = some ⟨⟨(cutA a n).hi, (cutA a n).lo, n⟩, z⟩ := by (rw [hst, hv, if_pos hlow]; try rfl)
            refine draw [(0, []), (1, []), (3, []), (5, []), (6, []), (7, []), (8, []), (2, [8]), (4, []), (9, []), (10, []), (11, [])] (by kernel_rfl) ?_
            refine ldN (cs := a.cells) (rfl) ((e4.blk ha3 (by omega)).at_) ?_
            refine fa ?_
            refine ld1 (v := .int .i64 z) ((hb4.cell 1).trans (by show some (Value.int .i64 ((val (bitsOf a n)).getD 0)) = _; simp [hv])) ?_
            refine Ret.mono (aCut_spec a n _) ?_
            rintro v5 w5 ⟨rfl, e5⟩
            refine And.intro (ld1 (((e5.blk hb4 id).cell 1).trans (by show some (Value.int .i64 ((val (bitsOf a n)).getD 0)) = _; simp [hv])) rfl) ?_
            refine bldPfxA ?_
            refine bldRoute ?_
            refine stN (vs := Rt.cells ⟨⟨(cutA a n).hi, (cutA a n).lo, n⟩, z⟩) rfl rfl rfl (e5.blk ho4 id) (Nat.le_refl 4) ?_
            intro w6 h6
            have ho6 : Blk w6.heap w2.heap.size (Rt.cells ⟨⟨(cutA a n).hi, (cutA a n).lo, n⟩, z⟩) 45 := h6.blk
            have hoN := (by rw [hs]; exact ho6 : Blk w6.heap w2.heap.size (rtO (betwGo val a low (n + 1))).cells 45)
            have eN := (e4.then_no e5).andThen (h6.ext (S := (· = w2.heap.size)) fun _ ↦ rfl) fun _ _ h ↦ h
            have hbN := eN.blk hb3 (by omega)
            refine TestK.mk (fun h128 => ?_) (fun h128 => ?_)
            · skip
              have hu : upTo high = n + 1 := by unfold upTo; rw [if_neg (by omega)]; omega
              have hbw : betw val a low high = betwGo val a low (n + 1) := by unfold betw; rw [hu]
              refine leave _ rfl ⟨by rw [hbw, hs] <;> rfl, by rw [hbw]; exact hoN, eN⟩
            · skip
              have haN := eN.blk ha3 (by omega)
              refine ldN (cs := a.cells) (rfl) (haN.at_) ?_
              refine Ret.mono (aBit_spec a n _) ?_
              rintro v9 w9 ⟨rfl, e9⟩
              have hbit : bitI a n = if a.bit n = true then 1 else 0 := rfl
              refine fa ?_
              refine iaA ((if a.bit n = true then 1 else 0)) (by rw [hbit]; split <;> rfl) (by split <;> omega) ?_
              refine ld1 (ncells_next (e9.blk hbN id) (a.bit n)) ?_
              refine add64 (by omega) (by omega) ?_
              refine again (129 - (n + 1)) (by omega) _ rfl ⟨n + 1, by omega, rfl, by rw [hs, bitsOf_succ] <;> rfl, by unfold upTo; split <;> omega, e9.blk hoN id, eN.then_no e9⟩
          · skip
            have hs : betwGo val a low (n + 1) = betwGo val a low n := by rw [hst, if_neg hlow]
            have hoN := (by rw [hs]; exact ho4 : Blk w4.heap w2.heap.size (rtO (betwGo val a low (n + 1))).cells 45)
            have eN := e4
            have hbN := eN.blk hb3 (by omega)
            refine TestK.mk (fun h128 => ?_) (fun h128 => ?_)
            · skip
              have hu : upTo high = n + 1 := by unfold upTo; rw [if_neg (by omega)]; omega
              have hbw : betw val a low high = betwGo val a low (n + 1) := by unfold betw; rw [hu]
              refine leave _ rfl ⟨by rw [hbw, hs] <;> rfl, by rw [hbw]; exact hoN, eN⟩
            · skip
              have haN := eN.blk ha3 (by omega)
              refine ldN (cs := a.cells) (rfl) (haN.at_) ?_
              refine Ret.mono (aBit_spec a n _) ?_
              rintro v9 w9 ⟨rfl, e9⟩
              have hbit : bitI a n = if a.bit n = true then 1 else 0 := rfl
              refine fa ?_
              refine iaA ((if a.bit n = true then 1 else 0)) (by rw [hbit]; split <;> rfl) (by split <;> omega) ?_
              refine ld1 (ncells_next (e9.blk hbN id) (a.bit n)) ?_
              refine add64 (by omega) (by omega) ?_
              refine again (129 - (n + 1)) (by omega) _ rfl ⟨n + 1, by omega, rfl, by rw [hs, bitsOf_succ] <;> rfl, by unfold upTo; split <;> omega, e9.blk hoN id, eN.then_no e9⟩
      · skip
        have hu : upTo high = n := by
          have h2 := hnu
          unfold upTo at h2 ⊢
          by_cases hh : high < 0
          · rw [if_pos hh] at h2 ⊢; omega
          · rw [if_neg hh] at h2 ⊢; omega
        have hbw : betw val a low high = betwGo val a low n := by unfold betw; rw [hu]
        refine leave _ rfl ⟨by rw [hbw], by rw [hbw]; exact ho4, e4⟩
  · skip
    rintro vs w4 ⟨rfl, ho4, e4⟩
    refine ldN (cs := (rtO (betw val a low high)).cells) (rfl) (ho4.at_) ?_
    refine stN (vs := (rtO (betw val a low high)).cells) rfl rfl rfl (e4.blk hz3 (by omega)) (Nat.le_refl 4) ?_
    intro w5 h5
    have hb5 : Blk w5.heap w1.heap.size (rtO (betw val a low high)).cells 45 := h5.blk
    refine ldN (cs := (rtO (betw val a low high)).cells) rfl hb5.at_ ?_
    exact ⟨rfl, (e3.andThen e4 fun k hk e ↦ by omega).andThen (h5.ext (S := (· = w1.heap.size)) fun _ ↦ rfl) fun k hk e ↦ by omega⟩

def subT (val : Val) (f : Nat) (u : Path) (x : Bool) : List Rt := match f with | 0 => [] | f + 1 => allT val f (u ++ [x])
theorem allT_sub (val : Val) (f : Nat) (u : Path) : allT val f u = hereT val u ++ subT val f u false ++ subT val f u true := by
  cases f with
  | zero => simp [allT, subT]
  | succ f => rfl
theorem TrieN.none_below {w : World} {t : Nat} {nd : Nodes} {val : Val} {cnt : Int} {F : Nat → Prop} (h : TrieN w t nd val cnt F) {u : Path} (hn : nd u = none) (v : Path) : val (u ++ v) = none := by
  have hnd : nd (u ++ v) = none := by
    induction v using list_snoc with
    | h0 => rw [List.append_nil]; exact hn
    | hs v x ih =>
      rw [← List.append_assoc]
      cases hc : nd (u ++ v ++ [x]) with
      | none => rfl
      | some z => exact absurd ih (h.up _ _ (by rw [hc]; simp))
  cases hc : val (u ++ v) with
  | none => rfl
  | some z => exact absurd hnd (h.has _ (by rw [hc]; simp))
theorem TrieN.sub_nil {w : World} {t : Nat} {nd : Nodes} {val : Val} {cnt : Int} {F : Nat → Prop} (h : TrieN w t nd val cnt F) {u : Path} {x : Bool} (hn : nd (u ++ [x]) = none) (f : Nat) : subT val f u x = [] := by
  cases f with
  | zero => rfl
  | succ f =>
    refine List.eq_nil_iff_forall_not_mem.2 fun r hr => ?_
    obtain ⟨v, _, _, h2⟩ := (mem_allT f _ r).1 hr
    rw [h.none_below hn v] at h2; cases h2

def WalkC (f : Nat) : Prop := ∀ (t : Nat) (nd : Nodes) (val : Val) (cnt : Int) (F : Nat → Prop) (u : Path) (b base : Nat) (v : Value) (l : List Rt) (w : World), TrieN w t nd val cnt F → nd u = some b → u.length + f = 128 → OwnR base w v l → base ≤ w.heap.size →
  l.length + (allT val f u).length ≤ 1000000 → Ret Try.prog 105 #[.pointer (some ⟨b, 0, none⟩), (pfxOf u).val, v] w fun v' w' => OwnR base w' v' (l ++ allT val f u) ∧ (∀ k, v'.ownBlock = some k → v.ownBlock = some k ∨ w.heap.size ≤ k) ∧ Ext (fun k => v.ownBlock = some k) w w'

theorem own_route_ne {w : World} {t base : Nat} {nd : Nodes} {val : Val} {cnt : Int} {F : Nat → Prop} {v : Value} {l : List Rt} (h : TrieN w t nd val cnt F) (ho : OwnR base w v l) : ∀ u b, nd u = some b → v.ownBlock ≠ some b := by
  intro u b hu e
  have hb := (h.blk u b hu).1
  rcases own_cases ho with ⟨rfl, _, _⟩ | ⟨g, cap, ys, rfl, _, hg, _⟩
  · cases e
  · cases e
    unfold Blk at hb hg
    rw [hg] at hb
    simp only [Option.some.injEq, Obj.cells.injEq] at hb
    have h2 := hb.2.1
    unfold ntype at h2
    split at h2 <;> exact absurd h2 (by decide)
/-- Steps that write no more than a row of routes leave a trie alone. -/
theorem TrieN.own {w w' : World} {t base : Nat} {nd : Nodes} {val : Val} {cnt : Int} {F : Nat → Prop} {v : Value} {l : List Rt} (h : TrieN w t nd val cnt F) (ho : OwnR base w v l) (he : Ext (fun k => v.ownBlock = some k) w w') : TrieN w' t nd val cnt F :=
  ⟨h.root, fun u b hu => ⟨he.blk (h.blk u b hu).1 (own_route_ne h ho u b hu), (h.blk u b hu).2⟩, h.inj, h.deep, h.up, h.has⟩

def kids (val : Val) (f : Nat) (u : Path) (i : Nat) : List Rt := (if 1 ≤ i then subT val f u false else []) ++ (if 2 ≤ i then subT val f u true else [])
theorem kids_zero (val : Val) (f : Nat) (u : Path) : kids val f u 0 = [] := rfl
theorem kids_two (val : Val) (f : Nat) (u : Path) : kids val f u 2 = subT val f u false ++ subT val f u true := rfl
theorem kids_step (val : Val) (f : Nat) (u : Path) (x : Bool) : kids val f u ((if x = true then 1 else 0) + 1) = kids val f u (if x = true then 1 else 0) ++ subT val f u x := by cases x <;> simp [kids]
theorem kids_le (val : Val) (f : Nat) (u : Path) (x : Bool) : (kids val (f + 1) u (if x = true then 1 else 0)).length + (allT val f (u ++ [x])).length ≤ (subT val (f + 1) u false).length + (subT val (f + 1) u true).length := by
  cases x
  · simp [kids, subT]
  · simp [kids, subT]
theorem kid_false (u : Path) : pfxOf (u ++ [false]) = ⟨(pfxOf u).hi, (pfxOf u).lo, (pfxOf u).len + 1⟩ := by
  unfold pfxOf
  rw [adrOf_snoc]
  simp
theorem kid_true (u : Path) : pfxOf (u ++ [true]) = ⟨(withA (pfxOf u).adr u.length).hi, (withA (pfxOf u).adr u.length).lo, (pfxOf u).len + 1⟩ := by
  unfold pfxOf
  rw [adrOf_snoc]
  simp [Pfx.adr]
theorem walk_step (f : Nat) (ih : ∀ f', f = f' + 1 → WalkC f') : WalkC f := by
  intro t nd val cnt F u b base v l w hT hu huf ho hbase hn
  refine calls_ev (args := [_, _, _]) mixed Try.func105 ok_105 rfl ?_
  refine bx (cs := _) rfl ?_
  intro w1 h1
  have s1 := h1.size
  have hp1 : Blk w1.heap w.heap.size (pfxOf u).cells 35 := h1.blk
  have hT1 := hT.ext (h1.ext No) fun _ _ _ => id
  have ho1 := OwnR.no ho (h1.ext No)
  have hb1 := (hT1.blk u b hu).1
  have hall := allT_sub val f u
  have hlen : (allT val f u).length = (hereT val u).length + (subT val f u false).length + (subT val f u true).length := by rw [hall, List.length_append, List.length_append]
  cases hv : val u with
  | some z =>
    have hh : hereT val u = [⟨pfxOf u, z⟩] := by unfold hereT; rw [hv]
    have hh1 : (hereT val u).length = 1 := by rw [hh]; rfl
    refine fa ?_
    refine ld1 (v := .bool true) ((hb1.cell 0).trans (by show some (Value.bool (val u).isSome) = _; simp [hv])) ?_
    refine ldN (cs := (pfxOf u).cells) (rfl) (hp1.at_) ?_
    refine fa ?_
    refine ld1 (v := .int .i64 z) ((hb1.cell 1).trans (by show some (Value.int .i64 ((val u).getD 0)) = _; simp [hv])) ?_
    refine bldRoute ?_
    refine bsRoute1 ?_
    intro w2 h2
    have s2 := h2.size
    refine apG rlen rone (OwnR.no ho1 (h2.ext No)) (isSl_one h2.blk) (by show l.length + 1 ≤ _; omega) (by decide) (Nat.le_trans hbase (Nat.le_trans (h1.ext No).size (h2.ext No).size)) ?_
    intro v3 w3 h3 f3 e3'
    have hne : w.heap.size ≠ w.heap.size + 1 := by omega
    have hvb := fun k (hk : v.ownBlock = some k) => own_lt ho hk
    have hT3 := ((hT1.ext (h2.ext No) fun _ _ _ => id).own (OwnR.no ho1 (h2.ext No)) e3')
    have ho3 := (by rw [hh]; exact h3 : OwnR base w3 v3 (l ++ hereT val u))
    have hf3 := (fun k hk => (f3 k hk).imp id fun h => Nat.le_trans (h2.ext No).size h : ∀ k, v3.ownBlock = some k → v.ownBlock = some k ∨ w1.heap.size ≤ k)
    have e3 := (((h1.ext No).trans (h2.ext No)).of_no.andThen e3' fun _ _ h => h : Ext (fun k => v.ownBlock = some k) w w3)
    have hp3 := e3'.blk ((h2.ext No).blk hp1 id) (fun e => by have := hvb _ e; omega)
    have s3 := e3.size
    have hb3 := (hT3.blk u b hu).1
    refine fa ?_
    refine ldN (cs := [ptrV (nd (u ++ [false])), ptrV (nd (u ++ [true]))]) rfl (hb3.part ⟨if u = [] then [.int .i64 cnt] else [], rfl⟩) ?_
    refine loop [2, 4, 26, 27] (fun k vs w' => ∃ (i : Nat) (v' : Value), i ≤ 2 ∧ k = 2 - i ∧ vs = [v', .pointer (some ⟨w.heap.size, 0, none⟩), .agg #[ptrV (nd (u ++ [false])), ptrV (nd (u ++ [true]))], .int .i64 i] ∧
      OwnR base w' v' (l ++ hereT val u ++ kids val f u i) ∧ (∀ k, v'.ownBlock = some k → v.ownBlock = some k ∨ w1.heap.size ≤ k) ∧ TrieN w' t nd val cnt F ∧ Blk w'.heap w.heap.size (pfxOf u).cells 35 ∧ Ext (fun k => v.ownBlock = some k) w w') 2 _ rfl
      ⟨0, _, by omega, rfl, rfl, by rw [kids_zero, List.append_nil]; exact ho3, hf3, hT3, hp3, e3⟩ ?_
    rintro k vs w4 ⟨i, v4, hi, rfl, rfl, ho4, hf4, hT4, hp4, e4⟩
    have s4 := e4.size
    refine TestK.mk (fun hlt => ?_) (fun hlt => ?_)
    · skip
      obtain ⟨x, rfl⟩ : ∃ x : Bool, i = if x = true then 1 else 0 := ⟨decide (i = 1), by by_cases h : i = 1 <;> simp [h]; omega⟩
      have hcs : [ptrV (nd (u ++ [false])), ptrV (nd (u ++ [true]))][if x = true then 1 else 0]'(by cases x <;> simp) = ptrV (nd (u ++ [x])) := by cases x <;> rfl
      refine ixO (cs := [ptrV (nd (u ++ [false])), ptrV (nd (u ++ [true]))]) (if x = true then 1 else 0) rfl (by cases x <;> simp) (by cases x <;> simp) ?_
      rw [hcs]
      cases hc : nd (u ++ [x]) with
      | none =>
        refine eqNil' ?_
        refine add64 (by omega) (by omega) ?_
        refine again (2 - ((if x = true then 1 else 0) + 1)) (by omega) _ rfl ⟨(if x = true then 1 else 0) + 1, v4, by omega, rfl, rfl, by rw [kids_step, hT.sub_nil hc, List.append_nil]; exact ho4, hf4, hT4, hp4, e4⟩
      | some c =>
        obtain ⟨f', rfl⟩ : ∃ f', f = f' + 1 := ⟨f - 1, by have := hT.deep _ _ hc; simp at this; omega⟩
        have hpl : (pfxOf u).len = (u.length : Int) := rfl
        have hkl : (l ++ hereT val u ++ kids val (f' + 1) u (if x = true then 1 else 0)).length + (allT val f' (u ++ [x])).length ≤ 1000000 := by
          have h2 := kids_le val f' u x
          rw [List.length_append, List.length_append]
          omega
        refine eqNil ?_
        refine fa ?_
        refine ldN (cs := (pfxOf u).adr.cells) (rfl) (hp4.part ⟨[.int .i64 (pfxOf u).len], rfl⟩) ?_
        refine fa ?_
        refine ld1 (hp4.cell 2) ?_
        refine add64 (by omega) (by omega) ?_
        refine bldPfxA ?_
        refine al (cs := _) rfl ?_
        intro w5 h5
        refine stN (vs := Pfx.cells ⟨(pfxOf u).hi, (pfxOf u).lo, (pfxOf u).len + 1⟩) rfl rfl rfl (h5.blk) (Nat.le_refl 3) ?_
        intro w6 h6
        have hq6 : Blk w6.heap w4.heap.size (Pfx.cells ⟨(pfxOf u).hi, (pfxOf u).lo, (pfxOf u).len + 1⟩) 35 := h6.blk
        have e46 : Ext (· = w4.heap.size) w4 w6 := (h5.ext _).andThen (h6.ext (S := (· = w4.heap.size)) fun _ => rfl) fun _ _ h => h
        have hpl4 := hp4.lt
        refine TestK.mk (fun hx1 => ?_) (fun hx1 => ?_)
        · skip
          obtain rfl : x = true := by
            cases x
            · simp at hx1
            · rfl
          refine fa ?_
          refine ldN (cs := (pfxOf u).adr.cells) (rfl) (hq6.part ⟨[.int .i64 ((pfxOf u).len + 1)], rfl⟩) ?_
          refine fa ?_
          refine ld1 ((e46.blk hp4 (by omega)).cell 2) ?_
          refine Ret.mono (tWith_spec (pfxOf u).adr u.length w6 (by have := hT.deep _ _ hc; simp at this; omega)) ?_
          rintro v7 w7 ⟨rfl, e7⟩
          refine fa ?_
          refine stN (vs := (withA (pfxOf u).adr u.length).cells) rfl rfl rfl (e7.blk hq6 id) (by show 0 + 0 + 2 ≤ 3; omega) ?_
          intro w8 h8
          have e8 : Ext (· = w4.heap.size) w4 w8 := (e46.then_no e7).andThen (h8.ext (S := (· = w4.heap.size)) fun _ => rfl) fun _ _ h => h
          have hqN := (by rw [kid_true]; exact h8.blk : Blk w8.heap w4.heap.size (pfxOf (u ++ [true])).cells 35)
          have eN := e8
          have hTN := hT4.ext eN fun k hk _ e => by omega
          have hoN := World.ownsRow.ext ho4 eN fun k hk e => by have := own_lt ho4 hk; omega
          have sN := eN.size
          refine ldN (cs := (pfxOf (u ++ [true])).cells) (rfl) (hqN.at_) ?_
          refine Ret.mono (ih f' rfl t nd val cnt F (u ++ [true]) c base v4 _ _ hTN hc (by rw [List.length_append]; show u.length + 1 + f' = 128; omega) hoN (by omega) hkl) ?_
          rintro v9 w9 ⟨h9, f9, e9⟩
          have hvw := fun k (hk : v4.ownBlock = some k) => (hf4 k hk)
          refine add64 (by omega) (by omega) ?_
          refine again (2 - ((if true = true then 1 else 0) + 1)) (by simp) _ rfl ⟨(if true = true then 1 else 0) + 1, v9, by simp, rfl, rfl, by rw [kids_step, ← List.append_assoc]; exact h9, fun k hk => (f9 k hk).elim (hf4 k) fun h => .inr (by omega), hTN.own hoN e9,
            e9.blk (eN.blk hp4 (by omega)) (fun e => (hvw _ e).elim (fun h => by have := own_lt ho h; omega) fun h => by omega), (e4.andThen eN fun k hk e => by omega).andThen e9 fun k hk e => (hvw _ e).elim id fun h => by omega⟩
        · skip
          obtain rfl : x = false := by
            cases x
            · rfl
            · simp at hx1
          have hqN := (by rw [kid_false]; exact hq6 : Blk w6.heap w4.heap.size (pfxOf (u ++ [false])).cells 35)
          have eN := e46
          have hTN := hT4.ext eN fun k hk _ e => by omega
          have hoN := World.ownsRow.ext ho4 eN fun k hk e => by have := own_lt ho4 hk; omega
          have sN := eN.size
          refine ldN (cs := (pfxOf (u ++ [false])).cells) (rfl) (hqN.at_) ?_
          refine Ret.mono (ih f' rfl t nd val cnt F (u ++ [false]) c base v4 _ _ hTN hc (by rw [List.length_append]; show u.length + 1 + f' = 128; omega) hoN (by omega) hkl) ?_
          rintro v9 w9 ⟨h9, f9, e9⟩
          have hvw := fun k (hk : v4.ownBlock = some k) => (hf4 k hk)
          refine add64 (by omega) (by omega) ?_
          refine again (2 - ((if false = true then 1 else 0) + 1)) (by simp) _ rfl ⟨(if false = true then 1 else 0) + 1, v9, by simp, rfl, rfl, by rw [kids_step, ← List.append_assoc]; exact h9, fun k hk => (f9 k hk).elim (hf4 k) fun h => .inr (by omega), hTN.own hoN e9,
            e9.blk (eN.blk hp4 (by omega)) (fun e => (hvw _ e).elim (fun h => by have := own_lt ho h; omega) fun h => by omega), (e4.andThen eN fun k hk e => by omega).andThen e9 fun k hk e => (hvw _ e).elim id fun h => by omega⟩
    · skip
      have hi2 : i = 2 := by omega
      subst hi2
      have hfin : OwnR base w4 v4 (l ++ allT val f u) := by
        rw [allT_sub]
        rw [kids_two] at ho4
        simpa using ho4
      exact ⟨hfin, fun k hk ↦ (hf4 k hk).imp id fun h ↦ by omega, e4⟩
  | none =>
    have hh : hereT val u = [] := by unfold hereT; rw [hv]
    refine fa ?_
    refine ld1 (v := .bool false) ((hb1.cell 0).trans (by show some (Value.bool (val u).isSome) = _; simp [hv])) ?_
    have hT3 := hT1
    have ho3 := (by rw [hh, List.append_nil]; exact ho1 : OwnR base w1 v (l ++ hereT val u))
    have hf3 := (fun k hk => .inl hk : ∀ k, v.ownBlock = some k → v.ownBlock = some k ∨ w1.heap.size ≤ k)
    have e3 := ((h1.ext No).of_no : Ext (fun k => v.ownBlock = some k) w w1)
    have hp3 := hp1
    have s3 := e3.size
    have hb3 := (hT3.blk u b hu).1
    refine fa ?_
    refine ldN (cs := [ptrV (nd (u ++ [false])), ptrV (nd (u ++ [true]))]) rfl (hb3.part ⟨if u = [] then [.int .i64 cnt] else [], rfl⟩) ?_
    refine loop [2, 4, 26, 27] (fun k vs w' => ∃ (i : Nat) (v' : Value), i ≤ 2 ∧ k = 2 - i ∧ vs = [v', .pointer (some ⟨w.heap.size, 0, none⟩), .agg #[ptrV (nd (u ++ [false])), ptrV (nd (u ++ [true]))], .int .i64 i] ∧
      OwnR base w' v' (l ++ hereT val u ++ kids val f u i) ∧ (∀ k, v'.ownBlock = some k → v.ownBlock = some k ∨ w1.heap.size ≤ k) ∧ TrieN w' t nd val cnt F ∧ Blk w'.heap w.heap.size (pfxOf u).cells 35 ∧ Ext (fun k => v.ownBlock = some k) w w') 2 _ rfl
      ⟨0, _, by omega, rfl, rfl, by rw [kids_zero, List.append_nil]; exact ho3, hf3, hT3, hp3, e3⟩ ?_
    rintro k vs w4 ⟨i, v4, hi, rfl, rfl, ho4, hf4, hT4, hp4, e4⟩
    have s4 := e4.size
    refine TestK.mk (fun hlt => ?_) (fun hlt => ?_)
    · skip
      obtain ⟨x, rfl⟩ : ∃ x : Bool, i = if x = true then 1 else 0 := ⟨decide (i = 1), by by_cases h : i = 1 <;> simp [h]; omega⟩
      have hcs : [ptrV (nd (u ++ [false])), ptrV (nd (u ++ [true]))][if x = true then 1 else 0]'(by cases x <;> simp) = ptrV (nd (u ++ [x])) := by cases x <;> rfl
      refine ixO (cs := [ptrV (nd (u ++ [false])), ptrV (nd (u ++ [true]))]) (if x = true then 1 else 0) rfl (by cases x <;> simp) (by cases x <;> simp) ?_
      rw [hcs]
      cases hc : nd (u ++ [x]) with
      | none =>
        refine eqNil' ?_
        refine add64 (by omega) (by omega) ?_
        refine again (2 - ((if x = true then 1 else 0) + 1)) (by omega) _ rfl ⟨(if x = true then 1 else 0) + 1, v4, by omega, rfl, rfl, by rw [kids_step, hT.sub_nil hc, List.append_nil]; exact ho4, hf4, hT4, hp4, e4⟩
      | some c =>
        obtain ⟨f', rfl⟩ : ∃ f', f = f' + 1 := ⟨f - 1, by have := hT.deep _ _ hc; simp at this; omega⟩
        have hpl : (pfxOf u).len = (u.length : Int) := rfl
        have hkl : (l ++ hereT val u ++ kids val (f' + 1) u (if x = true then 1 else 0)).length + (allT val f' (u ++ [x])).length ≤ 1000000 := by
          have h2 := kids_le val f' u x
          rw [List.length_append, List.length_append]
          omega
        refine eqNil ?_
        refine fa ?_
        refine ldN (cs := (pfxOf u).adr.cells) (rfl) (hp4.part ⟨[.int .i64 (pfxOf u).len], rfl⟩) ?_
        refine fa ?_
        refine ld1 (hp4.cell 2) ?_
        refine add64 (by omega) (by omega) ?_
        refine bldPfxA ?_
        refine al (cs := _) rfl ?_
        intro w5 h5
        refine stN (vs := Pfx.cells ⟨(pfxOf u).hi, (pfxOf u).lo, (pfxOf u).len + 1⟩) rfl rfl rfl (h5.blk) (Nat.le_refl 3) ?_
        intro w6 h6
        have hq6 : Blk w6.heap w4.heap.size (Pfx.cells ⟨(pfxOf u).hi, (pfxOf u).lo, (pfxOf u).len + 1⟩) 35 := h6.blk
        have e46 : Ext (· = w4.heap.size) w4 w6 := (h5.ext _).andThen (h6.ext (S := (· = w4.heap.size)) fun _ => rfl) fun _ _ h => h
        have hpl4 := hp4.lt
        refine TestK.mk (fun hx1 => ?_) (fun hx1 => ?_)
        · skip
          obtain rfl : x = true := by
            cases x
            · simp at hx1
            · rfl
          refine fa ?_
          refine ldN (cs := (pfxOf u).adr.cells) (rfl) (hq6.part ⟨[.int .i64 ((pfxOf u).len + 1)], rfl⟩) ?_
          refine fa ?_
          refine ld1 ((e46.blk hp4 (by omega)).cell 2) ?_
          refine Ret.mono (tWith_spec (pfxOf u).adr u.length w6 (by have := hT.deep _ _ hc; simp at this; omega)) ?_
          rintro v7 w7 ⟨rfl, e7⟩
          refine fa ?_
          refine stN (vs := (withA (pfxOf u).adr u.length).cells) rfl rfl rfl (e7.blk hq6 id) (by show 0 + 0 + 2 ≤ 3; omega) ?_
          intro w8 h8
          have e8 : Ext (· = w4.heap.size) w4 w8 := (e46.then_no e7).andThen (h8.ext (S := (· = w4.heap.size)) fun _ => rfl) fun _ _ h => h
          have hqN := (by rw [kid_true]; exact h8.blk : Blk w8.heap w4.heap.size (pfxOf (u ++ [true])).cells 35)
          have eN := e8
          have hTN := hT4.ext eN fun k hk _ e => by omega
          have hoN := World.ownsRow.ext ho4 eN fun k hk e => by have := own_lt ho4 hk; omega
          have sN := eN.size
          refine ldN (cs := (pfxOf (u ++ [true])).cells) (rfl) (hqN.at_) ?_
          refine Ret.mono (ih f' rfl t nd val cnt F (u ++ [true]) c base v4 _ _ hTN hc (by rw [List.length_append]; show u.length + 1 + f' = 128; omega) hoN (by omega) hkl) ?_
          rintro v9 w9 ⟨h9, f9, e9⟩
          have hvw := fun k (hk : v4.ownBlock = some k) => (hf4 k hk)
          refine add64 (by omega) (by omega) ?_
          refine again (2 - ((if true = true then 1 else 0) + 1)) (by simp) _ rfl ⟨(if true = true then 1 else 0) + 1, v9, by simp, rfl, rfl, by rw [kids_step, ← List.append_assoc]; exact h9, fun k hk => (f9 k hk).elim (hf4 k) fun h => .inr (by omega), hTN.own hoN e9,
            e9.blk (eN.blk hp4 (by omega)) (fun e => (hvw _ e).elim (fun h => by have := own_lt ho h; omega) fun h => by omega), (e4.andThen eN fun k hk e => by omega).andThen e9 fun k hk e => (hvw _ e).elim id fun h => by omega⟩
        · skip
          obtain rfl : x = false := by
            cases x
            · rfl
            · simp at hx1
          have hqN := (by rw [kid_false]; exact hq6 : Blk w6.heap w4.heap.size (pfxOf (u ++ [false])).cells 35)
          have eN := e46
          have hTN := hT4.ext eN fun k hk _ e => by omega
          have hoN := World.ownsRow.ext ho4 eN fun k hk e => by have := own_lt ho4 hk; omega
          have sN := eN.size
          refine ldN (cs := (pfxOf (u ++ [false])).cells) (rfl) (hqN.at_) ?_
          refine Ret.mono (ih f' rfl t nd val cnt F (u ++ [false]) c base v4 _ _ hTN hc (by rw [List.length_append]; show u.length + 1 + f' = 128; omega) hoN (by omega) hkl) ?_
          rintro v9 w9 ⟨h9, f9, e9⟩
          have hvw := fun k (hk : v4.ownBlock = some k) => (hf4 k hk)
          refine add64 (by omega) (by omega) ?_
          refine again (2 - ((if false = true then 1 else 0) + 1)) (by simp) _ rfl ⟨(if false = true then 1 else 0) + 1, v9, by simp, rfl, rfl, by rw [kids_step, ← List.append_assoc]; exact h9, fun k hk => (f9 k hk).elim (hf4 k) fun h => .inr (by omega), hTN.own hoN e9,
            e9.blk (eN.blk hp4 (by omega)) (fun e => (hvw _ e).elim (fun h => by have := own_lt ho h; omega) fun h => by omega), (e4.andThen eN fun k hk e => by omega).andThen e9 fun k hk e => (hvw _ e).elim id fun h => by omega⟩
    · skip
      have hi2 : i = 2 := by omega
      subst hi2
      have hfin : OwnR base w4 v4 (l ++ allT val f u) := by
        rw [allT_sub]
        rw [kids_two] at ho4
        simpa using ho4
      exact ⟨hfin, fun k hk ↦ (hf4 k hk).imp id fun h ↦ by omega, e4⟩

theorem walk_spec : ∀ f : Nat, WalkC f
  | 0 => walk_step 0 fun f' h => by omega
  | f + 1 => walk_step (f + 1) fun f' h => by
    obtain rfl : f = f' := by omega
    exact walk_spec f
theorem bldPfx0 {K : Value → Prop} (hK : K (Pfx.val (pfxOf []))) : PureSem Try.prog (Instr.build 35 #[]) K := PureSem.of _ (fun w => by kernel_rfl) hK
theorem TrieAll_f (f : Nat) (hf : f = 128) (t : Nat) (val : Val) (cnt : Int) (F : Nat → Prop) (w : World) (h : TrieAt w t val cnt F) (hn : (allT val f []).length ≤ 1000000) :
    Ret Try.prog 64 #[.pointer (some ⟨t, 0, none⟩)] w fun v w' => OwnR w.heap.size w' v (allT val f []) ∧ Ext No w w' := by
  obtain ⟨nd, hT⟩ := h
  refine calls_ev (args := [_]) mixed Try.func64 ok_64 rfl ?_
  refine eqNil ?_
  refine fa ?_
  refine bldPfx0 ?_
  refine Ret.mono (walk_spec f t nd val cnt F [] t w.heap.size (.slice none 0 0) [] w hT hT.root (by rw [hf]; rfl) (OwnR.nil _ _) (Nat.le_refl _) (by rw [List.length_nil, Nat.zero_add]; exact hn)) ?_
  rintro v2 w2 ⟨h2, _, e2⟩
  rw [List.nil_append] at h2
  exact ⟨h2, e2.weaken fun k _ e ↦ by cases e⟩
def allF (val : Val) : List Rt := allT val 128 []
theorem TrieAll_spec (t : Nat) (val : Val) (cnt : Int) (F : Nat → Prop) (w : World) (h : TrieAt w t val cnt F) (hn : (allF val).length ≤ 1000000) :
    Ret Try.prog 64 #[.pointer (some ⟨t, 0, none⟩)] w fun v w' => OwnR w.heap.size w' v (allF val) ∧ Ext No w w' := TrieAll_f 128 rfl t val cnt F w h hn
end Go.Fl
