/-
  The logic of this claim's walks, part 2: memory block by block, and a rule for each kind of operation.
-/
import Derived.Test.YtoenjjlicglceaaK1
namespace Go.Fl

/-- The streams, and the tape, are as they were. -/
def Io (w w' : World) : Prop := w'.os = w.os ∧ w'.tape = w.tape ∧ w'.output = w.output
/-- A block of cells, none frozen. -/
def Blk (h : Array Obj) (b : Nat) (cs : List Value) (T : TypeId) : Prop := h[b]? = some (.cells cs.toArray T (0, 0))
def hcell (h : Array Obj) (b o : Nat) : Option Value := match h[b]? with | some (.cells c _ _) => c[o]? | _ => none
/-- From a place on, these cells. -/
def At (h : Array Obj) (b o : Nat) (cs : List Value) : Prop := ∀ j v, cs[j]? = some v → hcell h b (o + j) = some v
/-- A slice value that holds these cells. -/
def SlV (h : Array Obj) (a : Option Addr) (cs : List Value) : Prop := cs = [] ∨ ∃ b o, a = some ⟨b, o, none⟩ ∧ At h b o cs
/-- All that was there is as it was, but the blocks of S; there may be new blocks. -/
def Ext (S : Nat → Prop) (w w' : World) : Prop := Io w w' ∧ w.heap.size ≤ w'.heap.size ∧ ∀ k, k < w.heap.size → ¬ S k → w'.heap[k]? = w.heap[k]?
def No : Nat → Prop := fun _ => False
/-- Those blocks, and the new ones. -/
def Fresh (F : Nat → Prop) (w : World) : Nat → Prop := fun k => F k ∨ w.heap.size ≤ k
/-- Nothing has turned but the count of draws; there may be new blocks. -/
def Quiet (w w' : World) : Prop := ∃ q os, w' = { w with drawn := w.drawn + q, heap := w.heap ++ os }
structure New (w w' : World) (cs : List Value) (T : TypeId) : Prop where
  qt : Quiet w w'
  io : Io w w'
  size : w'.heap.size = w.heap.size + 1
  blk : Blk w'.heap w.heap.size cs T
  keep : ∀ k, k < w.heap.size → w'.heap[k]? = w.heap[k]?
structure Put (w w' : World) (b : Nat) (cs : List Value) (T : TypeId) : Prop where
  io : Io w w'
  size : w'.heap.size = w.heap.size
  blk : Blk w'.heap b cs T
  keep : ∀ k, k ≠ b → w'.heap[k]? = w.heap[k]?

theorem Quiet.refl (w : World) : Quiet w w := ⟨0, #[], by simp⟩
theorem Quiet.drew (w : World) : Quiet w w.drew := ⟨1, #[], by unfold World.drew; rw [Array.append_empty]⟩
theorem Quiet.alloc (w : World) (o : Obj) : Quiet w (w.alloc o) := ⟨0, #[o], by unfold World.alloc; rw [Array.append_singleton]; rfl⟩
theorem Quiet.trans {a b c : World} (h : Quiet a b) (k : Quiet b c) : Quiet a c := by
  obtain ⟨q, os, rfl⟩ := h
  obtain ⟨q', os', rfl⟩ := k
  exact ⟨q + q', os ++ os', by simp [Array.append_assoc, Nat.add_assoc]⟩
theorem Io.refl (w : World) : Io w w := ⟨rfl, rfl, rfl⟩
theorem Io.trans {a b c : World} (h : Io a b) (k : Io b c) : Io a c := ⟨k.1.trans h.1, k.2.1.trans h.2.1, k.2.2.trans h.2.2⟩
theorem Ext.refl (S : Nat → Prop) (w : World) : Ext S w w := ⟨Io.refl w, Nat.le_refl _, fun _ _ _ => rfl⟩
theorem Ext.trans {S : Nat → Prop} {a b c : World} (h : Ext S a b) (k : Ext S b c) : Ext S a c :=
  ⟨h.1.trans k.1, Nat.le_trans h.2.1 k.2.1, fun i hi hs => (k.2.2 i (Nat.lt_of_lt_of_le hi h.2.1) hs).trans (h.2.2 i hi hs)⟩
theorem Ext.weaken {S S' : Nat → Prop} {a b : World} (h : Ext S a b) (hs : ∀ k, k < a.heap.size → S k → S' k) : Ext S' a b :=
  ⟨h.1, h.2.1, fun i hi hn => h.2.2 i hi fun hS => hn (hs i hi hS)⟩
/-- Two steps; of the second one only those blocks count that were there ahead of the first. -/
theorem Ext.andThen {S S' : Nat → Prop} {a b c : World} (h : Ext S a b) (k : Ext S' b c) (hs : ∀ i, i < a.heap.size → S' i → S i) : Ext S a c :=
  ⟨h.1.trans k.1, Nat.le_trans h.2.1 k.2.1, fun i hi hn => (k.2.2 i (Nat.lt_of_lt_of_le hi h.2.1) fun hS => hn (hs i hi hS)).trans (h.2.2 i hi hn)⟩
theorem Ext.of_no {S : Nat → Prop} {a b : World} (h : Ext No a b) : Ext S a b := h.weaken fun _ _ hf => hf.elim
theorem Ext.then_no {S : Nat → Prop} {a b c : World} (h : Ext S a b) (k : Ext No b c) : Ext S a c := h.andThen k fun _ _ hf => hf.elim
theorem Quiet.ext {w w' : World} (h : Quiet w w') : Ext No w w' := by
  obtain ⟨q, os, rfl⟩ := h
  refine ⟨⟨rfl, rfl, rfl⟩, by simp, fun k hk _ => ?_⟩
  show (w.heap ++ os)[k]? = _
  rw [Array.getElem?_append_left hk]
theorem New.ext {w w' : World} {cs : List Value} {T : TypeId} (h : New w w' cs T) (S : Nat → Prop) : Ext S w w' := ⟨h.io, by rw [h.size]; omega, fun k hk _ => h.keep k hk⟩
theorem Put.ext {w w' : World} {b : Nat} {cs : List Value} {T : TypeId} (h : Put w w' b cs T) {S : Nat → Prop} (hb : b < w.heap.size → S b) : Ext S w w' :=
  ⟨h.io, by rw [h.size]; exact Nat.le_refl _, fun k hk hn => h.keep k fun e => hn (by subst e; exact hb hk)⟩
theorem Blk.lt {h : Array Obj} {b : Nat} {cs : List Value} {T : TypeId} (hb : Blk h b cs T) : b < h.size := (Array.getElem?_eq_some_iff.1 hb).1
theorem Ext.blk {S : Nat → Prop} {w w' : World} (h : Ext S w w') {b : Nat} {cs : List Value} {T : TypeId} (hb : Blk w.heap b cs T) (hn : ¬ S b) : Blk w'.heap b cs T :=
  (h.2.2 b hb.lt hn).trans hb
theorem hcell_lt {h : Array Obj} {b o : Nat} {v : Value} (hc : hcell h b o = some v) : b < h.size := by
  unfold hcell at hc
  rcases Nat.lt_or_ge b h.size with h' | h'
  · exact h'
  · simp [Array.getElem?_eq_none h'] at hc
theorem Ext.hcell {S : Nat → Prop} {w w' : World} (h : Ext S w w') {b o : Nat} {v : Value} (hc : hcell w.heap b o = some v) (hn : ¬ S b) : hcell w'.heap b o = some v := by
  have := h.2.2 b (hcell_lt hc) hn
  unfold Fl.hcell at hc ⊢
  rw [this]; exact hc
theorem Ext.at_ {S : Nat → Prop} {w w' : World} (h : Ext S w w') {b o : Nat} {cs : List Value} (hc : At w.heap b o cs) (hn : ¬ S b) : At w'.heap b o cs :=
  fun j v hj => h.hcell (hc j v hj) hn
theorem Ext.size {S : Nat → Prop} {w w' : World} (h : Ext S w w') : w.heap.size ≤ w'.heap.size := h.2.1

theorem Blk.cell {h : Array Obj} {b : Nat} {cs : List Value} {T : TypeId} (hb : Blk h b cs T) (o : Nat) : hcell h b o = cs[o]? := by
  unfold hcell; rw [hb]; simp
theorem Blk.at_ {h : Array Obj} {b : Nat} {cs : List Value} {T : TypeId} (hb : Blk h b cs T) : At h b 0 cs := fun j v hj => by rw [hb.cell, Nat.zero_add]; exact hj
theorem Blk.part {h : Array Obj} {b : Nat} {cs : List Value} {T : TypeId} (hb : Blk h b cs T) {o : Nat} {ds : List Value} (hd : ds <+: cs.drop o) : At h b o ds := by
  intro j v hj
  rw [hb.cell]
  obtain ⟨r, hr⟩ := hd
  have : (cs.drop o)[j]? = some v := by rw [← hr, List.getElem?_append_left (List.getElem?_eq_some_iff.1 hj).1]; exact hj
  rwa [List.getElem?_drop] at this
theorem At.sub {h : Array Obj} {b o : Nat} {cs : List Value} (ha : At h b o cs) {k : Nat} {ds : List Value} (hd : ds <+: cs.drop k) : At h b (o + k) ds := by
  intro j v hj
  obtain ⟨r, hr⟩ := hd
  have : (cs.drop k)[j]? = some v := by rw [← hr, List.getElem?_append_left (List.getElem?_eq_some_iff.1 hj).1]; exact hj
  rw [List.getElem?_drop] at this
  rw [Nat.add_assoc]
  exact ha _ _ this
theorem At.cell {h : Array Obj} {b o : Nat} {cs : List Value} (ha : At h b o cs) {k : Nat} {v : Value} (hk : cs[k]? = some v) : hcell h b (o + k) = some v := ha k v hk

theorem add_eq (b o n : Nat) : (⟨b, o, none⟩ : Addr).add n = ⟨b, o + n, none⟩ := by
  unfold Addr.add
  by_cases h : n = 0
  · subst h; simp
  · rw [if_neg h]

theorem cell_eq (w : World) (b o : Nat) : w.cell? ⟨b, o, none⟩ = hcell w.heap b o := by
  unfold World.cell? hcell
  split
  · rename_i c _ _ h
    have h' : w.heap[b]? = _ := h
    rw [h']; simp
  · rename_i h; split
    · rename_i c' e' f' h'; exact absurd h' (h _ _ _)
    · rfl

/-- A list with some cells written from a place on. -/
def splice : List Value → Nat → List Value → List Value
  | cs, _, [] => cs
  | cs, o, v :: vs => splice (cs.set o v) (o + 1) vs
theorem splice_length : ∀ (vs cs : List Value) (o : Nat), (splice cs o vs).length = cs.length
  | [], _, _ => rfl
  | v :: vs, cs, o => by rw [splice, splice_length vs]; simp

/-- What the types of the program are: found by instance. -/
class Fld (P : Program) (T f : Nat) (off : outParam Nat) : Prop where
  h : ∀ (b o : Nat) (w : World), (Instr.fieldAt T (.pointer (some ⟨b, o, none⟩)) f).run P w = .ok (.pointer (some ⟨b, o + off, none⟩)) w
class Sl (P : Program) (T : Nat) (E size : outParam Nat) : Prop where
  u : P.underlying T = some (.slice E)
  s : ∀ w, (sizeOf E).run P w = .ok size w
class Arr (P : Program) (T : Nat) (E len size : outParam Nat) : Prop where
  u : P.underlying T = some (.array len E)
  s : ∀ w, (sizeOf E).run P w = .ok size w
class Ptr (P : Program) (T : Nat) (E : outParam Nat) : Prop where
  u : P.underlying T = some (.pointer E)
class One (P : Program) (T : Nat) : Prop where
  a : ∀ w, (isAgg T).run P w = .ok false w
class Agg (P : Program) (T : Nat) (n : outParam Nat) : Prop where
  a : ∀ w, (isAgg T).run P w = .ok true w
class Siz (P : Program) (T : Nat) (n : outParam Nat) : Prop where
  s : ∀ w, (sizeOf T).run P w = .ok n w
class Zer (P : Program) (T : Nat) (z : outParam Value) : Prop where
  z : ∀ w, (zeroValue T).run P w = .ok z w

section
variable {P : Program} {w : World}

theorem ld1 {T : TypeId} {b o : Nat} {v : Value} {K : Value → Prop} [hT : One P T] (h : hcell w.heap b o = some v) (hK : K v) :
    ReadSem P (Instr.loadAt T (.pointer (some ⟨b, o, none⟩))) w K := by
  refine ReadSem.of v ?_ hK
  have : w.cell? ⟨b, o, none⟩ = some v := by rw [cell_eq]; exact h
  simp [Instr.loadAt, Instr.sureAddr, loadVar, hT.a, Sem.run, load, this]

theorem ldN {T : TypeId} {b o : Nat} {cs : List Value} {n : Nat} {K : Value → Prop} [hT : Agg P T n] [hs : Siz P T n] (hl : cs.length = n)
    (h : At w.heap b o cs) (hK : K (.agg cs.toArray)) : ReadSem P (Instr.loadAt T (.pointer (some ⟨b, o, none⟩))) w K := by
  refine ReadSem.of _ ?_ hK
  have := run_loadCells_list (P := P) (w := w) ⟨b, o, none⟩ cs (fun j v hj => by rw [add_eq, cell_eq]; exact h j v hj)
  simp only [Instr.loadAt, Instr.sureAddr, loadVar, hT.a, hs.s, Sem.run_bind, Sem.run, pure, Result.andThen_ok, if_true]
  rw [← hl, this]
  rfl

theorem new_alloc (w : World) (cs : List Value) (T : TypeId) : New w (w.alloc (.cells cs.toArray T)) cs T :=
  ⟨Quiet.alloc w _, ⟨rfl, rfl, rfl⟩, by simp, heap_alloc_new w _, fun k hk => by show (w.heap.push _)[k]? = _; rw [Array.getElem?_push, if_neg (by omega)]⟩

theorem bx {T : TypeId} {v : Value} {cs : List Value} {K : Value → World → Prop} (hv : v.cells = cs.toArray) (hK : ∀ w', New w w' cs T → K (.pointer (some ⟨w.heap.size, 0, none⟩)) w') :
    EffSem P (Instr.box T v) w K := by
  refine EffSem.of _ _ ?_ (hK _ (new_alloc w cs T))
  unfold Instr.box newVar newRow
  rw [hv]
  rfl

theorem al {T : TypeId} {z : Value} {cs : List Value} {K : Value → World → Prop} [hz : Zer P T z] (hv : z.cells = cs.toArray)
    (hK : ∀ w', New w w' cs T → K (.pointer (some ⟨w.heap.size, 0, none⟩)) w') : EffSem P (Instr.alloc T true (.tuple #[])) w K := by
  refine EffSem.of _ _ ?_ (hK _ (new_alloc w cs T))
  unfold Instr.alloc
  rw [Sem.run_bind, hz.z, Result.andThen_ok]
  unfold newVar newRow
  rw [hv]
  rfl

theorem put_cell {b o : Nat} {cs : List Value} {E : TypeId} {v : Value} (hb : Blk w.heap b cs E) : Put w (w.setCell ⟨b, o, none⟩ v) b (cs.set o v) E := by
  refine ⟨⟨rfl, rfl, rfl⟩, by simp, ?_, fun k hk => by simp [World.setCell, Array.getElem?_modify, Ne.symm hk]⟩
  have hb' := hb
  unfold Blk at *
  simp [World.setCell, Array.getElem?_modify, hb']

theorem Put.trans {a c d : World} {b : Nat} {cs ds : List Value} {E : TypeId} (h : Put a c b cs E) (k : Put c d b ds E) : Put a d b ds E :=
  ⟨h.io.trans k.io, k.size.trans h.size, k.blk, fun i hi => (k.keep i hi).trans (h.keep i hi)⟩

/-- May a value lie in one cell? -/
def oneB : Value → Bool
  | .agg _ => false
  | .tuple _ => false
  | _ => true

theorem run_storeCells {b o : Nat} {E : TypeId} : ∀ (vs : List Value) (i : Nat) (w : World) (cs : List Value), Blk w.heap b cs E → (∀ v ∈ vs, oneB v = true) → o + i + vs.length ≤ cs.length →
    ∃ w', (storeCells ⟨b, o, none⟩ vs i).run P w = .ok () w' ∧ (Put w w' b (splice cs (o + i) vs) E)
  | [], i, w, cs, hb, _, _ => ⟨w, rfl, ⟨Io.refl w, rfl, hb, fun _ _ => rfl⟩⟩
  | v :: vs, i, w, cs, hb, hone, hle => by
    have hlt : o + i < cs.length := by simp at hle; omega
    have hc : w.cell? ⟨b, o + i, none⟩ = some cs[o + i] := by
      rw [cell_eq, hb.cell]; simp
    have hf : w.frozen? ⟨b, o + i, none⟩ = false := by
      unfold World.frozen?
      rw [show w.heap[b]? = _ from hb]
      simp
    have hp := put_cell (w := w) (o := o + i) (v := v) hb
    obtain ⟨w', hr, hp'⟩ := run_storeCells (o := o) vs (i + 1) _ (cs.set (o + i) v) hp.blk (fun u hu => hone u (List.mem_cons_of_mem _ hu)) (by simp at hle ⊢; omega)
    refine ⟨w', ?_, hp.trans (by simpa [splice, Nat.add_assoc] using hp')⟩
    have h1 := hone v List.mem_cons_self
    rw [storeCells, Sem.run_bind]
    have : (store (Addr.add ⟨b, o, none⟩ i) v : Sem Unit).run P w = .ok () (w.setCell ⟨b, o + i, none⟩ v) := by
      rw [add_eq]
      cases v <;> first | (simp [oneB] at h1; done) | simp [store, Sem.run, hc, hf]
    rw [this]
    exact hr

theorem stN {T : TypeId} {b o : Nat} {v : Value} {cs vs : List Value} {E : TypeId} {n : Nat} {K : World → Prop} [hs : Siz P T n] (hv : v.cells = vs.toArray) (hl : vs.length = n)
    (hone : (vs.all oneB) = true) (hb : Blk w.heap b cs E) (ho : o + n ≤ cs.length) (hK : ∀ w', Put w w' b (splice cs o vs) E → K w') : UnitSem P (Instr.storeAt T (.pointer (some ⟨b, o, none⟩)) v) w K := by
  obtain ⟨w', hr, hp⟩ := run_storeCells (P := P) (o := o) vs 0 w cs hb (List.all_eq_true.1 hone) (by omega)
  refine UnitSem.of w' ?_ (hK w' (by simpa using hp))
  simp only [Instr.storeAt, Instr.sureAddr, storeVar, hs.s, hv, Sem.run_bind, Sem.run, pure, Result.andThen_ok]
  rw [if_neg (by simp [hl])]
  exact hr

theorem fa {T : TypeId} {f off b o : Nat} {K : Value → Prop} [h : Fld P T f off] (hK : K (.pointer (some ⟨b, o + off, none⟩))) : PureSem P (Instr.fieldAt T (.pointer (some ⟨b, o, none⟩)) f) K := PureSem.of _ (h.h b o) hK

theorem iaA {T E : TypeId} {len size b o : Nat} {z : Int} {K : Value → Prop} [h : Arr P T E len size] (i : Nat) (hz : z = i) (hi : i < len) (hK : K (.pointer (some ⟨b, o + i * size, none⟩))) :
    PureSem P (Instr.indexAt T (.pointer (some ⟨b, o, none⟩)) (.int .i64 z)) K := by
  refine PureSem.of _ (fun w => ?_) hK
  subst hz
  simp [Instr.indexAt, asIntOf, Instr.sureAddr, run_underlying h.u, h.s, hi, add_eq]

theorem iaS {T E : TypeId} {len cap size b o : Nat} {z : Int} {K : Value → Prop} [h : Sl P T E size] (i : Nat) (hz : z = i) (hi : i < len) (hK : K (.pointer (some ⟨b, o + i * size, none⟩))) :
    PureSem P (Instr.indexAt T (.slice (some ⟨b, o, none⟩) len cap) (.int .i64 z)) K := by
  refine PureSem.of _ (fun w => ?_) hK
  subst hz
  simp [Instr.indexAt, asIntOf, run_underlying h.u, h.s, hi, add_eq]

theorem iaS1 {T E : TypeId} {len cap b o : Nat} {z : Int} {K : Value → Prop} [h : Sl P T E 1] (i : Nat) (hz : z = i) (hi : i < len) (hK : K (.pointer (some ⟨b, o + i, none⟩))) :
    PureSem P (Instr.indexAt T (.slice (some ⟨b, o, none⟩) len cap) (.int .i64 z)) K :=
  iaS (size := 1) i hz hi (by rw [Nat.mul_one]; exact hK)

/-- An element of an array value. -/
theorem ixN {T E : TypeId} {len size : Nat} {cs : List Value} {z : Int} {K : Value → Prop} [h : Arr P T E len size] [hE : Agg P E size] (i : Nat) (hz : z = i) (hi : i < len)
    (hK : K (.agg ((cs.drop (i * size)).take size).toArray)) : PureSem P (Instr.index T (.agg cs.toArray) (.int .i64 z)) K := by
  refine PureSem.of _ (fun w => ?_) hK
  subst hz
  simp [Instr.index, asIntOf, run_underlying h.u, h.s, hi, part, hE.a]

theorem lenS {T E size : TypeId} {a : Option Addr} {len cap : Nat} {R : TypeId} {K : Value → Prop} [h : Sl P T E size] (hK : K (.int .i64 len)) :
    PureSem P (Builtin.len_ #[T] R #[.slice a len cap]) K := by
  refine PureSem.of _ (fun w => ?_) hK
  simp [Builtin.len_, run_underlying h.u, goInt]

theorem run_eql_nil {T E : TypeId} (h : P.underlying T = some (.pointer E)) (p : Option Addr) (w : World) : (Op.equal T (.pointer p) (.pointer none)).run P w = .ok p.isNone w := by
  unfold Op.equal Op.maxDepth
  rw [Op.equalIn, Sem.run_bind, run_underlying h, Result.andThen_ok]
  cases p <;> rfl

theorem eqNil {T E : TypeId} {x y : Operand} {p : Addr} {K : Value → Prop} [h : Ptr P T E] (hK : K (.bool false)) :
    PureSem P (do eqGuard .eql T x y (.pointer (some p)) (.pointer none); binOp .eql T (.pointer (some p)) (.pointer none)) K := by
  refine PureSem.of _ (fun w => ?_) hK
  have e : (eqGuard .eql T x y (.pointer (some p)) (.pointer none)).run P w = .ok () w := rfl
  rw [Sem.run_bind, e, Result.andThen_ok]
  have := run_eql_nil h.u (some p) w
  simp only [binOp]
  rw [Sem.run_bind, this]
  rfl

theorem eqNil' {T E : TypeId} {x y : Operand} {K : Value → Prop} [h : Ptr P T E] (hK : K (.bool true)) :
    PureSem P (do eqGuard .eql T x y (.pointer none) (.pointer none); binOp .eql T (.pointer none) (.pointer none)) K := by
  refine PureSem.of _ (fun w => ?_) hK
  have e : (eqGuard .eql T x y (.pointer none) (.pointer none)).run P w = .ok () w := rfl
  rw [Sem.run_bind, e, Result.andThen_ok]
  have := run_eql_nil h.u none w
  simp only [binOp]
  rw [Sem.run_bind, this]
  rfl

theorem wrap64_in {z : Int} (h1 : -9223372036854775808 ≤ z) (h2 : z ≤ 9223372036854775807) : IntKind.i64.wrap z = z := IntWalk.i64_in z ⟨h1, h2⟩

theorem add64 {T : TypeId} {x y : Operand} {a b : Int} {K : Value → Prop} (h1 : -9223372036854775808 ≤ a + b) (h2 : a + b ≤ 9223372036854775807) (hK : K (.int .i64 (a + b))) :
    PureSem P (do eqGuard .add T x y (.int .i64 a) (.int .i64 b); binOp .add T (.int .i64 a) (.int .i64 b)) K := by
  refine PureSem.of _ (fun w => ?_) hK
  simp [eqGuard, binOp, Op.intArith, wrap64_in h1 h2]
theorem sub64 {T : TypeId} {x y : Operand} {a b : Int} {K : Value → Prop} (h1 : -9223372036854775808 ≤ a - b) (h2 : a - b ≤ 9223372036854775807) (hK : K (.int .i64 (a - b))) :
    PureSem P (do eqGuard .sub T x y (.int .i64 a) (.int .i64 b); binOp .sub T (.int .i64 a) (.int .i64 b)) K := by
  refine PureSem.of _ (fun w => ?_) hK
  simp [eqGuard, binOp, Op.intArith, wrap64_in h1 h2]

theorem ifT {v : Option Value} {A B : Prop} (hv : v = some (.bool true)) (ha : A) : CondK v A B := by rw [hv]; exact ha
theorem ifF {v : Option Value} {A B : Prop} (hv : v = some (.bool false)) (hb : B) : CondK v A B := by rw [hv]; exact hb
theorem ifB {t : Bool} {A B : Prop} (ha : t = true → A) (hb : t = false → B) : CondK (some (.bool t)) A B := by
  cases t
  · exact hb rfl
  · exact ha rfl


/-- A guard that is not decided yet. -/
theorem gdB {t : Bool} {A B : Prop} (ha : t = true → A) (hb : t = false → B) : bcase t A B := by
  cases t
  · exact hb rfl
  · exact ha rfl
/-- A slice's element type: its zero value, its cells, its bytes. -/
class Elt (P : Program) (E : Nat) (size bytes : outParam Nat) : Prop where
  h : ∃ i z, P.info? E = some i ∧ i.zero = some z ∧ i.size = size ∧ i.bytes = bytes ∧ z.cells.size = size ∧ 0 < size

theorem Elt.of {P : Program} {E size bytes : Nat} {z : Value} (h : (P.info? E).map (fun i => (i.zero, i.size, i.bytes)) = some (some z, size, bytes)) (hz : (z.cells.size == size && Nat.blt 0 size) = true) : Elt P E size bytes := by
  cases hi : P.info? E with
  | none => rw [hi] at h; cases h
  | some i =>
    rw [hi] at h
    simp only [Option.map_some, Option.some.injEq, Prod.mk.injEq] at h
    simp only [Bool.and_eq_true, beq_iff_eq, Nat.blt_eq] at hz
    exact ⟨i, z, hi, h.1, h.2.1, h.2.2, hz.1, hz.2⟩

theorem _root_.Go.World.ownsRow.ext {w w' : World} {base E size n : Nat} {v : Value} {xs : List Value} (h : w.ownsRow base E size v n xs) {S : Nat → Prop} (he : Ext S w w') (hS : ∀ k, v.ownBlock = some k → ¬ S k) : w'.ownsRow base E size v n xs := by
  refine ⟨h.1, ?_⟩
  rcases h.2 with hn | ⟨g, cap, cur, rfl, hb, hg, rest⟩
  · exact .inl hn
  · refine .inr ⟨g, cap, cur, rfl, hb, ?_, rest⟩
    rw [he.2.2 g (Array.getElem?_eq_some_iff.1 hg).1 (hS g rfl)]
    exact hg

theorem Ext.of_grown {w w' : World} {row : Option Nat} (h : w.grownBy w' row) : Ext (fun k => row = some k) w w' :=
  ⟨⟨h.os, h.tape, h.output⟩, h.size, fun k hk hn => h.block k hk fun e => hn e.symm⟩

theorem one_cells : ∀ {vs : List Value}, vs.all oneB = true → ∀ u ∈ vs, u.oneCell' = true := by
  intro vs h u hu
  have := List.all_eq_true.1 h u hu
  cases u <;> first | rfl | (simp [oneB] at this; done)

/-- append to a slice of the call's own. -/
theorem ap {T E size bytes base n m c b o : Nat} {R : TypeId} {v : Value} {xs news : List Value} {K : Value → World → Prop} [hT : Sl P T E size] [hE : Elt P E size bytes]
    (hown : w.ownsRow base E size v n xs) (hat : At w.heap b o news) (hl : news.length = m * size) (h1 : news.all oneB = true) (hn : n + m ≤ 1073741824) (hb : bytes ≤ 65536) (hbase : base ≤ w.heap.size)
    (hK : ∀ v' w', w'.ownsRow base E size v' (n + m) (xs ++ news) → Ext (fun k => v.ownBlock = some k) w w' → K v' w') : EffSem P (Builtin.append_ #[T, T] R #[v, .slice (some ⟨b, o, none⟩) m c]) w K := by
  obtain ⟨i, z, hi, hz, hs, hby, hzs, hpos⟩ := hE.h
  obtain ⟨v', w', hr, h2, h3, _⟩ := run_append_own (P := P) w base T R E i z size bytes hT.u hi hz hs hby hzs hpos v n xs hown ⟨b, o, none⟩ m c news hl
    (fun j u hj => by rw [add_eq, cell_eq]; exact hat j u hj) (one_cells h1) (by simp only [maxLen]; omega) (by
      calc (n + m) * bytes ≤ 1073741824 * 65536 := Nat.mul_le_mul hn hb
        _ ≤ _ := by decide) hbase
  exact EffSem.of v' w' hr (hK v' w' h2 (Ext.of_grown h3))

/-- A new slice, its elements given. -/
theorem bs {T len : Nat} {parts : Array (Nat × Value)} {cs : List Value} {E : TypeId} {K : Value → World → Prop}
    (h : ∀ w, (Instr.buildSlice T len parts).run P w = .ok (.slice (some ⟨w.heap.size, 0, none⟩) len len) (w.alloc (.cells cs.toArray E)))
    (hK : ∀ w', New w w' cs E → K (.slice (some ⟨w.heap.size, 0, none⟩) len len) w') : EffSem P (Instr.buildSlice T len parts) w K :=
  EffSem.of _ _ (h w) (hK _ (new_alloc w cs E))
end
end Go.Fl
