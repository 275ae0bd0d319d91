/-
  The logic of this claim's walks, part 5: slices of elements of several cells: read, cut, appended to.
-/
import Derived.Test.YtoenjjlicglceaaK4
import Derived.Test.YtoenjjlicglceaaB0
namespace Go.Fl

theorem own_lt {w : World} {base E size n : Nat} {v : Value} {xs : List Value} (h : w.ownsRow base E size v n xs) {k : Nat} (hk : v.ownBlock = some k) : k < w.heap.size := by
  rcases own_cases h with ⟨rfl, _, _⟩ | ⟨g, cap, ys, rfl, _, hb, _⟩
  · cases hk
  · cases hk; exact hb.lt
/-- An address at which these elements lie, one behind the other. -/
def SlG {α : Type} (f : α → List Value) (h : Array Obj) (a : Option Addr) (l : List α) : Prop := l = [] ∨ ∃ b o, a = some ⟨b, o, none⟩ ∧ At h b o (l.flatMap f)
/-- A slice value that holds these elements. -/
def IsSl {α : Type} (f : α → List Value) (h : Array Obj) (v : Value) (l : List α) : Prop := ∃ a c, v = .slice a l.length c ∧ l.length ≤ c ∧ SlG f h a l

section
variable {α : Type} {f : α → List Value} {size : Nat} (hf : ∀ x, (f x).length = size)

theorem SlG.ext {S : Nat → Prop} {w w' : World} {a : Option Addr} {l : List α} (h : SlG f w.heap a l) (he : Ext S w w') (hS : ∀ b o, a = some ⟨b, o, none⟩ → ¬ S b) : SlG f w'.heap a l := by
  rcases h with e | ⟨b, o, e, hat⟩
  · exact .inl e
  · exact .inr ⟨b, o, e, he.at_ hat (hS b o e)⟩
theorem SlG.no {w w' : World} {a : Option Addr} {l : List α} (h : SlG f w.heap a l) (he : Ext No w w') : SlG f w'.heap a l := h.ext he fun _ _ _ => id
theorem IsSl.no {w w' : World} {v : Value} {l : List α} (h : IsSl f w.heap v l) (he : Ext No w w') : IsSl f w'.heap v l := by
  obtain ⟨a, c, h1, h2, h3⟩ := h
  exact ⟨a, c, h1, h2, h3.no he⟩
theorem IsSl.nil (h : Array Obj) : IsSl f h (.slice none 0 0) ([] : List α) := ⟨none, 0, rfl, Nat.le_refl _, .inl rfl⟩
theorem IsSl.ext {S : Nat → Prop} {w w' : World} {v : Value} {l : List α} (h : IsSl f w.heap v l) (he : Ext S w w') (hS : ∀ k, v.ownBlock = some k → ¬ S k) : IsSl f w'.heap v l := by
  obtain ⟨a, c, rfl, h2, h3⟩ := h
  exact ⟨a, c, rfl, h2, h3.ext he fun b o e => hS b (by rw [e]; rfl)⟩

include hf
theorem elt_part (l : List α) (i : Nat) (h : i < l.length) : f l[i] <+: (l.flatMap f).drop (i * size) :=
  ⟨((l.flatMap f).drop (i * size)).drop size, by rw [← flat_part f size hf l i h]; exact List.take_append_drop _ _⟩
omit hf in
theorem own_IsSl {w : World} {base E : Nat} {v : Value} {l : List α} (h : w.ownsRow base E size v l.length (l.flatMap f)) : IsSl f w.heap v l := by
  rcases own_cases h with ⟨rfl, h1, h2⟩ | ⟨g, cap, ys, rfl, _, hb, hc, _, _, hl⟩
  · obtain rfl : l = [] := List.eq_nil_of_length_eq_zero h1
    exact IsSl.nil _
  · exact ⟨some ⟨g, 0, none⟩, cap, rfl, hc, .inr ⟨g, 0, rfl, hb.part ⟨ys, rfl⟩⟩⟩
omit hf in
theorem isSl_one {w : World} {b E : Nat} {x : α} (h : Blk w.heap b (f x) E) : IsSl f w.heap (.slice (some ⟨b, 0, none⟩) 1 1) [x] :=
  ⟨_, 1, rfl, Nat.le_refl _, .inr ⟨b, 0, rfl, by simpa using h.at_⟩⟩
omit hf in
theorem SlG.take {h : Array Obj} {a : Option Addr} {l : List α} (hs : SlG f h a l) (i : Nat) : SlG f h a (l.take i) := by
  rcases hs with rfl | ⟨b, o, e, hat⟩
  · exact .inl (by simp)
  · refine .inr ⟨b, o, e, ?_⟩
    have : (l.take i).flatMap f <+: (l.flatMap f).drop 0 := ⟨(l.drop i).flatMap f, by rw [List.drop_zero, ← List.flatMap_append, List.take_append_drop]⟩
    simpa using hat.sub this
theorem SlG.at_ {h : Array Obj} {a : Option Addr} {l : List α} (hs : SlG f h a l) {i : Nat} (hi : i < l.length) : ∃ b o, a = some ⟨b, o, none⟩ ∧ At h b (o + i * size) (f l[i]) := by
  rcases hs with rfl | ⟨b, o, e, hat⟩
  · exact absurd hi (by simp)
  · exact ⟨b, o, e, hat.sub (elt_part hf l i hi)⟩

variable {P : Program} {T E : TypeId}
/-- s[i]. -/
theorem iaG {h : Array Obj} {a : Option Addr} {len cap : Nat} {z : Int} {l : List α} {K : Value → Prop} [hT : Sl P T E size] (hs : SlG f h a l) (i : Nat) (hz : z = i) (hi : i < l.length) (hlen : len = l.length)
    (hK : ∀ b o, At h b o (f l[i]) → K (.pointer (some ⟨b, o, none⟩))) : PureSem P (Instr.indexAt T (.slice a len cap) (.int .i64 z)) K := by
  obtain ⟨b, o, rfl, hat⟩ := hs.at_ hf hi
  exact iaS i hz (by omega) (hK _ _ hat)
/-- s[l:]. -/
theorem slLoG {h : Array Obj} {a : Option Addr} {len cap : Nat} {z : Int} {l : List α} {K : Value → Prop} [hT : Sl P T E size] (hs : SlG f h a l) (hlen : len = l.length) (hc : l.length ≤ cap) (i : Nat) (hz : z = i) (hi : i ≤ l.length)
    (hK : ∀ v', IsSl f h v' (l.drop i) → (∀ k, v'.ownBlock = some k → (Value.slice a len cap).ownBlock = some k) → K v') :
    PureSem P (Instr.sliceAt T (.slice a len cap) (some (.int .i64 z)) none none) K := by
  subst hz; subst hlen
  refine PureSem.of (.slice (if cap = i then a else a.map (·.add (i * size))) (l.length - i) (cap - i)) (fun w => ?_) (hK _ ⟨_, _, by rw [List.length_drop], by rw [List.length_drop]; omega, ?_⟩ ?_)
  · simp [Instr.sliceAt, Instr.slice, Instr.sliceBounds, Instr.sliceBound, asIntOf, run_underlying hT.u, hT.s, hi]
  · rcases hs with rfl | ⟨b, o, rfl, hat⟩
    · exact .inl (by simp)
    · by_cases hci : cap = i
      · exact .inl (List.drop_eq_nil_of_le (by omega))
      · refine .inr ⟨b, o + i * size, by rw [if_neg hci]; simp [add_eq], ?_⟩
        rw [← flat_drop f size hf]
        exact hat.sub (List.prefix_refl _)
  · intro k hk
    split at hk
    · cases a <;> exact hk
    · cases a with
      | none => cases hk
      | some x =>
        simp only [Option.map_some, Value.ownBlock, Option.some.injEq] at hk ⊢
        unfold Addr.add at hk
        split at hk <;> exact hk
omit hf in
/-- s[:h]. -/
theorem slHiG {h : Array Obj} {a : Option Addr} {len cap : Nat} {z : Int} {l : List α} {K : Value → Prop} [hT : Sl P T E size] (hs : SlG f h a l) (hc : l.length ≤ cap) (i : Nat) (hz : z = i) (hi : i ≤ l.length)
    (hK : ∀ c', IsSl f h (.slice a (l.take i).length c') (l.take i) → K (.slice a (l.take i).length c')) :
    PureSem P (Instr.sliceAt T (.slice a len cap) none (some (.int .i64 z)) none) K := by
  refine slHi i hz (by omega) ?_
  have e : (l.take i).length = i := by rw [List.length_take]; omega
  have := hK cap ⟨a, cap, rfl, by omega, hs.take i⟩
  rwa [e] at this
/-- append(s, x...), s the call's own. -/
theorem apG {w : World} {R : TypeId} {bytes base : Nat} {v x : Value} {l m : List α} {K : Value → World → Prop} [hT : Sl P T E size] [hE : Elt P E size bytes] (h1 : ∀ x, (f x).all oneB = true)
    (hown : w.ownsRow base E size v l.length (l.flatMap f)) (hx : IsSl f w.heap x m) (hn : l.length + m.length ≤ 1073741824) (hb : bytes ≤ 65536) (hbase : base ≤ w.heap.size)
    (hK : ∀ v' w', w'.ownsRow base E size v' (l ++ m).length ((l ++ m).flatMap f) → (∀ k, v'.ownBlock = some k → v.ownBlock = some k ∨ w.heap.size ≤ k) → Ext (fun k => v.ownBlock = some k) w w' → K v' w') :
    EffSem P (Builtin.append_ #[T, T] R #[v, x]) w K := by
  obtain ⟨a, c, rfl, hc, hs⟩ := hx
  have hall : (m.flatMap f).all oneB = true := by rw [List.all_flatMap]; simp [h1]
  rcases hs with rfl | ⟨b, o, rfl, hat⟩
  · have hsz : ∀ w, (sizeOf E).run P w = .ok size w := sizeOf_info
    have h0 := hown
    have hre : w.ownsRow base E size v (l ++ []).length ((l ++ []).flatMap f) := by rw [List.append_nil]; exact h0
    rcases own_cases hown with ⟨rfl, h2, h3⟩ | ⟨g, cap, ys, rfl, _, _, hc, _⟩
    · refine EffSem.of _ w ?_ (hK _ w hre (fun k hk => .inl hk) (Ext.refl _ _))
      cases a <;> simp [Builtin.append_, run_underlying hT.u, hsz, Builtin.lenOf, Builtin.firstCells, loadCells, loadCellsFrom]
    · refine EffSem.of _ w ?_ (hK _ w hre (fun k hk => .inl hk) (Ext.refl _ _))
      cases a <;> simp [Builtin.append_, run_underlying hT.u, hsz, Builtin.lenOf, Builtin.firstCells, loadCells, loadCellsFrom, hc, storeCells]
  · refine apF hown hat (flat_length f size hf m) hall hn hb hbase fun v' w' h2 h3 h4 => hK v' w' ?_ h3 h4
    rw [List.length_append, List.flatMap_append]; exact h2
/-- An element written. -/
theorem own_put {w : World} {base E : Nat} {v : Value} {l : List α} (h : w.ownsRow base E size v l.length (l.flatMap f)) {i : Nat} (hi : i < l.length) (x : α) :
    ∃ g cap ds, v = .slice (some ⟨g, 0, none⟩) l.length cap ∧ base ≤ g ∧ Blk w.heap g ds E ∧ 0 + i * size + size ≤ ds.length ∧ ∀ w', Put w w' g (splice ds (0 + i * size) (f x)) E → w'.ownsRow base E size v (l.set i x).length ((l.set i x).flatMap f) := by
  rcases own_cases h with ⟨_, h1, _⟩ | ⟨g, cap, ys, rfl, hb, hg, hc, hm, hsz, hl⟩
  · omega
  · have hle : i * size + size ≤ (l.flatMap f).length := by
      rw [hl]
      calc i * size + size = (i + 1) * size := (Nat.succ_mul i size).symm
        _ ≤ l.length * size := Nat.mul_le_mul_right size hi
    refine ⟨g, cap, _, rfl, hb, hg, by rw [List.length_append]; omega, fun w' hp => ?_⟩
    have hb2 := hp.blk
    have e : splice (l.flatMap f ++ ys) (0 + i * size) (f x) = (l.set i x).flatMap f ++ ys := by
      have h3 := splice_mid [] (l.flatMap f) ys (f x) (i * size) (by rw [hf]; exact hle)
      simp only [List.nil_append, List.length_nil] at h3
      rw [h3, flat_set f size hf l i x hi]
    rw [e] at hb2
    have hfl := flat_length f size hf (l.set i x)
    rw [List.length_set] at hfl ⊢
    exact own_of hb hb2 hc hm (by rw [hfl]; omega) hfl
end
section
variable {P : Program}
/-- An element of an array value, of one cell. -/
theorem ixO {T E : TypeId} {len : Nat} {cs : List Value} {z : Int} {K : Value → Prop} [h : Arr P T E len 1] [hE : One P E] (i : Nat) (hz : z = i) (hi : i < len) (hc : i < cs.length) (hK : K cs[i]) :
    PureSem P (Instr.index T (.agg cs.toArray) (.int .i64 z)) K := by
  refine PureSem.of _ (fun w => ?_) hK
  subst hz
  simp [Instr.index, asIntOf, run_underlying h.u, h.s, hi, part, hE.a, hc]
theorem neNil {T E : TypeId} {x y : Operand} {p : Addr} {K : Value → Prop} [h : Ptr P T E] (hK : K (.bool true)) :
    PureSem P (do eqGuard .neq T x y (.pointer (some p)) (.pointer none); binOp .neq T (.pointer (some p)) (.pointer none)) K := by
  refine PureSem.of _ (fun w => ?_) hK
  have e : (eqGuard .neq T x y (.pointer (some p)) (.pointer none)).run P w = .ok () w := rfl
  rw [Sem.run_bind, e, Result.andThen_ok]
  have := run_eql_nil h.u (some p) w
  simp only [binOp]
  rw [Sem.run_bind, this]
  rfl
theorem neNil' {T E : TypeId} {x y : Operand} {K : Value → Prop} [h : Ptr P T E] (hK : K (.bool false)) :
    PureSem P (do eqGuard .neq T x y (.pointer none) (.pointer none); binOp .neq T (.pointer none) (.pointer none)) K := by
  refine PureSem.of _ (fun w => ?_) hK
  have e : (eqGuard .neq T x y (.pointer none) (.pointer none)).run P w = .ok () w := rfl
  rw [Sem.run_bind, e, Result.andThen_ok]
  have := run_eql_nil h.u none w
  simp only [binOp]
  rw [Sem.run_bind, this]
  rfl
end
end Go.Fl
