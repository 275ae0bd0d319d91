/-
  The logic of this claim's walks, part 4: slices: cut, copied, appended to, cleared.
-/
import Derived.Test.YtoenjjlicglceaaK3
import Derived.Lib.AppendZerosOnto
import Derived.Laws.MakeOwn
namespace Go.Fl

section
variable {P : Program} {w : World}

theorem sizeOf_info {E size bytes : Nat} [hE : Elt P E size bytes] (w : World) : (sizeOf E).run P w = .ok size w := by
  obtain ⟨i, z, hi, hz, hs, hb, _⟩ := hE.h
  simp [sizeOf, typeInfo, hi, hs]

/-- s[:h]. -/
theorem slHi {T E size : TypeId} {a : Option Addr} {len cap : Nat} {z : Int} {K : Value → Prop} [hT : Sl P T E size] (h : Nat) (hz : z = h) (hh : h ≤ cap) (hK : K (.slice a h cap)) :
    PureSem P (Instr.sliceAt T (.slice a len cap) none (some (.int .i64 z)) none) K := by
  subst hz
  refine PureSem.of _ (fun w => ?_) hK
  have e : (if cap = 0 then a else Option.map (fun x => x.add (0 * size)) a) = a := by
    split
    · rfl
    · cases a <;> simp [Addr.add]
  simp [Instr.sliceAt, Instr.slice, Instr.sliceBounds, Instr.sliceBound, asIntOf, run_underlying hT.u, hT.s, hh]
  intro _
  cases a <;> simp [Addr.add]

/-- s[l:], not at the end of its capacity. -/
theorem slLo {T E size : TypeId} {b o len cap : Nat} {z : Int} {K : Value → Prop} [hT : Sl P T E size] (l : Nat) (hz : z = l) (hl : l ≤ len) (hc : l < cap) (hK : K (.slice (some ⟨b, o + l * size, none⟩) (len - l) (cap - l))) :
    PureSem P (Instr.sliceAt T (.slice (some ⟨b, o, none⟩) len cap) (some (.int .i64 z)) none none) K := by
  subst hz
  refine PureSem.of _ (fun w => ?_) hK
  simp [Instr.sliceAt, Instr.slice, Instr.sliceBounds, Instr.sliceBound, asIntOf, run_underlying hT.u, hT.s, hl, add_eq, show ¬ cap = l by omega]

/-- s[l:], maybe at the end of its capacity. -/
theorem slLoX {T E size : TypeId} {b o len cap : Nat} {z : Int} {K : Value → Prop} [hT : Sl P T E size] (l : Nat) (hz : z = l) (hl : l ≤ len) (hK : ∀ o', (l < cap → o' = o + l * size) → K (.slice (some ⟨b, o', none⟩) (len - l) (cap - l))) :
    PureSem P (Instr.sliceAt T (.slice (some ⟨b, o, none⟩) len cap) (some (.int .i64 z)) none none) K := by
  subst hz
  refine PureSem.of (.slice (some ⟨b, if cap = l then o else o + l * size, none⟩) (len - l) (cap - l)) (fun w => ?_) (hK _ (fun h => if_neg (by omega)))
  simp [Instr.sliceAt, Instr.slice, Instr.sliceBounds, Instr.sliceBound, asIntOf, run_underlying hT.u, hT.s, hl, add_eq]
  split <;> rfl

/-- s[l:], of any slice: only that it is there. -/
theorem slLoA {T E size : TypeId} {a : Option Addr} {len cap : Nat} {z : Int} {K : Value → Prop} [hT : Sl P T E size] (l : Nat) (hz : z = l) (hl : l ≤ len) (hK : ∀ v, K v) :
    PureSem P (Instr.sliceAt T (.slice a len cap) (some (.int .i64 z)) none none) K := by
  subst hz
  refine PureSem.of (.slice (if cap = l then a else a.map (·.add (l * size))) (len - l) (cap - l)) (fun w => ?_) (hK _)
  simp [Instr.sliceAt, Instr.slice, Instr.sliceBounds, Instr.sliceBound, asIntOf, run_underlying hT.u, hT.s, hl]

/-- s[l:h]. -/
theorem slLH {T E size : TypeId} {b o len cap : Nat} {z y : Int} {K : Value → Prop} [hT : Sl P T E size] (l h : Nat) (hz : z = l) (hy : y = h) (hl : l ≤ h) (hh : h ≤ cap) (hc : l < cap) (hK : K (.slice (some ⟨b, o + l * size, none⟩) (h - l) (cap - l))) :
    PureSem P (Instr.sliceAt T (.slice (some ⟨b, o, none⟩) len cap) (some (.int .i64 z)) (some (.int .i64 y)) none) K := by
  subst hz; subst hy
  refine PureSem.of _ (fun w => ?_) hK
  simp [Instr.sliceAt, Instr.slice, Instr.sliceBounds, Instr.sliceBound, asIntOf, run_underlying hT.u, hT.s, hl, hh, add_eq, show ¬ cap = l by omega]

/-- s[l:h:m]: only that it is there. -/
theorem slLHM {T E size : TypeId} {a : Option Addr} {len cap : Nat} {z y x : Int} {K : Value → Prop} [hT : Sl P T E size] (l h m : Nat) (hz : z = l) (hy : y = h) (hx : x = m) (hl : l ≤ h) (hh : h ≤ m) (hm : m ≤ cap) (hK : ∀ v, K v) :
    PureSem P (Instr.sliceAt T (.slice a len cap) (some (.int .i64 z)) (some (.int .i64 y)) (some (.int .i64 x))) K := by
  subst hz; subst hy; subst hx
  refine PureSem.of (.slice (if m = l then a else a.map (·.add (l * size))) (h - l) (m - l)) (fun w => ?_) (hK _)
  simp [Instr.sliceAt, Instr.slice, Instr.sliceBounds, Instr.sliceBound, asIntOf, run_underlying hT.u, hT.s, hl, hh, hm]

theorem capS {T E size : TypeId} {a : Option Addr} {len cap : Nat} {R : TypeId} {K : Value → World → Prop} [h : Sl P T E size] (hK : K (.int .i64 cap) w) :
    EffSem P (Builtin.cap_ #[T] R #[.slice a len cap]) w K := by
  refine EffSem.of _ w ?_ hK
  simp [Builtin.cap_, run_underlying h.u, goInt]

/-- copy, onto a row of the call's own: so many elements. -/
theorem cp {T E size : TypeId} {R : TypeId} {b o dLen dCap sb so sLen sCap E' : Nat} {cs ds : List Value} {K : Value → World → Prop} [hT : Sl P T E size] (m : Nat) (hm : m ≤ sLen ∧ m ≤ dLen ∧ (m = sLen ∨ m = dLen)) (hat : At w.heap sb so cs) (hl : cs.length = m * size)
    (h1 : cs.all oneB = true) (hb : Blk w.heap b ds E') (ho : o + cs.length ≤ ds.length) (hK : ∀ w', Put w w' b (splice ds o cs) E' → K (.int .i64 m) w') :
    EffSem P (Builtin.copy_ #[T, T] R #[.slice (some ⟨b, o, none⟩) dLen dCap, .slice (some ⟨sb, so, none⟩) sLen sCap]) w K := by
  obtain rfl : m = Nat.min sLen dLen := by show m = min sLen dLen; omega
  have hload := run_loadCells_list (P := P) (w := w) ⟨sb, so, none⟩ cs (fun j v hj => by rw [add_eq, cell_eq]; exact hat j v hj)
  obtain ⟨w', hr, hp⟩ := run_storeCells (P := P) (o := o) cs 0 w ds hb (List.all_eq_true.1 h1) (by omega)
  refine EffSem.of _ w' ?_ (hK w' (by simpa using hp))
  rw [hl] at hload
  simp [Builtin.copy_, run_underlying hT.u, Builtin.lenOf, Builtin.firstCells, hT.s, hload, hr, goInt]

theorem zeros_len (z : Array Value) (n : Nat) : (Builtin.zeroCells z n).size = n * z.size := by simp [Builtin.zeroCells]

/-- append(s, make([]T, k)...), where there is no room. -/
theorem apz {T TN E size bytes : TypeId} {R : TypeId} {kn : IntKind} {b o sLen sCap : Nat} {z : Int} {olds : List Value} {K : Value → World → Prop} [hT : Sl P T E size] [hN : IntT P TN kn] [hE : Elt P E size bytes] (k : Nat) (hz : z = k)
    (hat : At w.heap b o olds) (hl : olds.length = sLen * size) (hk : 0 < k) (hg : sCap < sLen + k) (hn : sLen + k ≤ 1073741824) (hby : bytes ≤ 65536)
    (hK : ∀ cap cs w', New w w' cs E → olds <+: cs → cs.length = cap * size → sLen + k ≤ cap → cap ≤ maxLen → K (.slice (some ⟨w.heap.size, 0, none⟩) (sLen + k) cap) w') :
    EffSem P (Builtin.append_ #[T, TN] R #[.slice (some ⟨b, o, none⟩) sLen sCap, .int .i64 z]) w K := by
  subst hz
  obtain ⟨i, zz, hi, hzz, hs, hb, hzs, hpos⟩ := hE.h
  subst hs; subst hb
  have hold : (Builtin.firstCells i.size sLen (.slice (some ⟨b, o, none⟩) sLen sCap)).run P w.drew = .ok olds.toArray w.drew := by
    have := run_loadCells_list (P := P) (w := w.drew) ⟨b, o, none⟩ olds (fun j v hj => by rw [add_eq, cell_eq]; exact hat j v hj)
    rw [hl] at this
    simpa [Builtin.firstCells] using this
  have hmul : (sLen + k) * i.bytes ≤ 70368744177664 := Nat.le_trans (Nat.mul_le_mul hn hby) (by decide)
  have hr := Lib.run_append_grow_zeros (P := P) w T TN R E i zz .i64 kn hT.u hN.u hi hzz (some ⟨b, o, none⟩) sLen sCap olds hold k hk hpos hg (by omega)
    (Nat.le_trans (Nat.mul_le_mul_right _ (show k ≤ sLen + k by omega)) (by omega)) (growslice_fits (by omega) (by omega))
  have hge := grownCap_ge w (sLen + k) sCap E
  have hcm := grownCap_le_maxLen w (sLen + k) sCap E (by simp only [maxLen]; omega)
  refine EffSem.of _ _ hr (hK (grownCap w (sLen + k) sCap E) (olds ++ (Builtin.zeroCells zz.cells k).toList ++ (Builtin.zeroCells zz.cells (grownCap w (sLen + k) sCap E - (sLen + k))).toList) _ ?_ ?_ ?_ hge hcm)
  · have := new_alloc w (olds ++ (Builtin.zeroCells zz.cells k).toList ++ (Builtin.zeroCells zz.cells (grownCap w (sLen + k) sCap E - (sLen + k))).toList) E
    refine ⟨(Quiet.drew w).trans (Quiet.alloc _ _), ⟨rfl, rfl, rfl⟩, by simp, ?_, fun j hj => ?_⟩
    · have h2 := heap_alloc_new w.drew (.cells (olds.toArray ++ Builtin.zeroCells zz.cells k ++ Builtin.zeroCells zz.cells (grownCap w (sLen + k) sCap E - (sLen + k))) E)
      unfold Blk
      refine h2.trans ?_
      congr 2
      apply Array.ext'
      simp
    · show (w.heap.push _)[j]? = _; rw [Array.getElem?_push, if_neg (by omega)]
  · rw [List.append_assoc]; exact List.prefix_append _ _
  · simp only [List.length_append, Array.length_toList, zeros_len, hzs, hl, ← Nat.add_mul]
    congr 1; omega

/-- clear(s). -/
theorem clr {T E size : TypeId} {R : TypeId} {b o n c E' : Nat} {z : Value} {zs ds : List Value} {K : Value → World → Prop} [hT : Sl P T E size] [hE : Zer P E z] (hz : z.cells = zs.toArray) (hzs : zs.length = size) (h1 : zs.all oneB = true)
    (hb : Blk w.heap b ds E') (ho : o + n * size ≤ ds.length)
    (hK : ∀ w' vs, vs.length = n * size → Put w w' b (splice ds o vs) E' → K (.tuple #[]) w') : EffSem P (Builtin.clear_ #[T] R #[.slice (some ⟨b, o, none⟩) n c]) w K := by
  cases n with
  | zero =>
    refine EffSem.of _ w ?_ (hK w [] (by simp) ⟨Io.refl w, rfl, hb, fun _ _ => rfl⟩)
    simp [Builtin.clear_, run_underlying hT.u]
  | succ n =>
    have hl : (Builtin.zeroCells z.cells (n + 1)).toList.length = (n + 1) * size := by rw [Array.length_toList, zeros_len, hz]; simp [hzs]
    obtain ⟨w', hr, hp⟩ := run_storeCells (P := P) (o := o) (Builtin.zeroCells z.cells (n + 1)).toList 0 w ds hb (fun v hv => by
      unfold Builtin.zeroCells at hv
      rw [hz] at hv
      simp only [Array.mem_toList_iff, Array.mem_map, Array.mem_range, List.size_toArray] at hv
      obtain ⟨i, hi, rfl⟩ := hv
      have hpos : 0 < zs.length := by
        rcases Nat.eq_zero_or_pos zs.length with h0 | h0
        · rw [h0] at hi; omega
        · exact h0
      have hlt := Nat.mod_lt i hpos
      have : zs.toArray[i % zs.length]! = zs[i % zs.length] := by simp [hlt]
      rw [this]
      exact List.all_eq_true.1 h1 _ (List.getElem_mem hlt)) (by rw [hl]; omega)
    refine EffSem.of _ w' ?_ (hK w' _ hl (by simpa using hp))
    simp [Builtin.clear_, run_underlying hT.u, hE.z, hr]

/-- A slice of the call's own, taken apart and put together. -/
theorem own_cases {base E size n : Nat} {v : Value} {xs : List Value} (h : w.ownsRow base E size v n xs) :
    (v = .slice none 0 0 ∧ n = 0 ∧ xs = []) ∨ ∃ g cap ys, v = .slice (some ⟨g, 0, none⟩) n cap ∧ base ≤ g ∧ Blk w.heap g (xs ++ ys) E ∧ n ≤ cap ∧ cap ≤ maxLen ∧ xs.length + ys.length = cap * size ∧ xs.length = n * size := by
  obtain ⟨hl, hn | ⟨g, cap, cur, hv, hb, hg, h1, h2, h3, h4⟩⟩ := h
  · refine .inl ⟨hn.1, hn.2, ?_⟩
    rw [hn.2, Nat.zero_mul] at hl
    exact List.eq_nil_of_length_eq_zero hl
  · refine .inr ⟨g, cap, cur.toList.drop (n * size), hv, hb, ?_, h1, h2, ?_, hl⟩
    · unfold Blk
      rw [hg, ← h4, List.take_append_drop]
    · rw [← h4, ← List.length_append, List.take_append_drop, Array.length_toList, h3]
theorem own_of {base E size n g cap : Nat} {xs ys : List Value} (hb : base ≤ g) (hg : Blk w.heap g (xs ++ ys) E) (h1 : n ≤ cap) (h2 : cap ≤ maxLen) (h3 : xs.length + ys.length = cap * size) (hl : xs.length = n * size) :
    w.ownsRow base E size (.slice (some ⟨g, 0, none⟩) n cap) n xs :=
  ⟨hl, .inr ⟨g, cap, _, rfl, hb, hg, h1, h2, by simp [h3], by rw [← hl]; simp⟩⟩

/-- append, where there is room. -/
theorem apIn {T E size bytes : TypeId} {R : TypeId} {b o sb so m c sLen sCap E' : Nat} {ds news : List Value} {K : Value → World → Prop} [hT : Sl P T E size] [hE : Elt P E size bytes]
    (hat : At w.heap sb so news) (hl : news.length = m * size) (h1 : news.all oneB = true) (hb : Blk w.heap b ds E') (hroom : sLen + m ≤ sCap) (ho : o + sLen * size + news.length ≤ ds.length)
    (hK : ∀ w', Put w w' b (splice ds (o + sLen * size) news) E' → K (.slice (some ⟨b, o, none⟩) (sLen + m) sCap) w') :
    EffSem P (Builtin.append_ #[T, T] R #[.slice (some ⟨b, o, none⟩) sLen sCap, .slice (some ⟨sb, so, none⟩) m c]) w K := by
  have hload := run_loadCells_list (P := P) (w := w) ⟨sb, so, none⟩ news (fun j v hj => by rw [add_eq, cell_eq]; exact hat j v hj)
  obtain ⟨w', hr, hp⟩ := run_storeCells (P := P) (o := o + sLen * size) news 0 w ds hb (List.all_eq_true.1 h1) (by omega)
  refine EffSem.of _ w' ?_ (hK w' (by simpa using hp))
  have hs : ∀ w, (sizeOf E).run P w = .ok size w := sizeOf_info
  rw [hl] at hload
  simp [Builtin.append_, run_underlying hT.u, hs, Builtin.lenOf, hroom, Builtin.firstCells, hload, add_eq, hr]

/-- append to a slice of the call's own, of a slice that may be nil. -/
theorem apR {T E size bytes base n m base' E' : Nat} {R : TypeId} {v x : Value} {xs news : List Value} {K : Value → World → Prop} [hT : Sl P T E size] [hE : Elt P E size bytes]
    (hown : w.ownsRow base E size v n xs) (hx : w.ownsRow base' E' size x m news) (h1 : news.all oneB = true) (hn : n + m ≤ 1073741824) (hb : bytes ≤ 65536) (hbase : base ≤ w.heap.size)
    (hK : ∀ v' w', w'.ownsRow base E size v' (n + m) (xs ++ news) → Ext (fun k => v.ownBlock = some k) w w' → K v' w') : EffSem P (Builtin.append_ #[T, T] R #[v, x]) w K := by
  rcases own_cases hx with ⟨rfl, rfl, rfl⟩ | ⟨g, cap, ys, rfl, _, hg, _, _, _, hl⟩
  · have hs : ∀ w, (sizeOf E).run P w = .ok size w := sizeOf_info
    have h0 := hown
    rcases own_cases hown with ⟨rfl, rfl, rfl⟩ | ⟨g, cap, ys, rfl, _, _, hc, _⟩
    · refine EffSem.of _ w ?_ (hK _ w (by simpa using h0) (Ext.refl _ _))
      simp [Builtin.append_, run_underlying hT.u, hs, Builtin.lenOf, Builtin.firstCells]
    · refine EffSem.of _ w ?_ (hK _ w (by simpa using h0) (Ext.refl _ _))
      simp [Builtin.append_, run_underlying hT.u, hs, Builtin.lenOf, Builtin.firstCells, hc, storeCells]
  · exact ap hown (hg.part ⟨ys, rfl⟩) hl h1 hn hb hbase hK

theorem mul64 {T : TypeId} {x y : Operand} {a b : Int} {K : Value → Prop} (h1 : -9223372036854775808 ≤ a * b) (h2 : a * b ≤ 9223372036854775807) (hK : K (.int .i64 (a * b))) :
    PureSem P (do eqGuard .mul T x y (.int .i64 a) (.int .i64 b); binOp .mul T (.int .i64 a) (.int .i64 b)) K := by
  refine PureSem.of _ (fun w => ?_) hK
  simp [eqGuard, binOp, Op.intArith, wrap64_in h1 h2]
theorem minI {T R : TypeId} {a b : Int} {K : Value → Prop} (hK : K (.int .i64 (min a b))) : PureSem P (Builtin.min_ #[T, T] R #[.int .i64 a, .int .i64 b]) K := by
  refine PureSem.of _ (fun w => ?_) hK
  have e : min a b = if b < a then b else a := by split <;> omega
  rw [e]; rfl
theorem maxI {T R : TypeId} {a b : Int} {K : Value → Prop} (hK : K (.int .i64 (max a b))) : PureSem P (Builtin.max_ #[T, T] R #[.int .i64 a, .int .i64 b]) K := by
  refine PureSem.of _ (fun w => ?_) hK
  have e : max a b = if b > a then b else a := by split <;> omega
  rw [e]; rfl
theorem map_cong {α β : Type} {f g : α → β} {l : List α} (h : ∀ x ∈ l, f x = g x) : l.map f = l.map g := List.map_congr_left h
theorem range_rep (zs : List Value) : ∀ n : Nat, (List.range (n * zs.length)).map (fun i => zs.toArray[i % zs.length]!) = (List.replicate n zs).flatten
  | 0 => by simp
  | n + 1 => by
    have hr : (List.range zs.length).map (fun i => zs.toArray[(n * zs.length + i) % zs.length]!) = zs := by
      refine List.ext_getElem (by simp) fun i h1 h2 => ?_
      simp only [List.getElem_map, List.getElem_range]
      rw [Nat.add_comm, Nat.add_mul_mod_self_right, Nat.mod_eq_of_lt h2]
      simp [h2]
    rw [List.replicate_succ', List.flatten_append, ← range_rep zs n, Nat.succ_mul, List.range_add, List.map_append, List.map_map]
    congr 1
    simp only [List.flatten_cons, List.flatten_nil, List.append_nil]
    exact hr
/-- make([]T, n). -/
theorem mk {T E size bytes : TypeId} {x : Int} {z : Value} {zs : List Value} {K : Value → World → Prop} [hT : Sl P T E size] [hE : Elt P E size bytes] [hZ : Zer P E z] (n : Nat) (hx : x = n) (hz : z.cells = zs.toArray) (hn : n ≤ 1073741824) (hb : bytes ≤ 65536)
    (hK : ∀ w', New w w' (List.replicate n zs).flatten E → K (.slice (some ⟨w.heap.size, 0, none⟩) n n) w') : EffSem P (Instr.makeSlice T (.int .i64 x) (.int .i64 x)) w K := by
  subst hx
  obtain ⟨i, zz, hi, hzz, hs, hby, hzs, hpos⟩ := hE.h
  have e : zz = z := by
    have h1 := hZ.z w
    simp [zeroValue, typeInfo, hi, hzz] at h1
    exact h1
  subst e
  have hbytes : (i.bytes : Int) * (n : Int) ≤ 281474976710656 := by
    rw [hby]
    have : bytes * n ≤ 65536 * 1073741824 := Nat.mul_le_mul hb hn
    have h2 : ((bytes * n : Nat) : Int) ≤ (281474976710656 : Nat) := Int.ofNat_le.2 (Nat.le_trans this (by decide))
    rwa [Int.natCast_mul] at h2
  have hr := run_make (P := P) w T E i zz hT.u hi hzz .i64 .i64 n n (by omega) (Int.le_refl _) hbytes (by omega)
  simp only [Int.toNat_natCast] at hr
  have hsz : zs.length = size := by rw [← hzs, hz]; simp
  have hc : madeCells zz.cells (n * i.size) = (List.replicate n zs).flatten.toArray := by
    unfold madeCells
    apply Array.ext'
    rw [← range_rep zs n, hsz, hs, hz]
    simp [hsz, Array.toList_map, Array.toList_range]
  rw [hc] at hr
  exact EffSem.of _ _ hr (hK _ (new_alloc w _ E))
/-- append to a slice of the call's own; it stays in its block, or goes to a new one. -/
theorem apF {T E size bytes base n m c b o : Nat} {R : TypeId} {v : Value} {xs news : List Value} {K : Value → World → Prop} [hT : Sl P T E size] [hE : Elt P E size bytes]
    (hown : w.ownsRow base E size v n xs) (hat : At w.heap b o news) (hl : news.length = m * size) (h1 : news.all oneB = true) (hn : n + m ≤ 1073741824) (hb : bytes ≤ 65536) (hbase : base ≤ w.heap.size)
    (hK : ∀ v' w', w'.ownsRow base E size v' (n + m) (xs ++ news) → (∀ k, v'.ownBlock = some k → v.ownBlock = some k ∨ w.heap.size ≤ k) → Ext (fun k => v.ownBlock = some k) w w' → K v' w') : EffSem P (Builtin.append_ #[T, T] R #[v, .slice (some ⟨b, o, none⟩) m c]) w K := by
  obtain ⟨i, z, hi, hz, hs, hby, hzs, hpos⟩ := hE.h
  have hnews : ∀ j u, news[j]? = some u → w.cell? ((⟨b, o, none⟩ : Addr).add j) = some u := fun j u hj => by rw [add_eq, cell_eq]; exact hat j u hj
  have h63 : n + m ≤ maxLen := by simp only [maxLen]; omega
  have hbytes : (n + m) * bytes ≤ 140737488355328 := by
    calc (n + m) * bytes ≤ 1073741824 * 65536 := Nat.mul_le_mul hn hb
      _ ≤ _ := by decide
  obtain ⟨v', w', hr, h2, h3, _⟩ := run_append_own (P := P) w base T R E i z size bytes hT.u hi hz hs hby hzs hpos v n xs hown ⟨b, o, none⟩ m c news hl hnews (one_cells h1) h63 hbytes hbase
  refine EffSem.of v' w' hr (hK v' w' h2 ?_ (Ext.of_grown h3))
  intro k hk
  rcases own_cases hown with ⟨rfl, rfl, rfl⟩ | ⟨g, cap, ys, rfl, _, hg, hnc, hcm, _, hl'⟩
  · right
    obtain ⟨v2, w2, hr2, h22, _⟩ := run_append_own (P := P) w w.heap.size T R E i z size bytes hT.u hi hz hs hby hzs hpos (.slice none 0 0) 0 [] (World.ownsRow_nil _ _ _ _) ⟨b, o, none⟩ m c news hl hnews (one_cells h1) h63 hbytes (Nat.le_refl _)
    rw [hr] at hr2
    cases hr2
    exact (h22.lt k hk).1
  · by_cases hroom : n + m ≤ cap
    · left
      subst hs
      have hr2 := run_append_room (P := P) w T R E i hT.u hi g n cap (xs ++ ys).toArray hg ⟨b, o, none⟩ m c news hl hnews (one_cells h1) hroom (by
        rename_i hsz
        simp only [List.size_toArray, List.length_append, hsz, hl, ← Nat.add_mul]
        exact Nat.mul_le_mul_right _ hroom)
      rw [hr] at hr2
      cases hr2
      exact hk
    · right
      subst hs; subst hby
      have hr2 := run_append_grow (P := P) w T R E i z hT.u hi hz ⟨g, 0, none⟩ n cap xs hown.1 (hown.cells (g := g) rfl) ⟨b, o, none⟩ m c news hl hnews (by omega) (by simp only [maxLen] at h63; omega) (growslice_fits (by simp only [maxLen] at h63; omega) hbytes)
      rw [hr] at hr2
      cases hr2
      simp only [Value.ownBlock, Option.some.injEq] at hk
      omega

end
end Go.Fl
