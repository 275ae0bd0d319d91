/-
  Chapter 18: the given program's cover: its trie, the hop of a key, the set of a level; the document's set.
-/
import Derived.Test.YtoenjjlicglceaaTcover
import Derived.Test.YtoenjjlicglceaaFcompact
namespace Go.Fl
open Go.Proofs
set_option maxHeartbeats 4000000
set_option maxRecDepth 100000

theorem TrieAt.init {w w' : World} (h : New w w' [.bool false, .int .i64 0, .pointer none, .pointer none, .int .i64 0] 143) : TrieAt w' w.heap.size (valOf []) 0 (fun k => w.heap.size ≤ k) := by
  refine ⟨fun u => if u = [] then some w.heap.size else none, ⟨rfl, fun u b hu => ?_, fun u v b hu hv => ?_, fun u b hu => ?_, fun u x hu => ?_, fun u hu => absurd rfl hu⟩⟩
  · split at hu
    · rename_i e; subst e; cases hu
      exact ⟨h.blk, Nat.le_refl _⟩
    · cases hu
  · split at hu
    · rename_i e
      split at hv
      · rename_i e'; rw [e, e']
      · cases hv
    · cases hu
  · split at hu
    · rename_i e; rw [e]; exact Nat.zero_le _
    · cases hu
  · rw [if_neg (by simp)] at hu; exact absurd rfl hu

theorem TrieAt.mono {w : World} {t : Nat} {val : Val} {cnt : Int} {F F' : Nat → Prop} (h : TrieAt w t val cnt F) (hf : ∀ k, F k → F' k) : TrieAt w t val cnt F' := h.elim fun nd h => ⟨nd, h.mono hf⟩
theorem TrieAt.ext {w w' : World} {t : Nat} {val : Val} {cnt : Int} {F S : Nat → Prop} (h : TrieAt w t val cnt F) (he : Ext S w w') (hS : ∀ k, k < w.heap.size → F k → ¬ S k) : TrieAt w' t val cnt F := h.elim fun nd h => ⟨nd, h.ext he hS⟩
theorem TrieAt.no {w w' : World} {t : Nat} {val : Val} {cnt : Int} {F : Nat → Prop} (h : TrieAt w t val cnt F) (he : Ext No w w') : TrieAt w' t val cnt F := h.ext he fun _ _ _ => id

theorem Of_spec (v : Value) (l : List Rt) (w : World) (h : IsR w.heap v l) (hn : l.length ≤ 1000000) : Ret Try.prog 63 #[v] w fun v' w' => ∃ t cnt, v' = .pointer (some ⟨t, 0, none⟩) ∧ TrieAt w' t (valOf l) cnt (fun k => w.heap.size ≤ k) ∧ Ext No w w' := by
  obtain ⟨a, c, rfl, hc, hs⟩ := h
  refine calls_ev (args := [_]) mixed Try.func63 ok_63 rfl ?_
  refine bldTrie0 ?_
  refine bx (cs := _) rfl ?_
  intro w1 h1
  have e1 := h1.ext No
  refine lenS ?_
  refine loop [3, 8, 9, 10] (fun k vs w' => ∃ (i : Nat) (cnt : Int), i ≤ l.length ∧ k = l.length - i ∧ vs = [.pointer (some ⟨w.heap.size, 0, none⟩), .slice a l.length c, .int .i64 l.length, .int .i64 i] ∧ TrieAt w' w.heap.size (valOf (l.take i)) cnt (fun k => w.heap.size ≤ k) ∧ 0 ≤ cnt ∧ cnt ≤ i ∧ Ext No w w') l.length _ rfl ⟨0, 0, by omega, rfl, rfl, TrieAt.init h1, Int.le_refl _, Int.le_refl _, e1⟩ ?_
  rintro k vs w2 ⟨i, cnt, hi, rfl, rfl, hT, hc0, hc1, e2⟩
  refine TestK.mk (fun hlt => ?_) (fun hlt => ?_)
  · skip
    have hi' : i < l.length := by omega
    refine iaG rlen (hs.no e2) i rfl hi' rfl ?_
    intro b o hat
    refine ldN (cs := l[i].cells) (rfl) (hat) ?_
    refine al (cs := _) rfl ?_
    intro w3 h3
    refine stN (vs := l[i].cells) rfl rfl rfl (h3.blk) (Nat.le_refl 4) ?_
    intro w4 h4
    have hb4 : Blk w4.heap w2.heap.size l[i].cells 45 := h4.blk
    have e24 : Ext (· = w2.heap.size) w2 w4 := (h3.ext _).andThen (h4.ext (S := (· = w2.heap.size)) fun _ => rfl) fun _ _ h => h
    have s2 := e2.size
    have s4 := e24.size
    have hT4 : TrieAt w4 w.heap.size (valOf (l.take i)) cnt (fun k => w.heap.size ≤ k) := hT.ext e24 fun k hk _ e => by omega
    have hsn : valOf (l.take (i + 1)) = (valOf (l.take i)).add l[i] := by rw [List.take_succ_eq_append_getElem hi', val_snoc]
    have e4 : Ext No w w4 := e2.andThen e24 fun k hk e => by omega
    refine fa ?_
    refine ldN (cs := l[i].p.cells) (rfl) (rp_at hb4.at_) ?_
    refine fa ?_
    refine ld1 (rh_at hb4.at_) ?_
    refine Ret.mono (TriePut_spec w.heap.size (valOf (l.take i)) cnt _ l[i].p l[i].hop w4 hT4 hc0 (by omega)) ?_
    rintro v5 w5 hres
    rcases hres with ⟨hr, rfl, e5⟩ | ⟨hr, rfl, hT5, e5⟩
    · skip
      refine add64 (by omega) (by omega) ?_
      refine again (l.length - (i + 1)) (by omega) _ rfl ⟨i + 1, cnt, by omega, rfl, rfl, ?_, hc0, by omega, e4.trans e5⟩
      rw [hsn, Val.add, if_neg (by rw [hr]; simp)]
      exact hT4.no e5
    · skip
      refine add64 (by omega) (by omega) ?_
      refine again (l.length - (i + 1)) (by omega) _ rfl ⟨i + 1, if (valOf (l.take i) (path l[i].p)).isSome = true then cnt else cnt + 1, by omega, rfl, rfl, ?_, ?_, ?_, e4.andThen e5 fun k hk h => by omega⟩
      · rw [hsn, Val.add, if_pos hr]
        exact hT5.mono fun k hk => hk.elim id fun h => by omega
      · split <;> omega
      · split <;> omega
  · skip
    have : l.take i = l := List.take_of_length_le (by omega)
    rw [this] at hT
    exact ⟨_, cnt, rfl, hT, e2⟩

theorem At_spec (t : Nat) (val : Val) (cnt : Int) (F : Nat → Prop) (k : Pfx) (low : Int) (w : World) (h : TrieAt w t val cnt F) :
    Ret Try.prog 69 #[.pointer (some ⟨t, 0, none⟩), k.val, .int .i64 low] w fun v w' => v = .tuple #[.int .i64 ((atF val k low).getD 0), .bool (atF val k low).isSome] ∧ Ext No w w' := by
  refine calls_ev (args := [_, _, _]) mixed Try.func69 ok_69 rfl ?_
  refine bx (cs := _) rfl ?_
  intro w1 h1
  have hk : Blk w1.heap w.heap.size k.cells 35 := h1.blk
  refine fa ?_
  refine ldN (cs := k.adr.cells) (rfl) (hk.part ⟨[.int .i64 k.len], rfl⟩) ?_
  refine fa ?_
  refine ld1 (hk.cell 2) ?_
  refine minI ?_
  refine Ret.mono (Between_spec t val cnt F k.adr low (min k.len 128) w1 (h.no (h1.ext No))) ?_
  rintro v2 w2 ⟨rfl, e2⟩
  refine al (cs := _) rfl ?_
  intro w3 h3
  refine stN (vs := (rtO (betw val k.adr low (min k.len 128))).cells) rfl rfl rfl (h3.blk) (Nat.le_refl 4) ?_
  intro w4 h4
  have hb4 : Blk w4.heap w2.heap.size (rtO (betw val k.adr low (min k.len 128))).cells 45 := h4.blk
  have e24 : Ext (· = w2.heap.size) w2 w4 := (h3.ext _).andThen (h4.ext (S := (· = w2.heap.size)) fun _ => rfl) fun _ _ h => h
  have e2' : Ext No w w2 := (h1.ext No).trans e2
  refine fa ?_
  refine ld1 (rh_at hb4.at_) ?_
  have hres : atF val k low = (betw val k.adr low (min k.len 128)).map (·.hop) := rfl
  exact ⟨by rw [hres]; cases betw val k.adr low (min k.len 128) <;> rfl, e2'.andThen e24 fun j hj e ↦ by have := e2'.size; omega⟩

theorem Hop_spec (v : Value) (l : List Rt) (k : Pfx) (low : Int) (w : World) (h : IsR w.heap v l) (hn : l.length ≤ 1000000) :
    Ret Try.prog 25 #[v, k.val, .int .i64 low] w fun v w' => v = .tuple #[.int .i64 ((hopF l k low).getD 0), .bool (hopF l k low).isSome] ∧ Ext No w w' := by
  refine calls_ev (args := [_, _, _]) mixed Try.func25 ok_25 rfl ?_
  refine bx (cs := _) rfl ?_
  intro w1 h1
  have hk : Blk w1.heap w.heap.size k.cells 35 := h1.blk
  refine draw [(0, []), (2, []), (1, [2]), (3, []), (4, []), (5, []), (6, []), (7, []), (8, [])] (by kernel_rfl) ?_
  refine ldN (cs := k.cells) (rfl) (hk.at_) ?_
  refine Ret.mono (Of_spec v l _ (h.no (h1.ext No)) hn) ?_
  rintro v2 w2 hres
  obtain ⟨t, cnt, rfl, hT, e2⟩ := hres
  refine And.intro (ldN (cs := k.cells) rfl (e2.blk hk id).at_ rfl) ?_
  refine Ret.mono (At_spec t (valOf l) cnt _ k low w2 hT) ?_
  rintro v3 w3 ⟨rfl, e3⟩
  exact ⟨by rw [hop_eq]; rfl, ((h1.ext No).trans e2).trans e3⟩

theorem keysOf_snoc (l : List Rt) (r : Rt) (low high : Int) : keysOf (l ++ [r]) low high = keysOf l low high ++ (if inLen low high r = true then keysF r.p high else []) := by
  unfold keysOf; rw [List.flatMap_append]; simp
theorem keysOf_le (l : List Rt) (low high : Int) : (keysOf l low high).length ≤ 256 * l.length := by
  induction l using list_snoc with
  | h0 => exact Nat.le_refl _
  | hs l r ih =>
    rw [keysOf_snoc, List.length_append, List.length_append]
    have := keysF_length r.p high
    split
    · simp; omega
    · simp; omega

end Go.Fl
