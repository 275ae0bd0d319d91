/-
  The given program's cover.Set.
-/
import Derived.Test.YtoenjjlicglceaaFcover
namespace Go.Fl
open Go.Proofs
set_option maxHeartbeats 4000000
set_option maxRecDepth 100000

theorem Set_spec (v : Value) (l : List Rt) (low high : Int) (w : World) (h : IsR w.heap v l) (hn : l.length ≤ 3000) :
    Ret Try.prog 20 #[v, .int .i64 low, .int .i64 high] w fun v' w' => OwnR w.heap.size w' v' (setF l low high) ∧ Ext No w w' := by
  refine calls_ev (args := [_, _, _]) mixed Try.func20 ok_20 rfl ?_
  refine Ret.mono (Of_spec v l w h (by omega)) ?_
  rintro v1 w1 hof
  obtain ⟨t, cnt, rfl, hT, e1⟩ := hof
  have hle := allF_le l
  have hseq := set_eq l low high
  refine Ret.mono (TrieAll_spec t (valOf l) cnt _ w1 hT (by omega)) ?_
  rintro v2 w2 ⟨h2, e2⟩
  generalize hA : allF (valOf l) = A at h2 hle hseq
  have hT2 := hT.no e2
  obtain ⟨ad, c, rfl, hc, hs⟩ := h2.is
  have s1 := e1.size
  have s2 := e2.size
  have e2' : Ext No w w2 := e1.trans e2
  refine lenS ?_
  refine loop [1, 2, 7, 8, 19, 20, 21] (fun k vs w' => ∃ (i : Nat) (v : Value), i ≤ A.length ∧ k = A.length - i ∧ vs = [.int .i64 low, .int .i64 high, .pointer (some ⟨t, 0, none⟩), v, .slice ad A.length c, .int .i64 A.length, .int .i64 i] ∧ OwnP w2.heap.size w' v (keysOf (A.take i) low high) ∧ Ext No w2 w') A.length _ rfl ⟨0, _, by omega, rfl, rfl, OwnP.nil _ _, Ext.refl _ _⟩ ?_
  rintro k vs w3 ⟨i, v, hi, rfl, rfl, ho, e3⟩
  refine TestK.mk (fun hlt => ?_) (fun hlt => ?_)
  · skip
    have hi' : i < A.length := by omega
    refine iaG rlen (hs.no e3) i rfl hi' rfl ?_
    intro b o hat
    refine ldN (cs := A[i].cells) (rfl) (hat) ?_
    refine al (cs := _) rfl ?_
    intro w4 h4
    refine stN (vs := A[i].cells) rfl rfl rfl (h4.blk) (Nat.le_refl 4) ?_
    intro w5 h5
    have hb5 : Blk w5.heap w3.heap.size A[i].cells 45 := h5.blk
    have e35 : Ext (· = w3.heap.size) w3 w5 := (h4.ext _).andThen (h5.ext (S := (· = w3.heap.size)) fun _ => rfl) fun _ _ h => h
    have s3 := e3.size
    have s5 := e35.size
    have e5 : Ext No w2 w5 := e3.andThen e35 fun k hk e => by omega
    have ho5 : OwnP w2.heap.size w5 v (keysOf (A.take i) low high) := ho.ext e35 fun k hk e => by have := own_lt ho hk; omega
    refine fa ?_
    refine fa ?_
    refine ld1 (hb5.cell 2) ?_
    refine TestK.mk (fun g1 => ?_) (fun g1 => ?_)
    · skip
      refine fa ?_
      refine fa ?_
      refine ld1 (hb5.cell 2) ?_
      refine TestK.mk (fun g2 => ?_) (fun g2 => ?_)
      · skip
        refine fa ?_
        refine ldN (cs := A[i].p.cells) (rfl) (rp_at hb5.at_) ?_
        refine Ret.mono (Keys_spec A[i].p high w5) ?_
        rintro v6 w6 ⟨h6, e6⟩
        have hkl := keysF_length A[i].p high
        have hkk := keysOf_le (A.take i) low high
        refine apG plen pone (OwnP.no ho5 e6) h6.is (by rw [List.length_take] at hkk; omega) (by decide) (Nat.le_trans e5.size e6.size) ?_
        intro v7 w7 h7 f7 e7
        refine add64 (by omega) (by omega) ?_
        refine again (A.length - (i + 1)) (by omega) _ rfl ⟨i + 1, v7, by omega, rfl, rfl, ?_, (e5.trans e6).andThen e7 fun k hk e ↦ by have := (World.ownsRow.lt ho5 k e).1; omega⟩
        rw [List.take_succ_eq_append_getElem hi', keysOf_snoc]
        rw [if_pos (by unfold inLen; simp; omega)]
        exact h7
      · skip
        refine add64 (by omega) (by omega) ?_
        refine again (A.length - (i + 1)) (by omega) _ rfl ⟨i + 1, v, by omega, rfl, rfl, ?_, e5⟩
        rw [List.take_succ_eq_append_getElem hi', keysOf_snoc]
        rw [if_neg (by unfold inLen; simp; omega), List.append_nil]
        exact ho5
    · skip
      refine add64 (by omega) (by omega) ?_
      refine again (A.length - (i + 1)) (by omega) _ rfl ⟨i + 1, v, by omega, rfl, rfl, ?_, e5⟩
      rw [List.take_succ_eq_append_getElem hi', keysOf_snoc]
      rw [if_neg (by unfold inLen; simp; omega), List.append_nil]
      exact ho5
  · skip
    have : A.take i = A := List.take_of_length_le (by omega)
    rw [this] at ho
    have hkk := keysOf_le A low high
    generalize keysOf A low high = ks at ho hkk hseq
    refine Ret.mono (SortPfx_spec w2.heap.size v ks w3 ho (by omega)) ?_
    rintro r w4 ⟨rfl, s, hperm, hsort, ho4, e4⟩
    have hsl := hperm.length_eq
    refine Ret.mono (Compact_spec w2.heap.size v s w4 ho4 (by omega)) ?_
    rintro v5 w5 ⟨h5, e5⟩
    have hres := hseq s hperm hsort
    have hdl : (dedF s).length ≤ s.length := ded_le s _
    generalize dedF s = D at h5 hres hdl
    obtain ⟨ad', c', rfl, hc', hs'⟩ := h5.is
    have e35 : Ext (fun k => w2.heap.size ≤ k) w3 w5 := (e4.weaken fun k _ e => (World.ownsRow.lt ho k e).1).andThen (e5.weaken fun k _ e => (World.ownsRow.lt ho4 k e).1) fun _ _ h => h
    have e25 : Ext No w2 w5 := e3.andThen e35 fun k hk h => by omega
    have s5 := e25.size
    have hT5 := hT2.no e25
    refine lenS ?_
    refine loop [1, 7, 11, 47, 48, 49] (fun k vs w' => ∃ (i : Nat) (v : Value), i ≤ D.length ∧ k = D.length - i ∧ vs = [.int .i64 low, .pointer (some ⟨t, 0, none⟩), v, .slice ad' D.length c', .int .i64 D.length, .int .i64 i] ∧ OwnR w5.heap.size w' v ((D.take i).map fun k => (⟨k, (atF (valOf l) k low).getD 0⟩ : Rt)) ∧ Ext No w5 w') D.length _ rfl ⟨0, _, by omega, rfl, rfl, OwnR.nil _ _, Ext.refl _ _⟩ ?_
    rintro k vs w6 ⟨i, v, hi, rfl, rfl, ho6, e6⟩
    refine TestK.mk (fun hlt2 => ?_) (fun hlt2 => ?_)
    · skip
      have hi' : i < D.length := by omega
      refine iaG plen (hs'.no e6) i rfl hi' rfl ?_
      intro b o hat
      refine ldN (cs := D[i].cells) (rfl) (hat) ?_
      refine al (cs := _) rfl ?_
      intro w7 h7
      refine stN (vs := D[i].cells) rfl rfl rfl (h7.blk) (Nat.le_refl 3) ?_
      intro w8 h8
      have hb8 : Blk w8.heap w6.heap.size D[i].cells 35 := h8.blk
      have e68 : Ext (· = w6.heap.size) w6 w8 := (h7.ext _).andThen (h8.ext (S := (· = w6.heap.size)) fun _ => rfl) fun _ _ h => h
      have s6 := e6.size
      have e8 : Ext No w5 w8 := e6.andThen e68 fun k hk e => by omega
      have ho8 : OwnR w5.heap.size w8 v ((D.take i).map fun k => (⟨k, (atF (valOf l) k low).getD 0⟩ : Rt)) := ho6.ext e68 fun k hk e => by have := own_lt ho6 hk; omega
      refine ldN (cs := D[i].cells) (rfl) (hb8.at_) ?_
      refine Ret.mono (At_spec t (valOf l) cnt _ D[i] low w8 (hT5.no e8)) ?_
      rintro v9 w9 ⟨rfl, e9⟩
      refine ldN (cs := D[i].cells) (rfl) ((e9.blk hb8 id).at_) ?_
      refine bldRoute ?_
      refine bsRoute1 ?_
      intro w10 h10
      refine apG rlen rone (OwnR.no (OwnR.no ho8 e9) (h10.ext No)) (isSl_one h10.blk) (by rw [List.length_map, List.length_take]; show _ + 1 ≤ _; omega) (by decide) (Nat.le_trans (Nat.le_trans e8.size e9.size) (h10.ext No).size) ?_
      intro v11 w11 h11 f11 e11
      refine add64 (by omega) (by omega) ?_
      refine again (D.length - (i + 1)) (by omega) _ rfl ⟨i + 1, v11, by omega, rfl, rfl, ?_, ((e8.trans e9).trans (h10.ext No)).andThen e11 fun k hk e => by have := (World.ownsRow.lt ho8 k e).1; omega⟩
      rw [List.take_succ_eq_append_getElem hi', List.map_append]
      exact h11
    · skip
      have : D.take i = D := List.take_of_length_le (by omega)
      rw [this, hres] at ho6
      exact ⟨own_mono ho6 (by omega), (e2'.trans e25).trans e6⟩

end Go.Fl
