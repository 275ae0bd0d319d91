/-
  Chapter 12: the document's table: New, Size, All, Get, Delete.
-/
import Derived.Test.YtoenjjlicglceaaRgrow
namespace Go.Fl
open Go.Proofs
set_option maxHeartbeats 4000000
set_option maxRecDepth 100000

theorem rAll_spec (t : Nat) (T : Tab) (F : Nat → Prop) (w : World) (h : RTabAt w t T F) (hok : Ok T) (hn : T.cont.length ≤ 400000) :
    Ret Try.prog 34 #[.pointer (some ⟨t, 0, none⟩)] w fun v w' => OwnR w.heap.size w' v (sortedF T.cont) ∧ Ext No w w' := by
  obtain ⟨b, sv, ht, hb, hv, n1, n2, n3, f1, f2, f3⟩ := h
  have h4 := hok.b.four
  have hn2 := hok.b.n2
  obtain ⟨sa, sc, rfl⟩ := own_slice hv
  have hcl : T.cont.length = (bcont T.bks).length + T.stash.length := List.length_append
  have hsle := fun l : List Rt => sortedF_le l
  refine calls_ev (args := [_]) mixed Try.func34 ok_34 rfl ?_
  refine loop [0, 3, 4] (fun k vs w' => ∃ (i : Nat) (v : Value), i ≤ T.n ∧ k = T.n - i ∧ vs = [.pointer (some ⟨t, 0, none⟩), v, .int .i64 i] ∧ OwnR w.heap.size w' v (sortedF (bcont (T.bks.take i))) ∧ Ext No w w') T.n _ rfl ⟨0, _, by omega, rfl, rfl, OwnR.nil _ _, Ext.refl _ _⟩ ?_
  rintro k vs w1 ⟨i, v, hi, rfl, rfl, ho1, e1⟩
  have s1 := e1.size
  refine fa ?_
  refine ld1 ((e1.blk ht id).cell 1) ?_
  refine lenS ?_
  refine TestK.mk (fun hlt => ?_) (fun hlt => ?_)
  · skip
    have hi' : i < T.bks.length := show i < T.n by omega
    have hle := bcont_le T.bks (i + 1)
    rw [bcont_take _ _ hi', List.length_append] at hle
    refine fa ?_
    refine ld1 ((e1.blk ht id).cell 1) ?_
    refine iaS i rfl hi' ?_
    refine Ret.mono (rbAllAt h4 hi' (e1.blk hb id)) ?_
    rintro x w2 ⟨hx, e2⟩
    have e12 := e1.trans e2
    refine Exists.elim (OwnR.is hx) fun ad q => ?_
    refine Exists.elim q fun c q => ?_
    have hq := q.1
    subst hq
    have hsl := q.2.2
    refine loop [0, 3, 4, 5, 6] (fun k vs w' => ∃ (j : Nat) (v : Value), j ≤ (Ball (bkAt T.bks i)).length ∧ k = (Ball (bkAt T.bks i)).length - j ∧ vs = [.pointer (some ⟨t, 0, none⟩), v, .int .i64 i, .slice ad (Ball (bkAt T.bks i)).length c, .int .i64 j] ∧
      OwnR w.heap.size w' v (sortedF (bcont (T.bks.take i) ++ (Ball (bkAt T.bks i)).take j)) ∧ Ext No w2 w') (Ball (bkAt T.bks i)).length _ rfl ⟨0, v, by omega, by omega, rfl, by rw [List.take_zero, List.append_nil]; exact OwnR.no ho1 e2, Ext.refl _ _⟩ ?_
    rintro k vs w3 ⟨j, v3, hj, rfl, rfl, ho3, e3⟩
    refine lenS ?_
    refine TestK.mk (fun hlt2 => ?_) (fun hlt2 => ?_)
    · skip
      have hj' : j < (Ball (bkAt T.bks i)).length := by omega
      refine iaG rlen (hsl.no e3) j rfl hj' rfl ?_
      intro b1 o1 hat1
      refine ldN (cs := (Ball (bkAt T.bks i))[j].cells) (rfl) (hat1) ?_
      have hbd := hsle (bcont (T.bks.take i) ++ (Ball (bkAt T.bks i)).take j)
      rw [List.length_append, List.length_take] at hbd
      refine Ret.mono (Into_spec v3 (sortedF (bcont (T.bks.take i) ++ (Ball (bkAt T.bks i)).take j)) (Ball (bkAt T.bks i))[j] w3 (OwnR.is ho3) (by omega)) ?_
      rintro v4 w4 ⟨h4', e4⟩
      refine add64 (by omega) (by omega) ?_
      refine again ((Ball (bkAt T.bks i)).length - (j + 1)) (by omega) _ rfl ⟨j + 1, v4, by omega, rfl, rfl, ?_, e3.trans e4⟩
      rw [List.take_succ_eq_append_getElem hj', ← List.append_assoc, sortedF_snoc]
      exact own_mono h4' (Nat.le_trans s1 (Nat.le_trans e2.size e3.size))
    · skip
      have hT : (Ball (bkAt T.bks i)).take j = Ball (bkAt T.bks i) := List.take_of_length_le (by omega)
      rw [hT] at ho3
      refine add64 (by omega) (by omega) ?_
      refine again (T.n - (i + 1)) (by omega) _ rfl ⟨i + 1, v3, by omega, rfl, rfl, by rw [bcont_take _ _ hi']; exact ho3, e12.trans e3⟩
  · skip
    have hT : T.bks.take i = T.bks := List.take_of_length_le (show T.n ≤ i by omega)
    rw [hT] at ho1
    refine loop [0, 3, 7] (fun k vs w' => ∃ (j : Nat) (v : Value), j ≤ T.stash.length ∧ k = T.stash.length - j ∧ vs = [.pointer (some ⟨t, 0, none⟩), v, .int .i64 j] ∧ OwnR w.heap.size w' v (sortedF (bcont T.bks ++ T.stash.take j)) ∧ Ext No w w') T.stash.length _ rfl
      ⟨0, v, by omega, by omega, rfl, by rw [List.take_zero, List.append_nil]; exact ho1, e1⟩ ?_
    rintro k vs w3 ⟨j, v3, hj, rfl, rfl, ho3, e3⟩
    refine fa ?_
    refine ld1 ((e3.blk ht id).cell 2) ?_
    refine lenS ?_
    refine TestK.mk (fun hlt2 => ?_) (fun hlt2 => ?_)
    · skip
      have hj' : j < T.stash.length := by omega
      refine fa ?_
      refine ld1 ((e3.blk ht id).cell 2) ?_
      refine Exists.elim (OwnR.is (OwnR.no hv e3)) fun ad q => ?_
      refine Exists.elim q fun c q => ?_
      have hq := q.1
      cases hq
      have hsl := q.2.2
      refine iaG rlen hsl j rfl hj' rfl ?_
      intro b1 o1 hat1
      refine ldN (cs := T.stash[j].cells) (rfl) (hat1) ?_
      have hbd := hsle (bcont T.bks ++ T.stash.take j)
      rw [List.length_append, List.length_take] at hbd
      refine Ret.mono (Into_spec v3 (sortedF (bcont T.bks ++ T.stash.take j)) T.stash[j] w3 (OwnR.is ho3) (by omega)) ?_
      rintro v4 w4 ⟨h4', e4⟩
      refine add64 (by omega) (by omega) ?_
      refine again (T.stash.length - (j + 1)) (by omega) _ rfl ⟨j + 1, v4, by omega, rfl, rfl, ?_, e3.trans e4⟩
      rw [List.take_succ_eq_append_getElem hj', ← List.append_assoc, sortedF_snoc]
      exact own_mono h4' e3.size
    · skip
      have hT : T.stash.take j = T.stash := List.take_of_length_le (by omega)
      rw [hT] at ho3
      exact ⟨ho3, e3⟩

end Go.Fl
