/-
  The document's Set.
-/
import Derived.Test.YtoenjjlicglceaaFcover
namespace Go.Fl
open Go.Proofs
set_option maxHeartbeats 4000000
set_option maxRecDepth 100000

theorem rSet_spec (v : Value) (l : List Rt) (low high : Int) (w : World) (h : IsR w.heap v l) (hn : l.length ≤ 3000) :
    Ret Try.prog 28 #[v, .int .i64 low, .int .i64 high] w fun v' w' => OwnR w.heap.size w' v' (setF l low high) ∧ Ext No w w' := by
  refine calls_ev (args := [_, _, _]) mixed Try.func28 ok_28 rfl ?_
  refine Ret.mono (Sorted_spec v l w h (by omega)) ?_
  rintro v1 w1 ⟨h1, e1⟩
  have hle := sortedF_le l
  have hset : setF l low high = if low < high then (keysOf (sortedF l) low high).foldl (fun out k => intoF out ⟨k, (hopF (sortedF l) k low).getD 0⟩) [] else [] := rfl
  generalize sortedF l = A at h1 hle hset
  obtain ⟨ad, c, rfl, hc, hs⟩ := h1.is
  have s1 := e1.size
  have hA : ∀ {w2 : World}, Ext No w1 w2 → IsR w2.heap (.slice ad A.length c) A := fun e => ⟨ad, c, rfl, hc, hs.no e⟩
  have hlen : ∀ (ks : List Pfx), (ks.foldl (fun out k => intoF out ⟨k, (hopF A k low).getD 0⟩) []).length ≤ ks.length := fun ks => by
    induction ks using list_snoc with
    | h0 => exact Nat.le_refl _
    | hs ks k ih =>
      rw [List.foldl_append, List.length_append]
      have := intoF_le (ks.foldl (fun out k => intoF out ⟨k, (hopF A k low).getD 0⟩) []) ⟨k, (hopF A k low).getD 0⟩
      simp only [List.foldl_cons, List.foldl_nil, List.length_cons, List.length_nil]; omega
  obtain ⟨foldK, hfold⟩ : ∃ foldK : List Pfx → List Rt, foldK = fun ks => ks.foldl (fun out k => intoF out ⟨k, (hopF A k low).getD 0⟩) [] := ⟨_, rfl⟩
  have hlenK : ∀ ks, (foldK ks).length ≤ ks.length := fun ks => by rw [hfold]; exact hlen ks
  have hsnocK : ∀ ks k, foldK (ks ++ [k]) = intoF (foldK ks) ⟨k, (hopF A k low).getD 0⟩ := fun ks k => by rw [hfold]; simp only [List.foldl_append, List.foldl_cons, List.foldl_nil]
  have hnilK : foldK [] = [] := by rw [hfold]; rfl
  have hsetK : setF l low high = if low < high then foldK (keysOf A low high) else [] := by rw [hfold]; exact hset
  clear hlen hset hfold
  by_cases hlh : low < high
  · rw [if_pos hlh] at hsetK
    refine loop [0, 1, 2, 7, 8] (fun k vs w' => ∃ (i : Nat) (v : Value), i ≤ A.length ∧ k = A.length - i ∧ vs = [.slice ad A.length c, .int .i64 low, .int .i64 high, v, .int .i64 i] ∧ OwnR w1.heap.size w' v (foldK (keysOf (A.take i) low high)) ∧ Ext No w1 w') A.length _ rfl ⟨0, _, by omega, rfl, rfl, by rw [List.take_zero]; show OwnR _ _ _ (foldK []); rw [hnilK]; exact OwnR.nil _ _, Ext.refl _ _⟩ ?_
    rintro k vs w2 ⟨i, v, hi, rfl, rfl, ho, e2⟩
    refine lenS ?_
    refine TestK.mk (fun hlt => ?_) (fun hlt => ?_)
    · skip
      refine TestK.mk (fun hlt' => ?_) (fun hlt' => ?_)
      · skip
        have hi' : i < A.length := by omega
        have hkk := keysOf_le (A.take i) low high
        rw [List.length_take] at hkk
        refine iaG rlen (hs.no e2) i rfl hi' rfl ?_
        intro b o hat
        refine fa ?_
        refine fa ?_
        refine ld1 ((rp_at hat).cell (k := 2) rfl) ?_
        refine TestK.mk (fun g1 => ?_) (fun g1 => ?_)
        · skip
          refine add64 (by omega) (by omega) ?_
          refine again (A.length - (i + 1)) (by omega) _ rfl ⟨i + 1, v, by omega, rfl, rfl, ?_, e2⟩
          rw [List.take_succ_eq_append_getElem hi', keysOf_snoc]
          rw [if_neg (by unfold inLen; simp; omega), List.append_nil]
          exact ho
        · skip
          refine iaG rlen (hs.no e2) i rfl hi' rfl ?_
          intro b2 o2 hat2
          refine fa ?_
          refine fa ?_
          refine ld1 ((rp_at hat2).cell (k := 2) rfl) ?_
          refine TestK.mk (fun g2 => ?_) (fun g2 => ?_)
          · skip
            refine add64 (by omega) (by omega) ?_
            refine again (A.length - (i + 1)) (by omega) _ rfl ⟨i + 1, v, by omega, rfl, rfl, ?_, e2⟩
            rw [List.take_succ_eq_append_getElem hi', keysOf_snoc]
            rw [if_neg (by unfold inLen; simp; omega), List.append_nil]
            exact ho
          · skip
            refine iaG rlen (hs.no e2) i rfl hi' rfl ?_
            intro b3 o3 hat3
            refine fa ?_
            refine ldN (cs := A[i].p.cells) (rfl) (rp_at hat3) ?_
            refine Ret.mono (rKeys_spec A[i].p high w2) ?_
            rintro v3 w3 ⟨h3, e3⟩
            have hkl := keysF_length A[i].p high
            have hin : keysOf (A.take (i + 1)) low high = keysOf (A.take i) low high ++ keysF A[i].p high := by
              rw [List.take_succ_eq_append_getElem hi', keysOf_snoc, if_pos (by unfold inLen; simp; omega)]
            refine Exists.elim (⟨_, rfl⟩ : ∃ K0, keysOf (A.take i) low high = K0) fun K0 hK0 => ?_
            refine Exists.elim (⟨_, rfl⟩ : ∃ ks, keysF A[i].p high = ks) fun ks hks => ?_
            rw [hK0, hks] at hin
            rw [hK0] at ho hkk
            rw [hks] at h3 hkl
            refine Exists.elim h3.is fun ad' h4 => ?_
            refine Exists.elim h4 fun c' h5 => ?_
            have hv3 := h5.1
            subst hv3
            have hs' := h5.2.2
            have e13 := e2.trans e3
            refine loop [0, 1, 2, 7, 8, 9, 10] (fun k vs w' => ∃ (j : Nat) (v : Value), j ≤ ks.length ∧ k = ks.length - j ∧ vs = [.slice ad A.length c, .int .i64 low, .int .i64 high, v, .int .i64 i, .slice ad' ks.length c', .int .i64 j] ∧ OwnR w1.heap.size w' v (foldK (K0 ++ ks.take j)) ∧ Ext No w3 w') ks.length _ rfl ⟨0, v, by omega, rfl, rfl, by rw [List.take_zero, List.append_nil]; exact OwnR.no ho e3, Ext.refl _ _⟩ ?_
            rintro k vs w4 ⟨j, v4, hj, rfl, rfl, ho4, e4⟩
            refine lenS ?_
            refine TestK.mk (fun hjt => ?_) (fun hjt => ?_)
            · skip
              have hj' : j < ks.length := by omega
              refine iaG plen (hs'.no e4) j rfl hj' rfl ?_
              intro b4 o4 hat4
              refine ldN (cs := ks[j].cells) (rfl) (hat4) ?_
              refine Ret.mono (rHop_spec (.slice ad A.length c) A ks[j] low w4 (hA (e13.trans e4)) (by omega)) ?_
              rintro v5 w5 ⟨rfl, e5⟩
              refine iaG plen (hs'.no (e4.trans e5)) j rfl hj' rfl ?_
              intro b5 o5 hat5
              refine ldN (cs := ks[j].cells) (rfl) (hat5) ?_
              refine bldRoute ?_
              have hlk := hlenK (K0 ++ ks.take j)
              rw [List.length_append, List.length_take] at hlk
              refine Ret.mono (Into_spec v4 (foldK (K0 ++ ks.take j)) ⟨ks[j], (hopF A ks[j] low).getD 0⟩ w5 (OwnR.no ho4 e5).is (by omega)) ?_
              rintro v6 w6 ⟨h6, e6⟩
              refine add64 (by omega) (by omega) ?_
              refine again (ks.length - (j + 1)) (by omega) _ rfl ⟨j + 1, v6, by omega, rfl, rfl, ?_, (e4.trans e5).trans e6⟩
              rw [List.take_succ_eq_append_getElem hj', ← List.append_assoc, hsnocK]
              exact own_mono h6 (Nat.le_trans e13.size (Nat.le_trans e4.size e5.size))
            · skip
              have : ks.take j = ks := List.take_of_length_le (by omega)
              rw [this] at ho4
              refine add64 (by omega) (by omega) ?_
              refine again (A.length - (i + 1)) (by omega) _ rfl ⟨i + 1, v4, by omega, rfl, rfl, ?_, e13.trans e4⟩
              rw [hin]; exact ho4
      · skip
        exact absurd hlh hlt'
    · skip
      have : A.take i = A := List.take_of_length_le (by omega)
      rw [this] at ho
      exact ⟨by rw [hsetK]; exact own_mono ho (by omega), e1.trans e2⟩
  · rw [if_neg hlh] at hsetK
    refine loop [0, 1, 2, 7, 8] (fun k vs w' => k = 0 ∧ vs = [.slice ad A.length c, .int .i64 low, .int .i64 high, .slice none 0 0, .int .i64 0] ∧ Ext No w1 w') 0 _ rfl ⟨rfl, rfl, Ext.refl _ _⟩ ?_
    rintro k vs w2 ⟨rfl, rfl, e2⟩
    refine lenS ?_
    refine TestK.mk (fun hlt => ?_) (fun hlt => ?_)
    · skip
      refine TestK.mk (fun hlt' => ?_) (fun hlt' => ?_)
      · skip
        exact absurd hlt' hlh
      · skip
        exact ⟨by rw [hsetK]; exact OwnR.nil _ _, e1.trans e2⟩
    · skip
      exact ⟨by rw [hsetK]; exact OwnR.nil _ _, e1.trans e2⟩
end Go.Fl
