/-
  The laws of chapter 18: CoverTells, CoverAll.
-/
import Derived.Test.YtoenjjlicglceaaTall
import Derived.Test.YtoenjjlicglceaaFset
import Derived.Test.YtoenjjlicglceaaFrset
import Derived.Test.YtoenjjlicglceaaFlong
namespace Go.Fl
open Go.Proofs
set_option maxHeartbeats 4000000
set_option maxRecDepth 100000

theorem eqBool {x y : Operand} {a b : Bool} {K : Value → Prop} (hK : K (.bool (a == b))) :
    PureSem Try.prog (do eqGuard .eql 4 x y (.bool a) (.bool b); binOp .eql 4 (.bool a) (.bool b)) K :=
  PureSem.of _ (fun w => by cases a <;> cases b <;> kernel_rfl) hK
theorem bldRoute1 {K : Value → Prop} (hK : K (Rt.val ⟨⟨0, 0, 0⟩, 6⟩)) : PureSem Try.prog (Instr.build 45 #[(1, .int .i64 6)]) K := PureSem.of _ (fun w => by kernel_rfl) hK

theorem setF_le (l : List Rt) (low high : Int) : (setF l low high).length ≤ 256 * l.length := by
  have hlen : ∀ (g : Pfx → Int) (ks : List Pfx), (ks.foldl (fun out k => intoF out ⟨k, g k⟩) []).length ≤ ks.length := fun g ks => by
    induction ks using list_snoc with
    | h0 => exact Nat.le_refl _
    | hs ks k ih =>
      rw [List.foldl_append, List.length_append]
      have := intoF_le (ks.foldl (fun out k => intoF out ⟨k, g k⟩) []) ⟨k, g k⟩
      simp only [List.foldl_cons, List.foldl_nil, List.length_cons, List.length_nil]; omega
  unfold setF
  split
  · have h1 := hlen (fun k => (hopF (sortedF l) k low).getD 0) (keysOf (sortedF l) low high)
    have h2 := keysOf_le (sortedF l) low high
    have h3 := sortedF_le l
    exact Nat.le_trans h1 (Nat.le_trans h2 (Nat.mul_le_mul_left 256 h3))
  · exact Nat.zero_le _
theorem setF_le_of {l : List Rt} (low high : Int) (h : l.length ≤ 3000) : (setF l low high).length ≤ 1000000000 := by
  have := setF_le l low high
  omega

def one18 : List Rt := setF [⟨⟨0, 0, 0⟩, 6⟩] (-1) 1
theorem nil18 : setF [] 0 8 = [] := by decide +kernel
theorem one18_len : one18.map (·.hop) = [6, 6] := by decide +kernel
theorem alive18_spec (w : World) : Ret Try.prog 18 #[] w fun r w' => r = .bool true ∧ Ext No w w' := by
  refine calls_ev (args := []) mixed Try.func18 ok_18 rfl ?_
  refine bldRoute1 ?_
  refine bsRoute1 ?_
  intro w1 h1
  refine Ret.mono (Set_spec _ [⟨⟨0, 0, 0⟩, 6⟩] (-1) 1 w1 (isSl_one h1.blk) (by decide)) ?_
  rintro v2 w2 ⟨h2, e2⟩
  have hone : setF [⟨⟨0, 0, 0⟩, 6⟩] (-1) 1 = one18 := rfl
  rw [hone] at h2
  refine Ret.mono (Set_spec _ [] 0 8 w2 (IsSl.nil _) (by decide)) ?_
  rintro v3 w3 ⟨h3, e3⟩
  rw [nil18] at h3
  have h23 := OwnR.no h2 e3
  have hl := one18_len
  have hlen : one18.length = 2 := by have := congrArg List.length hl; rw [List.length_map] at this; exact this
  generalize one18 = o at h23 hl hlen
  obtain ⟨ad, c, rfl, hc, hs⟩ := h23.is
  obtain ⟨ad', c', rfl, hc', hs'⟩ := h3.is
  refine lenS ?_
  refine TestK.mk (fun g1 => ?_) (fun g1 => ?_)
  · skip
    refine lenS ?_
    refine TestK.mk (fun g2 => ?_) (fun g2 => ?_)
    · skip
      refine iaG rlen hs 0 rfl (by omega) rfl ?_
      intro b z hat
      have h6 : o[0].hop = 6 := by
        have := congrArg (fun l : List Int => l[0]?) hl
        simp only [List.getElem?_map, List.getElem?_eq_getElem (show 0 < o.length by omega)] at this
        exact Option.some.inj this
      refine fa ?_
      refine ld1 (rh_at hat) ?_
      refine TestK.mk (fun g3 => ?_) (fun g3 => ?_)
      · skip
        exact ⟨rfl, ((h1.ext No).trans e2).trans e3⟩
      · skip
        exact absurd h6 g3
    · skip
      exact absurd (by rw [hlen]; rfl) g2
  · skip
    exact absurd rfl g1

theorem Tells_spec (v : Value) (l : List Rt) (k : Pfx) (low high : Int) (w : World) (h : IsR w.heap v l) : Ret Try.prog 5 #[v, k.val, .int .i64 low, .int .i64 high] w fun r w' => r = .bool true ∧ Ext No w w' := by
  obtain ⟨ad, c, rfl, hc, hs⟩ := h
  have hI : ∀ {w2 : World}, Ext No w w2 → IsR w2.heap (.slice ad l.length c) l := fun e => ⟨ad, c, rfl, hc, hs.no e⟩
  refine calls_ev (args := [_, _, _, _]) mixed Try.func5 ok_5 rfl ?_
  refine bx (cs := _) rfl ?_
  intro w1 h1
  have hk : Blk w1.heap w.heap.size k.cells 35 := h1.blk
  refine Ret.mono (alive18_spec w1) ?_
  rintro v2 w2 ⟨rfl, e2⟩
  have e2' : Ext No w w2 := (h1.ext No).trans e2
  have hk2 := e2.blk hk id
  refine lenS ?_
  refine TestK.mk (fun hn => ?_) (fun hn => ?_)
  · skip
    exact ⟨rfl, e2'⟩
  · skip
    have hn' : l.length ≤ 40 := by omega
    refine draw [(0, []), (2, []), (1, [2]), (3, []), (4, []), (5, []), (6, []), (7, []), (8, []), (9, [])] (by kernel_rfl) ?_
    refine ldN (cs := k.cells) (rfl) (hk2.at_) ?_
    refine apG rlen rone (OwnR.nil w2.heap.size _) (hI (e2'.trans (Quiet.drew w2).ext)) (by simp; omega) (by decide) (Nat.le_refl _) ?_
    intro v3 w3 h3 _ e3
    rw [List.nil_append] at h3
    have e3' : Ext No w2.drew w3 := e3.weaken fun k _ e => by cases e
    have e23 : Ext No w2 w3 := ((Quiet.drew w2).ext).trans e3'
    refine And.intro (ldN (cs := k.cells) rfl (e23.blk hk2 id).at_ rfl) ?_
    refine Ret.mono (Hop_spec v3 l k low w3 (OwnR.is h3) (by omega)) ?_
    rintro v4 w4 ⟨rfl, e4⟩
    have e24 := e23.trans e4
    refine ldN (cs := k.cells) (rfl) ((e24.blk hk2 id).at_) ?_
    refine Ret.mono (rHop_spec _ l k low w4 (hI (e2'.trans e24)) (by omega)) ?_
    rintro v5 w5 ⟨rfl, e5⟩
    have e25 := e24.trans e5
    refine apG rlen rone (OwnR.nil w2.heap.size _) (hI (e2'.trans e25)) (by simp; omega) (by decide) e25.size ?_
    intro v6 w6 h6 _ e6
    rw [List.nil_append] at h6
    have e6' : Ext No w5 w6 := e6.weaken fun k _ e => by cases e
    have e26 := e25.trans e6'
    refine Ret.mono (Set_spec v6 l low high w6 (OwnR.is h6) (by omega)) ?_
    rintro v7 w7 ⟨h7, e7⟩
    have e27 := e26.trans e7
    refine Ret.mono (rSet_spec _ l low high w7 (hI (e2'.trans e27)) (by omega)) ?_
    rintro v8 w8 ⟨h8, e8⟩
    have e28 := e27.trans e8
    refine Ret.mono (SameRoutes_spec v7 v8 _ _ w8 (h7.is.no e8) h8.is (setF_le_of low high (by omega))) ?_
    rintro v9 w9 ⟨rfl, e9⟩
    have e29 := e28.trans e9
    refine gdB (fun hs1 => ?_) (fun hs1 => ?_)
    · skip
      refine TestK.mk (fun hs2 => ?_) (fun hs2 => ?_)
      · skip
        refine eqBool ?_
        exact ⟨by simp [oneOf], e2'.trans e29⟩
      · skip
        exact absurd rfl hs2
    · skip
      exact absurd hs1 (by simp)

theorem All_spec (v : Value) (l : List Rt) (a : Adr) (low high : Int) (w : World) (h : IsR w.heap v l) : Ret Try.prog 4 #[v, a.val, .int .i64 low, .int .i64 high] w fun r w' => r = .bool true ∧ Ext No w w' := by
  obtain ⟨ad, c, rfl, hc, hs⟩ := h
  have hI : ∀ {w2 : World}, Ext No w w2 → IsR w2.heap (.slice ad l.length c) l := fun e => ⟨ad, c, rfl, hc, hs.no e⟩
  refine calls_ev (args := [_, _, _, _]) mixed Try.func4 ok_4 rfl ?_
  refine bx (cs := _) rfl ?_
  intro w1 h1
  have ha : Blk w1.heap w.heap.size a.cells 33 := h1.blk
  refine Ret.mono (alive18_spec w1) ?_
  rintro v2 w2 ⟨rfl, e2⟩
  have e2' : Ext No w w2 := (h1.ext No).trans e2
  have ha2 := e2.blk ha id
  refine lenS ?_
  refine TestK.mk (fun hn => ?_) (fun hn => ?_)
  · skip
    exact ⟨rfl, e2'⟩
  · skip
    refine TestK.mk (fun q1 => ?_) (fun q1 => ?_)
    · skip
      exact ⟨rfl, e2'⟩
    · skip
      refine TestK.mk (fun q2 => ?_) (fun q2 => ?_)
      · skip
        exact ⟨rfl, e2'⟩
      · skip
        refine TestK.mk (fun q3 => ?_) (fun q3 => ?_)
        · skip
          exact ⟨rfl, e2'⟩
        · skip
          refine sub64 (by omega) (by omega) ?_
          refine TestK.mk (fun q4 => ?_) (fun q4 => ?_)
          · skip
            exact ⟨rfl, e2'⟩
          · skip
            have hn' : l.length ≤ 40 := by omega
            refine loop [0, 2, 3, 5, 10] (fun k vs w' => ∃ i : Nat, i ≤ l.length ∧ k = l.length - i ∧ vs = [.slice ad l.length c, .int .i64 low, .int .i64 high, .pointer (some ⟨w.heap.size, 0, none⟩), .int .i64 i] ∧ (∀ j (h : j < l.length), j < i → rightF l[j].p = true) ∧ Ext No w2 w') l.length _ rfl ⟨0, by omega, rfl, rfl, by omega, Ext.refl _ _⟩ ?_
            rintro k vs w3 ⟨i, hi, rfl, rfl, hr, e3⟩
            refine lenS ?_
            refine TestK.mk (fun hlt => ?_) (fun hlt => ?_)
            · skip
              have hi' : i < l.length := by omega
              refine iaG rlen (hs.no (e2'.trans e3)) i rfl hi' rfl ?_
              intro b o hat
              refine fa ?_
              refine ldN (cs := l[i].p.cells) (rfl) (rp_at hat) ?_
              refine Ret.mono (rRight_spec l[i].p w3) ?_
              rintro v4 w4 ⟨rfl, e4⟩
              refine ifB (fun hri => ?_) (fun hri => ?_)
              · skip
                exact ⟨rfl, (e2'.trans e3).trans e4⟩
              · skip
                refine add64 (by omega) (by omega) ?_
                refine again (l.length - (i + 1)) (by omega) _ rfl ⟨i + 1, by omega, rfl, rfl, ?_, e3.trans e4⟩
                intro j hj hji
                rcases Nat.lt_or_ge j i with h | h
                · exact hr j hj h
                · obtain rfl : j = i := by omega
                  simpa using hri
            · skip
              have hall : ∀ r ∈ l, rightF r.p = true := fun r hr' => by
                obtain ⟨j, hj, rfl⟩ := List.getElem_of_mem hr'
                exact hr j hj (by omega)
              have hlaw := all_law l a low high.toNat (by omega) (by omega) (by omega) (by omega) hall
              have hhn : ((high.toNat : Nat) : Int) = high := by omega
              rw [hhn] at hlaw
              have hcut : cutP a high.toNat = ⟨(cutA a high).hi, (cutA a high).lo, high⟩ := by unfold cutP; rw [hhn]
              rw [hcut] at hlaw
              refine Or.elim hlaw (fun hlaw => ?_) (fun hlaw => ?_)
              · have q5 := hlaw.1
                have q6 := hlaw.2
                refine Ret.mono (Set_spec _ l low high w3 (hI (e2'.trans e3)) (by omega)) ?_
                rintro v4 w4 ⟨h4, e4⟩
                have e24 := e3.trans e4
                refine ldN (cs := a.cells) (rfl) ((e24.blk ha2 id).at_) ?_
                refine Ret.mono (rCut_spec a high w4) ?_
                rintro v5 w5 ⟨rfl, e5⟩
                refine bldPfxA ?_
                refine Ret.mono (Find_spec v4 (setF l low high) ⟨(cutA a high).hi, (cutA a high).lo, high⟩ w5 (h4.is.no e5) (setF_le_of low high (by omega))) ?_
                rintro v6 w6 ⟨hv6, e6⟩
                rw [q5] at hv6
                subst hv6
                have e26 := (e24.trans e5).trans e6
                refine Ret.mono (Sorted_spec _ l w6 (hI (e2'.trans e26)) (by omega)) ?_
                rintro v7 w7 ⟨h7, e7⟩
                have e27 := e26.trans e7
                have hsl := sortedF_le l
                refine ldN (cs := a.cells) (rfl) ((e27.blk ha2 id).at_) ?_
                refine Ret.mono (Longest_spec v7 (sortedF l) a low high w7 h7.is (by omega)) ?_
                rintro v8 w8 ⟨hv8, e8⟩
                rw [q6] at hv8
                subst hv8
                have e28 := e27.trans e8
                have h48 := ((h4.is.no e5).no e6).no (e7.trans e8)
                have h78 := h7.is.no e8
                refine TestK.mk (fun z1 => ?_) (fun z1 => ?_)
                · skip
                  exact absurd z1 (by decide)
                · skip
                  refine TestK.mk (fun z2 => ?_) (fun z2 => ?_)
                  · skip
                    exact absurd z2 (by decide)
                  · skip
                    refine eqBool ?_
                    refine TestK.mk (fun z3 => ?_) (fun z3 => ?_)
                    · skip
                      exact ⟨rfl, e2'.trans e28⟩
                    · skip
                      exact absurd z3 (by decide)
              · refine Exists.elim hlaw fun i1 hlaw => ?_
                refine Exists.elim hlaw fun j1 hlaw => ?_
                have q5 := hlaw.1
                have q6 := hlaw.2.1
                have hi1 := hlaw.2.2.elim fun h _ => h
                have hj1 := hlaw.2.2.elim fun _ h => h.elim fun h _ => h
                have hhop : (setF l low high)[i1].hop = (sortedF l)[j1].hop := hlaw.2.2.elim fun _ h => h.elim fun _ h => h
                refine Ret.mono (Set_spec _ l low high w3 (hI (e2'.trans e3)) (by omega)) ?_
                rintro v4 w4 ⟨h4, e4⟩
                have e24 := e3.trans e4
                refine ldN (cs := a.cells) (rfl) ((e24.blk ha2 id).at_) ?_
                refine Ret.mono (rCut_spec a high w4) ?_
                rintro v5 w5 ⟨rfl, e5⟩
                refine bldPfxA ?_
                refine Ret.mono (Find_spec v4 (setF l low high) ⟨(cutA a high).hi, (cutA a high).lo, high⟩ w5 (h4.is.no e5) (setF_le_of low high (by omega))) ?_
                rintro v6 w6 ⟨hv6, e6⟩
                rw [q5] at hv6
                subst hv6
                have e26 := (e24.trans e5).trans e6
                refine Ret.mono (Sorted_spec _ l w6 (hI (e2'.trans e26)) (by omega)) ?_
                rintro v7 w7 ⟨h7, e7⟩
                have e27 := e26.trans e7
                have hsl := sortedF_le l
                refine ldN (cs := a.cells) (rfl) ((e27.blk ha2 id).at_) ?_
                refine Ret.mono (Longest_spec v7 (sortedF l) a low high w7 h7.is (by omega)) ?_
                rintro v8 w8 ⟨hv8, e8⟩
                rw [q6] at hv8
                subst hv8
                have e28 := e27.trans e8
                have h48 := ((h4.is.no e5).no e6).no (e7.trans e8)
                have h78 := h7.is.no e8
                refine Exists.elim h48 fun ad4 h48 => ?_
                refine Exists.elim h48 fun c4 h48 => ?_
                have hv4 := h48.1
                subst hv4
                refine Exists.elim h78 fun ad7 h78 => ?_
                refine Exists.elim h78 fun c7 h78 => ?_
                have hv7 := h78.1
                subst hv7
                refine TestK.mk (fun z1 => ?_) (fun z1 => ?_)
                · skip
                  refine TestK.mk (fun z2 => ?_) (fun z2 => ?_)
                  · skip
                    refine eqBool ?_
                    refine TestK.mk (fun z3 => ?_) (fun z3 => ?_)
                    · skip
                      exact absurd z3 (by omega)
                    · skip
                      refine iaG rlen h48.2.2 i1 rfl hi1 rfl ?_
                      intro b o hat
                      refine fa ?_
                      refine ld1 (rh_at hat) ?_
                      refine iaG rlen h78.2.2 j1 rfl hj1 rfl ?_
                      intro b2 o2 hat2
                      refine fa ?_
                      refine ld1 (rh_at hat2) ?_
                      refine TestK.mk (fun z4 => ?_) (fun z4 => ?_)
                      · skip
                        exact ⟨rfl, e2'.trans e28⟩
                      · skip
                        exact absurd hhop z4
                  · skip
                    exact absurd (Int.natCast_nonneg _) z2
                · skip
                  exact absurd (Int.natCast_nonneg _) z1
end Go.Fl
