/-
  The law CuckooPlays: what any row of calls answers, where each key is found, how great the table grows, and all that it has.
-/
import Derived.Test.YtoenjjlicglceaaRrest
import Derived.Test.YtoenjjlicglceaaRall
import Derived.Test.YtoenjjlicglceaaRget
import Derived.Test.YtoenjjlicglceaaRdel
import Derived.Test.YtoenjjlicglceaaLkeeps
namespace Go.Fl
open Go.Proofs
set_option maxHeartbeats 4000000
set_option maxRecDepth 100000

theorem lastHop_nodup {C : List Rt} (hn : (C.map (·.p)).Nodup) (r : Rt) : lastHop C r.p = some r.hop ↔ r ∈ C := by
  constructor
  · intro h; exact lastHop_mem h
  · intro h
    unfold lastHop
    cases hf : C.reverse.find? (fun x => decide (x.p = r.p)) with
    | none =>
      have := List.find?_eq_none.1 hf r (List.mem_reverse.2 h)
      simp at this
    | some x =>
      have h1 := List.find?_some hf
      have h2 := List.mem_reverse.1 (List.mem_of_find?_eq_some hf)
      simp only [decide_eq_true_eq] at h1
      have h3 : x = r := by
        obtain ⟨i, hi, rfl⟩ := List.getElem_of_mem h2
        obtain ⟨j, hj, rfl⟩ := List.getElem_of_mem h
        have hpw := List.pairwise_iff_getElem.1 (List.pairwise_map.1 hn)
        rcases Nat.lt_trichotomy i j with h' | h' | h'
        · exact absurd h1 (hpw i j hi hj h')
        · subst h'; rfl
        · exact absurd h1.symm (hpw j i hj hi h')
      rw [h3]; rfl
theorem sortedF_perm {C l : List Rt} (hn : (C.map (·.p)).Nodup) (hs : SortedR l) (hp : l.Perm C) : l = sortedF C :=
  sorted_ext hs (sortedF_ok C).1 fun x => by rw [(sortedF_ok C).2, lastHop_nodup hn, hp.mem_iff]


theorem Plays_spec (s : BitVec 64) (n : Int) (va : Value) (acts : List Act12) (p : Pfx) (w : World) (ha : IsSl Act12.cells w.heap va acts) :
    Ret Try.prog 6 #[U s, .int .i64 n, va, p.val] w fun r w' => r = .bool true ∧ Ext No w w' := by
  obtain ⟨a, cap, rfl, hcap, hs⟩ := ha
  refine calls_ev (args := [_, _, _, _]) mixed Try.func6 ok_6 rfl ?_
  refine bx (cs := _) rfl ?_
  intro w1 h1
  have hp1 : Blk w1.heap w.heap.size p.cells 35 := h1.blk
  refine Ret.mono (alive12_spec w1) ?_
  rintro v2 w2 ⟨rfl, e1⟩
  refine TestK.mk (fun g1 => ?_) (fun g1 => ?_)
  · skip
    refine TestK.mk (fun g1b => ?_) (fun g1b => ?_)
    · skip
      exact ⟨rfl, (h1.ext No).trans e1⟩
    · skip
      refine lenS ?_
      refine TestK.mk (fun g2 => ?_) (fun g2 => ?_)
      · skip
        exact ⟨rfl, (h1.ext No).trans e1⟩
      · skip
        refine Ret.mono (New_spec s n w2) ?_
        rintro v3 w3 ⟨e3, h3⟩
        refine Or.elim h3 (fun h3 => ?_) (fun h3 => absurd h3.1 (by have := h3.2.1; omega))
        have hv3 := h3.2
        subst hv3
        refine Ret.mono (rNew_spec s n w3) ?_
        rintro v4 w4 ⟨e4, h4⟩
        refine Or.elim h4 (fun h4 => ?_) (fun h4 => absurd h4.1 (by have := h4.2.1; omega))
        have hv4 := h4.2
        subst hv4
        refine Ret.mono (num12_spec 1 w4) ?_
        rintro v5 w5 ⟨rfl, rfl⟩
        refine TestK.mk (fun z1 => ?_) (fun z1 => ?_)
        · skip
          refine eqNil' ?_
          refine TestK.mk (fun z2 => ?_) (fun z2 => ?_)
          · skip
            exact absurd z2 (by decide)
          · skip
            refine neqBoolF rfl ?_
            refine TestK.mk (fun z3 => ?_) (fun z3 => ?_)
            · skip
              exact absurd z3 (by decide)
            · skip
              exact ⟨rfl, (((h1.ext No).trans e1).trans e3).trans e4⟩
        · skip
          exact absurd rfl z1
  · skip
    by_cases hn1 : n < 1
    · skip
      refine lenS ?_
      refine TestK.mk (fun g2 => ?_) (fun g2 => ?_)
      · skip
        exact ⟨rfl, (h1.ext No).trans e1⟩
      · skip
        refine Ret.mono (New_spec s n w2) ?_
        rintro v3 w3 ⟨e3, h3⟩
        refine Or.elim h3 (fun h3 => ?_) (fun h3 => absurd h3.1 (by have := h3.2.1; omega))
        have hv3 := h3.2
        subst hv3
        refine Ret.mono (rNew_spec s n w3) ?_
        rintro v4 w4 ⟨e4, h4⟩
        refine Or.elim h4 (fun h4 => ?_) (fun h4 => absurd h4.1 (by have := h4.2.1; omega))
        have hv4 := h4.2
        subst hv4
        refine Ret.mono (num12_spec 1 w4) ?_
        rintro v5 w5 ⟨rfl, rfl⟩
        refine TestK.mk (fun z1 => ?_) (fun z1 => ?_)
        · skip
          refine eqNil' ?_
          refine TestK.mk (fun z2 => ?_) (fun z2 => ?_)
          · skip
            exact absurd z2 (by decide)
          · skip
            refine neqBoolF rfl ?_
            refine TestK.mk (fun z3 => ?_) (fun z3 => ?_)
            · skip
              exact absurd z3 (by decide)
            · skip
              exact ⟨rfl, (((h1.ext No).trans e1).trans e3).trans e4⟩
        · skip
          exact absurd rfl z1
    · skip
      refine lenS ?_
      refine TestK.mk (fun g2 => ?_) (fun g2 => ?_)
      · skip
        exact ⟨rfl, (h1.ext No).trans e1⟩
      · skip
        refine Ret.mono (New_spec s n w2) ?_
        rintro v3 w3 ⟨e3, h3⟩
        refine Or.elim h3 (fun h3 => absurd h3.1 (by omega)) (fun h3 => ?_)
        refine Exists.elim h3.2.2 fun t ht3 => ?_
        have hv3 := ht3.1
        subst hv3
        refine Ret.mono (rNew_spec s n w3) ?_
        rintro v4 w4 ⟨e4, h4⟩
        refine Or.elim h4 (fun h4 => absurd h4.1 (by omega)) (fun h4 => ?_)
        refine Exists.elim h4.2.2 fun t' ht4 => ?_
        have hv4 := ht4.1
        subst hv4
        have hac : acts.length ≤ 150 := by omega
        have s1 := h1.size
        have s12 := e1.size
        have s3 := e3.size
        have s4 := e4.size
        have hem := empty_ok s n.toNat (by omega) (by omega)
        have hTi : TabAt w4 t ⟨s, emptyBks n.toNat, []⟩ (fun k => w2.heap.size ≤ k ∧ k < w3.heap.size) := ht3.2.old.ext e4 fun _ _ _ => id
        refine Ret.mono (num12_spec 0 w4) ?_
        rintro v5 w5 ⟨rfl, rfl⟩
        refine TestK.mk (fun z1 => ?_) (fun z1 => ?_)
        · skip
          refine eqNil ?_
          refine TestK.mk (fun z2 => ?_) (fun z2 => ?_)
          · skip
            refine neqBoolF rfl ?_
            refine TestK.mk (fun z3 => ?_) (fun z3 => ?_)
            · skip
              refine loop [2, 7, 10, 12, 14] (fun k vs w' => ∃ (i : Nat) (T : Tab) (F F' : Nat → Prop), i ≤ acts.length ∧ k = acts.length - i ∧ vs = [.slice a acts.length cap, .pointer (some ⟨w.heap.size, 0, none⟩), .pointer (some ⟨t, 0, none⟩), .pointer (some ⟨t', 0, none⟩), .int .i64 i] ∧
                Ok T ∧ T.cont.length ≤ i ∧ TabAt w' t T F ∧ RTabAt w' t' T F' ∧ (∀ k, F k → ¬ F' k) ∧ (∀ k, F k → w2.heap.size ≤ k) ∧ (∀ k, F' k → w2.heap.size ≤ k) ∧ Ext No w2 w') acts.length _ rfl
                ⟨0, _, _, _, by omega, by omega, rfl, hem.1, by rw [hem.2.1]; exact Nat.le_refl _, hTi, ht4.2, (fun k hk h => by omega), (fun k hk => hk.1), (fun k hk => by omega), e3.trans e4⟩ ?_
              rintro k vs x0 ⟨i, T, F, F', hi, rfl, rfl, hok, hlen, hT, hR, hdis, hF, hF', ex0⟩
              have ew2 : Ext No w w2 := (h1.ext No).trans e1
              have ez := ew2.trans ex0
              have hst : T.stash.length ≤ T.cont.length := by show _ ≤ (bcont T.bks ++ T.stash).length; rw [List.length_append]; omega
              have sx0 := ex0.size
              refine lenS ?_
              refine TestK.mk (fun hlt => ?_) (fun hlt => ?_)
              · skip
                have hi' : i < acts.length := by omega
                refine iaG alen hs i rfl hi' rfl ?_
                intro b1 o1 hat1
                refine fa ?_
                refine ld1 (ak_at (ez.at_ hat1 id)) ?_
                refine TestK.mk (fun hk => ?_) (fun hk => ?_)
                · skip
                  refine draw [(0, []), (1, []), (2, []), (3, []), (4, []), (5, []), (7, []), (8, []), (9, []), (10, []), (11, []), (12, []), (6, [12]), (13, []), (14, [])] (by kernel_rfl) ?_
                  have ed : Ext No w x0.drew := ez.trans (Quiet.drew x0).ext
                  refine iaG alen hs i rfl hi' rfl ?_
                  intro b2 o2 hat2
                  refine fa ?_
                  refine ldN (cs := acts[i].p.cells) (rfl) (ap_at (ed.at_ hat2 id)) ?_
                  refine iaG alen hs i rfl hi' rfl ?_
                  intro b3 o3 hat3
                  refine fa ?_
                  refine ldN (cs := acts[i].p.cells) (rfl) (ap_at (ed.at_ hat3 id)) ?_
                  refine Ret.mono (DeleteT_spec t T F acts[i].p x0.drew (hT.ext (Quiet.drew x0).ext fun _ _ _ ↦ id) hok (by omega)) ?_
                  rintro v6 x1 ⟨hv6, hT1, y1⟩
                  subst hv6
                  have y1' : Ext F x0 x1 := ((Quiet.drew x0).ext).of_no.andThen y1 fun _ _ h => h
                  have ex1 : Ext No w2 x1 := ex0.andThen y1' fun k hk h => by have := hF k h; omega
                  have hR1 : RTabAt x1 t' T (fun k => F' k ∧ k < x0.heap.size) := hR.old.ext y1' fun k _ hk h => hdis k h hk.1
                  have sx1 := y1'.size
                  refine And.intro (ldN (cs := acts[i].p.cells) rfl (ap_at ((ew2.trans ex1).at_ hat3 id)) rfl) ?_
                  refine Ret.mono (rDelete_spec t' T _ acts[i].p x1 hR1 hok (by omega)) ?_
                  rintro v7 x2 ⟨hv7, hR2, y2⟩
                  subst hv7
                  have ex : Ext No w2 x2 := ex1.andThen y2 fun k hk h => by have := hF' k h.1; omega
                  have hTx : TabAt x2 t (delF T acts[i].p).1 (fun k => F k ∧ k < x1.heap.size) := hT1.old.ext y2 fun k _ hk h => hdis k hk.1 h.1
                  have hd := del_ok hok acts[i].p
                  have hok' := hd.1
                  have hlen' : (delF T acts[i].p).1.cont.length ≤ i + 1 := by rw [hd.2.1]; have := without_le T.cont acts[i].p; omega
                  have q1 : ∃ T', T' = (delF T acts[i].p).1 := ⟨_, rfl⟩
                  have q2 : ∃ F1, F1 = fun k => F k ∧ k < x1.heap.size := ⟨_, rfl⟩
                  have q3 : ∃ F'', F'' = Fresh (fun k => F' k ∧ k < x0.heap.size) x1 := ⟨_, rfl⟩
                  refine Exists.elim q1 fun T' q1 => ?_
                  refine Exists.elim q2 fun F1 q2 => ?_
                  refine Exists.elim q3 fun F'' q3 => ?_
                  rw [← q1] at hok' hlen' hTx hR2
                  rw [← q2] at hTx
                  rw [← q3] at hR2
                  have hdis' : ∀ k, F1 k → ¬ F'' k := by rw [q2, q3]; exact fun k hk h => h.elim (fun h => hdis k hk.1 h.1) fun h => by omega
                  have hF1 : ∀ k, F1 k → w2.heap.size ≤ k := by rw [q2]; exact fun k hk => hF k hk.1
                  have hF2 : ∀ k, F'' k → w2.heap.size ≤ k := by rw [q3]; exact fun k hk => hk.elim (fun h => hF' k h.1) fun h => by omega
                  refine neqBoolF rfl ?_
                  refine Ret.mono (Size_spec t T' F1 x2 (hTx)) ?_
                  rintro v8 w8 ⟨rfl, e8⟩
                  refine Ret.mono (rSize_spec t' T' F'' w8 ((hR2).ext e8 fun _ _ _ ↦ id)) ?_
                  rintro v9 w9 ⟨rfl, e9⟩
                  refine TestK.mk (fun z1 => ?_) (fun z1 => ?_)
                  · skip
                    refine TestK.mk (fun z2 => ?_) (fun z2 => ?_)
                    · skip
                      refine TestK.mk (fun z3 => ?_) (fun z3 => ?_)
                      · skip
                        refine add64 (by omega) (by omega) ?_
                        refine again (acts.length - (i + 1)) (by omega) _ rfl ⟨i + 1, T', F1, F'', by omega, rfl, rfl, hok', hlen', ((hTx).ext e8 fun _ _ _ ↦ id).ext e9 fun _ _ _ ↦ id, ((hR2).ext e8 fun _ _ _ ↦ id).ext e9 fun _ _ _ ↦ id, hdis', hF1, hF2, ((ex).trans e8).trans e9⟩
                      · skip
                        exact absurd rfl z3
                    · skip
                      exact absurd rfl z2
                  · skip
                    exact absurd rfl z1
                · skip
                  have ed : Ext No w x0.drew := ez.trans (Quiet.drew x0).ext
                  refine iaG alen hs i rfl hi' rfl ?_
                  intro b2 o2 hat2
                  refine fa ?_
                  refine ldN (cs := acts[i].p.cells) (rfl) (ap_at (ed.at_ hat2 id)) ?_
                  refine iaG alen hs i rfl hi' rfl ?_
                  intro b3 o3 hat3
                  refine fa ?_
                  refine ld1 (ah_at (ed.at_ hat3 id)) ?_
                  refine Ret.mono (Put_spec 16 t T F acts[i].p acts[i].hop x0.drew (fuel16 hok.b.n1) (hT.ext (Quiet.drew x0).ext fun _ _ _ ↦ id) hok (by omega)) ?_
                  rintro v6 x1 ⟨rfl, hT1, y1⟩
                  have y1' : Ext F x0 x1 := ((Quiet.drew x0).ext).of_no.andThen y1 fun _ _ h => h
                  have ex1 : Ext No w2 x1 := ex0.andThen y1' fun k hk h => by have := hF k h; omega
                  have hR1 : RTabAt x1 t' T (fun k => F' k ∧ k < x0.heap.size) := hR.old.ext y1' fun k _ hk h => hdis k h hk.1
                  have sx1 := y1'.size
                  have ed1 : Ext No w x1.drew := (ew2.trans ex1).trans (Quiet.drew x1).ext
                  refine iaG alen hs i rfl hi' rfl ?_
                  intro b4 o4 hat4
                  refine fa ?_
                  refine ldN (cs := acts[i].p.cells) (rfl) (ap_at (ed1.at_ hat4 id)) ?_
                  refine iaG alen hs i rfl hi' rfl ?_
                  intro b5 o5 hat5
                  refine fa ?_
                  refine ld1 (ah_at (ed1.at_ hat5 id)) ?_
                  refine Ret.mono (rPut_spec 16 t' T _ acts[i].p acts[i].hop x1.drew (fuel16 hok.b.n1) (hR1.ext (Quiet.drew x1).ext fun _ _ _ ↦ id) hok (by omega)) ?_
                  rintro v7 x2 ⟨rfl, hR2, y2⟩
                  have y2' : Ext (fun k => F' k ∧ k < x0.heap.size) x1 x2 := ((Quiet.drew x1).ext).of_no.andThen y2 fun _ _ h => h
                  have ex : Ext No w2 x2 := ex1.andThen y2' fun k hk h => by have := hF' k h.1; omega
                  have hTx : TabAt x2 t (putF 16 T ⟨acts[i].p, acts[i].hop⟩) (fun k => Fresh F x0 k ∧ k < x1.heap.size) := hT1.old.ext y2' fun k _ hk h => hk.1.elim (fun h' => hdis k h' h.1) fun h' => by have h'' : x0.heap.size ≤ k := h'; omega
                  have hd := put_ok 16 T ⟨acts[i].p, acts[i].hop⟩ (fuel16 hok.b.n1) hok
                  have hok' := hd.1
                  have hlen' : (putF 16 T ⟨acts[i].p, acts[i].hop⟩).cont.length ≤ i + 1 := by rw [hd.2.1.length_eq, List.length_cons]; have := without_le T.cont acts[i].p; exact Nat.succ_le_succ (Nat.le_trans this hlen)
                  have hRx : RTabAt x2 t' (putF 16 T ⟨acts[i].p, acts[i].hop⟩) (Fresh (fun k => F' k ∧ k < x0.heap.size) x1) := hR2
                  have q1 : ∃ T', T' = putF 16 T ⟨acts[i].p, acts[i].hop⟩ := ⟨_, rfl⟩
                  have q2 : ∃ F1, F1 = fun k => Fresh F x0 k ∧ k < x1.heap.size := ⟨_, rfl⟩
                  have q3 : ∃ F'', F'' = Fresh (fun k => F' k ∧ k < x0.heap.size) x1 := ⟨_, rfl⟩
                  refine Exists.elim q1 fun T' q1 => ?_
                  refine Exists.elim q2 fun F1 q2 => ?_
                  refine Exists.elim q3 fun F'' q3 => ?_
                  rw [← q1] at hok' hlen' hTx hRx
                  rw [← q2] at hTx
                  rw [← q3] at hRx
                  have hdis' : ∀ k, F1 k → ¬ F'' k := by rw [q2, q3]; exact fun k hk h => h.elim (fun h => hk.1.elim (fun h' => hdis k h' h.1) fun h' => by omega) fun h => by omega
                  have hF1 : ∀ k, F1 k → w2.heap.size ≤ k := by rw [q2]; exact fun k hk => hk.1.elim (hF k) fun h => by omega
                  have hF2 : ∀ k, F'' k → w2.heap.size ≤ k := by rw [q3]; exact fun k hk => hk.elim (fun h => hF' k h.1) fun h => by omega
                  refine Ret.mono (Size_spec t T' F1 x2 (hTx)) ?_
                  rintro v8 w8 ⟨rfl, e8⟩
                  refine Ret.mono (rSize_spec t' T' F'' w8 ((hRx).ext e8 fun _ _ _ ↦ id)) ?_
                  rintro v9 w9 ⟨rfl, e9⟩
                  refine TestK.mk (fun z1 => ?_) (fun z1 => ?_)
                  · skip
                    refine TestK.mk (fun z2 => ?_) (fun z2 => ?_)
                    · skip
                      refine TestK.mk (fun z3 => ?_) (fun z3 => ?_)
                      · skip
                        refine add64 (by omega) (by omega) ?_
                        refine again (acts.length - (i + 1)) (by omega) _ rfl ⟨i + 1, T', F1, F'', by omega, rfl, rfl, hok', hlen', ((hTx).ext e8 fun _ _ _ ↦ id).ext e9 fun _ _ _ ↦ id, ((hRx).ext e8 fun _ _ _ ↦ id).ext e9 fun _ _ _ ↦ id, hdis', hF1, hF2, ((ex).trans e8).trans e9⟩
                      · skip
                        exact absurd rfl z3
                    · skip
                      exact absurd rfl z2
                  · skip
                    exact absurd rfl z1
              · skip
                have hsl := sortedF_le T.cont
                refine Ret.mono (rAll_spec t' T F' x0 hR hok (by omega)) ?_
                rintro v6 x1 ⟨h6, y1⟩
                refine Ret.mono (AllT_spec t T F x1 (hT.ext y1 fun _ _ _ ↦ id) hok (by omega)) ?_
                rintro v7 x2 hall
                refine Exists.elim hall fun l2 hall => ?_
                have heq := sortedF_perm hok.nodup hall.1 hall.2.1
                have hll := hall.2.1.length_eq
                have h7 := hall.2.2.1
                have y2 := hall.2.2.2
                subst heq
                generalize sortedF T.cont = S at h6 h7 hll hsl
                refine Ret.mono (SameRoutes_spec v7 v6 S S x2 (OwnR.is h7) (OwnR.is (OwnR.no h6 y2)) (by omega)) ?_
                rintro v8 x3 ⟨hv8, y3⟩
                rw [decide_eq_true rfl] at hv8
                subst hv8
                have y03 := (y1.trans y2).trans y3
                refine Ret.mono (Len_spec t T F x3 (hT.ext y03 fun _ _ _ ↦ id) hok.b.four hok.b.n2 (by omega)) ?_
                rintro v9 x4 ⟨rfl, y4⟩
                have y04 := y03.trans y4
                have h64 := OwnR.no h6 ((y2.trans y3).trans y4)
                refine Exists.elim (own_slice h6) fun asl q => ?_
                refine Exists.elim q fun cs q => ?_
                subst q
                have hp4 := ((e1.trans ex0).trans y04).blk hp1 id
                refine lenS ?_
                refine TestK.mk (fun zl => ?_) (fun zl => ?_)
                · skip
                  refine draw2 [(0, []), (2, []), (3, [])] (1, [2]) (4, []) [(5, []), (6, [])] (by kernel_rfl) ?_
                  have ydr : Ext No x4 x4.drew := (Quiet.drew x4).ext
                  refine ldN (cs := p.cells) (rfl) (hp4.at_) ?_
                  refine bldRoute0 ?_
                  refine And.intro ?_ ?_
                  · skip
                    refine apG rlen rone (OwnR.nil x4.heap.size _) (OwnR.is (OwnR.no h64 ydr)) (by simp; omega) (by decide) (Nat.le_refl _) ?_
                    intro va z1 hz1 _ ez1
                    rw [List.nil_append] at hz1
                    have ez1' : Ext No x4 z1 := ydr.trans (ez1.weaken fun k _ e => by cases e)
                    refine And.intro (ldN (cs := p.cells) rfl (ez1'.blk hp4 id).at_ rfl) ?_
                    refine bsRoute1 ?_
                    intro z2 hz2
                    refine apG rlen rone (OwnR.no hz1 (hz2.ext No)) (isSl_one hz2.blk) (by show _ + 1 ≤ _; omega) (by decide) (Nat.le_trans ez1'.size (hz2.ext No).size) ?_
                    intro vb wz hz _ ez3
                    have yz : Ext No x4 wz := (ez1'.trans (hz2.ext No)).andThen ez3 fun k hk e => by have := (World.ownsRow.lt hz1 k e).1; omega
                    have hLl : (S ++ [(⟨p, 0⟩ : Rt)]).length ≤ 400 := by rw [List.length_append]; show _ + 1 ≤ _; omega
                    refine Exists.elim (⟨_, rfl⟩ : ∃ L, L = S ++ [(⟨p, 0⟩ : Rt)]) fun L qL => ?_
                    rw [← qL] at hz hLl
                    refine Exists.elim (OwnR.is hz) fun ad q => ?_
                    refine Exists.elim q fun c q => ?_
                    have hq := q.1
                    subst hq
                    have hsz := q.2.2
                    have hTz := (hT.ext y04 fun _ _ _ => id).ext yz fun _ _ _ => id
                    have hRz := (hR.ext y04 fun _ _ _ => id).ext yz fun _ _ _ => id
                    have ez := (ez.trans y04).trans yz
                    refine loop [10, 12, 22, 23] (fun k vs w' => ∃ j : Nat, j ≤ L.length ∧ k = L.length - j ∧ vs = [.pointer (some ⟨t, 0, none⟩), .pointer (some ⟨t', 0, none⟩), .slice ad L.length c, .int .i64 j] ∧ Ext No wz w') L.length _ rfl ⟨0, by omega, by omega, rfl, Ext.refl _ _⟩ ?_
                    rintro k vs x1 ⟨j, hj, rfl, rfl, y1⟩
                    refine lenS ?_
                    refine TestK.mk (fun hlt2 => ?_) (fun hlt2 => ?_)
                    · skip
                      have hj' : j < L.length := by omega
                      refine iaG rlen hsz j rfl hj' rfl ?_
                      intro b1 o1 hat1
                      refine fa ?_
                      refine ldN (cs := L[j].p.cells) (rfl) (rp_at (y1.at_ hat1 id)) ?_
                      refine Ret.mono (Get_spec t T F L[j].p x1 (hTz.ext y1 fun _ _ _ ↦ id) hok (by omega)) ?_
                      rintro v2 x2 hg
                      refine Exists.elim hg fun gg hg => ?_
                      have hv2 := hg.1
                      subst hv2
                      have y2 := y1.trans hg.2.2.2
                      refine iaG rlen hsz j rfl hj' rfl ?_
                      intro b2 o2 hat2
                      refine fa ?_
                      refine ldN (cs := L[j].p.cells) (rfl) (rp_at (y2.at_ hat2 id)) ?_
                      refine Ret.mono (rGet_spec t' T F' L[j].p x2 (hRz.ext y2 fun _ _ _ ↦ id) hok (by omega)) ?_
                      rintro v3 x3 hr
                      refine Exists.elim hr fun rr hr => ?_
                      have hv3 := hr.1
                      subst hv3
                      have y3 := y2.trans hr.2.2.2
                      refine TestK.mk (fun z1 => ?_) (fun z1 => ?_)
                      · skip
                        refine neqBoolF rfl ?_
                        refine Ret.mono (SameInts_spec (getSeen T L[j].p) gg rr x3 (hr.2.2.2.blk hg.2.2.1 id) hr.2.2.1 (by have := seen_12 T L[j].p; omega)) ?_
                        rintro v4 x4 ⟨rfl, y4⟩
                        refine add64 (by omega) (by omega) ?_
                        refine again (L.length - (j + 1)) (by omega) _ rfl ⟨j + 1, by omega, rfl, rfl, y3.trans y4⟩
                      · skip
                        exact absurd rfl z1
                    · skip
                      exact ⟨rfl, ez.trans y1⟩
                  · skip
                    refine bsRoute1 ?_
                    intro z1 hz1
                    have ez1 : Ext No x4 z1 := ydr.trans (hz1.ext No)
                    refine apG rlen rone (OwnR.nil x4.heap.size _) (OwnR.is (OwnR.no h64 ez1)) (by simp; omega) (by decide) ez1.size ?_
                    intro va z2 hz2 _ ez2
                    rw [List.nil_append] at hz2
                    have ez2' : Ext No z1 z2 := ez2.weaken fun k _ e => by cases e
                    have ez12 := ez1.trans ez2'
                    refine And.intro (ldN (cs := p.cells) rfl (ez12.blk hp4 id).at_ rfl) ?_
                    refine apG rlen rone hz2 ((isSl_one hz1.blk).no ez2') (by show _ + 1 ≤ _; omega) (by decide) ez12.size ?_
                    intro vb wz hz _ ez3
                    have yz : Ext No x4 wz := ez12.andThen ez3 fun k hk e => by have := (World.ownsRow.lt hz2 k e).1; omega
                    have hLl : (S ++ [(⟨p, 0⟩ : Rt)]).length ≤ 400 := by rw [List.length_append]; show _ + 1 ≤ _; omega
                    refine Exists.elim (⟨_, rfl⟩ : ∃ L, L = S ++ [(⟨p, 0⟩ : Rt)]) fun L qL => ?_
                    rw [← qL] at hz hLl
                    refine Exists.elim (OwnR.is hz) fun ad q => ?_
                    refine Exists.elim q fun c q => ?_
                    have hq := q.1
                    subst hq
                    have hsz := q.2.2
                    have hTz := (hT.ext y04 fun _ _ _ => id).ext yz fun _ _ _ => id
                    have hRz := (hR.ext y04 fun _ _ _ => id).ext yz fun _ _ _ => id
                    have ez := (ez.trans y04).trans yz
                    refine loop [10, 12, 22, 23] (fun k vs w' => ∃ j : Nat, j ≤ L.length ∧ k = L.length - j ∧ vs = [.pointer (some ⟨t, 0, none⟩), .pointer (some ⟨t', 0, none⟩), .slice ad L.length c, .int .i64 j] ∧ Ext No wz w') L.length _ rfl ⟨0, by omega, by omega, rfl, Ext.refl _ _⟩ ?_
                    rintro k vs x1 ⟨j, hj, rfl, rfl, y1⟩
                    refine lenS ?_
                    refine TestK.mk (fun hlt2 => ?_) (fun hlt2 => ?_)
                    · skip
                      have hj' : j < L.length := by omega
                      refine iaG rlen hsz j rfl hj' rfl ?_
                      intro b1 o1 hat1
                      refine fa ?_
                      refine ldN (cs := L[j].p.cells) (rfl) (rp_at (y1.at_ hat1 id)) ?_
                      refine Ret.mono (Get_spec t T F L[j].p x1 (hTz.ext y1 fun _ _ _ ↦ id) hok (by omega)) ?_
                      rintro v2 x2 hg
                      refine Exists.elim hg fun gg hg => ?_
                      have hv2 := hg.1
                      subst hv2
                      have y2 := y1.trans hg.2.2.2
                      refine iaG rlen hsz j rfl hj' rfl ?_
                      intro b2 o2 hat2
                      refine fa ?_
                      refine ldN (cs := L[j].p.cells) (rfl) (rp_at (y2.at_ hat2 id)) ?_
                      refine Ret.mono (rGet_spec t' T F' L[j].p x2 (hRz.ext y2 fun _ _ _ ↦ id) hok (by omega)) ?_
                      rintro v3 x3 hr
                      refine Exists.elim hr fun rr hr => ?_
                      have hv3 := hr.1
                      subst hv3
                      have y3 := y2.trans hr.2.2.2
                      refine TestK.mk (fun z1 => ?_) (fun z1 => ?_)
                      · skip
                        refine neqBoolF rfl ?_
                        refine Ret.mono (SameInts_spec (getSeen T L[j].p) gg rr x3 (hr.2.2.2.blk hg.2.2.1 id) hr.2.2.1 (by have := seen_12 T L[j].p; omega)) ?_
                        rintro v4 x4 ⟨rfl, y4⟩
                        refine add64 (by omega) (by omega) ?_
                        refine again (L.length - (j + 1)) (by omega) _ rfl ⟨j + 1, by omega, rfl, rfl, y3.trans y4⟩
                      · skip
                        exact absurd rfl z1
                    · skip
                      exact ⟨rfl, ez.trans y1⟩
                · skip
                  exact absurd (by rw [← hll]) zl
            · skip
              exact absurd rfl z3
          · skip
            exact absurd rfl z2
        · skip
          exact absurd rfl z1
end Go.Fl
