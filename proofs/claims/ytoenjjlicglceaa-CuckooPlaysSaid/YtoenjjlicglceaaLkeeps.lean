/-
  The law CuckooKeeps: whatever is put and deleted, no key is lost, none is twice, and each has what it was given.
-/
import Derived.Test.YtoenjjlicglceaaFdel
import Derived.Test.YtoenjjlicglceaaLrep
import Derived.Test.YtoenjjlicglceaaTall
namespace Go.Fl
open Go.Proofs
set_option maxHeartbeats 4000000
set_option maxRecDepth 100000

structure Act12 where
  kind : Int
  hop : Int
  p : Pfx
def Act12.cells (x : Act12) : List Value := [.int .i64 x.kind, .int .i64 x.hop] ++ x.p.cells
theorem alen (x : Act12) : x.cells.length = 5 := rfl
theorem ak_at {h : Array Obj} {b o : Nat} {x : Act12} (hat : At h b o x.cells) : hcell h b (o + 0) = some (.int .i64 x.kind) := hat.cell (k := 0) rfl
theorem ah_at {h : Array Obj} {b o : Nat} {x : Act12} (hat : At h b o x.cells) : hcell h b (o + 1) = some (.int .i64 x.hop) := hat.cell (k := 1) rfl
theorem ap_at {h : Array Obj} {b o : Nat} {x : Act12} (hat : At h b o x.cells) : At h b (o + 2) x.p.cells := hat.sub (k := 2) ⟨[], by rw [List.append_nil]; rfl⟩
theorem seen_12 (T : Tab) (p : Pfx) : (getSeen T p).length = 1 ∨ (getSeen T p).length = 2 := by unfold getSeen; split; exact .inl rfl; exact .inr rfl

/-- A row of routes beside a table: the same keys and hops. -/
structure Beside (T : Tab) (l : List Rt) : Prop where
  ok : Ok T
  sorted : SortedR l
  perm : T.cont.Perm l
theorem Beside.put {T : Tab} {l : List Rt} (h : Beside T l) (r : Rt) : Beside (putF 16 T r) (intoF l r) ∧ T.n ≤ (putF 16 T r).n := by
  obtain ⟨h1, h2, h3⟩ := put_ok 16 T r (fuel16 h.ok.b.n1) h.ok
  exact ⟨⟨h1, intoF_sorted h.sorted, h2.trans (((h.perm.filter _).cons r).trans (into_perm h.sorted r).symm)⟩, h3⟩
theorem Beside.del {T : Tab} {l : List Rt} (h : Beside T l) (p : Pfx) : Beside (delF T p).1 (without l p) ∧ (delF T p).1.n = T.n ∧ (delF T p).2 = decide (0 ≤ findF l p) := by
  obtain ⟨h1, h2, _, h4, h5⟩ := del_ok h.ok p
  refine ⟨⟨h1, without_sorted h.sorted p, by rw [h2]; exact h.perm.filter _⟩, h4, ?_⟩
  by_cases hx : ∃ x ∈ l, x.p = p
  · obtain ⟨i, hi, _⟩ := find_some hx
    obtain ⟨x, hx, e⟩ := hx
    rw [h5.2 ⟨x, h.perm.mem_iff.2 hx, e⟩, hi, decide_eq_true (by omega)]
  · rw [find_none (fun r hr e => hx ⟨r, hr, e⟩), decide_eq_false (by omega)]
    cases hd : (delF T p).2 with
    | false => rfl
    | true =>
      obtain ⟨x, hx', e⟩ := h5.1 hd
      exact absurd ⟨x, h.perm.mem_iff.1 hx', e⟩ hx
theorem Beside.get {T : Tab} {l : List Rt} (h : Beside T l) {i : Nat} (hi : i < l.length) : getF T l[i].p = some l[i].hop := (get_ok h.ok _ _).2 (h.perm.mem_iff.2 (List.getElem_mem hi))
theorem Beside.empty (s : BitVec 64) (n : Nat) (h1 : 1 ≤ n) (h2 : n ≤ 65536) : Beside ⟨s, emptyBks n, []⟩ [] := by
  obtain ⟨h, hc, _⟩ := empty_ok s n h1 h2
  exact ⟨h, List.Pairwise.nil, by rw [hc]⟩
theorem without_le (l : List Rt) (p : Pfx) : (without l p).length ≤ l.length := List.length_filter_le _ _
theorem neqBoolF {x y : Operand} {a b : Bool} {K : Value → Prop} (h : a = b) (hK : K (.bool false)) :
    PureSem Try.prog (do eqGuard .neq 4 x y (.bool a) (.bool b); binOp .neq 4 (.bool a) (.bool b)) K := by
  subst h
  exact PureSem.of _ (fun w => by cases a <;> kernel_rfl) hK


theorem Keeps_spec (s : BitVec 64) (n : Int) (va : Value) (acts : List Act12) (w : World) (ha : IsSl Act12.cells w.heap va acts) :
    Ret Try.prog 7 #[U s, .int .i64 n, va] w fun r w' => r = .bool true ∧ Ext No w w' := by
  obtain ⟨a, cap, rfl, hcap, hs⟩ := ha
  refine calls_ev (args := [_, _, _]) mixed Try.func7 ok_7 rfl ?_
  refine Ret.mono (alive12_spec w) ?_
  rintro v1 w1 ⟨rfl, e1⟩
  refine TestK.mk (fun g1 => ?_) (fun g1 => ?_)
  · skip
    exact ⟨rfl, e1⟩
  · skip
    refine TestK.mk (fun g2 => ?_) (fun g2 => ?_)
    · skip
      exact ⟨rfl, e1⟩
    · skip
      refine lenS ?_
      refine TestK.mk (fun g3 => ?_) (fun g3 => ?_)
      · skip
        exact ⟨rfl, e1⟩
      · skip
        refine Ret.mono (New_spec s n w1) ?_
        rintro v2 w2 ⟨e2, h2⟩
        rcases h2 with ⟨h2, _⟩ | ⟨_, _, t, rfl, hT2⟩
        · exact absurd h2 (by omega)
        have hB0 := Beside.empty s n.toNat (by omega) (by omega)
        have hn0 : (⟨s, emptyBks n.toNat, []⟩ : Tab).n = n.toNat := (empty_ok s n.toNat (by omega) (by omega)).2.2
        have s1 := e1.size
        refine Ret.mono (num12_spec 0 w2) ?_
        rintro v3 w3 ⟨rfl, rfl⟩
        refine TestK.mk (fun h => ?_) (fun h => ?_)
        · skip
          refine eqNil ?_
          refine loop [1, 2, 8, 10, 11] (fun k vs w' => ∃ (i : Nat) (T : Tab) (v : Value) (l : List Rt) (F : Nat → Prop), i ≤ acts.length ∧ k = acts.length - i ∧ vs = [.int .i64 n, .slice a acts.length cap, .pointer (some ⟨t, 0, none⟩), v, .int .i64 i] ∧
            Beside T l ∧ l.length ≤ i ∧ n.toNat ≤ T.n ∧ TabAt w' t T F ∧ OwnR 0 w' v l ∧ (∀ k, v.ownBlock = some k → ¬ F k) ∧ (∀ k, F k → w.heap.size ≤ k) ∧ Ext No w w') acts.length _ rfl
            ⟨0, _, _, [], _, by omega, by omega, rfl, hB0, by simp, by rw [hn0]; omega, hT2, OwnR.nil _ _, (fun k hk => by cases hk), (fun k hk => by omega), e1.trans e2⟩ ?_
          rintro k vs w3 ⟨i, T, v, l, F, hi, rfl, rfl, hB, hli, hTn, hT, ho, hd, hF, e3⟩
          have s3 := e3.size
          refine lenS ?_
          refine TestK.mk (fun hlt => ?_) (fun hlt => ?_)
          · skip
            have hi' : i < acts.length := by omega
            have hac : acts.length ≤ 200 := by omega
            have hlen := hB.perm.length_eq
            have hsl := hB.ok
            have hst : T.stash.length ≤ T.cont.length := by show _ ≤ (bcont T.bks ++ T.stash).length; rw [List.length_append]; omega
            refine iaG alen hs i rfl hi' rfl ?_
            intro b1 o1 hat1
            refine fa ?_
            refine ld1 (ak_at (e3.at_ hat1 id)) ?_
            refine TestK.mk (fun hk => ?_) (fun hk => ?_)
            · skip
              refine draw [(0, []), (1, []), (2, []), (3, []), (4, []), (5, []), (7, []), (8, []), (9, []), (10, []), (11, []), (12, []), (6, [12]), (13, []), (14, []), (15, [])] (by kernel_rfl) ?_
              have ed : Ext No w w3.drew := e3.trans (Quiet.drew w3).ext
              refine iaG alen hs i rfl hi' rfl ?_
              intro b2 o2 hat2
              refine fa ?_
              refine ldN (cs := acts[i].p.cells) (rfl) (ap_at (ed.at_ hat2 id)) ?_
              refine iaG alen hs i rfl hi' rfl ?_
              intro b3 o3 hat3
              refine fa ?_
              refine ldN (cs := acts[i].p.cells) (rfl) (ap_at (ed.at_ hat3 id)) ?_
              refine Ret.mono (DeleteT_spec t T F acts[i].p w3.drew (hT.ext (Quiet.drew w3).ext fun _ _ _ ↦ id) hB.ok (by omega)) ?_
              rintro v4 w4 ⟨hv4, hT4, e4⟩
              have hBd := hB.del acts[i].p
              have e4' : Ext F w3 w4 := ((Quiet.drew w3).ext).of_no.andThen e4 fun _ _ h => h
              have e34 : Ext No w w4 := e3.andThen e4' fun k hk h => by have := hF k h; omega
              have s4 := e4'.size
              have ho4 : OwnR 0 w4 v l := ho.ext e4' fun k hk => hd k hk
              rw [hBd.2.2] at hv4
              subst hv4
              refine And.intro (ldN (cs := acts[i].p.cells) rfl (ap_at (e34.at_ hat3 id)) rfl) ?_
              refine Ret.mono (Find_spec v l acts[i].p w4 ho4.is (by omega)) ?_
              rintro v5 w5 ⟨rfl, e5⟩
              have e35 := e34.trans e5
              have s5 := e5.size
              have ho5 := OwnR.no ho4 e5
              have hT5 : TabAt w5 t (delF T acts[i].p).1 (fun k => F k ∧ k < w4.heap.size) := hT4.old.ext e5 fun _ _ _ => id
              refine TestK.mk (fun hf => ?_) (fun hf => ?_)
              · skip
                refine neqBoolF (decide_eq_true hf) ?_
                refine iaG alen hs i rfl hi' rfl ?_
                intro b6 o6 hat6
                refine fa ?_
                refine ldN (cs := acts[i].p.cells) (rfl) (ap_at (e35.at_ hat6 id)) ?_
                refine Ret.mono (Without_spec v l acts[i].p w5 ho5.is (by omega)) ?_
                rintro v' w' ⟨h6, e6⟩
                have hB' := hBd.1
                have hwl := without_le l acts[i].p
                have hT' := hT5.ext e6 fun _ _ _ => id
                have hTn' : n.toNat ≤ (delF T acts[i].p).1.n := by rw [hBd.2.1]; exact hTn
                have ho' : OwnR 0 w' v' (without l acts[i].p) := own_mono h6 (Nat.zero_le _)
                have hd' : ∀ k, v'.ownBlock = some k → ¬ (F k ∧ k < w4.heap.size) := fun k hk hFk => by have := (World.ownsRow.lt h6 k hk).1; omega
                have hF' : ∀ k, (F k ∧ k < w4.heap.size) → w.heap.size ≤ k := fun k hk => hF k hk.1
                have e' := e35.trans e6
                have q1 : ∃ T', T' = (delF T acts[i].p).1 := ⟨_, rfl⟩
                have q2 : ∃ l', l' = without l acts[i].p := ⟨_, rfl⟩
                have q3 : ∃ F', F' = fun k => F k ∧ k < w4.heap.size := ⟨_, rfl⟩
                refine Exists.elim q1 fun T' q1 => ?_
                refine Exists.elim q2 fun l' q2 => ?_
                refine Exists.elim q3 fun F' q3 => ?_
                rw [← q1] at hB' hT' hTn'
                rw [← q2] at hB' ho' hwl
                rw [← q3] at hT'
                have hd' : ∀ k, v'.ownBlock = some k → ¬ F' k := by rw [q3]; exact hd'
                have hF' : ∀ k, F' k → w.heap.size ≤ k := by rw [q3]; exact hF'
                have hlen' := hB'.perm.length_eq
                refine Exists.elim (own_slice ho') fun a' q' => ?_
                refine Exists.elim q' fun c' q' => ?_
                subst q'
                refine Ret.mono (Len_spec t T' F' w' hT' hB'.ok.b.four hB'.ok.b.n2 (by omega)) ?_
                rintro v8 w8 ⟨rfl, e8⟩
                refine lenS ?_
                refine TestK.mk (fun hne => ?_) (fun hne => ?_)
                · skip
                  refine add64 (by omega) (by omega) ?_
                  refine again (acts.length - (i + 1)) (by omega) _ rfl ⟨i + 1, T', _, l', F', by omega, by omega, rfl, hB', by omega, hTn', hT'.ext e8 (fun _ _ _ ↦ id), OwnR.no ho' e8, hd', hF', e'.trans e8⟩
                · skip
                  exact absurd (congrArg Int.ofNat hlen') hne
              · skip
                refine neqBoolF (decide_eq_false hf) ?_
                refine iaG alen hs i rfl hi' rfl ?_
                intro b6 o6 hat6
                refine fa ?_
                refine ldN (cs := acts[i].p.cells) (rfl) (ap_at (e35.at_ hat6 id)) ?_
                refine Ret.mono (Without_spec v l acts[i].p w5 ho5.is (by omega)) ?_
                rintro v' w' ⟨h6, e6⟩
                have hB' := hBd.1
                have hwl := without_le l acts[i].p
                have hT' := hT5.ext e6 fun _ _ _ => id
                have hTn' : n.toNat ≤ (delF T acts[i].p).1.n := by rw [hBd.2.1]; exact hTn
                have ho' : OwnR 0 w' v' (without l acts[i].p) := own_mono h6 (Nat.zero_le _)
                have hd' : ∀ k, v'.ownBlock = some k → ¬ (F k ∧ k < w4.heap.size) := fun k hk hFk => by have := (World.ownsRow.lt h6 k hk).1; omega
                have hF' : ∀ k, (F k ∧ k < w4.heap.size) → w.heap.size ≤ k := fun k hk => hF k hk.1
                have e' := e35.trans e6
                have q1 : ∃ T', T' = (delF T acts[i].p).1 := ⟨_, rfl⟩
                have q2 : ∃ l', l' = without l acts[i].p := ⟨_, rfl⟩
                have q3 : ∃ F', F' = fun k => F k ∧ k < w4.heap.size := ⟨_, rfl⟩
                refine Exists.elim q1 fun T' q1 => ?_
                refine Exists.elim q2 fun l' q2 => ?_
                refine Exists.elim q3 fun F' q3 => ?_
                rw [← q1] at hB' hT' hTn'
                rw [← q2] at hB' ho' hwl
                rw [← q3] at hT'
                have hd' : ∀ k, v'.ownBlock = some k → ¬ F' k := by rw [q3]; exact hd'
                have hF' : ∀ k, F' k → w.heap.size ≤ k := by rw [q3]; exact hF'
                have hlen' := hB'.perm.length_eq
                refine Exists.elim (own_slice ho') fun a' q' => ?_
                refine Exists.elim q' fun c' q' => ?_
                subst q'
                refine Ret.mono (Len_spec t T' F' w' hT' hB'.ok.b.four hB'.ok.b.n2 (by omega)) ?_
                rintro v8 w8 ⟨rfl, e8⟩
                refine lenS ?_
                refine TestK.mk (fun hne => ?_) (fun hne => ?_)
                · skip
                  refine add64 (by omega) (by omega) ?_
                  refine again (acts.length - (i + 1)) (by omega) _ rfl ⟨i + 1, T', _, l', F', by omega, by omega, rfl, hB', by omega, hTn', hT'.ext e8 (fun _ _ _ ↦ id), OwnR.no ho' e8, hd', hF', e'.trans e8⟩
                · skip
                  exact absurd (congrArg Int.ofNat hlen') hne
            · skip
              refine iaG alen hs i rfl hi' rfl ?_
              intro b2 o2 hat2
              refine fa ?_
              refine ldN (cs := acts[i].p.cells) (rfl) (ap_at ((e3.trans (Quiet.drew w3).ext).at_ hat2 id)) ?_
              refine iaG alen hs i rfl hi' rfl ?_
              intro b3 o3 hat3
              refine fa ?_
              refine ld1 (ah_at ((e3.trans (Quiet.drew w3).ext).at_ hat3 id)) ?_
              refine Ret.mono (Put_spec 16 t T F acts[i].p acts[i].hop w3.drew (fuel16 hB.ok.b.n1) (hT.ext (Quiet.drew w3).ext fun _ _ _ ↦ id) hB.ok (by omega)) ?_
              rintro v4 w4 ⟨rfl, hT4, e40⟩
              have e4 : Ext F w3 w4 := ((Quiet.drew w3).ext).of_no.andThen e40 fun _ _ h => h
              have hBp := hB.put ⟨acts[i].p, acts[i].hop⟩
              have e34 : Ext No w w4 := e3.andThen e4 fun k hk h => by have := hF k h; omega
              have s4 := e4.size
              have ho4 : OwnR 0 w4 v l := ho.ext e4 fun k hk => hd k hk
              refine iaG alen hs i rfl hi' rfl ?_
              intro b5 o5 hat5
              refine fa ?_
              refine ldN (cs := acts[i].p.cells) (rfl) (ap_at ((e34.trans (Quiet.drew w4).ext).at_ hat5 id)) ?_
              refine iaG alen hs i rfl hi' rfl ?_
              intro b6 o6 hat6
              refine fa ?_
              refine ld1 (ah_at ((e34.trans (Quiet.drew w4).ext).at_ hat6 id)) ?_
              refine bldRoute ?_
              refine Ret.mono (Into_spec v l ⟨acts[i].p, acts[i].hop⟩ w4.drew (OwnR.no ho4 (Quiet.drew w4).ext).is (by omega)) ?_
              rintro v' w' ⟨h6, e60⟩
              have e6 : Ext No w4 w' := ((Quiet.drew w4).ext).trans e60
              have hB' := hBp.1
              have hwl := intoF_le l ⟨acts[i].p, acts[i].hop⟩
              have hT' : TabAt w' t (putF 16 T ⟨acts[i].p, acts[i].hop⟩) (fun k => Fresh F w3 k ∧ k < w4.heap.size) := hT4.old.ext e6 fun _ _ _ => id
              have hTn' : n.toNat ≤ (putF 16 T ⟨acts[i].p, acts[i].hop⟩).n := Nat.le_trans hTn hBp.2
              have ho' : OwnR 0 w' v' (intoF l ⟨acts[i].p, acts[i].hop⟩) := own_mono h6 (Nat.zero_le _)
              have hd' : ∀ k, v'.ownBlock = some k → ¬ (Fresh F w3 k ∧ k < w4.heap.size) := fun k hk hFk => by have : w4.heap.size ≤ k := (World.ownsRow.lt h6 k hk).1; omega
              have hF' : ∀ k, (Fresh F w3 k ∧ k < w4.heap.size) → w.heap.size ≤ k := fun k hk => hk.1.elim (hF k) fun h => by omega
              have e' := e34.trans e6
              have q1 : ∃ T', T' = putF 16 T ⟨acts[i].p, acts[i].hop⟩ := ⟨_, rfl⟩
              have q2 : ∃ l', l' = intoF l ⟨acts[i].p, acts[i].hop⟩ := ⟨_, rfl⟩
              have q3 : ∃ F', F' = fun k => Fresh F w3 k ∧ k < w4.heap.size := ⟨_, rfl⟩
              refine Exists.elim q1 fun T' q1 => ?_
              refine Exists.elim q2 fun l' q2 => ?_
              refine Exists.elim q3 fun F' q3 => ?_
              rw [← q1] at hB' hT' hTn'
              rw [← q2] at hB' ho' hwl
              rw [← q3] at hT'
              have hd' : ∀ k, v'.ownBlock = some k → ¬ F' k := by rw [q3]; exact hd'
              have hF' : ∀ k, F' k → w.heap.size ≤ k := by rw [q3]; exact hF'
              have hlen' := hB'.perm.length_eq
              refine Exists.elim (own_slice ho') fun a' q' => ?_
              refine Exists.elim q' fun c' q' => ?_
              subst q'
              refine Ret.mono (Len_spec t T' F' w' hT' hB'.ok.b.four hB'.ok.b.n2 (by omega)) ?_
              rintro v8 w8 ⟨rfl, e8⟩
              refine lenS ?_
              refine TestK.mk (fun hne => ?_) (fun hne => ?_)
              · skip
                refine add64 (by omega) (by omega) ?_
                refine again (acts.length - (i + 1)) (by omega) _ rfl ⟨i + 1, T', _, l', F', by omega, by omega, rfl, hB', by omega, hTn', hT'.ext e8 (fun _ _ _ ↦ id), OwnR.no ho' e8, hd', hF', e'.trans e8⟩
              · skip
                exact absurd (congrArg Int.ofNat hlen') hne
          · skip
            refine Exists.elim ho.is fun ad q => ?_
            refine Exists.elim q fun c q => ?_
            have hv := q.1
            subst hv
            have hsl := q.2.2
            have hlen := hB.perm.length_eq
            have hst : T.stash.length ≤ T.cont.length := by show _ ≤ (bcont T.bks ++ T.stash).length; rw [List.length_append]; omega
            refine loop [1, 8, 10, 12] (fun k vs w' => ∃ j : Nat, j ≤ l.length ∧ k = l.length - j ∧ vs = [.int .i64 n, .pointer (some ⟨t, 0, none⟩), .slice ad l.length c, .int .i64 j] ∧ Ext No w3 w') l.length _ rfl ⟨0, by omega, by omega, rfl, Ext.refl _ _⟩ ?_
            rintro k vs w4 ⟨j, hj, rfl, rfl, e4⟩
            have hT4 := hT.ext e4 fun _ _ _ => id
            refine lenS ?_
            refine TestK.mk (fun hlt2 => ?_) (fun hlt2 => ?_)
            · skip
              have hj' : j < l.length := by omega
              refine iaG rlen hsl j rfl hj' rfl ?_
              intro b1 o1 hat1
              refine fa ?_
              refine ldN (cs := l[j].p.cells) (rfl) (rp_at (e4.at_ hat1 id)) ?_
              refine Ret.mono (Get_at t T F l[j].p w4 l[j].hop hT4 hB.ok (by omega) (hB.get hj')) ?_
              rintro v5 w5 ⟨g, rfl, e5⟩
              refine iaG rlen hsl j rfl hj' rfl ?_
              intro b2 o2 hat2
              refine fa ?_
              refine ld1 (rh_at ((e4.trans e5).at_ hat2 id)) ?_
              have hseen := seen_12 T l[j].p
              refine TestK.mk (fun z1 => ?_) (fun z1 => ?_)
              · skip
                refine lenS ?_
                refine TestK.mk (fun z2 => ?_) (fun z2 => ?_)
                · skip
                  exact absurd z2 (by omega)
                · skip
                  refine lenS ?_
                  refine TestK.mk (fun z3 => ?_) (fun z3 => ?_)
                  · skip
                    exact absurd z3 (by omega)
                  · skip
                    refine add64 (by omega) (by omega) ?_
                    refine again (l.length - (j + 1)) (by omega) _ rfl ⟨j + 1, by omega, rfl, rfl, e4.trans e5⟩
              · skip
                exact absurd rfl z1
            · skip
              refine Ret.mono (Size_spec t T F w4 hT4) ?_
              rintro v5 w5 ⟨rfl, e5⟩
              refine Ret.mono (AllT_spec t T F w5 (hT4.ext e5 fun _ _ _ ↦ id) hB.ok (by omega)) ?_
              rintro v6 w6 hall
              refine Exists.elim hall fun l2 hall => ?_
              have heq := sorted_perm_eq hall.1 hB.sorted (hall.2.1.trans hB.perm)
              subst heq
              have h6 := hall.2.2.1
              have e6 := hall.2.2.2
              have e36 := (e4.trans e5).trans e6
              refine Ret.mono (SameRoutes_spec v6 (.slice ad l2.length c) l2 l2 w6 (OwnR.is h6) ⟨ad, c, rfl, q.2.1, hsl.no e36⟩ (by omega)) ?_
              rintro v7 w7 ⟨hv7, e7⟩
              rw [decide_eq_true rfl] at hv7
              subst hv7
              refine TestK.mk (fun z1 => ?_) (fun z1 => ?_)
              · skip
                refine TestK.mk (fun z2 => ?_) (fun z2 => ?_)
                · skip
                  exact ⟨rfl, (e3.trans e36).trans e7⟩
                · skip
                  exact absurd (Int.natCast_nonneg _) z2
              · skip
                exact absurd (by omega) z1
        · skip
          exact absurd rfl h
end Go.Fl
