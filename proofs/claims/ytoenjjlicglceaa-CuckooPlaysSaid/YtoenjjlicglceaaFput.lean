/-
  Chapter 11: the given program's Put, with its kicks and its growth.
-/
import Derived.Test.YtoenjjlicglceaaFcuckoo
namespace Go.Fl
open Go.Proofs
set_option maxHeartbeats 400000
set_option maxRecDepth 100000

theorem remI {T : TypeId} {x y : Operand} {a b : Int} {K : Value → Prop} (c : Int) (hc : c = a % b) (ha : 0 ≤ a) (hb : 0 < b) (hK : K (.int .i64 c)) :
    PureSem Try.prog (do eqGuard .rem T x y (.int .i64 a) (.int .i64 b); binOp .rem T (.int .i64 a) (.int .i64 b)) K := by
  subst hc
  refine PureSem.of _ (fun w => ?_) hK
  have e : a.tmod b = a % b := Int.tmod_eq_emod_of_nonneg ha
  simp [eqGuard, binOp, Op.intDiv, e, show ¬ b = 0 by omega]

theorem Insert_spec' (b1 c1 i : Nat) (v : Value) (l : List Rt) (r : Rt) (w : World) (hown : w.ownsRow 0 45 4 v l.length (l.flatMap Rt.cells)) (h1 : Blk w.heap b1 r.cells 45) (hne : v.ownBlock ≠ some b1)
    (hi : i = lowB l r.p) (hn : l.length < 1000000) :
    Ret Try.prog 59 #[v, .int .i64 i, .slice (some ⟨b1, 0, none⟩) 1 c1] w fun v' w' => ∃ a c, v' = .slice a (insF l r).length c ∧ w'.ownsRow 0 45 4 (.slice a (insF l r).length c) (insF l r).length ((insF l r).flatMap Rt.cells) ∧ (∀ k, (Value.slice a (insF l r).length c).ownBlock = some k → v.ownBlock = some k ∨ w.heap.size ≤ k) ∧ Ext (fun k => v.ownBlock = some k) w w' := by
  subst hi
  refine Ret.mono (Insert_spec 0 b1 c1 (lowB l r.p) v l r w hown (Nat.zero_le _) h1 hne (lowB_le l r.p) hn) fun v' w' h => ?_
  have hl : (insF l r).length = l.length + 1 := (insF_perm l r).length_eq
  obtain ⟨h1, h3, h2⟩ := h
  have h1' : w'.ownsRow 0 45 4 v' (insF l r).length ((insF l r).flatMap Rt.cells) := by rw [hl]; exact h1
  obtain ⟨a, c, rfl, _⟩ := own_SlR h1'
  exact ⟨a, c, rfl, h1', h3, h2⟩

theorem step_b1 {T : Tab} {r : Rt} {B : List Pl} (h1 : replF T r = none) (h2 : Bput (bkAt T.bks (ix1 T.seed T.n r.p)) r = some B) : putStep T r = (T.setBk (ix1 T.seed T.n r.p) B, false) := by
  unfold putStep; simp only [h1, h2]
theorem step_b2 {T : Tab} {r : Rt} {B : List Pl} (h1 : replF T r = none) (h2 : Bput (bkAt T.bks (ix1 T.seed T.n r.p)) r = none) (h3 : Bput (bkAt T.bks (ix2 T.seed T.n r.p)) r = some B) : putStep T r = (T.setBk (ix2 T.seed T.n r.p) B, false) := by
  unfold putStep; simp only [h1, h2, h3]
theorem step_k {T : Tab} {r : Rt} {bks : List (List Pl)} (h1 : replF T r = none) (h2 : Bput (bkAt T.bks (ix1 T.seed T.n r.p)) r = none) (h3 : Bput (bkAt T.bks (ix2 T.seed T.n r.p)) r = none)
    (h4 : kickF T.seed T.n 16 0 T.bks r (ix2 T.seed T.n r.p) = (bks, none)) : putStep T r = (⟨T.seed, bks, T.stash⟩, false) := by
  unfold putStep; simp only [h1, h2, h3, h4]
theorem step_s {T : Tab} {r r' : Rt} {bks : List (List Pl)} (h1 : replF T r = none) (h2 : Bput (bkAt T.bks (ix1 T.seed T.n r.p)) r = none) (h3 : Bput (bkAt T.bks (ix2 T.seed T.n r.p)) r = none)
    (h4 : kickF T.seed T.n 16 0 T.bks r (ix2 T.seed T.n r.p) = (bks, some r')) : putStep T r = (⟨T.seed, bks, insF T.stash r'⟩, decide (8 < (insF T.stash r').length ∧ bks.length < 65536)) := by
  unfold putStep; simp only [h1, h2, h3, h4]
theorem step_if {T T' : Tab} {r : Rt} {fl : Bool} {g : Tab → Tab} {w : World} {t : Nat} {F : Nat → Prop} (h : putStep T r = (T', fl)) (ht : TabAt w t (if fl = true then g T' else T') F) :
    TabAt w t (if (putStep T r).2 = true then g (putStep T r).1 else (putStep T r).1) F := by rw [h]; exact ht

theorem kick_some {s : BitVec 64} {n k i : Nat} {bks : List (List Pl)} {r : Rt} {a : Nat} {B' : List Pl}
    (h : Bput (bkAt (bks.set a ((bkAt bks a).set (i % 4) ⟨true, r⟩)) (otherF s n ((bkAt bks a).getD (i % 4) noPl).r.p a)) ((bkAt bks a).getD (i % 4) noPl).r = some B') :
    kickF s n (k + 1) i bks r a = ((bks.set a ((bkAt bks a).set (i % 4) ⟨true, r⟩)).set (otherF s n ((bkAt bks a).getD (i % 4) noPl).r.p a) B', none) := by
  rw [kickF]; simp only [h]
theorem kick_none {s : BitVec 64} {n k i : Nat} {bks : List (List Pl)} {r : Rt} {a : Nat}
    (h : Bput (bkAt (bks.set a ((bkAt bks a).set (i % 4) ⟨true, r⟩)) (otherF s n ((bkAt bks a).getD (i % 4) noPl).r.p a)) ((bkAt bks a).getD (i % 4) noPl).r = none) :
    kickF s n (k + 1) i bks r a = kickF s n k (i + 1) (bks.set a ((bkAt bks a).set (i % 4) ⟨true, r⟩)) ((bkAt bks a).getD (i % 4) noPl).r (otherF s n ((bkAt bks a).getD (i % 4) noPl).r.p a) := by
  rw [kickF]; simp only [h]

theorem own_ne {w : World} {base E E' size n t : Nat} {v : Value} {xs cs : List Value} (h : w.ownsRow base E size v n xs) (ht : Blk w.heap t cs E') (hne : E ≠ E') : v.ownBlock ≠ some t := by
  rcases own_cases h with ⟨rfl, _, _⟩ | ⟨g, cap, ys, rfl, _, hb, _⟩
  · simp [Value.ownBlock]
  · intro e
    cases e
    unfold Blk at hb ht
    rw [hb] at ht
    simp only [Option.some.injEq, Obj.cells.injEq] at ht
    exact hne ht.2.1

theorem Put_walk (t : Nat) (T : Tab) (F : Nat → Prop) (p : Pfx) (v : Int) (w : World) (g : Tab → Tab) (h : TabAt w t T F) (hok : Ok T) (hn : T.cont.length < 400000)
    (hG : ∀ (T' : Tab) (F' : Nat → Prop) (w' : World), TabAt w' t T' F' → Ok T' → T'.n = T.n → T'.n < 65536 → T'.cont.length ≤ T.cont.length + 1 →
      Ret Try.prog 60 #[.pointer (some ⟨t, 0, none⟩)] w' fun r w'' => r = .tuple #[] ∧ TabAt w'' t (g T') (Fresh F' w') ∧ Ext F' w' w'') :
    Ret Try.prog 14 #[.pointer (some ⟨t, 0, none⟩), p.val, .int .i64 v] w fun r w' =>
      r = .tuple #[] ∧ TabAt w' t (if (putStep T ⟨p, v⟩).2 = true then g (putStep T ⟨p, v⟩).1 else (putStep T ⟨p, v⟩).1) (Fresh F w) ∧ Ext F w w' := by
  have h0 := h
  obtain ⟨b, sv, ht, hb, hv, n1, n2, n3, f1, f2, f3⟩ := h
  have h4 := hok.b.four
  have hcl : T.cont.length = (bcont T.bks).length + T.stash.length := List.length_append
  have hsl : T.stash.length < 1000000 := by omega
  refine calls_ev (args := [_, _, _]) mixed Try.func14 ok_14 rfl ?_
  refine bx (cs := _) rfl ?_
  intro w1 h1
  refine eqNil ?_
  refine ldN (cs := p.cells) (rfl) (h1.blk.at_) ?_
  refine Ret.mono (replace_spec t T F p v _ (h0.ext (h1.ext No) fun _ _ _ ↦ id) hok hsl) ?_
  rintro v2 w2 hres
  rcases hres with ⟨T', hr, rfl, hT, e2⟩ | ⟨hr, rfl, e2⟩
  · skip
    exact ⟨rfl, step_if (fl := false) (by unfold putStep; rw [hr]) (hT.mono fun k hk ↦ .inl hk), (h1.ext No).of_no.andThen e2 fun _ _ h ↦ h⟩
  · skip
    have e2' : Ext No w w2 := (h1.ext No).trans e2
    have hp2 : Blk w2.heap w.heap.size p.cells 35 := e2.blk h1.blk id
    refine ldN (cs := p.cells) (rfl) (hp2.at_) ?_
    refine Ret.mono (two_spec t T F p _ (h0.ext e2' fun _ _ _ ↦ id) hok.b.n1 hok.b.n2) ?_
    rintro v3 w3 ⟨rfl, e3⟩
    have e3' := e2'.trans e3
    have hp3 := e3.blk hp2 id
    refine fa ?_
    refine ld1 ((e3'.blk ht id).cell 1) ?_
    refine iaS (ix1 T.seed T.n p) rfl (hok.i1 p) ?_
    refine ldN (cs := p.cells) (rfl) (hp3.at_) ?_
    refine Ret.mono (bPutAt (w := w3.drew) h4 (hok.i1 p) (e3'.blk hb id) p v) ?_
    rintro v4 w4 hres
    rcases hres with ⟨B', hput, rfl, hb4, e4⟩ | ⟨hput, rfl, e4⟩
    · skip
      exact ⟨rfl, step_if (fl := false) (step_b1 hr hput) ((TabAt.put (e3'.blk ht id) (hv.ext e3' fun _ _ ↦ id) n1 n2 n3 f1 f2 f3 e4 hb4 rfl List.length_set).mono fun k hk ↦ .inl hk), e3'.of_no.andThen e4 fun k _ e ↦ by rw [e]; exact f2⟩
    · skip
      have e4' := e3'.trans e4
      have hp4 := e4.blk hp3 id
      refine fa ?_
      refine ld1 ((e4'.blk ht id).cell 1) ?_
      refine iaS (ix2 T.seed T.n p) rfl (hok.i2 p) ?_
      refine ldN (cs := p.cells) (rfl) (hp4.at_) ?_
      refine Ret.mono (bPutAt (w := w4) h4 (hok.i2 p) (e4'.blk hb id) p v) ?_
      rintro v5 w5 hres
      rcases hres with ⟨B', hput2, rfl, hb5, e5⟩ | ⟨hput2, rfl, e5⟩
      · skip
        exact ⟨rfl, step_if (fl := false) (step_b2 hr hput hput2) ((TabAt.put (e4'.blk ht id) (hv.ext e4' fun _ _ ↦ id) n1 n2 n3 f1 f2 f3 e5 hb5 rfl List.length_set).mono fun k hk ↦ .inl hk), e4'.of_no.andThen e5 fun k _ e ↦ by rw [e]; exact f2⟩
      · skip
        have e5' := e4'.trans e5
        have hp5 := e5.blk hp4 id
        have lb := hb.lt
        refine loop [0, 2, 4, 8, 47] (fun k vs w' => ∃ (i : Nat) (bks : List (List Pl)) (r : Rt) (a : Nat), i ≤ 16 ∧ k = 16 - i ∧ vs = [.pointer (some ⟨t, 0, none⟩), .int .i64 r.hop, .pointer (some ⟨w.heap.size, 0, none⟩), .int .i64 a, .int .i64 i] ∧
          Blk w'.heap w.heap.size r.p.cells 35 ∧ Blk w'.heap b (tcells bks) 98 ∧ OkB T.seed T.n bks ∧ (a = ix1 T.seed T.n r.p ∨ a = ix2 T.seed T.n r.p) ∧ (∀ x ∈ bkAt bks a, x.there = true) ∧
          kickF T.seed T.n 16 0 T.bks ⟨p, v⟩ (ix2 T.seed T.n p) = kickF T.seed T.n (16 - i) i bks r a ∧ Ext (· = b) w w') 16 _ rfl ⟨0, T.bks, ⟨p, v⟩, ix2 T.seed T.n p, by omega, rfl, rfl, hp5, e5'.blk hb id, hok.b, .inr rfl, (Bput_none hput2).1, rfl, e5'.of_no⟩ ?_
        rintro k vs w6 ⟨i, bks, r, a, hi, rfl, rfl, hr6, hb6, hokb, ha, hfull, hkick, e6⟩
        have hal : a < bks.length := by
          rw [hokb.len]
          rcases ha with rfl | rfl
          · exact ix1_lt _ _ hokb.n1 hokb.n2
          · exact ix2_lt _ _ hokb.n1 hokb.n2
        refine TestK.mk (fun hlt => ?_) (fun hlt => ?_)
        · skip
          refine fa ?_
          refine ld1 ((e6.blk ht n1).cell 1) ?_
          refine iaS a rfl (by rw [← hokb.len]; exact hal) ?_
          refine remI ((i % 4 : Nat) : Int) (by omega) (by omega) (by omega) ?_
          refine ldN (cs := r.p.cells) (rfl) (hr6.at_) ?_
          refine Ret.mono (bSwapAt (w := w6.drew) hokb.four hal hb6 (i % 4) r.p r.hop (Nat.mod_lt _ (by decide)) hfull) ?_
          rintro v7 w7 ⟨rfl, hb7, e7⟩
          have hko : (16 - i) = (16 - (i + 1)) + 1 := by omega
          rw [hko] at hkick
          have hkS := fun B' => @kick_some T.seed T.n (16 - (i + 1)) i bks r a B'
          have hkN := @kick_none T.seed T.n (16 - (i + 1)) i bks r a
          have hok1 : OkB T.seed T.n (bks.set a ((bkAt bks a).set (i % 4) ⟨true, ⟨r.p, r.hop⟩⟩)) := hokb.set (bkAt_some hal) r ha
          generalize hold : ((bkAt bks a).getD (i % 4) noPl).r = old at *
          generalize hbks1 : bks.set a ((bkAt bks a).set (i % 4) ⟨true, ⟨r.p, r.hop⟩⟩) = bks1 at *
          have hr7 : Blk w7.heap w.heap.size r.p.cells 35 := e7.blk hr6 (by omega)
          refine stN (vs := old.p.cells) rfl rfl rfl (hr7) (Nat.le_refl 3) ?_
          intro w8 h8
          have hr8 : Blk w8.heap w.heap.size old.p.cells 35 := h8.blk
          have e7' : Ext (· = b) w w7 := e6.andThen e7 fun _ _ h => h
          have s7 := e7'.size
          have e8 : Ext (· = b) w w8 := e7'.andThen (h8.ext (S := (· = w.heap.size)) fun _ => rfl) fun k hk e => by omega
          have hb8 : Blk w8.heap b (tcells bks1) 98 := (h8.ext (S := (· = w.heap.size)) fun _ => rfl).blk hb7 (by omega)
          have hl1 : (⟨T.seed, bks1, T.stash⟩ : Tab).n = T.n := hok1.len
          have hT8 : TabAt w8 t ⟨T.seed, bks1, T.stash⟩ F := TabAt.put ht hv n1 n2 n3 f1 f2 f3 e8 hb8 rfl hok1.len
          have ho := other_spec t ⟨T.seed, bks1, T.stash⟩ F old.p a w8 hT8 (by rw [hl1]; exact hok.b.n1) (by rw [hl1]; exact hok.b.n2)
          rw [hl1] at ho
          refine ldN (cs := old.p.cells) (rfl) (hr8.at_) ?_
          refine Ret.mono (ho) ?_
          rintro v9 w9 ⟨rfl, e9⟩
          have e9' : Ext (· = b) w w9 := e8.then_no e9
          have hol : otherF T.seed T.n old.p a < bks1.length := by rw [hok1.len]; exact other_lt _ _ _ hokb.n1 hokb.n2
          have hoo := other_or T.seed T.n old.p a
          refine fa ?_
          refine ld1 ((e9'.blk ht n1).cell 1) ?_
          refine iaS (otherF T.seed T.n old.p a) rfl (Nat.lt_of_lt_of_eq hol hok1.len) ?_
          refine ldN (cs := old.p.cells) (rfl) ((e9.blk hr8 id).at_) ?_
          refine Ret.mono (bPutAt (w := w9.drew) hok1.four hol (e9.blk hb8 id) old.p old.hop) ?_
          rintro v10 w10 hres
          rcases hres with ⟨B', hput3, rfl, hb10, e10⟩ | ⟨hput3, rfl, e10⟩
          · skip
            have hk := hkick.trans (hkS B' hput3)
            have e10' : Ext (· = b) w w10 := e9'.andThen e10 fun _ _ h => h
            have hT10 : TabAt w10 t ⟨T.seed, bks1.set (otherF T.seed T.n old.p a) B', T.stash⟩ F := TabAt.put ht hv n1 n2 n3 f1 f2 f3 e10' hb10 rfl (by rw [List.length_set]; exact hok1.len)
            exact ⟨rfl, step_if (fl := false) (step_k hr hput hput2 hk) (hT10.mono fun k hk ↦ .inl hk), e10'.weaken fun k _ e ↦ by rw [e]; exact f2⟩
          · skip
            refine add64 (by omega) (by omega) ?_
            refine again (16 - (i + 1)) (by omega) _ rfl ⟨i + 1, bks1, old, otherF T.seed T.n old.p a, by omega, rfl, rfl, (e9.trans e10).blk hr8 id, (e9.trans e10).blk hb8 id, hok1, hoo, (Bput_none hput3).1, hkick.trans (hkN hput3), e9'.then_no e10⟩
        · skip
          have hi16 : i = 16 := by omega
          subst hi16
          have hk16 : kickF T.seed T.n 16 0 T.bks ⟨p, v⟩ (ix2 T.seed T.n p) = (bks, some r) := hkick
          have hTb : TabAt w6 t ⟨T.seed, bks, T.stash⟩ F := TabAt.put ht hv n1 n2 n3 f1 f2 f3 e6 hb6 rfl hokb.len
          have hstep := step_s hr hput hput2 hk16
          refine ldN (cs := r.p.cells) (rfl) (hr6.at_) ?_
          refine Ret.mono (hidden_spec t ⟨T.seed, bks, T.stash⟩ F r.p _ hTb hok.sorted hsl) ?_
          rintro v7 w7 ⟨rfl, e7⟩
          have e7' : Ext (· = b) w w7 := e6.then_no e7
          have s7 := e7'.size
          have hr7 := e7.blk hr6 id
          refine draw [(0, []), (1, []), (2, []), (3, []), (4, []), (5, []), (6, []), (7, []), (8, []), (9, [4]), (10, []), (11, []), (12, []), (13, [])] (by kernel_rfl) ?_
          refine fa ?_
          refine ld1 ((e7'.blk ht n1).cell 2) ?_
          refine ldN (cs := r.p.cells) (rfl) (hr7.at_) ?_
          refine bldRoute ?_
          refine bs (cs := _) bsRoute ?_
          intro w8 h8
          have e8' : Ext (· = b) w w8 := e7'.then_no (h8.ext No)
          have s8 : w8.heap.size = w7.heap.size + 1 := h8.size
          refine And.intro (ld1 ((e8'.blk ht n1).cell 2) rfl) ?_
          refine Ret.mono (Insert_spec' w7.heap.size 1 (lowB T.stash r.p) sv T.stash r w8 (hv.ext e8' fun k hk e ↦ n3 (by rw [hk, e])) h8.blk (fun e ↦ by have := own_lt hv e; omega) rfl hsl) ?_
          rintro v9 w9 ⟨a9, c9, rfl, hown9, hfr9, e9⟩
          have ht9 := e9.blk (e8'.blk ht n1) n2
          have hb9 := e9.blk ((h8.ext No).blk (e7.blk hb6 id) id) n3
          refine fa ?_
          refine stN (vs := _) rfl rfl rfl (ht9) (by simp) ?_
          intro w10 h10
          have ht10 : Blk w10.heap t [U T.seed, .slice (some ⟨b, 0, none⟩) T.n T.n, .slice a9 (insF T.stash r).length c9] 90 := h10.blk
          have e10 : Ext (· = t) w9 w10 := h10.ext fun _ => rfl
          have m1 : (Value.slice a9 (insF T.stash r).length c9).ownBlock ≠ some t := own_ne hown9 ht9 (by decide)
          have m2 : (Value.slice a9 (insF T.stash r).length c9).ownBlock ≠ some b := own_ne hown9 hb9 (by decide)
          have eF : Ext F w w10 := ((e8'.weaken fun k _ e => by rw [e]; exact f2).andThen e9 fun k _ e => f3 k e).andThen e10 fun k _ e => by rw [e]; exact f1
          have hT10 : TabAt w10 t ⟨T.seed, bks, insF T.stash r⟩ (Fresh F w) := by
            refine ⟨b, .slice a9 (insF T.stash r).length c9, ?_, e10.blk hb9 (fun e => n1 e.symm), hown9.ext e10 (fun k hk e => m1 (by rw [hk, e])), n1, m1, m2, .inl f1, .inl f2, fun k hk => (hfr9 k hk).elim (fun h => .inl (f3 k h)) (fun h => .inr (by omega))⟩
            show Blk w10.heap t [U T.seed, .slice (some ⟨b, 0, none⟩) bks.length bks.length, _] _
            rw [hokb.len]; exact ht10
          have hps := putStep_ok hok ⟨p, v⟩
          rw [hstep] at hps
          obtain ⟨p1, p2, _, p4, _⟩ := hps
          have hlen : (⟨T.seed, bks, insF T.stash r⟩ : Tab).cont.length ≤ T.cont.length + 1 := by
            rw [p2.length_eq, List.length_cons]
            have : (without T.cont p).length ≤ T.cont.length := List.length_filter_le _ _
            exact Nat.succ_le_succ this
          refine fa ?_
          refine ld1 (ht10.cell 2) ?_
          refine lenS ?_
          refine TestK.mk (fun h8c => ?_) (fun h8c => ?_)
          · skip
            refine fa ?_
            refine ld1 (ht10.cell 1) ?_
            refine lenS ?_
            refine TestK.mk (fun hb8 => ?_) (fun hb8 => ?_)
            · skip
              have hfl : decide (8 < (insF T.stash r).length ∧ bks.length < 65536) = true := decide_eq_true ⟨by omega, by rw [hokb.len]; omega⟩
              rw [hfl] at hstep
              refine Ret.mono (hG ⟨T.seed, bks, insF T.stash r⟩ (Fresh F w) w10 hT10 p1 p4 (by rw [p4]; omega) (by omega)) ?_
              rintro v11 w11 ⟨rfl, hT11, e11⟩
              exact ⟨rfl, step_if hstep (by rw [if_pos rfl]; exact hT11.mono fun k hk ↦ hk.elim id fun h ↦ .inr (by have := eF.size; omega)), eF.andThen e11 fun k hk h ↦ h.elim id fun h ↦ by omega⟩
            · skip
              have hfl : decide (8 < (insF T.stash r).length ∧ bks.length < 65536) = false := decide_eq_false fun h => by have h2 := h.2; rw [hokb.len] at h2; omega
              rw [hfl] at hstep
              exact ⟨rfl, step_if (fl := false) hstep hT10, eF⟩
          · skip
            have hfl : decide (8 < (insF T.stash r).length ∧ bks.length < 65536) = false := decide_eq_false fun h => by omega
            rw [hfl] at hstep
            exact ⟨rfl, step_if (fl := false) hstep hT10, eF⟩
end Go.Fl
