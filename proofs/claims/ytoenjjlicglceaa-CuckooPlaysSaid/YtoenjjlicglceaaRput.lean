/-
  Chapter 11: the document's Put.
-/
import Derived.Test.YtoenjjlicglceaaRtab
namespace Go.Fl
open Go.Proofs
set_option maxHeartbeats 4000000
set_option maxRecDepth 100000

theorem rstep_if {T T' : Tab} {r : Rt} {fl : Bool} {g : Tab → Tab} {w : World} {t : Nat} {F : Nat → Prop} (h : putStep T r = (T', fl)) (ht : RTabAt w t (if fl = true then g T' else T') F) :
    RTabAt w t (if (putStep T r).2 = true then g (putStep T r).1 else (putStep T r).1) F := by rw [h]; exact ht
theorem step_r {T T' : Tab} {r : Rt} (h : replF T r = some T') : putStep T r = (T', false) := by unfold putStep; rw [h]
theorem repl_b1 {T : Tab} {r : Rt} {B' : List Pl} (g : (Bget (bkAt T.bks (ix1 T.seed T.n r.p)) r.p).isSome = true) (hput : Bput (bkAt T.bks (ix1 T.seed T.n r.p)) r = some B') : replF T r = some (T.setBk (ix1 T.seed T.n r.p) B') := by
  unfold replF; rw [if_pos g, hput]; rfl
theorem repl_b2 {T : Tab} {r : Rt} {B' : List Pl} (g1 : (Bget (bkAt T.bks (ix1 T.seed T.n r.p)) r.p).isSome = false) (g : (Bget (bkAt T.bks (ix2 T.seed T.n r.p)) r.p).isSome = true) (hput : Bput (bkAt T.bks (ix2 T.seed T.n r.p)) r = some B') :
    replF T r = some (T.setBk (ix2 T.seed T.n r.p) B') := by
  unfold replF; rw [if_neg (by rw [g1]; simp), if_pos g, hput]; rfl
theorem repl_s {T : Tab} {r : Rt} (g1 : (Bget (bkAt T.bks (ix1 T.seed T.n r.p)) r.p).isSome = false) (g2 : (Bget (bkAt T.bks (ix2 T.seed T.n r.p)) r.p).isSome = false) (g : atLow T.stash r.p = true) :
    replF T r = some ⟨T.seed, T.bks, intoF T.stash r⟩ := by
  unfold replF intoF; rw [if_neg (by rw [g1]; simp), if_neg (by rw [g2]; simp), if_pos g, if_pos g]
theorem repl_n {T : Tab} {r : Rt} (g1 : (Bget (bkAt T.bks (ix1 T.seed T.n r.p)) r.p).isSome = false) (g2 : (Bget (bkAt T.bks (ix2 T.seed T.n r.p)) r.p).isSome = false) (g : ¬ atLow T.stash r.p = true) : replF T r = none := by
  unfold replF; rw [if_neg (by rw [g1]; simp), if_neg (by rw [g2]; simp), if_neg g]
theorem ins_into {T : Tab} {bks : List (List Pl)} {r : Rt} (h : Ok ⟨T.seed, bks, insF T.stash r⟩) : intoF T.stash r = insF T.stash r := by
  unfold intoF
  rw [if_neg]
  intro ha
  obtain ⟨hi, e⟩ := atLow_some ha
  have hp : ((r :: (bcont bks ++ T.stash)).map (·.p)).Nodup := ((((insF_perm T.stash r).append_left (bcont bks)).trans List.perm_middle).map (·.p)).nodup_iff.1 h.nodup
  rw [List.map_cons, List.nodup_cons] at hp
  exact hp.1 (List.mem_map.2 ⟨_, List.mem_append_right _ (List.getElem_mem hi), e⟩)

theorem rPut_walk (t : Nat) (T : Tab) (F : Nat → Prop) (p : Pfx) (v : Int) (w : World) (g : Tab → Tab) (h : RTabAt w t T F) (hok : Ok T) (hn : T.cont.length < 400000)
    (hG : ∀ (T' : Tab) (F' : Nat → Prop) (w' : World), RTabAt w' t T' F' → Ok T' → T'.n = T.n → T'.n < 65536 → T'.cont.length ≤ T.cont.length + 1 →
      Ret Try.prog 82 #[.pointer (some ⟨t, 0, none⟩)] w' fun r w'' => r = .tuple #[] ∧ RTabAt w'' t (g T') (Fresh F' w') ∧ Ext F' w' w'') :
    Ret Try.prog 32 #[.pointer (some ⟨t, 0, none⟩), p.val, .int .i64 v] w fun r w' =>
      r = .tuple #[] ∧ RTabAt w' t (if (putStep T ⟨p, v⟩).2 = true then g (putStep T ⟨p, v⟩).1 else (putStep T ⟨p, v⟩).1) (Fresh F w) ∧ Ext F w w' := by
  have h0 := h
  obtain ⟨b, sv, ht, hb, hv, n1, n2, n3, f1, f2, f3⟩ := h
  have h4 := hok.b.four
  have hcl : T.cont.length = (bcont T.bks).length + T.stash.length := List.length_append
  have hsl : T.stash.length < 1000000 := by omega
  refine calls_ev (args := [_, _, _]) mixed Try.func32 ok_32 rfl ?_
  refine bx (cs := _) rfl ?_
  intro w1 h1
  have e1 := h1.ext No
  have hp1 : Blk w1.heap w.heap.size p.cells 35 := h1.blk
  refine fa ?_
  refine ld1 ((e1.blk ht id).cell 0) ?_
  refine ldN (cs := p.cells) (rfl) (hp1.at_) ?_
  refine fa ?_
  refine ld1 ((e1.blk ht id).cell 1) ?_
  refine lenS ?_
  refine Ret.mono (rTwo T.seed p T.n _ hok.b.n1 hok.b.n2) ?_
  rintro v2 w2 ⟨rfl, e2⟩
  have e2' : Ext No w w2 := e1.trans e2
  have hp2 : Blk w2.heap w.heap.size p.cells 35 := e2.blk hp1 id
  refine fa ?_
  refine ld1 ((e2'.blk ht id).cell 1) ?_
  refine iaS (ix1 T.seed T.n p) rfl (hok.i1 p) ?_
  refine ldN (cs := p.cells) (rfl) (hp2.at_) ?_
  refine Ret.mono (rbGetAt (w := w2.drew) h4 (hok.i1 p) (e2'.blk hb id) p) ?_
  rintro v3 w3 ⟨rfl, e3⟩
  have e3' := e2'.trans e3
  have hp3 := e3.blk hp2 id
  refine fa ?_
  refine ld1 ((e3'.blk ht id).cell 1) ?_
  refine iaS (ix2 T.seed T.n p) rfl (hok.i2 p) ?_
  refine ldN (cs := p.cells) (rfl) (hp3.at_) ?_
  refine Ret.mono (rbGetAt (w := w3.drew) h4 (hok.i2 p) (e3'.blk hb id) p) ?_
  rintro v4 w4 ⟨rfl, e4⟩
  have e4' := e3'.trans e4
  have hp4 := e4.blk hp3 id
  refine fa ?_
  refine ld1 ((e4'.blk ht id).cell 2) ?_
  refine ldN (cs := p.cells) (rfl) (hp4.at_) ?_
  refine Ret.mono (Find_spec sv T.stash p w4.drew (OwnR.is (OwnR.no hv e4')) (by omega)) ?_
  rintro v5 w5 ⟨rfl, e5⟩
  have e5' := e4'.trans e5
  have hp5 := e5.blk hp4 id
  have hfl := find_low (p := p) hok.sorted
  refine ifB (fun g1 => ?_) (fun g1 => ?_)
  · skip
    refine fa ?_
    refine ld1 ((e5'.blk ht id).cell 1) ?_
    refine iaS (ix1 T.seed T.n p) rfl (hok.i1 p) ?_
    refine ldN (cs := p.cells) (rfl) (hp5.at_) ?_
    refine Ret.mono (rbPutAt (w := w5.drew) h4 (hok.i1 p) (e5'.blk hb id) p v) ?_
    rintro v6 w6 hres
    rcases hres with ⟨B', hput, rfl, hb6, e6⟩ | ⟨hput, _⟩
    · skip
      exact ⟨rfl, rstep_if (fl := false) (step_r (repl_b1 (r := ⟨p, v⟩) g1 hput)) ((RTabAt.put (e5'.blk ht id) (OwnR.no hv e5') n1 n2 n3 f1 f2 f3 e6 hb6 rfl List.length_set).mono fun k hk ↦ .inl hk), e5'.of_no.andThen e6 fun k _ e ↦ by rw [e]; exact f2⟩
    · exfalso
      obtain ⟨B', hB', _⟩ := Bput_isSome (r := ⟨p, v⟩) g1
      rw [hput] at hB'; cases hB'
  · skip
    refine ifB (fun g2 => ?_) (fun g2 => ?_)
    · skip
      refine fa ?_
      refine ld1 ((e5'.blk ht id).cell 1) ?_
      refine iaS (ix2 T.seed T.n p) rfl (hok.i2 p) ?_
      refine ldN (cs := p.cells) (rfl) (hp5.at_) ?_
      refine Ret.mono (rbPutAt (w := w5.drew) h4 (hok.i2 p) (e5'.blk hb id) p v) ?_
      rintro v6 w6 hres
      rcases hres with ⟨B', hput, rfl, hb6, e6⟩ | ⟨hput, _⟩
      · skip
        exact ⟨rfl, rstep_if (fl := false) (step_r (repl_b2 (r := ⟨p, v⟩) g1 g2 hput)) ((RTabAt.put (e5'.blk ht id) (OwnR.no hv e5') n1 n2 n3 f1 f2 f3 e6 hb6 rfl List.length_set).mono fun k hk ↦ .inl hk), e5'.of_no.andThen e6 fun k _ e ↦ by rw [e]; exact f2⟩
      · exfalso
        obtain ⟨B', hB', _⟩ := Bput_isSome (r := ⟨p, v⟩) g2
        rw [hput] at hB'; cases hB'
    · skip
      refine TestK.mk (fun g3 => ?_) (fun g3 => ?_)
      · skip
        refine fa ?_
        refine ld1 ((e5'.blk ht id).cell 2) ?_
        refine ldN (cs := p.cells) (rfl) (hp5.at_) ?_
        refine bldRoute ?_
        refine Ret.mono (Into_spec sv T.stash ⟨p, v⟩ w5.drew (OwnR.is (OwnR.no hv e5')) (by omega)) ?_
        rintro v6 w6 ⟨h6, e6⟩
        have e6' := e5'.trans e6
        refine Exists.elim (own_slice h6) fun a6 q6 => ?_
        refine Exists.elim q6 fun c6 q6 => ?_
        subst q6
        refine fa ?_
        refine stN (vs := [.slice a6 (intoF T.stash ⟨p, v⟩).length c6]) rfl rfl rfl (e6'.blk ht id) (Nat.le_refl 3) ?_
        intro w7 h7
        have e7 : Ext (· = t) w6 w7 := h7.ext fun _ => rfl
        have s5 := e5'.size
        have hfr : ∀ k, (Value.slice a6 (intoF T.stash ⟨p, v⟩).length c6).ownBlock = some k → w.heap.size ≤ k := fun k hk => Nat.le_trans s5 (World.ownsRow.lt h6 k hk).1
        have hT : RTabAt w7 t ⟨T.seed, T.bks, intoF T.stash ⟨p, v⟩⟩ (Fresh F w) := RTabAt.stash h7.blk (e7.blk (e6'.blk hb id) (fun e ↦ n1 e.symm)) (World.ownsRow.ext (own_mono h6 (Nat.zero_le _)) e7 fun k hk e ↦ by have := hfr k hk; have := ht.lt; omega) n1 (.inl f1) (.inl f2) fun k hk ↦ .inr (hfr k hk)
        exact ⟨rfl, rstep_if (fl := false) (step_r (repl_s (r := ⟨p, v⟩) g1 g2 (hfl.1 g3))) hT, e6'.of_no.andThen e7 fun k _ e ↦ by rw [e]; exact f1⟩
      · skip
        have hr : replF T ⟨p, v⟩ = none := repl_n (r := ⟨p, v⟩) g1 g2 fun ha => g3 (hfl.2 ha)
        refine fa ?_
        refine ld1 ((e5'.blk ht id).cell 1) ?_
        refine iaS (ix1 T.seed T.n p) rfl (hok.i1 p) ?_
        refine ldN (cs := p.cells) (rfl) (hp5.at_) ?_
        refine Ret.mono (rbPutAt (w := w5.drew) h4 (hok.i1 p) (e5'.blk hb id) p v) ?_
        rintro v6 w6 hres
        rcases hres with ⟨B', hput, rfl, hb6, e6⟩ | ⟨hput, rfl, e6⟩
        · skip
          exact ⟨rfl, rstep_if (fl := false) (step_b1 hr hput) ((RTabAt.put (e5'.blk ht id) (OwnR.no hv e5') n1 n2 n3 f1 f2 f3 e6 hb6 rfl List.length_set).mono fun k hk ↦ .inl hk), e5'.of_no.andThen e6 fun k _ e ↦ by rw [e]; exact f2⟩
        · skip
          have e6' := e5'.trans e6
          have hp6 := e6.blk hp5 id
          refine fa ?_
          refine ld1 ((e6'.blk ht id).cell 1) ?_
          refine iaS (ix2 T.seed T.n p) rfl (hok.i2 p) ?_
          refine ldN (cs := p.cells) (rfl) (hp6.at_) ?_
          refine Ret.mono (rbPutAt (w := w6) h4 (hok.i2 p) (e6'.blk hb id) p v) ?_
          rintro v7 w7 hres
          rcases hres with ⟨B', hput2, rfl, hb7, e7⟩ | ⟨hput2, rfl, e7⟩
          · skip
            exact ⟨rfl, rstep_if (fl := false) (step_b2 hr hput hput2) ((RTabAt.put (e6'.blk ht id) (OwnR.no hv e6') n1 n2 n3 f1 f2 f3 e7 hb7 rfl List.length_set).mono fun k hk ↦ .inl hk), e6'.of_no.andThen e7 fun k _ e ↦ by rw [e]; exact f2⟩
          · skip
            have e7' := e6'.trans e7
            have hp7 := e7.blk hp6 id
            have lb := hb.lt
            refine loop [0, 2, 4, 13, 14] (fun k vs w' => ∃ (i : Nat) (bks : List (List Pl)) (r : Rt) (a : Nat), i ≤ 16 ∧ k = 16 - i ∧ vs = [.pointer (some ⟨t, 0, none⟩), .int .i64 r.hop, .pointer (some ⟨w.heap.size, 0, none⟩), .int .i64 a, .int .i64 i] ∧
              Blk w'.heap w.heap.size r.p.cells 35 ∧ Blk w'.heap b (rtcells bks) 121 ∧ OkB T.seed T.n bks ∧ (a = ix1 T.seed T.n r.p ∨ a = ix2 T.seed T.n r.p) ∧ (∀ x ∈ bkAt bks a, x.there = true) ∧
              kickF T.seed T.n 16 0 T.bks ⟨p, v⟩ (ix2 T.seed T.n p) = kickF T.seed T.n (16 - i) i bks r a ∧ Ext (· = b) w w') 16 _ rfl ⟨0, T.bks, ⟨p, v⟩, ix2 T.seed T.n p, by omega, rfl, rfl, hp7, e7'.blk hb id, hok.b, .inr rfl, (Bput_none hput2).1, rfl, e7'.of_no⟩ ?_
            rintro k vs w8 ⟨i, bks, r, a, hi, rfl, rfl, hr8, hb8, hokb, ha, hfull, hkick, e8⟩
            have hal : a < bks.length := by
              rw [hokb.len]
              rcases ha with rfl | rfl
              · exact ix1_lt _ _ hokb.n1 hokb.n2
              · exact ix2_lt _ _ hokb.n1 hokb.n2
            refine TestK.mk (fun hlt => ?_) (fun hlt => ?_)
            · skip
              refine fa ?_
              refine ld1 ((e8.blk ht n1).cell 1) ?_
              refine iaS a rfl (by rw [← hokb.len]; exact hal) ?_
              refine remI ((i % 4 : Nat) : Int) (by omega) (by omega) (by omega) ?_
              refine ldN (cs := r.p.cells) (rfl) (hr8.at_) ?_
              refine Ret.mono (rbSwapAt (w := w8.drew) hokb.four hal hb8 (i % 4) r.p r.hop (Nat.mod_lt _ (by decide)) hfull) ?_
              rintro v9 w9 ⟨rfl, hb9, e9⟩
              have hko : (16 - i) = (16 - (i + 1)) + 1 := by omega
              rw [hko] at hkick
              have hkS := fun B' => @kick_some T.seed T.n (16 - (i + 1)) i bks r a B'
              have hkN := @kick_none T.seed T.n (16 - (i + 1)) i bks r a
              have hok1 : OkB T.seed T.n (bks.set a ((bkAt bks a).set (i % 4) ⟨true, ⟨r.p, r.hop⟩⟩)) := hokb.set (bkAt_some hal) r ha
              generalize hold : ((bkAt bks a).getD (i % 4) noPl).r = old at *
              generalize hbks1 : bks.set a ((bkAt bks a).set (i % 4) ⟨true, ⟨r.p, r.hop⟩⟩) = bks1 at *
              have hr9 : Blk w9.heap w.heap.size r.p.cells 35 := e9.blk hr8 (by omega)
              refine stN (vs := old.p.cells) rfl rfl rfl (hr9) (Nat.le_refl 3) ?_
              intro w10 h10
              have hr10 : Blk w10.heap w.heap.size old.p.cells 35 := h10.blk
              have e9' : Ext (· = b) w w9 := e8.andThen e9 fun _ _ h => h
              have s9 := e9'.size
              have e10 : Ext (· = b) w w10 := e9'.andThen (h10.ext (S := (· = w.heap.size)) fun _ => rfl) fun k hk e => by omega
              have hb10 : Blk w10.heap b (rtcells bks1) 121 := (h10.ext (S := (· = w.heap.size)) fun _ => rfl).blk hb9 (by omega)
              have hl1 : (⟨T.seed, bks1, T.stash⟩ : Tab).n = T.n := hok1.len
              have hT10 : RTabAt w10 t ⟨T.seed, bks1, T.stash⟩ F := RTabAt.put ht hv n1 n2 n3 f1 f2 f3 e10 hb10 rfl hok1.len
              have ho := rOther_spec t ⟨T.seed, bks1, T.stash⟩ F old.p a w10 hT10 (by rw [hl1]; exact hok.b.n1) (by rw [hl1]; exact hok.b.n2)
              rw [hl1] at ho
              refine ldN (cs := old.p.cells) (rfl) (hr10.at_) ?_
              refine Ret.mono (ho) ?_
              rintro v11 w11 ⟨rfl, e11⟩
              have e11' : Ext (· = b) w w11 := e10.then_no e11
              have hol : otherF T.seed T.n old.p a < bks1.length := by rw [hok1.len]; exact other_lt _ _ _ hokb.n1 hokb.n2
              have hoo := other_or T.seed T.n old.p a
              refine fa ?_
              refine ld1 ((e11'.blk ht n1).cell 1) ?_
              refine iaS (otherF T.seed T.n old.p a) rfl (Nat.lt_of_lt_of_eq hol hok1.len) ?_
              refine ldN (cs := old.p.cells) (rfl) ((e11.blk hr10 id).at_) ?_
              refine Ret.mono (rbPutAt (w := w11.drew) hok1.four hol (e11.blk hb10 id) old.p old.hop) ?_
              rintro v12 w12 hres
              rcases hres with ⟨B', hput3, rfl, hb12, e12⟩ | ⟨hput3, rfl, e12⟩
              · skip
                have hk := hkick.trans (hkS B' hput3)
                have e12' : Ext (· = b) w w12 := e11'.andThen e12 fun _ _ h => h
                have hT12 : RTabAt w12 t ⟨T.seed, bks1.set (otherF T.seed T.n old.p a) B', T.stash⟩ F := RTabAt.put ht hv n1 n2 n3 f1 f2 f3 e12' hb12 rfl (by rw [List.length_set]; exact hok1.len)
                exact ⟨rfl, rstep_if (fl := false) (step_k hr hput hput2 hk) (hT12.mono fun k hk ↦ .inl hk), e12'.weaken fun k _ e ↦ by rw [e]; exact f2⟩
              · skip
                refine add64 (by omega) (by omega) ?_
                refine again (16 - (i + 1)) (by omega) _ rfl ⟨i + 1, bks1, old, otherF T.seed T.n old.p a, by omega, rfl, rfl, (e11.trans e12).blk hr10 id, (e11.trans e12).blk hb10 id, hok1, hoo, (Bput_none hput3).1, hkick.trans (hkN hput3), e11'.then_no e12⟩
            · skip
              have hi16 : i = 16 := by omega
              subst hi16
              have hk16 : kickF T.seed T.n 16 0 T.bks ⟨p, v⟩ (ix2 T.seed T.n p) = (bks, some r) := hkick
              have hstep := step_s hr hput hput2 hk16
              have hps := putStep_ok hok ⟨p, v⟩
              rw [hstep] at hps
              have p1 := hps.1
              have p2 := hps.2.1
              have p4 := hps.2.2.2.1
              have hii := ins_into p1
              have hlen : (⟨T.seed, bks, insF T.stash r⟩ : Tab).cont.length ≤ T.cont.length + 1 := by
                rw [p2.length_eq, List.length_cons]
                have : (without T.cont p).length ≤ T.cont.length := List.length_filter_le _ _
                exact Nat.succ_le_succ this
              have hv8 : OwnR 0 w8 sv T.stash := World.ownsRow.ext hv e8 fun k hk e ↦ n3 (by rw [hk, e])
              refine fa ?_
              refine ld1 ((e8.blk ht n1).cell 2) ?_
              refine ldN (cs := r.p.cells) (rfl) (hr8.at_) ?_
              refine bldRoute ?_
              refine Ret.mono (Into_spec sv T.stash r w8.drew (OwnR.is hv8) (by omega)) ?_
              rintro v9 w9 ⟨h9, e9⟩
              rw [hii] at h9
              have e9' : Ext (· = b) w w9 := e8.then_no e9
              have s8 := e8.size
              refine Exists.elim (own_slice h9) fun a9 q9 => ?_
              refine Exists.elim q9 fun c9 q9 => ?_
              subst q9
              refine fa ?_
              refine stN (vs := [.slice a9 (insF T.stash r).length c9]) rfl rfl rfl (e9'.blk ht n1) (Nat.le_refl 3) ?_
              intro w10 h10
              have ht10 : Blk w10.heap t [U T.seed, .slice (some ⟨b, 0, none⟩) T.n T.n, .slice a9 (insF T.stash r).length c9] 116 := h10.blk
              have e10 : Ext (· = t) w9 w10 := h10.ext fun _ => rfl
              have hfr : ∀ k, (Value.slice a9 (insF T.stash r).length c9).ownBlock = some k → w.heap.size ≤ k := fun k hk => Nat.le_trans s8 (World.ownsRow.lt h9 k hk).1
              have eF : Ext F w w10 := (e9'.weaken fun k _ e => by rw [e]; exact f2).andThen e10 fun k _ e => by rw [e]; exact f1
              have hT10 : RTabAt w10 t ⟨T.seed, bks, insF T.stash r⟩ (Fresh F w) := by
                refine RTabAt.stash (T := ⟨T.seed, bks, []⟩) (b := b) ?_ (e10.blk (e9.blk hb8 id) (fun e ↦ n1 e.symm)) (World.ownsRow.ext (own_mono h9 (Nat.zero_le _)) e10 fun k hk e ↦ by have := hfr k hk; have := ht.lt; omega) n1 (.inl f1) (.inl f2) fun k hk ↦ .inr (hfr k hk)
                show Blk w10.heap t [U T.seed, .slice (some ⟨b, 0, none⟩) bks.length bks.length, _] _
                rw [hokb.len]; exact ht10
              refine fa ?_
              refine ld1 (ht10.cell 2) ?_
              refine lenS ?_
              refine TestK.mk (fun h8c => ?_) (fun h8c => ?_)
              · skip
                refine fa ?_
                refine ld1 (ht10.cell 1) ?_
                refine lenS ?_
                refine TestK.mk (fun hb8' => ?_) (fun hb8' => ?_)
                · skip
                  have hfl : decide (8 < (insF T.stash r).length ∧ bks.length < 65536) = true := decide_eq_true ⟨by omega, by rw [hokb.len]; omega⟩
                  rw [hfl] at hstep
                  refine Ret.mono (hG ⟨T.seed, bks, insF T.stash r⟩ (Fresh F w) w10 hT10 p1 p4 (by rw [p4]; omega) (by omega)) ?_
                  rintro v11 w11 ⟨rfl, hT11, e11⟩
                  exact ⟨rfl, rstep_if hstep (by rw [if_pos rfl]; exact hT11.mono fun k hk ↦ hk.elim id fun h ↦ .inr (by have := eF.size; omega)), eF.andThen e11 fun k hk h ↦ h.elim id fun h ↦ by omega⟩
                · skip
                  have hfl : decide (8 < (insF T.stash r).length ∧ bks.length < 65536) = false := decide_eq_false fun h => by have h2 := h.2; rw [hokb.len] at h2; omega
                  rw [hfl] at hstep
                  exact ⟨rfl, rstep_if (fl := false) hstep hT10, eF⟩
              · skip
                have hfl : decide (8 < (insF T.stash r).length ∧ bks.length < 65536) = false := decide_eq_false fun h => by omega
                rw [hfl] at hstep
                exact ⟨rfl, rstep_if (fl := false) hstep hT10, eF⟩
end Go.Fl
