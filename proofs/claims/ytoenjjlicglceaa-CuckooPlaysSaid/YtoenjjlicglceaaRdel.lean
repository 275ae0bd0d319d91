/-
  Chapter 12: the document's table: New, Size, All, Get, Delete.
-/
import Derived.Test.YtoenjjlicglceaaRgrow
namespace Go.Fl
open Go.Proofs
set_option maxHeartbeats 4000000
set_option maxRecDepth 100000

theorem without_low {l : List Rt} {p : Pfx} (hs : SortedR l) (ha : atLow l p = true) : without l p = l.eraseIdx (lowB l p) ∧ (without l p).length + 1 = l.length := by
  obtain ⟨L, R, o, e1, e2, e3⟩ : ∃ L R o, l = L ++ [o] ++ R ∧ l.eraseIdx (lowB l p) = L ++ R ∧ o.p = p := by
    obtain ⟨hi, e⟩ := atLow_some ha
    refine ⟨l.take (lowB l p), l.drop (lowB l p + 1), l[lowB l p], ?_, List.eraseIdx_eq_take_drop_succ _ _, e⟩
    rw [List.append_assoc, List.singleton_append, ← List.drop_eq_getElem_cons hi, List.take_append_drop]
  have hnd : (l.map (·.p)).Nodup := List.pairwise_map.2 (hs.imp fun {a b} hab e => by rw [e] at hab; exact Pfx.lt_irrefl _ hab)
  rw [e1] at hnd
  have h1 : without l p = L ++ R := by rw [e1]; exact without_mid e3 hnd
  refine ⟨h1.trans e2.symm, ?_⟩
  rw [h1, e1]; simp; omega

theorem rDelete_spec (t : Nat) (T : Tab) (F : Nat → Prop) (p : Pfx) (w : World) (h : RTabAt w t T F) (hok : Ok T) (hn : T.stash.length < 1000000) :
    Ret Try.prog 31 #[.pointer (some ⟨t, 0, none⟩), p.val] w fun r w' => r = .bool (delF T p).2 ∧ RTabAt w' t (delF T p).1 (Fresh F w) ∧ Ext F w w' := by
  obtain ⟨b, sv, ht, hb, hv, n1, n2, n3, f1, f2, f3⟩ := h
  have h4 := hok.b.four
  obtain ⟨sa, sc, rfl⟩ := own_slice hv
  refine calls_ev (args := [_, _]) mixed Try.func31 ok_31 rfl ?_
  refine bx (cs := _) rfl ?_
  intro w1 h1
  have e1 := h1.ext No
  have hp1 : Blk w1.heap w.heap.size p.cells 35 := h1.blk
  refine fa ?_
  refine ld1 ((e1.blk ht id).cell 0) ?_
  refine ldN (cs := p.cells) (rfl) (hp1.at_) ?_
  refine fa ?_
  refine ld1 ((e1.blk ht id).cell 1) ?_
  refine lenS ?_
  refine Ret.mono (rTwo T.seed p T.n _ hok.b.n1 hok.b.n2) ?_
  rintro v2 w2 ⟨rfl, e2⟩
  have e2' : Ext No w w2 := e1.trans e2
  have hp2 : Blk w2.heap w.heap.size p.cells 35 := e2.blk hp1 id
  refine fa ?_
  refine ld1 ((e2'.blk ht id).cell 1) ?_
  refine iaS (ix1 T.seed T.n p) rfl (hok.i1 p) ?_
  refine ldN (cs := p.cells) (rfl) (hp2.at_) ?_
  refine Ret.mono (rbTakeAt (w := w2.drew) h4 (hok.i1 p) (e2'.blk hb id) p) ?_
  rintro v3 w3 hres
  rcases hres with ⟨B', htk, rfl, hb3, e3⟩ | ⟨htk, rfl, e3⟩
  · skip
    have hd : delF T p = (T.setBk (ix1 T.seed T.n p) B', true) := by unfold delF; rw [htk]
    exact ⟨by rw [hd]; rfl, by rw [hd]; exact (RTabAt.put (e2'.blk ht id) (OwnR.no hv e2') n1 n2 n3 f1 f2 f3 e3 hb3 rfl List.length_set).mono fun k hk ↦ .inl hk, e2'.of_no.andThen e3 fun k _ e ↦ by rw [e]; exact f2⟩
  · skip
    have e3' := e2'.trans e3
    have hp3 := e3.blk hp2 id
    refine fa ?_
    refine ld1 ((e3'.blk ht id).cell 1) ?_
    refine iaS (ix2 T.seed T.n p) rfl (hok.i2 p) ?_
    refine ldN (cs := p.cells) (rfl) (hp3.at_) ?_
    refine Ret.mono (rbTakeAt (w := w3) h4 (hok.i2 p) (e3'.blk hb id) p) ?_
    rintro v4 w4 hres
    rcases hres with ⟨B', htk2, rfl, hb4, e4⟩ | ⟨htk2, rfl, e4⟩
    · skip
      have hd : delF T p = (T.setBk (ix2 T.seed T.n p) B', true) := by unfold delF; rw [htk]; simp only; rw [htk2]
      exact ⟨by rw [hd]; rfl, by rw [hd]; exact (RTabAt.put (e3'.blk ht id) (OwnR.no hv e3') n1 n2 n3 f1 f2 f3 e4 hb4 rfl List.length_set).mono fun k hk ↦ .inl hk, e3'.of_no.andThen e4 fun k _ e ↦ by rw [e]; exact f2⟩
    · skip
      have e4' := e3'.trans e4
      have hp4 := e4.blk hp3 id
      have hd0 : delF T p = if atLow T.stash p = true then (⟨T.seed, T.bks, T.stash.eraseIdx (lowB T.stash p)⟩, true) else (T, false) := by unfold delF; rw [htk]; simp only; rw [htk2]
      refine fa ?_
      refine ld1 ((e4'.blk ht id).cell 2) ?_
      refine lenS ?_
      refine fa ?_
      refine ld1 ((e4'.blk ht id).cell 2) ?_
      refine ldN (cs := p.cells) (rfl) (hp4.at_) ?_
      refine Ret.mono (Without_spec (.slice sa T.stash.length sc) T.stash p w4.drew (OwnR.is (OwnR.no hv e4')) (by omega)) ?_
      rintro v5 w5 ⟨h5, e5⟩
      have e5' := e4'.trans e5
      have s4 := e4'.size
      refine Exists.elim (own_slice h5) fun a5 q5 => ?_
      refine Exists.elim q5 fun c5 q5 => ?_
      subst q5
      refine fa ?_
      refine stN (vs := [.slice a5 (without T.stash p).length c5]) rfl rfl rfl (e5'.blk ht id) (Nat.le_refl 3) ?_
      intro w6 h6
      have e6 : Ext (· = t) w5 w6 := h6.ext fun _ => rfl
      have ht6 : Blk w6.heap t [U T.seed, .slice (some ⟨b, 0, none⟩) T.n T.n, .slice a5 (without T.stash p).length c5] 116 := h6.blk
      have hfr : ∀ k, (Value.slice a5 (without T.stash p).length c5).ownBlock = some k → w.heap.size ≤ k := fun k hk => Nat.le_trans s4 (World.ownsRow.lt h5 k hk).1
      have hT : RTabAt w6 t ⟨T.seed, T.bks, without T.stash p⟩ (Fresh F w) := RTabAt.stash ht6 (e6.blk (e5'.blk hb id) (fun e ↦ n1 e.symm)) (World.ownsRow.ext (own_mono h5 (Nat.zero_le _)) e6 fun k hk e ↦ by have := hfr k hk; have := ht.lt; omega) n1 (.inl f1) (.inl f2) fun k hk ↦ .inr (hfr k hk)
      have eF : Ext F w w6 := e5'.of_no.andThen e6 fun k _ e ↦ by rw [e]; exact f1
      refine fa ?_
      refine ld1 (ht6.cell 2) ?_
      by_cases hat : atLow T.stash p = true
      · have hwl := without_low hok.sorted hat
        rw [if_pos hat] at hd0
        rw [hwl.1] at hT
        refine lenS ?_
        refine TestK.mk (fun hlt => ?_) (fun hlt => ?_)
        · skip
          exact ⟨by rw [hd0]; rfl, by rw [hd0]; exact hT, eF⟩
        · skip
          exact absurd (by omega) hlt
      · have hwn := without_none (atLow_none hok.sorted (by simpa using hat))
        rw [if_neg hat] at hd0
        rw [hwn] at hT
        refine lenS ?_
        refine TestK.mk (fun hlt => ?_) (fun hlt => ?_)
        · skip
          exact absurd hlt (by rw [hwn]; omega)
        · skip
          exact ⟨by rw [hd0]; rfl, by rw [hd0]; exact hT, eF⟩

end Go.Fl
