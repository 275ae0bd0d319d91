/-
  Chapter 12: the document's table: New, Size, All, Get, Delete.
-/
import Derived.Test.YtoenjjlicglceaaRgrow
namespace Go.Fl
open Go.Proofs
set_option maxHeartbeats 4000000
set_option maxRecDepth 100000

theorem rGet_spec (t : Nat) (T : Tab) (F : Nat → Prop) (p : Pfx) (w : World) (h : RTabAt w t T F) (hok : Ok T) (hn : T.stash.length < 1000000) :
    Ret Try.prog 36 #[.pointer (some ⟨t, 0, none⟩), p.val] w fun v w' =>
      ∃ g, v = .tuple #[.int .i64 ((getF T p).getD 0), .bool (getF T p).isSome, .slice (some ⟨g, 0, none⟩) (getSeen T p).length (getSeen T p).length] ∧ w.heap.size ≤ g ∧ Blk w'.heap g ((getSeen T p).map fun i : Nat => Value.int .i64 i) 3 ∧ Ext No w w' := by
  obtain ⟨b, sv, ht, hb, hv, n1, n2, n3, f1, f2, f3⟩ := h
  have h4 := hok.b.four
  obtain ⟨sa, sc, rfl⟩ := own_slice hv
  refine calls_ev (args := [_, _]) mixed Try.func36 ok_36 rfl ?_
  refine bx (cs := _) rfl ?_
  intro w1 h1
  have e1 := h1.ext No
  have hp1 : Blk w1.heap w.heap.size p.cells 35 := h1.blk
  refine fa ?_
  refine ld1 ((e1.blk ht id).cell 0) ?_
  refine ldN (cs := p.cells) (rfl) (hp1.at_) ?_
  refine fa ?_
  refine ld1 ((e1.blk ht id).cell 1) ?_
  refine lenS ?_
  refine Ret.mono (rTwo T.seed p T.n _ hok.b.n1 hok.b.n2) ?_
  rintro v2 w2 ⟨rfl, e2⟩
  have e2' : Ext No w w2 := e1.trans e2
  have hp2 : Blk w2.heap w.heap.size p.cells 35 := e2.blk hp1 id
  refine fa ?_
  refine ld1 ((e2'.blk ht id).cell 1) ?_
  refine iaS (ix1 T.seed T.n p) rfl (hok.i1 p) ?_
  refine ldN (cs := p.cells) (rfl) (hp2.at_) ?_
  refine Ret.mono (rbGetAt (w := w2.drew) h4 (hok.i1 p) (e2'.blk hb id) p) ?_
  rintro v3 w3 ⟨hv3, e3⟩
  have e3' := e2'.trans e3
  have hp3 := e3.blk hp2 id
  have hres : (∃ hop, Bget (bkAt T.bks (ix1 T.seed T.n p)) p = some hop) ∨ Bget (bkAt T.bks (ix1 T.seed T.n p)) p = none := by cases Bget (bkAt T.bks (ix1 T.seed T.n p)) p with | some x => exact .inl ⟨x, rfl⟩ | none => exact .inr rfl
  refine Or.elim hres (fun hres => ?_) (fun hget => ?_)
  · refine Exists.elim hres fun hop hget => ?_
    rw [hget] at hv3
    subst hv3
    refine bs (cs := _) bsInts1 ?_
    intro w4 h4'
    have hs : getSeen T p = [ix1 T.seed T.n p] := by unfold getSeen; rw [hget]; rfl
    have hg : getF T p = some hop := by unfold getF; rw [hget]
    refine ⟨w3.heap.size, ?_, e3'.size, ?_, e3'.trans (h4'.ext No)⟩
    · rw [hs, hg]; rfl
    · rw [hs]; exact h4'.blk
  · rw [hget] at hv3
    subst hv3
    have hs : getSeen T p = [ix1 T.seed T.n p, ix2 T.seed T.n p] := by unfold getSeen; rw [hget]; rfl
    have hl : (getSeen T p).length = 2 := by rw [hs]; rfl
    refine fa ?_
    refine ld1 ((e3'.blk ht id).cell 1) ?_
    refine iaS (ix2 T.seed T.n p) rfl (hok.i2 p) ?_
    refine ldN (cs := p.cells) (rfl) (hp3.at_) ?_
    refine Ret.mono (rbGetAt (w := w3.drew) h4 (hok.i2 p) (e3'.blk hb id) p) ?_
    rintro v4 w4 ⟨hv4, e4⟩
    have e4' := e3'.trans e4
    have hp4 := e4.blk hp3 id
    have hres : (∃ hop, Bget (bkAt T.bks (ix2 T.seed T.n p)) p = some hop) ∨ Bget (bkAt T.bks (ix2 T.seed T.n p)) p = none := by cases Bget (bkAt T.bks (ix2 T.seed T.n p)) p with | some x => exact .inl ⟨x, rfl⟩ | none => exact .inr rfl
    refine Or.elim hres (fun hres => ?_) (fun hget2 => ?_)
    · refine Exists.elim hres fun hop hget2 => ?_
      rw [hget2] at hv4
      subst hv4
      have hg : getF T p = some hop := by unfold getF; rw [hget]; simp only; rw [hget2]
      refine bs (cs := _) bsInts2 ?_
      intro w5 h5'
      refine ⟨w4.heap.size, ?_, e4'.size, by rw [hs]; exact h5'.blk, e4'.trans (h5'.ext No)⟩
      rw [hg, hl]; rfl
    · rw [hget2] at hv4
      subst hv4
      have hg : getF T p = if atLow T.stash p = true then (T.stash[lowB T.stash p]?).map (·.hop) else none := by unfold getF; rw [hget]; simp only; rw [hget2]
      refine fa ?_
      refine ld1 ((e4'.blk ht id).cell 2) ?_
      refine ldN (cs := p.cells) (rfl) (hp4.at_) ?_
      refine Ret.mono (Find_spec (.slice sa T.stash.length sc) T.stash p w4.drew (OwnR.is (OwnR.no hv e4')) (by omega)) ?_
      rintro v5 w5 ⟨rfl, e5⟩
      have e5' := e4'.trans e5
      refine TestK.mk (fun hat => ?_) (fun hat => ?_)
      · skip
        have hlow := (find_low hok.sorted).1 hat
        refine Exists.elim (atLow_some hlow) fun hi he => ?_
        have hfl : findF T.stash p = lowB T.stash p := by
          unfold findF
          rw [firstI_at (fun r : Rt => decide (r.p = p)) T.stash (lowB T.stash p) hi (fun j hj hjl => by have := lowB_lt hjl; simp; intro e; rw [e] at this; exact Pfx.lt_irrefl _ this) (by simpa using he)]; rfl
        refine fa ?_
        refine ld1 ((e5'.blk ht id).cell 2) ?_
        refine Exists.elim (OwnR.is (OwnR.no hv e5')) fun ad q => ?_
        refine Exists.elim q fun c q => ?_
        have hq := q.1
        cases hq
        have hsl := q.2.2
        refine iaG rlen hsl (lowB T.stash p) hfl hi rfl ?_
        intro b1 o1 hat1
        refine fa ?_
        refine ld1 (rh_at hat1) ?_
        refine bs (cs := _) bsInts2 ?_
        intro w6 h6'
        refine ⟨w5.heap.size, ?_, e5'.size, by rw [hs]; exact h6'.blk, e5'.trans (h6'.ext No)⟩
        rw [hg, hl, if_pos hlow, List.getElem?_eq_getElem hi]; rfl
      · skip
        have hlow : ¬ atLow T.stash p = true := fun h => hat ((find_low hok.sorted).2 h)
        refine bs (cs := _) bsInts2 ?_
        intro w6 h6'
        refine ⟨w5.heap.size, ?_, e5'.size, by rw [hs]; exact h6'.blk, e5'.trans (h6'.ext No)⟩
        rw [hg, hl, if_neg hlow]; rfl

end Go.Fl
