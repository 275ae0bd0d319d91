/-
  Chapter 11: the given program's Delete and All.
-/
import Derived.Test.YtoenjjlicglceaaTdel
import Derived.Test.YtoenjjlicglceaaFput
import Derived.Test.YtoenjjlicglceaaFsort
namespace Go.Fl
open Go.Proofs
set_option maxHeartbeats 4000000
set_option maxRecDepth 100000

theorem own_slice {w : World} {base E size n : Nat} {v : Value} {xs : List Value} (h : w.ownsRow base E size v n xs) : ∃ a c, v = .slice a n c := by
  rcases own_cases h with ⟨rfl, rfl, _⟩ | ⟨g, cap, ys, rfl, _⟩
  · exact ⟨none, 0, rfl⟩
  · exact ⟨_, _, rfl⟩
theorem DeleteT_spec (t : Nat) (T : Tab) (F : Nat → Prop) (p : Pfx) (w : World) (h : TabAt w t T F) (hok : Ok T) (hn : T.stash.length < 1000000) :
    Ret Try.prog 30 #[.pointer (some ⟨t, 0, none⟩), p.val] w fun r w' => r = .bool (delF T p).2 ∧ TabAt w' t (delF T p).1 F ∧ Ext F w w' := by
  have h0 := h
  obtain ⟨b, sv, ht, hb, hv, n1, n2, n3, f1, f2, f3⟩ := h
  have h4 := hok.b.four
  refine calls_ev (args := [_, _]) mixed Try.func30 ok_30 rfl ?_
  refine bx (cs := _) rfl ?_
  intro w1 h1
  refine eqNil ?_
  refine ldN (cs := p.cells) (rfl) (h1.blk.at_) ?_
  refine Ret.mono (two_spec t T F p _ (h0.ext (h1.ext No) fun _ _ _ ↦ id) hok.b.n1 hok.b.n2) ?_
  rintro v2 w2 ⟨rfl, e2⟩
  have e2' : Ext No w w2 := (h1.ext No).trans e2
  have hp2 : Blk w2.heap w.heap.size p.cells 35 := e2.blk h1.blk id
  refine fa ?_
  refine ld1 ((e2'.blk ht id).cell 1) ?_
  refine iaS (ix1 T.seed T.n p) rfl (hok.i1 p) ?_
  refine ldN (cs := p.cells) (rfl) (hp2.at_) ?_
  refine Ret.mono (bTakeAt (w := w2.drew) h4 (hok.i1 p) (e2'.blk hb id) p) ?_
  rintro v3 w3 hres
  rcases hres with ⟨B', htk, rfl, hb3, e3⟩ | ⟨htk, rfl, e3⟩
  · skip
    have hd : delF T p = (T.setBk (ix1 T.seed T.n p) B', true) := by unfold delF; rw [htk]
    exact ⟨by rw [hd]; rfl, by rw [hd]; exact TabAt.put (e2'.blk ht id) (hv.ext e2' fun _ _ ↦ id) n1 n2 n3 f1 f2 f3 e3 hb3 rfl List.length_set, e2'.of_no.andThen e3 fun k _ e ↦ by rw [e]; exact f2⟩
  · skip
    have e3' := e2'.trans e3
    have hp3 := e3.blk hp2 id
    refine fa ?_
    refine ld1 ((e3'.blk ht id).cell 1) ?_
    refine iaS (ix2 T.seed T.n p) rfl (hok.i2 p) ?_
    refine ldN (cs := p.cells) (rfl) (hp3.at_) ?_
    refine Ret.mono (bTakeAt (w := w3) h4 (hok.i2 p) (e3'.blk hb id) p) ?_
    rintro v4 w4 hres
    rcases hres with ⟨B', htk2, rfl, hb4, e4⟩ | ⟨htk2, rfl, e4⟩
    · skip
      have hd : delF T p = (T.setBk (ix2 T.seed T.n p) B', true) := by unfold delF; rw [htk]; simp only; rw [htk2]
      exact ⟨by rw [hd]; rfl, by rw [hd]; exact TabAt.put (e3'.blk ht id) (hv.ext e3' fun _ _ ↦ id) n1 n2 n3 f1 f2 f3 e4 hb4 rfl List.length_set, e3'.of_no.andThen e4 fun k _ e ↦ by rw [e]; exact f2⟩
    · skip
      have e4' := e3'.trans e4
      have hp4 := e4.blk hp3 id
      refine ldN (cs := p.cells) (rfl) (hp4.at_) ?_
      refine Ret.mono (hidden_spec t T F p _ (h0.ext e4' fun _ _ _ ↦ id) hok.sorted hn) ?_
      rintro v5 w5 ⟨rfl, e5⟩
      have e5' := e4'.trans e5
      have hd0 : delF T p = if atLow T.stash p = true then (⟨T.seed, T.bks, T.stash.eraseIdx (lowB T.stash p)⟩, true) else (T, false) := by unfold delF; rw [htk]; simp only; rw [htk2]
      refine ifB (fun hat => ?_) (fun hat => ?_)
      · skip
        refine Exists.elim (atLow_some hat) fun hi _ => ?_
        rw [if_pos hat] at hd0
        refine fa ?_
        refine ld1 ((e5'.blk ht id).cell 2) ?_
        refine add64 (by omega) (by omega) ?_
        refine Ret.mono (Delete_spec 0 (lowB T.stash p) sv T.stash w5 (hv.ext e5' fun _ _ ↦ id) hi hn) ?_
        rintro v6 w6 ⟨h6, o6, e6⟩
        refine Exists.elim (own_slice h6) fun a6 q6 => ?_
        refine Exists.elim q6 fun c6 q6 => ?_
        subst q6
        have ht6 := e6.blk (e5'.blk ht id) n2
        have hb6 := e6.blk (e5'.blk hb id) n3
        refine fa ?_
        refine stN (vs := [.slice a6 (T.stash.length - 1) c6]) rfl rfl rfl (ht6) (Nat.le_refl 3) ?_
        intro w7 h7
        have e7 : Ext (· = t) w6 w7 := h7.ext fun _ => rfl
        have hT : TabAt w7 t ⟨T.seed, T.bks, T.stash.eraseIdx (lowB T.stash p)⟩ F := by
          refine ⟨b, .slice a6 (T.stash.length - 1) c6, h7.blk, e7.blk hb6 (fun e => n1 e.symm), ?_, n1, by rw [o6]; exact n2, by rw [o6]; exact n3, f1, f2, fun k hk => f3 k (by rw [← o6]; exact hk)⟩
          show w7.ownsRow 0 45 4 (.slice a6 (T.stash.length - 1) c6) (T.stash.eraseIdx (lowB T.stash p)).length _
          rw [List.length_eraseIdx_of_lt hi]
          exact h6.ext e7 fun k hk e => by rw [o6] at hk; exact n2 (by rw [hk, e])
        exact ⟨by rw [hd0]; exact congrArg Value.bool hat, by rw [hd0]; exact hT, (e5'.of_no.andThen e6 fun k _ e ↦ f3 k e).andThen e7 fun k _ e ↦ by rw [e]; exact f1⟩
      · skip
        rw [if_neg (by rw [hat]; simp)] at hd0
        exact ⟨by rw [hd0]; exact congrArg Value.bool hat, by rw [hd0]; exact h0.ext e5' fun _ _ _ ↦ id, e5'.of_no⟩

theorem cmp_sorted {l : List Rt} (h : l.Pairwise fun x y => ¬ cmpP y.p x.p < 0) (hn : (l.map (·.p)).Nodup) : SortedR l := by
  have h1 : l.Pairwise fun x y => x.p ≠ y.p := List.pairwise_map.1 hn
  refine (h.and h1).imp fun {x y} hxy => ?_
  rw [cmp_neg] at hxy
  rcases Pfx.lt_total x.p y.p with h | h | h
  · exact h
  · exact absurd h hxy.2
  · exact absurd h hxy.1
theorem AllT_spec (t : Nat) (T : Tab) (F : Nat → Prop) (w : World) (h : TabAt w t T F) (hok : Ok T) (hn : T.cont.length < 1000000) :
    Ret Try.prog 35 #[.pointer (some ⟨t, 0, none⟩)] w fun v w' => ∃ l, SortedR l ∧ l.Perm T.cont ∧ OwnR w.heap.size w' v l ∧ Ext No w w' := by
  refine calls_ev (args := [_]) mixed Try.func35 ok_35 rfl ?_
  refine eqNil ?_
  refine Ret.mono (keys_spec t T F w h hok.b.four hok.b.n2 hn) ?_
  rintro v2 w2 ⟨h2, e2⟩
  refine Ret.mono (SortRt_spec w.heap.size v2 T.cont w2 h2 (by omega)) ?_
  rintro r w3 ⟨rfl, l, hperm, hsort, h3, e3⟩
  exact ⟨l, cmp_sorted hsort ((hperm.map _).nodup_iff.2 hok.nodup), hperm, h3, e2.andThen e3 fun k hk e ↦ by have := (World.ownsRow.lt h2 k e).1; omega⟩
end Go.Fl
