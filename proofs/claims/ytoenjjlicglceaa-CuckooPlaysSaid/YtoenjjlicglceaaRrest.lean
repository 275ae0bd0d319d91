/-
  Chapter 12: the document's table: New, Size, All, Get, Delete.
-/
import Derived.Test.YtoenjjlicglceaaRgrow
namespace Go.Fl
open Go.Proofs
set_option maxHeartbeats 4000000
set_option maxRecDepth 100000

theorem bldRTable {s : BitVec 64} {a : Option Addr} {n c : Nat} {K : Value → Prop} (hK : K (.agg #[U s, .slice a n c, .slice none 0 0])) : PureSem Try.prog (Instr.build 116 #[(0, U s), (1, .slice a n c)]) K :=
  PureSem.of _ (fun w => by kernel_rfl) hK
theorem rNew_spec (s : BitVec 64) (n : Int) (w : World) : Ret Try.prog 29 #[U s, .int .i64 n] w fun v w' =>
    Ext No w w' ∧ (((n < 1 ∨ 65536 < n) ∧ v = .tuple #[.pointer none, .int .i64 1]) ∨
      (1 ≤ n ∧ n ≤ 65536 ∧ ∃ t, v = .tuple #[.pointer (some ⟨t, 0, none⟩), .int .i64 0] ∧ RTabAt w' t ⟨s, emptyBks n.toNat, []⟩ (fun k => w.heap.size ≤ k))) := by
  refine calls_ev (args := [_, _]) mixed Try.func29 ok_29 rfl ?_
  refine TestK.mk (fun h1 => ?_) (fun h1 => ?_)
  · skip
    exact And.intro (Ext.refl _ _) (.inl ⟨.inl h1, rfl⟩)
  · skip
    refine TestK.mk (fun h2 => ?_) (fun h2 => ?_)
    · skip
      exact And.intro (Ext.refl _ _) (.inl ⟨.inr h2, rfl⟩)
    · skip
      refine mk n.toNat (by omega) rfl (by omega) (by decide) ?_
      intro w3 h3
      refine bldRTable ?_
      refine bx (cs := _) rfl ?_
      intro w4 h4
      have s3 := h3.size
      have hb : Blk w3.heap w.heap.size (rtcells (emptyBks n.toNat)) 121 := by rw [← zero_rbks]; exact h3.blk
      have e4 := h4.ext No
      have hl : (⟨s, emptyBks n.toNat, []⟩ : Tab).n = n.toNat := List.length_replicate
      exact And.intro ((h3.ext No).trans e4) (.inr ⟨by omega, by omega, w3.heap.size, rfl, w.heap.size, .slice none 0 0, by rw [hl]; exact h4.blk, e4.blk hb id, OwnR.nil _ _, by omega, by simp [Value.ownBlock], by simp [Value.ownBlock], by omega, by omega, fun k hk => by cases hk⟩)

theorem rSize_spec (t : Nat) (T : Tab) (F : Nat → Prop) (w : World) (h : RTabAt w t T F) :
    Ret Try.prog 33 #[.pointer (some ⟨t, 0, none⟩)] w fun v w' => v = .tuple #[U T.seed, .int .i64 T.n, .int .i64 T.stash.length] ∧ Ext No w w' := by
  obtain ⟨b, sv, ht, hb, hv, _⟩ := h
  obtain ⟨a, c, rfl⟩ := own_slice hv
  refine calls_ev (args := [_]) mixed Try.func33 ok_33 rfl ?_
  refine fa ?_
  refine ld1 (ht.cell 0) ?_
  refine fa ?_
  refine ld1 (ht.cell 1) ?_
  refine lenS ?_
  refine fa ?_
  refine ld1 (ht.cell 2) ?_
  refine lenS ?_
  exact And.intro rfl (Quiet.drew w).ext

theorem SameInts_spec (l : List Nat) (g g' : Nat) (w : World) (h : Blk w.heap g (l.map fun i : Nat => Value.int .i64 i) 3) (h' : Blk w.heap g' (l.map fun i : Nat => Value.int .i64 i) 3) (hn : l.length ≤ 2) :
    Ret Try.prog 37 #[.slice (some ⟨g, 0, none⟩) l.length l.length, .slice (some ⟨g', 0, none⟩) l.length l.length] w fun r w' => r = .bool true ∧ Ext No w w' := by
  refine calls_ev (args := [_, _]) mixed Try.func37 ok_37 rfl ?_
  refine lenS ?_
  refine lenS ?_
  refine TestK.mk (fun hne => ?_) (fun hne => ?_)
  · skip
    refine loop [0, 1, 5] (fun k vs w' => ∃ i : Nat, i ≤ l.length ∧ k = l.length - i ∧ vs = [.slice (some ⟨g, 0, none⟩) l.length l.length, .slice (some ⟨g', 0, none⟩) l.length l.length, .int .i64 i] ∧ Ext No w w') l.length _ rfl ⟨0, by omega, rfl, rfl, Ext.refl _ _⟩ ?_
    rintro k vs w2 ⟨i, hi, rfl, rfl, e2⟩
    refine lenS ?_
    refine TestK.mk (fun hlt => ?_) (fun hlt => ?_)
    · skip
      have hi' : i < l.length := by omega
      have hc : (l.map fun i : Nat => Value.int .i64 i)[0 + i]? = some (.int .i64 l[i]) := by rw [Nat.zero_add, List.getElem?_map, List.getElem?_eq_getElem hi']; rfl
      refine iaS1 (i) (rfl) (by omega) ?_
      refine ld1 (((e2.blk h id).cell _).trans hc) ?_
      refine iaS1 (i) (rfl) (by omega) ?_
      refine ld1 (((e2.blk h' id).cell _).trans hc) ?_
      refine TestK.mk (fun heq => ?_) (fun heq => ?_)
      · skip
        refine add64 (by omega) (by omega) ?_
        refine again (l.length - (i + 1)) (by omega) _ rfl ⟨i + 1, by omega, rfl, rfl, e2.trans (Quiet.drew w2).ext⟩
      · skip
        exact absurd rfl heq
    · skip
      exact ⟨rfl, e2⟩
  · skip
    exact absurd rfl hne
end Go.Fl
