/-
  Chapter 12: the given program's New; the example of the law's package.
-/
import Derived.Test.YtoenjjlicglceaaFgrow
namespace Go.Fl
open Go.Proofs
set_option maxHeartbeats 400000
set_option maxRecDepth 100000

theorem bldTable {s : BitVec 64} {a : Option Addr} {n c : Nat} {K : Value → Prop} (hK : K (.agg #[U s, .slice a n c, .slice none 0 0])) : PureSem Try.prog (Instr.build 90 #[(0, U s), (1, .slice a n c)]) K :=
  PureSem.of _ (fun w => by kernel_rfl) hK

theorem New_spec (s : BitVec 64) (n : Int) (w : World) : Ret Try.prog 12 #[U s, .int .i64 n] w fun v w' =>
    Ext No w w' ∧ (((n < 1 ∨ 65536 < n) ∧ v = .tuple #[.pointer none, .int .i64 1]) ∨
      (1 ≤ n ∧ n ≤ 65536 ∧ ∃ t, v = .tuple #[.pointer (some ⟨t, 0, none⟩), .int .i64 0] ∧ TabAt w' t ⟨s, emptyBks n.toNat, []⟩ (fun k => w.heap.size ≤ k))) := by
  refine calls_ev (args := [_, _]) mixed Try.func12 ok_12 rfl ?_
  refine TestK.mk (fun h1 => ?_) (fun h1 => ?_)
  · skip
    exact And.intro (Ext.refl _ _) (.inl ⟨.inl h1, rfl⟩)
  · skip
    refine TestK.mk (fun h2 => ?_) (fun h2 => ?_)
    · skip
      exact And.intro (Ext.refl _ _) (.inl ⟨.inr h2, rfl⟩)
    · skip
      refine mk n.toNat (by omega) rfl (by omega) (by decide) ?_
      intro w3 h3
      refine bldTable ?_
      refine bx (cs := _) rfl ?_
      intro w4 h4
      have s3 := h3.size
      have hb : Blk w3.heap w.heap.size (tcells (emptyBks n.toNat)) 98 := by rw [← zero_bks]; exact h3.blk
      have e4 := h4.ext No
      have hl : (⟨s, emptyBks n.toNat, []⟩ : Tab).n = n.toNat := List.length_replicate
      exact And.intro ((h3.ext No).trans e4) (.inr ⟨by omega, by omega, w3.heap.size, rfl, w.heap.size, .slice none 0 0, by rw [hl]; exact h4.blk, e4.blk hb id, World.ownsRow_nil _ _ _ _, by omega, by simp [Value.ownBlock], by simp [Value.ownBlock], by omega, by omega, fun k hk => by cases hk⟩)

theorem num12_spec (n : Int) (w : World) : Ret Try.prog 13 #[.int .i64 n] w fun v w' => v = .int .i64 n ∧ w = w' := by
  refine calls_ev (args := [_]) mixed Try.func13 ok_13 rfl ?_
  exact And.intro rfl rfl
end Go.Fl
