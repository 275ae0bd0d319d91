/-
  The document's hash, and a key's two buckets: the same as the program's.
-/
import Derived.Test.YtoenjjlicglceaaFmix
namespace Go.Fl
open Go.Proofs
set_option maxHeartbeats 4000000
set_option maxRecDepth 100000

theorem rmix_spec (x : BitVec 64) (w : World) : Ret Try.prog 116 #[U x] w fun v w' => v = U (mix x) ∧ Ext No w w' := by
  refine calls_ev (args := [_]) mixed Try.func116 ok_116 rfl ?_
  refine addU rfl (b := 11400714819323198485#64) (by decide) ?_
  refine shrU 30 rfl rfl ?_
  refine xorU rfl rfl ?_
  refine mulU rfl (b := 13787848793156543929#64) (by decide) ?_
  refine shrU 27 rfl rfl ?_
  refine xorU rfl rfl ?_
  refine mulU rfl (b := 10723151780598845931#64) (by decide) ?_
  refine shrU 31 rfl rfl ?_
  refine xorU rfl rfl ?_
  exact And.intro rfl (Ext.refl _ _)
theorem rhash_spec (s : BitVec 64) (p : Pfx) (w : World) : Ret Try.prog 114 #[U s, p.val] w fun v w' => v = U (hash s p) ∧ Ext No w w' := by
  refine calls_ev (args := [_, _]) mixed Try.func114 ok_114 rfl ?_
  refine bx (cs := _) rfl ?_
  intro w1 h1
  have hp1 : Blk w1.heap w.heap.size p.cells 35 := h1.blk
  refine draw [(0, []), (1, []), (2, []), (3, []), (4, []), (6, []), (7, []), (8, []), (11, []), (12, []), (5, [8, 12]), (9, []), (10, [12]), (13, []), (14, []), (15, []), (16, [])] (by kernel_rfl) ?_
  refine fa ?_
  refine fa ?_
  refine ld1 (hp1.cell 0) ?_
  refine xorU rfl rfl ?_
  refine fa ?_
  refine fa ?_
  refine ld1 (hp1.cell 1) ?_
  refine fa ?_
  refine ld1 (hp1.cell 2) ?_
  refine Ret.mono (rmix_spec _ _) ?_
  rintro v2 w2 ⟨rfl, e2⟩
  have hp2 := e2.blk hp1 id
  refine And.intro (ld1 (hp2.cell 1) rfl) (And.intro (ld1 (hp2.cell 2) rfl) ?_)
  refine xorU rfl rfl ?_
  refine Ret.mono (rmix_spec _ _) ?_
  rintro v3 w3 ⟨rfl, e3⟩
  have hp3 := e3.blk hp2 id
  refine And.intro (ld1 (hp3.cell 2) rfl) ?_
  refine toU ?_
  refine xorU rfl rfl ?_
  refine Ret.mono (rmix_spec _ _) ?_
  rintro v4 w4 ⟨rfl, e4⟩
  exact And.intro rfl ((((h1.ext No).trans e2).trans e3).trans e4)
theorem mulHi_comm (x y : BitVec 64) : (x >>> 32) * (y >>> 32) + ((x >>> 32) * (y &&& 4294967295#64) + ((x &&& 4294967295#64) * (y &&& 4294967295#64)) >>> 32) >>> 32 +
    ((x &&& 4294967295#64) * (y >>> 32) + (((x >>> 32) * (y &&& 4294967295#64) + ((x &&& 4294967295#64) * (y &&& 4294967295#64)) >>> 32) &&& 4294967295#64)) >>> 32 = mulHi x y := by
  unfold mulHi
  rw [BitVec.add_comm ((x &&& 4294967295#64) * (y >>> 32))]
theorem rreduce_spec (x : BitVec 64) (m : Int) (w : World) : Ret Try.prog 115 #[U x, .int .i64 m] w fun v w' => v = .int .i64 (reduce x m) ∧ Ext No w w' := by
  refine calls_ev (args := [_, _]) mixed Try.func115 ok_115 rfl ?_
  refine TestK.mk (fun h => ?_) (fun h => ?_)
  · skip
    exact And.intro (by rw [reduce, if_pos h]; rfl) (Ext.refl _ _)
  · skip
    refine toU ?_
    refine shrU 32 rfl rfl ?_
    refine andU rfl (b := 4294967295#64) (by decide) ?_
    refine shrU 32 rfl rfl ?_
    refine andU rfl (b := 4294967295#64) (by decide) ?_
    refine mulU rfl rfl ?_
    refine mulU rfl rfl ?_
    refine shrU 32 rfl rfl ?_
    refine addU rfl rfl ?_
    refine mulU rfl rfl ?_
    refine andU rfl (b := 4294967295#64) (by decide) ?_
    refine addU rfl rfl ?_
    refine mulU rfl rfl ?_
    refine shrU 32 rfl rfl ?_
    refine addU rfl rfl ?_
    refine shrU 32 rfl rfl ?_
    refine addU rfl rfl ?_
    refine toI rfl ?_
    exact And.intro (by rw [reduce, if_neg h, ← mulHi_comm]; rfl) (Ext.refl _ _)
theorem rBuckets_spec (s : BitVec 64) (p : Pfx) (n : Int) (w : World) : Ret Try.prog 76 #[U s, p.val, .int .i64 n] w fun v w' => v = .tuple #[.int .i64 (bk1 s p n), .int .i64 (bk2 s p n)] ∧ Ext No w w' := by
  refine calls_ev (args := [_, _, _]) mixed Try.func76 ok_76 rfl ?_
  refine bx (cs := _) rfl ?_
  intro w1 h1
  refine ldN (cs := p.cells) (rfl) (h1.blk.at_) ?_
  refine Ret.mono (rhash_spec _ _ _) ?_
  rintro v2 w2 ⟨rfl, e2⟩
  refine xorU rfl (b := 1#64) (by decide) ?_
  refine Ret.mono (rmix_spec _ _) ?_
  rintro v3 w3 ⟨rfl, e3⟩
  refine Ret.mono (rreduce_spec _ _ _) ?_
  rintro v4 w4 ⟨rfl, e4⟩
  refine xorU rfl (b := 2#64) (by decide) ?_
  refine Ret.mono (rmix_spec _ _) ?_
  rintro v5 w5 ⟨rfl, e5⟩
  refine Ret.mono (rreduce_spec _ _ _) ?_
  rintro v6 w6 ⟨rfl, e6⟩
  exact And.intro rfl ((((((h1.ext No).trans e2).trans e3).trans e4).trans e5).trans e6)
end Go.Fl
