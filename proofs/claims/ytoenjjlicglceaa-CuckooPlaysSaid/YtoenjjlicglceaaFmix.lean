/-
  Chapters 5 and 6: the given program's hash, and a key's two buckets.
-/
import Derived.Test.YtoenjjlicglceaaB0
import Derived.Test.YtoenjjlicglceaaB1
import Derived.Lib.Mul64
namespace Go.Fl
open Go.Proofs
set_option maxHeartbeats 400000
set_option maxRecDepth 100000

def mix (x : BitVec 64) : BitVec 64 :=
  let x := x + 11400714819323198485#64
  let x := (x ^^^ x >>> 30) * 13787848793156543929#64
  let x := (x ^^^ x >>> 27) * 10723151780598845931#64
  x ^^^ x >>> 31
def hash (s : BitVec 64) (p : Pfx) : BitVec 64 := mix (mix (mix (s ^^^ p.hi) ^^^ p.lo) ^^^ BitVec.ofInt 64 p.len)

theorem mix_spec (x : BitVec 64) (w : World) : Ret Try.prog 94 #[U x] w fun v w' => v = U (mix x) ∧ Ext No w w' := by
  refine calls_ev (args := [_]) mixed Try.func94 ok_94 rfl ?_
  refine addU rfl (b := 11400714819323198485#64) (by decide) ?_
  refine shrU 30 rfl rfl ?_
  refine xorU rfl rfl ?_
  refine mulU rfl (b := 13787848793156543929#64) (by decide) ?_
  refine shrU 27 rfl rfl ?_
  refine xorU rfl rfl ?_
  refine mulU rfl (b := 10723151780598845931#64) (by decide) ?_
  refine shrU 31 rfl rfl ?_
  refine xorU rfl rfl ?_
  exact And.intro rfl (Ext.refl _ _)

theorem hash_spec (s : BitVec 64) (p : Pfx) (w : World) : Ret Try.prog 130 #[U s, p.val] w fun v w' => v = U (hash s p) ∧ Ext No w w' := by
  refine calls_ev (args := [_, _]) mixed Try.func130 ok_130 rfl ?_
  refine bx (cs := _) rfl ?_
  intro w1 h1
  have hp1 : Blk w1.heap w.heap.size p.cells 35 := h1.blk
  refine draw [(0, []), (1, []), (2, []), (3, []), (4, []), (6, []), (7, []), (8, []), (11, []), (12, []), (5, [8, 12]), (9, []), (10, [12]), (13, []), (14, []), (15, []), (16, [])] (by kernel_rfl) ?_
  refine fa ?_
  refine fa ?_
  refine ld1 (hp1.cell 0) ?_
  refine xorU rfl rfl ?_
  refine fa ?_
  refine fa ?_
  refine ld1 (hp1.cell 1) ?_
  refine fa ?_
  refine ld1 (hp1.cell 2) ?_
  refine Ret.mono (mix_spec _ _) ?_
  rintro v2 w2 ⟨rfl, e2⟩
  have hp2 := e2.blk hp1 id
  refine And.intro (ld1 (hp2.cell 1) rfl) (And.intro (ld1 (hp2.cell 2) rfl) ?_)
  refine xorU rfl rfl ?_
  refine Ret.mono (mix_spec _ _) ?_
  rintro v3 w3 ⟨rfl, e3⟩
  have hp3 := e3.blk hp2 id
  refine And.intro (ld1 (hp3.cell 2) rfl) ?_
  refine toU ?_
  refine xorU rfl rfl ?_
  refine Ret.mono (mix_spec _ _) ?_
  rintro v4 w4 ⟨rfl, e4⟩
  exact And.intro rfl ((((h1.ext No).trans e2).trans e3).trans e4)

/-- The high half of a product, by halves. -/
def mulHi (x y : BitVec 64) : BitVec 64 :=
  (x >>> 32) * (y >>> 32) + ((x >>> 32) * (y &&& 4294967295#64) + ((x &&& 4294967295#64) * (y &&& 4294967295#64)) >>> 32) >>> 32 +
    ((((x >>> 32) * (y &&& 4294967295#64) + ((x &&& 4294967295#64) * (y &&& 4294967295#64)) >>> 32) &&& 4294967295#64) + (x &&& 4294967295#64) * (y >>> 32)) >>> 32

theorem mul64_spec (x y : BitVec 64) (w : World) : Ret Try.prog 165 #[U x, U y] w fun v w' => v = .tuple #[U (mulHi x y), U (x * y)] ∧ Ext No w w' := by
  refine calls_ev (args := [_, _]) mixed Try.func165 ok_165 rfl ?_
  refine andU rfl (b := 4294967295#64) (by decide) ?_
  refine shrU 32 rfl rfl ?_
  refine andU rfl (b := 4294967295#64) (by decide) ?_
  refine shrU 32 rfl rfl ?_
  refine mulU rfl rfl ?_
  refine mulU rfl rfl ?_
  refine shrU 32 rfl rfl ?_
  refine addU rfl rfl ?_
  refine andU rfl (b := 4294967295#64) (by decide) ?_
  refine shrU 32 rfl rfl ?_
  refine mulU rfl rfl ?_
  refine addU rfl rfl ?_
  refine mulU rfl rfl ?_
  refine addU rfl rfl ?_
  refine shrU 32 rfl rfl ?_
  refine addU rfl rfl ?_
  refine mulU rfl rfl ?_
  exact And.intro rfl (Ext.refl _ _)

theorem and32 (x : BitVec 64) : (x &&& 4294967295#64).toNat = x.toNat % 4294967296 := by
  rw [BitVec.toNat_and, show (4294967295#64).toNat = 2 ^ 32 - 1 from rfl, Nat.and_two_pow_sub_one_eq_mod]
theorem shr32 (x : BitVec 64) : (x >>> 32).toNat = x.toNat / 4294967296 := by
  rw [BitVec.toNat_ushiftRight, Nat.shiftRight_eq_div_pow]

theorem mulHi_toNat (x y : BitVec 64) : (mulHi x y).toNat = x.toNat * y.toNat / 18446744073709551616 := by
  have hx := x.isLt
  have hy := y.isLt
  unfold mulHi
  simp only [BitVec.toNat_add, BitVec.toNat_mul, shr32, and32]
  generalize x.toNat = a at *
  generalize y.toNat = b at *
  have key := Lib.split_mul (a / 4294967296) (a % 4294967296) (b / 4294967296) (b % 4294967296) 4294967296
  rw [Nat.div_add_mod' a 4294967296, Nat.div_add_mod' b 4294967296] at key
  rw [key]
  have h1 := Lib.half_mul_le (a := a / 4294967296) (b := b / 4294967296) (by omega) (by omega)
  have h2 := Lib.half_mul_le (a := a / 4294967296) (b := b % 4294967296) (by omega) (by omega)
  have h3 := Lib.half_mul_le (a := a % 4294967296) (b := b / 4294967296) (by omega) (by omega)
  have h4 := Lib.half_mul_le (a := a % 4294967296) (b := b % 4294967296) (by omega) (by omega)
  clear key
  generalize a / 4294967296 * (b / 4294967296) = p at *
  generalize a / 4294967296 * (b % 4294967296) = q at *
  generalize a % 4294967296 * (b / 4294967296) = r at *
  generalize a % 4294967296 * (b % 4294967296) = s at *
  omega

def reduce (x : BitVec 64) (m : Int) : Int := if m < 1 then 0 else (mulHi x (BitVec.ofInt 64 m)).toInt

theorem reduce_range (x : BitVec 64) (m : Int) (h : 1 ≤ m) (hm : m < 9223372036854775808) : 0 ≤ reduce x m ∧ reduce x m < m := by
  obtain ⟨k, rfl⟩ := Int.eq_ofNat_of_zero_le (show 0 ≤ m by omega)
  have h0 : (mulHi x (BitVec.ofInt 64 k)).toNat < k := by
    rw [mulHi_toNat]
    have : (BitVec.ofInt 64 (k : Int)).toNat = k := by
      rw [BitVec.toNat_ofInt]; omega
    rw [this]
    have hx := x.isLt
    refine Nat.div_lt_of_lt_mul ?_
    exact Nat.mul_lt_mul_of_pos_right (by omega) (by omega)
  unfold reduce
  rw [if_neg (by omega), BitVec.toInt_eq_toNat_cond, if_pos (by omega)]
  omega

theorem reduce_spec (x : BitVec 64) (m : Int) (w : World) : Ret Try.prog 131 #[U x, .int .i64 m] w fun v w' => v = .int .i64 (reduce x m) ∧ Ext No w w' := by
  refine calls_ev (args := [_, _]) mixed Try.func131 ok_131 rfl ?_
  refine TestK.mk (fun h => ?_) (fun h => ?_)
  · skip
    exact And.intro (by rw [reduce, if_pos h]; rfl) (Ext.refl _ _)
  · skip
    refine toU ?_
    refine Ret.mono (mul64_spec _ _ _) ?_
    rintro v2 w2 ⟨rfl, e2⟩
    refine toI rfl ?_
    exact And.intro (by rw [reduce, if_neg h]; rfl) e2

def bk1 (s : BitVec 64) (p : Pfx) (n : Int) : Int := reduce (mix (hash s p ^^^ 1#64)) n
def bk2 (s : BitVec 64) (p : Pfx) (n : Int) : Int := reduce (mix (hash s p ^^^ 2#64)) n

theorem pkBuckets_spec (s : BitVec 64) (p : Pfx) (n : Int) (w : World) : Ret Try.prog 98 #[U s, p.val, .int .i64 n] w fun v w' => v = .tuple #[.int .i64 (bk1 s p n), .int .i64 (bk2 s p n)] ∧ Ext No w w' := by
  refine calls_ev (args := [_, _, _]) mixed Try.func98 ok_98 rfl ?_
  refine bx (cs := _) rfl ?_
  intro w1 h1
  refine ldN (cs := p.cells) (rfl) (h1.blk.at_) ?_
  refine Ret.mono (hash_spec _ _ _) ?_
  rintro v2 w2 ⟨rfl, e2⟩
  refine xorU rfl (b := 1#64) (by decide) ?_
  refine Ret.mono (mix_spec _ _) ?_
  rintro v3 w3 ⟨rfl, e3⟩
  refine Ret.mono (reduce_spec _ _ _) ?_
  rintro v4 w4 ⟨rfl, e4⟩
  refine xorU rfl (b := 2#64) (by decide) ?_
  refine Ret.mono (mix_spec _ _) ?_
  rintro v5 w5 ⟨rfl, e5⟩
  refine Ret.mono (reduce_spec _ _ _) ?_
  rintro v6 w6 ⟨rfl, e6⟩
  exact And.intro rfl ((((((h1.ext No).trans e2).trans e3).trans e4).trans e5).trans e6)
end Go.Fl
