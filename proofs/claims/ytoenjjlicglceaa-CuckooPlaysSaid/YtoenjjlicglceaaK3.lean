/-
  The logic of this claim's walks, part 3: whole numbers of 64 bits without a sign, as bit vectors.
-/
import Derived.Test.YtoenjjlicglceaaK2
namespace Go.Fl

abbrev U (x : BitVec 64) : Value := .int .u64 (x.toNat : Int)

theorem wrapU (z : Int) : IntKind.u64.wrap z = z % 18446744073709551616 := by simp [IntKind.wrap, IntKind.bits, IntKind.signed]
theorem ofU (a : BitVec 64) : BitVec.ofInt 64 (a.toNat : Int) = a := by simp
theorem wrapU_nat (a : BitVec 64) : IntKind.u64.wrap (a.toNat : Int) = a.toNat := by
  rw [wrapU]; have := a.isLt; omega

section
variable {P : Program} {T : TypeId} {x y : Operand} {i j : Int} {a b : BitVec 64} {K : Value → Prop}

theorem addU (ha : i = a.toNat) (hb : j = b.toNat) (hK : K (U (a + b))) : PureSem P (do eqGuard .add T x y (.int .u64 i) (.int .u64 j); binOp .add T (.int .u64 i) (.int .u64 j)) K := by
  subst ha; subst hb
  refine PureSem.of _ (fun w => ?_) hK
  simp [eqGuard, binOp, Op.intArith, wrapU, U, BitVec.toNat_add]
theorem subU (ha : i = a.toNat) (hb : j = b.toNat) (hK : K (U (a - b))) : PureSem P (do eqGuard .sub T x y (.int .u64 i) (.int .u64 j); binOp .sub T (.int .u64 i) (.int .u64 j)) K := by
  subst ha; subst hb
  refine PureSem.of _ (fun w => ?_) hK
  have h1 := a.isLt
  have h2 := b.isLt
  simp [eqGuard, binOp, Op.intArith, wrapU, U, BitVec.toNat_sub]
  omega
theorem mulU (ha : i = a.toNat) (hb : j = b.toNat) (hK : K (U (a * b))) : PureSem P (do eqGuard .mul T x y (.int .u64 i) (.int .u64 j); binOp .mul T (.int .u64 i) (.int .u64 j)) K := by
  subst ha; subst hb
  refine PureSem.of _ (fun w => ?_) hK
  simp [eqGuard, binOp, Op.intArith, wrapU, U, BitVec.toNat_mul]
theorem xorU (ha : i = a.toNat) (hb : j = b.toNat) (hK : K (U (a ^^^ b))) : PureSem P (do eqGuard .xor T x y (.int .u64 i) (.int .u64 j); binOp .xor T (.int .u64 i) (.int .u64 j)) K := by
  subst ha; subst hb
  refine PureSem.of _ (fun w => ?_) hK
  simp only [eqGuard, binOp, Op.intBits, IntKind.bits, ofU, wrapU_nat]; rfl
theorem andU (ha : i = a.toNat) (hb : j = b.toNat) (hK : K (U (a &&& b))) : PureSem P (do eqGuard .and T x y (.int .u64 i) (.int .u64 j); binOp .and T (.int .u64 i) (.int .u64 j)) K := by
  subst ha; subst hb
  refine PureSem.of _ (fun w => ?_) hK
  simp only [eqGuard, binOp, Op.intBits, IntKind.bits, ofU, wrapU_nat]; rfl
theorem orU (ha : i = a.toNat) (hb : j = b.toNat) (hK : K (U (a ||| b))) : PureSem P (do eqGuard .or T x y (.int .u64 i) (.int .u64 j); binOp .or T (.int .u64 i) (.int .u64 j)) K := by
  subst ha; subst hb
  refine PureSem.of _ (fun w => ?_) hK
  simp only [eqGuard, binOp, Op.intBits, IntKind.bits, ofU, wrapU_nat]; rfl
theorem andNotU (ha : i = a.toNat) (hb : j = b.toNat) (hK : K (U (a &&& ~~~b))) : PureSem P (do eqGuard .andNot T x y (.int .u64 i) (.int .u64 j); binOp .andNot T (.int .u64 i) (.int .u64 j)) K := by
  subst ha; subst hb
  refine PureSem.of _ (fun w => ?_) hK
  simp only [eqGuard, binOp, Op.intBits, IntKind.bits, ofU, wrapU_nat]; rfl

theorem min_pow (a : BitVec 64) (n : Nat) : a.toNat / 2 ^ (min n 64) = a.toNat / 2 ^ n := by
  rcases Nat.le_total n 64 with h | h
  · rw [Nat.min_eq_left h]
  · rw [Nat.min_eq_right h, Nat.div_eq_of_lt a.isLt, Nat.div_eq_of_lt (Nat.lt_of_lt_of_le a.isLt (Nat.pow_le_pow_right (by omega) h))]
theorem shrU {k : IntKind} (n : Nat) (ha : i = a.toNat) (hn : j = n) (hK : K (U (a >>> n))) : PureSem P (do eqGuard .shr T x y (.int .u64 i) (.int k j); binOp .shr T (.int .u64 i) (.int k j)) K := by
  subst ha; subst hn
  refine PureSem.of _ (fun w => ?_) hK
  have e : ((a.toNat : Int)).fdiv (2 ^ (min n 64)) = ((a >>> n).toNat : Int) := by
    rw [BitVec.toNat_ushiftRight, Nat.shiftRight_eq_div_pow, ← min_pow]
    rw [Int.fdiv_eq_ediv_of_nonneg _ (by exact_mod_cast Nat.zero_le (2 ^ min n 64))]
    norm_cast
  have e0 : ¬ ((n : Int) < 0) := by omega
  simp only [eqGuard, binOp, Op.shift, if_neg e0, IntKind.bits, Int.toNat_natCast, e]; rfl
theorem shlU {k : IntKind} (n : Nat) (ha : i = a.toNat) (hn : j = n) (hK : K (U (a <<< n))) : PureSem P (do eqGuard .shl T x y (.int .u64 i) (.int k j); binOp .shl T (.int .u64 i) (.int k j)) K := by
  subst ha; subst hn
  refine PureSem.of _ (fun w => ?_) hK
  have e : IntKind.u64.wrap ((a.toNat : Int) * 2 ^ (min n 64)) = ((a <<< n).toNat : Int) := by
    rw [wrapU, BitVec.toNat_shiftLeft, Nat.shiftLeft_eq]
    rcases Nat.le_total n 64 with h | h
    · rw [Nat.min_eq_left h, Int.natCast_emod, Int.natCast_mul, Int.natCast_pow]; rfl
    · rw [Nat.min_eq_right h]
      have h1 : a.toNat * 2 ^ n % 2 ^ 64 = 0 := by
        obtain ⟨m, rfl⟩ := Nat.exists_eq_add_of_le h
        rw [Nat.pow_add, Nat.mul_comm (2 ^ 64), ← Nat.mul_assoc]
        exact Nat.mul_mod_left _ _
      rw [h1]
      have : (a.toNat : Int) * 2 ^ 64 % 18446744073709551616 = 0 := Int.mul_emod_left _ _
      rw [this]; rfl
  have e0 : ¬ ((n : Int) < 0) := by omega
  simp only [eqGuard, binOp, Op.shift, if_neg e0, IntKind.bits, Int.toNat_natCast, e]; rfl

/-- int to uint64 (or uint): the number's 64 bits. -/
class IntT (P : Program) (T : Nat) (k : outParam IntKind) : Prop where
  u : P.underlying T = some (.int k)
theorem toU {S D : TypeId} {ks k : IntKind} [h1 : IntT P S ks] [h2 : IntT P D .u64] (hK : K (U (BitVec.ofInt 64 i))) : PureSem P (convert S D (.int k i)) K := by
  refine PureSem.of _ (fun w => ?_) hK
  have e : IntKind.u64.wrap i = ((BitVec.ofInt 64 i).toNat : Int) := by
    rw [wrapU, BitVec.toNat_ofInt, Int.toNat_of_nonneg (Int.emod_nonneg _ (by decide))]; rfl
  simp only [convert, Sem.run_bind, run_underlying h1.u, run_underlying h2.u, Result.andThen_ok, Conv.intToInt, e]; rfl
theorem toI {S D : TypeId} {ks : IntKind} [h1 : IntT P S ks] [h2 : IntT P D .i64] (ha : i = a.toNat) (hK : K (.int .i64 a.toInt)) : PureSem P (convert S D (.int .u64 i)) K := by
  subst ha
  refine PureSem.of _ (fun w => ?_) hK
  have e : IntKind.i64.wrap (a.toNat : Int) = a.toInt := by
    rw [IntKind.wrap_i64, BitVec.toInt_eq_toNat_cond]
    have := a.isLt
    split <;> omega
  simp only [convert, Sem.run_bind, run_underlying h1.u, run_underlying h2.u, Result.andThen_ok, Conv.intToInt, e]; rfl
end
end Go.Fl
