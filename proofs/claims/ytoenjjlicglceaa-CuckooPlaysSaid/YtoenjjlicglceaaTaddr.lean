/-
  Chapter 1: addresses as rows of bits: cut, with a bit, right prefixes, who has whom.
-/
import Derived.Test.YtoenjjlicglceaaB0
namespace Go.Fl

structure Adr where
  hi : BitVec 64
  lo : BitVec 64
  deriving DecidableEq, Inhabited
abbrev Adr.val (a : Adr) : Value := .agg #[U a.hi, U a.lo]
def Adr.cells (a : Adr) : List Value := [U a.hi, U a.lo]
def Pfx.adr (p : Pfx) : Adr := ⟨p.hi, p.lo⟩
def Adr.bit (a : Adr) (i : Nat) : Bool := if i < 64 then a.hi.getMsbD i else a.lo.getMsbD (i - 64)
def clamp (n : Int) : Nat := (max 0 (min n 128)).toNat
def cutA (a : Adr) (n : Int) : Adr := ⟨a.hi &&& ~~~(18446744073709551615#64 >>> min (clamp n) 64), a.lo &&& ~~~(18446744073709551615#64 >>> (clamp n - 64))⟩
def withA (a : Adr) (i : Nat) : Adr := if i < 64 then ⟨a.hi ||| 1#64 <<< (63 - i), a.lo⟩ else ⟨a.hi, a.lo ||| 1#64 <<< (127 - i)⟩
def rightF (p : Pfx) : Bool := decide (0 ≤ p.len) && decide (p.len ≤ 128) && decide (cutA p.adr p.len = p.adr)
def hasF (p : Pfx) (a : Adr) : Bool := rightF p && decide (cutA a p.len = p.adr)

theorem ones_bit (k i : Nat) (h : i < 64) : (18446744073709551615#64 >>> k).getMsbD i = decide (k ≤ i) := by
  have e : (18446744073709551615#64 : BitVec 64) = BitVec.allOnes 64 := by decide
  rw [e, BitVec.getMsbD, BitVec.getLsbD_ushiftRight, BitVec.getLsbD_allOnes]
  simp only [h, decide_true, Bool.true_and, decide_eq_decide]
  omega
theorem Adr.bit_high (a : Adr) {i : Nat} (h : 128 ≤ i) : a.bit i = false := by
  unfold Adr.bit
  rw [if_neg (by omega), BitVec.getMsbD]
  have : decide (i - 64 < 64) = false := decide_eq_false (by omega)
  rw [this]; rfl
theorem Adr.ext_bit {a b : Adr} (h : ∀ i, i < 128 → a.bit i = b.bit i) : a = b := by
  rcases a with ⟨a1, a2⟩
  rcases b with ⟨b1, b2⟩
  have h1 : a1 = b1 := BitVec.eq_of_getMsbD_eq fun i hi => by
    have := h i (by omega)
    unfold Adr.bit at this
    rwa [if_pos hi, if_pos hi] at this
  have h2 : a2 = b2 := BitVec.eq_of_getMsbD_eq fun i hi => by
    have := h (i + 64) (by omega)
    unfold Adr.bit at this
    rwa [if_neg (by omega), if_neg (by omega), Nat.add_sub_cancel] at this
  rw [h1, h2]
theorem cut_bit (a : Adr) (n : Int) (i : Nat) : (cutA a n).bit i = (a.bit i && decide ((i : Int) < n)) := by
  rcases Nat.lt_or_ge i 128 with hi | hi
  · unfold Adr.bit cutA
    simp only
    split
    · rename_i h
      rw [BitVec.getMsbD_and, BitVec.getMsbD_not, ones_bit _ _ h]
      simp only [h, decide_true, Bool.true_and]
      congr 1
      unfold clamp
      rw [← decide_not, decide_eq_decide]
      omega
    · rename_i h
      rw [BitVec.getMsbD_and, BitVec.getMsbD_not, ones_bit _ _ (by omega)]
      simp only [show i - 64 < 64 by omega, decide_true, Bool.true_and]
      congr 1
      unfold clamp
      rw [← decide_not, decide_eq_decide]
      omega
  · rw [Adr.bit_high _ hi, Adr.bit_high _ hi]; rfl
theorem one_bit (k i : Nat) (hk : k < 64) (hi : i < 64) : (1#64 <<< (63 - k)).getMsbD i = decide (k = i) := by
  rw [BitVec.getMsbD, BitVec.getLsbD_shiftLeft, BitVec.getLsbD_one]
  simp only [hi, decide_true, Bool.true_and]
  rw [Bool.eq_iff_iff]
  simp
  omega
theorem with_bit (a : Adr) {k : Nat} (hk : k < 128) (i : Nat) : (withA a k).bit i = (a.bit i || decide (k = i)) := by
  rcases Nat.lt_or_ge i 128 with hi | hi
  · unfold withA
    by_cases h1 : k < 64
    · rw [if_pos h1]
      unfold Adr.bit
      simp only
      by_cases h2 : i < 64
      · rw [if_pos h2, if_pos h2, BitVec.getMsbD_or, one_bit k i h1 h2]
      · rw [if_neg h2, if_neg h2, decide_eq_false (by omega), Bool.or_false]
    · rw [if_neg h1]
      unfold Adr.bit
      simp only
      by_cases h2 : i < 64
      · rw [if_pos h2, if_pos h2, decide_eq_false (by omega), Bool.or_false]
      · rw [if_neg h2, if_neg h2, BitVec.getMsbD_or, show 127 - k = 63 - (k - 64) by omega, one_bit (k - 64) (i - 64) (by omega) (by omega)]
        congr 1
        rw [decide_eq_decide]; omega
  · rw [Adr.bit_high _ hi, Adr.bit_high _ hi, decide_eq_false (by omega)]; rfl
theorem cut_zero (a : Adr) : cutA a 0 = ⟨0, 0⟩ := Adr.ext_bit fun i hi => by
  rw [cut_bit, decide_eq_false (by omega), Bool.and_false]
  unfold Adr.bit
  split <;> simp
theorem cut_succ (a : Adr) {i : Nat} (hi : i < 128) : cutA a ((i + 1 : Nat) : Int) = if a.bit i = true then withA (cutA a i) i else cutA a i := by
  refine Adr.ext_bit fun j hj => ?_
  split
  · rename_i h
    rw [cut_bit, with_bit _ hi, cut_bit]
    by_cases e : i = j
    · subst e
      rw [h, decide_eq_true (show ((i : Nat) : Int) < ((i + 1 : Nat) : Int) by omega)]; simp
    · rw [decide_eq_false e, Bool.or_false]
      congr 1
      rw [decide_eq_decide]; omega
  · rename_i h
    rw [cut_bit, cut_bit]
    by_cases e : i = j
    · subst e
      have : a.bit i = false := by simpa using h
      rw [this]; rfl
    · congr 1
      rw [decide_eq_decide]; omega
theorem cut_cap (a : Adr) (n : Int) : cutA a n = cutA a (clamp n : Nat) := by
  refine Adr.ext_bit fun j hj => ?_
  rw [cut_bit, cut_bit]
  congr 1
  unfold clamp
  rw [decide_eq_decide]; omega
theorem bit_int (x : BitVec 64) (n : Nat) : ((x >>> n) &&& 1#64).toInt = if x.getLsbD n = true then 1 else 0 := by
  have h : ((x >>> n) &&& 1#64) = if x.getLsbD n = true then 1#64 else 0#64 := by
    refine BitVec.eq_of_getLsbD_eq fun i hi => ?_
    rw [BitVec.getLsbD_and, BitVec.getLsbD_ushiftRight, BitVec.getLsbD_one]
    by_cases e : i = 0
    · subst e
      cases x.getLsbD n <;> simp
    · split <;> simp [e, BitVec.getLsbD_one]
  rw [h]
  split <;> rfl
end Go.Fl
