/-
  Chapter 4: the keys of a prefix at a length, as plain data; that the doubling of the reference comes to the same row.
-/
import Derived.Test.YtoenjjlicglceaaTtrie
namespace Go.Fl

def orA (a b : Adr) : Adr := ⟨a.hi ||| b.hi, a.lo ||| b.lo⟩
def placeF (x : BitVec 64) (n : Nat) : Adr := if n ≤ 64 then ⟨x <<< (64 - n), 0⟩ else ⟨x >>> (64 - (128 - n)), x <<< (128 - n)⟩
def keyA (p : Pfx) (n i : Nat) : Adr := orA p.adr (placeF (BitVec.ofNat 64 i) n)
def keyF (p : Pfx) (m : Nat) (n : Int) (i : Nat) : Pfx := ⟨(keyA p m i).hi, (keyA p m i).lo, n⟩
/-- May a prefix have keys there? -/
def mayKeys (p : Pfx) (n : Int) : Bool := rightF p && decide (p.len ≤ n) && decide (n ≤ 128) && decide (n - p.len ≤ 8)
def keysTo (p : Pfx) (m : Nat) (n : Int) : List Pfx := (List.range (2 ^ (m - p.len.toNat))).map (keyF p m n)
def keysF (p : Pfx) (n : Int) : List Pfx := if mayKeys p n = true then keysTo p n.toNat n else []

theorem or_bit (a b : Adr) (i : Nat) : (orA a b).bit i = (a.bit i || b.bit i) := by
  unfold orA Adr.bit
  simp only
  split
  · rw [BitVec.getMsbD_or]
  · rw [BitVec.getMsbD_or]
theorem place_bit (x : BitVec 64) (n : Nat) (hn : n ≤ 128) (j : Nat) : (placeF x n).bit j = (decide (j < n) && x.getLsbD (n - 1 - j)) := by
  rcases Nat.lt_or_ge j 128 with hj | hj
  · unfold placeF
    split
    · rename_i h
      unfold Adr.bit
      simp only
      split
      · rename_i h2
        rw [BitVec.getMsbD, BitVec.getLsbD_shiftLeft, decide_eq_true h2, decide_eq_true (show 64 - 1 - j < 64 by omega), Bool.true_and, Bool.true_and]
        by_cases h3 : j < n
        · rw [decide_eq_true h3, decide_eq_false (show ¬ 64 - 1 - j < 64 - n by omega), show 64 - 1 - j - (64 - n) = n - 1 - j by omega]; rfl
        · rw [decide_eq_false h3, decide_eq_true (show 64 - 1 - j < 64 - n by omega)]; rfl
      · rename_i h2
        rw [decide_eq_false (show ¬ j < n by omega)]; simp
    · rename_i h
      unfold Adr.bit
      simp only
      split
      · rename_i h2
        rw [BitVec.getMsbD, BitVec.getLsbD_ushiftRight, decide_eq_true h2, decide_eq_true (show j < n by omega), show 64 - (128 - n) + (64 - 1 - j) = n - 1 - j by omega]
      · rename_i h2
        rw [BitVec.getMsbD, BitVec.getLsbD_shiftLeft, decide_eq_true (show j - 64 < 64 by omega), decide_eq_true (show 64 - 1 - (j - 64) < 64 by omega), Bool.true_and, Bool.true_and]
        by_cases h3 : j < n
        · rw [decide_eq_true h3, decide_eq_false (show ¬ 64 - 1 - (j - 64) < 128 - n by omega), show 64 - 1 - (j - 64) - (128 - n) = n - 1 - j by omega]; rfl
        · rw [decide_eq_false h3, decide_eq_true (show 64 - 1 - (j - 64) < 128 - n by omega)]; rfl
  · rw [Adr.bit_high _ hj, decide_eq_false (show ¬ j < n by omega)]; rfl
theorem key_bit (p : Pfx) (n i : Nat) (hn : n ≤ 128) (hi : i < 2 ^ 64) (j : Nat) : (keyA p n i).bit j = (p.adr.bit j || (decide (j < n) && i.testBit (n - 1 - j))) := by
  unfold keyA
  rw [or_bit, place_bit _ _ hn]
  by_cases h : j < n
  · have : (BitVec.ofNat 64 i).getLsbD (n - 1 - j) = i.testBit (n - 1 - j) := by
      rw [BitVec.getLsbD_ofNat]
      by_cases h2 : n - 1 - j < 64
      · rw [decide_eq_true h2, Bool.true_and]
      · rw [decide_eq_false h2, Bool.false_and]
        exact (Nat.testBit_lt_two_pow (Nat.lt_of_lt_of_le hi (Nat.pow_le_pow_right (by omega) (by omega)))).symm
    rw [this]
  · rw [decide_eq_false h]; rfl
/-- One bit more: each key, and each with the bit. -/
theorem keys_double (p : Pfx) (m : Nat) (n : Int) (h1 : p.len.toNat ≤ m) (h2 : m < 128) (h3 : m - p.len.toNat ≤ 8) :
    keysTo p (m + 1) n = (keysTo p m n).flatMap fun k => [k, ⟨(withA k.adr m).hi, (withA k.adr m).lo, n⟩] := by
  have e0 : ∀ i, i < 2 ^ 9 → keyA p (m + 1) (2 * i) = keyA p m i := fun i hi => Adr.ext_bit fun j hj => by
    rw [key_bit p (m + 1) _ (by omega) (by omega), key_bit p m _ (by omega) (by omega)]
    congr 1
    by_cases h : j < m
    · rw [decide_eq_true h, decide_eq_true (by omega), show m + 1 - 1 - j = (m - 1 - j) + 1 by omega, Nat.testBit_succ, show 2 * i / 2 = i by omega]
    · rw [decide_eq_false h]
      by_cases h' : j < m + 1
      · rw [show m + 1 - 1 - j = 0 by omega, Nat.testBit_zero, show 2 * i % 2 = 0 by omega]; simp
      · rw [decide_eq_false h']; rfl
  have e1 : ∀ i, i < 2 ^ 9 → keyA p (m + 1) (2 * i + 1) = withA (keyA p m i) m := fun i hi => Adr.ext_bit fun j hj => by
    rw [key_bit p (m + 1) _ (by omega) (by omega), with_bit _ h2, key_bit p m _ (by omega) (by omega), Bool.or_assoc]
    congr 1
    by_cases h : j < m
    · rw [decide_eq_true h, decide_eq_true (by omega), decide_eq_false (show ¬ m = j by omega), show m + 1 - 1 - j = (m - 1 - j) + 1 by omega, Nat.testBit_succ, show (2 * i + 1) / 2 = i by omega]; simp
    · rw [decide_eq_false h]
      by_cases h' : j < m + 1
      · rw [show m + 1 - 1 - j = 0 by omega, Nat.testBit_zero, show (2 * i + 1) % 2 = 1 by omega, decide_eq_true h', decide_eq_true (show m = j by omega)]; simp
      · rw [decide_eq_false h', decide_eq_false (show ¬ m = j by omega)]; simp
  unfold keysTo
  have hp : 2 ^ (m - p.len.toNat) ≤ 2 ^ 9 := Nat.pow_le_pow_right (by omega) (by omega)
  rw [show m + 1 - p.len.toNat = (m - p.len.toNat) + 1 by omega, Nat.pow_succ]
  generalize 2 ^ (m - p.len.toNat) = c at hp
  induction c with
  | zero => rfl
  | succ c ih =>
    rw [show (c + 1) * 2 = c * 2 + 1 + 1 by omega, List.range_succ, List.range_succ, List.map_append, List.map_append, ih (by omega), List.range_succ, List.map_append, List.flatMap_append]
    simp only [List.map_cons, List.map_nil, List.flatMap_cons, List.flatMap_nil, List.append_nil, List.append_assoc]
    congr 1
    rw [show c * 2 = 2 * c by omega]
    unfold keyF
    rw [e0 c (by omega), e1 c (by omega)]
    rfl
theorem keys_start (p : Pfx) (n : Int) (hl : 0 ≤ p.len) (h : p.len ≤ 128) : keysTo p p.len.toNat n = [⟨p.hi, p.lo, n⟩] := by
  unfold keysTo
  rw [Nat.sub_self, Nat.pow_zero]
  have : keyA p p.len.toNat 0 = p.adr := Adr.ext_bit fun j hj => by
    rw [key_bit p _ _ (by omega) (by decide)]; simp
  show [keyF p p.len.toNat n 0] = _
  unfold keyF
  rw [this]; rfl
theorem keysTo_length (p : Pfx) (m : Nat) (n : Int) (h : m - p.len.toNat ≤ 8) : (keysTo p m n).length ≤ 256 := by
  unfold keysTo
  rw [List.length_map, List.length_range]
  exact Nat.pow_le_pow_right (by omega) h
theorem keysF_length (p : Pfx) (n : Int) : (keysF p n).length ≤ 256 := by
  unfold keysF
  split
  · rename_i h
    simp only [mayKeys, Bool.and_eq_true, decide_eq_true_eq] at h
    obtain ⟨h1, _, _⟩ := (right_iff p).1 h.1.1.1
    exact keysTo_length _ _ _ (by omega)
  · exact Nat.zero_le _
end Go.Fl
