/-
  Chapter 18, plain: an address has a key of a level just if it has a route of its lengths, and then with the hop of the longest.
-/
import Derived.Test.YtoenjjlicglceaaTcover
import Derived.Test.YtoenjjlicglceaaFcompact
namespace Go.Fl
open Go.Proofs

theorem bits_exist (f : Nat → Bool) : ∀ k, ∃ i, i < 2 ^ k ∧ ∀ t, t < k → i.testBit t = f t
  | 0 => ⟨0, by decide, fun t h => by omega⟩
  | k + 1 => by
    obtain ⟨i, h1, h2⟩ := bits_exist f k
    by_cases hf : f k = true
    · refine ⟨2 ^ k + i, by rw [Nat.pow_succ]; omega, fun t ht => ?_⟩
      rcases Nat.lt_or_ge t k with h | h
      · rw [Nat.testBit_two_pow_add_gt h, h2 t h]
      · obtain rfl : t = k := by omega
        rw [Nat.testBit_two_pow_add_eq, Nat.testBit_lt_two_pow h1, hf]; rfl
    · refine ⟨i, by rw [Nat.pow_succ]; omega, fun t ht => ?_⟩
      rcases Nat.lt_or_ge t k with h | h
      · exact h2 t h
      · obtain rfl : t = k := by omega
        rw [Nat.testBit_lt_two_pow h1]; simpa using hf

theorem cutP_eq {p q : Pfx} (hl : p.len = q.len) (h : p.adr = q.adr) : p = q := by
  rcases p with ⟨a, b, c⟩; rcases q with ⟨a', b', c'⟩
  simp only [Pfx.adr, Adr.mk.injEq] at h
  simp only at hl
  rw [h.1, h.2, hl]

theorem mem_keysF {p : Pfx} {a : Adr} {m : Nat} (hp : rightF p = true) (h1 : p.len ≤ m) (h2 : m ≤ 128) (h3 : m - p.len.toNat ≤ 8) : cutP a m ∈ keysF p m ↔ p = cutP a p.len.toNat := by
  obtain ⟨hl0, hl1, hcut⟩ := (right_iff p).1 hp
  have hmay : mayKeys p m = true := by simp [mayKeys, hp]; omega
  have hpb : ∀ j, p.len.toNat ≤ j → p.adr.bit j = false := fun j hj => by
    rw [← hcut, cut_bit, decide_eq_false (by omega), Bool.and_false]
  have h64 : ∀ i, i < 2 ^ (m - p.len.toNat) → i < 2 ^ 64 := fun i hi => Nat.lt_of_lt_of_le hi (Nat.pow_le_pow_right (by omega) (by omega))
  have hlow : ∀ i, i < 2 ^ (m - p.len.toNat) → ∀ j, j < p.len.toNat → i.testBit (m - 1 - j) = false := fun i hi j hj =>
    Nat.testBit_lt_two_pow (Nat.lt_of_lt_of_le hi (Nat.pow_le_pow_right (by omega) (by omega)))
  unfold keysF keysTo
  rw [if_pos hmay, Int.toNat_natCast, List.mem_map]
  constructor
  · rintro ⟨i, hi, e⟩
    rw [List.mem_range] at hi
    refine cutP_eq (by show p.len = ((p.len.toNat : Nat) : Int); omega) (Adr.ext_bit fun j hj => ?_)
    show p.adr.bit j = (cutA a (p.len.toNat : Nat)).bit j
    rw [cut_bit]
    have ha : (keyA p m i).bit j = (cutA a m).bit j := by
      have h := congrArg Pfx.adr e
      have h' : keyA p m i = cutA a m := h
      rw [h']
    rw [key_bit p m i h2 (h64 i hi), cut_bit] at ha
    by_cases hjl : j < p.len.toNat
    · rw [hlow i hi j hjl, Bool.and_false, Bool.or_false, decide_eq_true (show (j : Int) < m by omega), Bool.and_true] at ha
      rw [ha, decide_eq_true (by omega), Bool.and_true]
    · rw [hpb j (by omega), decide_eq_false (by omega), Bool.and_false]
  · intro e
    have hab : ∀ j, j < p.len.toNat → p.adr.bit j = a.bit j := fun j hj => by
      have h : p.adr = cutA a (p.len.toNat : Nat) := congrArg Pfx.adr e
      rw [h, cut_bit, decide_eq_true (by omega), Bool.and_true]
    obtain ⟨i, hi, hb⟩ := bits_exist (fun t => a.bit (m - 1 - t)) (m - p.len.toNat)
    refine ⟨i, List.mem_range.2 hi, cutP_eq rfl (Adr.ext_bit fun j hj => ?_)⟩
    show (keyA p m i).bit j = (cutA a m).bit j
    rw [key_bit p m i h2 (h64 i hi), cut_bit]
    by_cases hjl : j < p.len.toNat
    · rw [hlow i hi j hjl, Bool.and_false, Bool.or_false, hab j hjl, decide_eq_true (show (j : Int) < m by omega), Bool.and_true]
    · rw [hpb j (by omega), Bool.false_or]
      by_cases hjm : j < m
      · rw [decide_eq_true hjm, Bool.true_and, hb (m - 1 - j) (by omega), show m - 1 - (m - 1 - j) = j by omega, decide_eq_true (show (j : Int) < m by omega), Bool.and_true]
      · rw [decide_eq_false hjm, Bool.false_and, decide_eq_false (show ¬ (j : Int) < m by omega), Bool.and_false]

theorem find_some {l : List Rt} {p : Pfx} (h : ∃ r ∈ l, r.p = p) : ∃ i : Nat, findF l p = i ∧ ∃ hi : i < l.length, l[i].p = p := by
  unfold findF
  cases hf : firstI (fun r : Rt => decide (r.p = p)) l 0 with
  | none =>
    obtain ⟨r, hr, e⟩ := h
    have := firstI_all _ _ _ hf r hr
    simp [e] at this
  | some i =>
    obtain ⟨_, h1, h2, _⟩ := firstI_some _ _ _ _ hf
    exact ⟨i, rfl, by simpa using h1, by simpa using h2⟩
theorem find_none {l : List Rt} {p : Pfx} (h : ∀ r ∈ l, r.p ≠ p) : findF l p = -1 := by
  unfold findF
  cases hf : firstI (fun r : Rt => decide (r.p = p)) l 0 with
  | none => rfl
  | some i =>
    obtain ⟨_, h1, h2, _⟩ := firstI_some _ _ _ _ hf
    exact absurd (by simpa using h2) (h _ (List.getElem_mem h1))

theorem cand_cut {a : Adr} {low : Int} {m : Nat} {r : Rt} : cand (cutA a m) low m r = cand a low m r := by
  have h : cand (cutA a m) low m r = true ↔ cand a low m r = true := by
    rw [cand_iff, cand_iff]
    constructor
    · rintro ⟨h1, h2, h3, h4, h5⟩
      refine ⟨h1, h2, h3, h4, ?_⟩
      have e : cutP (cutA a m) r.p.len.toNat = cutP a r.p.len.toNat := by
        refine cutP_eq rfl (Adr.ext_bit fun j hj => ?_)
        show (cutA (cutA a m) (r.p.len.toNat : Nat)).bit j = (cutA a (r.p.len.toNat : Nat)).bit j
        rw [cut_bit, cut_bit, cut_bit]
        by_cases hj : (j : Int) < (r.p.len.toNat : Nat)
        · rw [decide_eq_true (show (j : Int) < m by omega), Bool.and_true]
        · rw [decide_eq_false hj, Bool.and_false, Bool.and_false]
      rw [e] at h5; exact h5
    · rintro ⟨h1, h2, h3, h4, h5⟩
      refine ⟨h1, h2, h3, h4, ?_⟩
      have e : cutP (cutA a m) r.p.len.toNat = cutP a r.p.len.toNat := by
        refine cutP_eq rfl (Adr.ext_bit fun j hj => ?_)
        show (cutA (cutA a m) (r.p.len.toNat : Nat)).bit j = (cutA a (r.p.len.toNat : Nat)).bit j
        rw [cut_bit, cut_bit, cut_bit]
        by_cases hj : (j : Int) < (r.p.len.toNat : Nat)
        · rw [decide_eq_true (show (j : Int) < m by omega), Bool.and_true]
        · rw [decide_eq_false hj, Bool.and_false, Bool.and_false]
      rw [e]; exact h5
  cases hc : cand a low m r with
  | true => exact h.2 hc
  | false => cases hc' : cand (cutA a m) low m r with
    | true => rw [h.1 hc'] at hc; cases hc
    | false => rfl
theorem longGo_congr {a b : Adr} {low high : Int} (h : ∀ r, cand a low high r = cand b low high r) : ∀ (l : List Rt) (i : Nat) (best bl : Int), longGo a low high l i best bl = longGo b low high l i best bl
  | [], i, best, bl => rfl
  | r :: l, i, best, bl => by
    unfold longGo
    rw [h r]
    split
    · exact longGo_congr h l _ _ _
    · exact longGo_congr h l _ _ _

theorem all_law (l : List Rt) (a : Adr) (low : Int) (m : Nat) (hlow : -1 ≤ low) (hm : m ≤ 128) (hlm : low < m) (h8 : m - low ≤ 8) (hr : ∀ r ∈ l, rightF r.p = true) :
    (findF (setF l low m) (cutP a m) = -1 ∧ longF (sortedF l) a low m = -1) ∨
    ∃ i j : Nat, findF (setF l low m) (cutP a m) = i ∧ longF (sortedF l) a low m = j ∧ ∃ (hi : i < (setF l low m).length) (hj : j < (sortedF l).length), (setF l low m)[i].hop = (sortedF l)[j].hop := by
  obtain ⟨f1, f2⟩ := fold_into (fun k => (hopF (sortedF l) k low).getD 0) (keysOf (sortedF l) low m)
  have hset : setF l low m = (keysOf (sortedF l) low m).foldl (fun out k => intoF out ⟨k, (hopF (sortedF l) k low).getD 0⟩) [] := by unfold setF; rw [if_pos hlm]
  rw [← hset] at f1 f2
  have hsr : ∀ r ∈ sortedF l, rightF r.p = true := fun r hr' => by
    have h1 := lastHop_mem (((sortedF_ok l).2 r).1 hr')
    exact hr _ h1
  have hmem : cutP a m ∈ keysOf (sortedF l) low m ↔ ∃ r ∈ sortedF l, cand a low m r = true := by
    unfold keysOf
    rw [List.mem_flatMap]
    constructor
    · rintro ⟨r, hr', hk⟩
      refine ⟨r, hr', ?_⟩
      split at hk
      · rename_i hin
        simp only [inLen, Bool.and_eq_true, decide_eq_true_eq] at hin
        obtain ⟨hl0, hl1, _⟩ := (right_iff r.p).1 (hsr r hr')
        exact cand_iff.2 ⟨hin.1, hin.2, hl0, hl1, (mem_keysF (hsr r hr') hin.2 hm (by omega)).1 hk⟩
      · cases hk
    · rintro ⟨r, hr', hc⟩
      obtain ⟨h1, h2, h3, h4, h5⟩ := cand_iff.1 hc
      refine ⟨r, hr', ?_⟩
      rw [if_pos (by simp only [inLen, Bool.and_eq_true, decide_eq_true_eq]; exact ⟨h1, h2⟩)]
      exact (mem_keysF (hsr r hr') h2 hm (by omega)).2 h5
  rcases longF_spec (sortedF l) a low m with ⟨hl, hn⟩ | ⟨b, hl, hb, hcb, _⟩
  · refine .inl ⟨find_none fun r hr' e => ?_, hl⟩
    obtain ⟨k, hk, rfl⟩ := (f2 r).1 hr'
    have e' : k = cutP a m := e
    subst e'
    obtain ⟨r, hr1, hc⟩ := hmem.1 hk
    rw [hn r hr1] at hc; cases hc
  · have hin := (f2 _).2 ⟨_, hmem.2 ⟨_, List.getElem_mem hb, hcb⟩, rfl⟩
    obtain ⟨i, hi1, hi, hi2⟩ := find_some ⟨_, hin, rfl⟩
    refine .inr ⟨i, b, hi1, hl, hi, hb, ?_⟩
    obtain ⟨k, hk, hke⟩ := (f2 _).1 (List.getElem_mem hi)
    have hk' : k = cutP a m := by rw [hke] at hi2; exact hi2
    subst hk'
    rw [hke]
    show (hopF (sortedF l) (cutP a m) low).getD 0 = _
    have hlong : longF (sortedF l) (cutP a m).adr low (cutP a m).len = b := by
      rw [← hl]
      exact longGo_congr (fun r => cand_cut) _ _ _ _
    rw [hop_idem, hopF, hlong, if_neg (by omega), Int.toNat_natCast, List.getElem?_eq_getElem hb]; rfl
end Go.Fl
