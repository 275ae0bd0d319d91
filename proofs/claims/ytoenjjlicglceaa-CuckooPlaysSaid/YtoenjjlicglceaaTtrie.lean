/-
  Chapter 14: a trie as plain data: what each path has; the longest of an address between two lengths; all there is.
-/
import Derived.Test.YtoenjjlicglceaaTaddr
namespace Go.Fl

abbrev Path := List Bool
def bitsOf (a : Adr) (n : Nat) : Path := (List.range n).map a.bit
def path (p : Pfx) : Path := bitsOf p.adr p.len.toNat
def adrGo : Nat → Path → Adr → Adr
  | _, [], a => a
  | i, b :: u, a => adrGo (i + 1) u (if b = true then withA a i else a)
/-- The address of a path, its prefix. -/
def adrOf (u : Path) : Adr := adrGo 0 u ⟨0, 0⟩
def pfxOf (u : Path) : Pfx := ⟨(adrOf u).hi, (adrOf u).lo, u.length⟩
abbrev Val := Path → Option Int
def Val.put (val : Val) (u : Path) (h : Int) : Val := fun v => if v = u then some h else val v
def Val.add (val : Val) (r : Rt) : Val := if rightF r.p = true then val.put (path r.p) r.hop else val
def valOf (l : List Rt) : Val := l.foldl Val.add (fun _ => none)
/-- Of the lengths below n and above low the greatest at which an address has something. -/
def betwGo (val : Val) (a : Adr) (low : Int) : Nat → Option Rt
  | 0 => none
  | n + 1 => if low < n then match val (bitsOf a n) with
      | some h => some ⟨⟨(cutA a n).hi, (cutA a n).lo, n⟩, h⟩
      | none => betwGo val a low n
    else betwGo val a low n
def upTo (high : Int) : Nat := if high < 0 then 0 else (min high 128).toNat + 1
def betw (val : Val) (a : Adr) (low high : Int) : Option Rt := betwGo val a low (upTo high)
def hereT (val : Val) (u : Path) : List Rt := match val u with | some h => [⟨pfxOf u, h⟩] | none => []
/-- All below a path, so many bits more. -/
def allT (val : Val) : Nat → Path → List Rt
  | 0, u => hereT val u
  | f + 1, u => hereT val u ++ allT val f (u ++ [false]) ++ allT val f (u ++ [true])

theorem bitsOf_length (a : Adr) (n : Nat) : (bitsOf a n).length = n := by simp [bitsOf]
theorem bitsOf_succ (a : Adr) (n : Nat) : bitsOf a (n + 1) = bitsOf a n ++ [a.bit n] := by simp [bitsOf, List.range_succ]
theorem bitsOf_get (a : Adr) (n i : Nat) (h : i < n) : (bitsOf a n)[i]'(by rw [bitsOf_length]; exact h) = a.bit i := by simp [bitsOf]
theorem bitsOf_take (a : Adr) {i n : Nat} (h : i ≤ n) : (bitsOf a n).take i = bitsOf a i := by
  refine List.ext_getElem (by rw [List.length_take, bitsOf_length, bitsOf_length]; omega) fun j h1 h2 => ?_
  rw [bitsOf_length] at h2
  rw [List.getElem_take, bitsOf_get a n j (by omega), bitsOf_get a i j h2]
theorem path_length (p : Pfx) : (path p).length = p.len.toNat := bitsOf_length _ _
theorem bitsOf_cut (a : Adr) {n m : Nat} (h : n ≤ m) : bitsOf (cutA a m) n = bitsOf a n := by
  refine List.ext_getElem (by rw [bitsOf_length, bitsOf_length]) fun j h1 h2 => ?_
  rw [bitsOf_length] at h1
  rw [bitsOf_get _ _ _ h1, bitsOf_get _ _ _ h1, cut_bit, decide_eq_true (by omega), Bool.and_true]

theorem adrGo_bit : ∀ (u : Path) (i : Nat) (a : Adr), i + u.length ≤ 128 → ∀ j, (adrGo i u a).bit j = (a.bit j || (decide (i ≤ j) && (u[j - i]?).getD false))
  | [], i, a, _, j => by simp [adrGo]
  | b :: u, i, a, h, j => by
    simp only [List.length_cons] at h
    rw [adrGo, adrGo_bit u (i + 1) _ (by omega) j]
    have hb : (if b = true then withA a i else a).bit j = (a.bit j || (b && decide (i = j))) := by
      cases b
      · simp
      · rw [if_pos rfl, with_bit a (by omega)]; simp
    rw [hb, Bool.or_assoc]
    congr 1
    rcases Nat.lt_trichotomy i j with hij | rfl | hij
    · rw [decide_eq_false (show ¬ i = j by omega), decide_eq_true (show i + 1 ≤ j by omega), decide_eq_true (show i ≤ j by omega), show j - i = (j - (i + 1)) + 1 by omega]
      simp
    · rw [decide_eq_false (show ¬ i + 1 ≤ i by omega)]; simp
    · rw [decide_eq_false (show ¬ i = j by omega), decide_eq_false (show ¬ i + 1 ≤ j by omega), decide_eq_false (show ¬ i ≤ j by omega)]; simp
theorem adrOf_bit (u : Path) (h : u.length ≤ 128) (j : Nat) : (adrOf u).bit j = (u[j]?).getD false := by
  rw [adrOf, adrGo_bit u 0 _ (by omega)]
  have : (⟨0, 0⟩ : Adr).bit j = false := by
    unfold Adr.bit; split <;> simp
  rw [this]; simp
theorem adrGo_snoc : ∀ (u : Path) (i : Nat) (a : Adr) (b : Bool), adrGo i (u ++ [b]) a = if b = true then withA (adrGo i u a) (i + u.length) else adrGo i u a
  | [], i, a, b => by simp [adrGo]
  | c :: u, i, a, b => by
    rw [List.cons_append, adrGo, adrGo_snoc u (i + 1), adrGo, List.length_cons, show i + 1 + u.length = i + (u.length + 1) by omega]
theorem adrOf_snoc (u : Path) (b : Bool) : adrOf (u ++ [b]) = if b = true then withA (adrOf u) u.length else adrOf u := by
  rw [adrOf, adrGo_snoc, Nat.zero_add]; rfl
theorem right_iff (p : Pfx) : rightF p = true ↔ 0 ≤ p.len ∧ p.len ≤ 128 ∧ cutA p.adr p.len = p.adr := by
  unfold rightF; simp [and_assoc]
/-- A right prefix is its path's. -/
theorem pfxOf_path {p : Pfx} (h : rightF p = true) : pfxOf (path p) = p := by
  obtain ⟨h1, h2, h3⟩ := (right_iff p).1 h
  have ha : adrOf (path p) = p.adr := by
    refine Adr.ext_bit fun j hj => ?_
    rw [adrOf_bit _ (by rw [path_length]; omega), ← h3, cut_bit]
    by_cases hjl : j < p.len.toNat
    · have : (path p)[j]? = some (p.adr.bit j) := by
        rw [List.getElem?_eq_getElem (by rw [path_length]; exact hjl)]
        exact congrArg some (bitsOf_get _ _ _ hjl)
      rw [this, decide_eq_true (by omega)]; simp
    · rw [List.getElem?_eq_none (by rw [path_length]; omega), decide_eq_false (by omega)]; simp
  unfold pfxOf
  rw [ha, path_length, Int.toNat_of_nonneg h1]; rfl
theorem path_inj {p q : Pfx} (hp : rightF p = true) (hq : rightF q = true) (h : path p = path q) : p = q := by
  rw [← pfxOf_path hp, ← pfxOf_path hq, h]
theorem path_pfxOf (u : Path) (h : u.length ≤ 128) : path (pfxOf u) = u := by
  have hl : (pfxOf u).len.toNat = u.length := by simp [pfxOf]
  refine List.ext_getElem (by rw [path_length, hl]) fun j h1 h2 => ?_
  have : (path (pfxOf u))[j] = (pfxOf u).adr.bit j := bitsOf_get _ _ _ (by rw [hl]; exact h2)
  rw [this]
  show (adrOf u).bit j = _
  rw [adrOf_bit u h, List.getElem?_eq_getElem h2]; rfl
theorem pfxOf_right (u : Path) (h : u.length ≤ 128) : rightF (pfxOf u) = true := by
  rw [right_iff]
  refine ⟨by simp [pfxOf], by simp [pfxOf]; omega, ?_⟩
  show cutA (adrOf u) u.length = adrOf u
  refine Adr.ext_bit fun j hj => ?_
  rw [cut_bit, adrOf_bit u h]
  by_cases hj' : j < u.length
  · rw [decide_eq_true (by omega)]; simp
  · rw [List.getElem?_eq_none (by omega)]; simp

/-- What a trie of routes has: for each right prefix the hop that came last. -/
def lastHop (l : List Rt) (p : Pfx) : Option Int := (l.reverse.find? fun r => decide (r.p = p)).map (·.hop)
theorem lastHop_snoc (l : List Rt) (r : Rt) (p : Pfx) : lastHop (l ++ [r]) p = if r.p = p then some r.hop else lastHop l p := by
  unfold lastHop
  rw [List.reverse_append, List.reverse_singleton, List.singleton_append, List.find?_cons]
  by_cases h : r.p = p <;> simp [h]
theorem val_snoc (l : List Rt) (r : Rt) : valOf (l ++ [r]) = (valOf l).add r := by unfold valOf; rw [List.foldl_append]; rfl
theorem list_snoc {α : Type} {motive : List α → Prop} (h0 : motive []) (hs : ∀ l x, motive l → motive (l ++ [x])) (l : List α) : motive l := by
  rw [← List.reverse_reverse l]
  induction l.reverse with
  | nil => exact h0
  | cons x l ih => rw [List.reverse_cons]; exact hs _ _ ih
theorem val_path (l : List Rt) {p : Pfx} (h : rightF p = true) : valOf l (path p) = lastHop l p := by
  induction l using list_snoc with
  | h0 => rfl
  | hs l r ih =>
    rw [val_snoc, lastHop_snoc, Val.add]
    by_cases hr : rightF r.p = true
    · rw [if_pos hr, Val.put]
      by_cases e : r.p = p
      · subst e; rw [if_pos rfl, if_pos rfl]
      · rw [if_neg (fun e' => e (path_inj h hr e').symm), if_neg e, ih]
    · rw [if_neg hr, if_neg (fun e => hr (by rw [e]; exact h)), ih]
theorem val_deep (l : List Rt) {u : Path} (h : 128 < u.length) : valOf l u = none := by
  induction l using list_snoc with
  | h0 => rfl
  | hs l r ih =>
    rw [val_snoc, Val.add]
    split
    · rename_i hr
      rw [Val.put, if_neg, ih]
      intro e
      obtain ⟨h1, h2, _⟩ := (right_iff _).1 hr
      have := path_length r.p
      rw [← e] at this; omega
    · exact ih
theorem val_some {l : List Rt} {u : Path} {h : Int} (hv : valOf l u = some h) : u.length ≤ 128 ∧ lastHop l (pfxOf u) = some h := by
  have hu : u.length ≤ 128 := by
    rcases Nat.lt_or_ge 128 u.length with h' | h'
    · rw [val_deep l h'] at hv; cases hv
    · exact h'
  refine ⟨hu, ?_⟩
  rw [← val_path l (pfxOf_right u hu), path_pfxOf u hu]; exact hv

theorem mem_allT {val : Val} : ∀ (f : Nat) (u : Path) (r : Rt), r ∈ allT val f u ↔ ∃ v, v.length ≤ f ∧ r.p = pfxOf (u ++ v) ∧ val (u ++ v) = some r.hop
  | 0, u, r => by
    unfold allT hereT
    constructor
    · intro h
      split at h
      · rename_i x hx
        rw [List.mem_singleton] at h
        subst h
        exact ⟨[], Nat.le_refl _, by simp, by simpa using hx⟩
      · cases h
    · rintro ⟨v, hv, h1, h2⟩
      obtain rfl : v = [] := List.eq_nil_of_length_eq_zero (by omega)
      rw [List.append_nil] at h1 h2
      rw [h2]
      rcases r with ⟨p, x⟩
      simp only at h1
      subst h1
      simp
  | f + 1, u, r => by
    rw [allT, List.mem_append, List.mem_append, mem_allT f, mem_allT f]
    have hh : r ∈ hereT val u ↔ r.p = pfxOf u ∧ val u = some r.hop := by
      unfold hereT
      split
      · rename_i x hx
        rw [List.mem_singleton, hx]
        rcases r with ⟨p, y⟩
        simp only [Rt.mk.injEq, Option.some.injEq]
        exact ⟨fun h => ⟨h.1, h.2.symm⟩, fun h => ⟨h.1, h.2.symm⟩⟩
      · rename_i hx
        rw [hx]; simp
    rw [hh]
    constructor
    · rintro ((⟨h1, h2⟩ | ⟨v, hv, h1, h2⟩) | ⟨v, hv, h1, h2⟩)
      · exact ⟨[], Nat.zero_le _, by simpa using h1, by simpa using h2⟩
      · exact ⟨false :: v, by simp; exact hv, by simpa using h1, by simpa using h2⟩
      · exact ⟨true :: v, by simp; exact hv, by simpa using h1, by simpa using h2⟩
    · rintro ⟨v, hv, h1, h2⟩
      cases v with
      | nil => exact .inl (.inl ⟨by simpa using h1, by simpa using h2⟩)
      | cons b v =>
        simp only [List.length_cons] at hv
        cases b
        · exact .inl (.inr ⟨v, by omega, by simpa using h1, by simpa using h2⟩)
        · exact .inr ⟨v, by omega, by simpa using h1, by simpa using h2⟩

theorem betwGo_spec {val : Val} {a : Adr} {low : Int} : ∀ (n : Nat), (betwGo val a low n = none ∧ ∀ m, m < n → low < m → val (bitsOf a m) = none) ∨
    ∃ m h, m < n ∧ low < m ∧ val (bitsOf a m) = some h ∧ betwGo val a low n = some ⟨⟨(cutA a m).hi, (cutA a m).lo, m⟩, h⟩ ∧ ∀ m', m < m' → m' < n → val (bitsOf a m') = none
  | 0 => .inl ⟨rfl, fun _ h => by omega⟩
  | n + 1 => by
    rw [betwGo]
    by_cases hl : low < n
    · rw [if_pos hl]
      cases hv : val (bitsOf a n) with
      | some h => exact .inr ⟨n, h, by omega, hl, hv, rfl, fun m' h1 h2 => by omega⟩
      | none =>
        simp only
        rcases betwGo_spec (val := val) (a := a) (low := low) n with ⟨h1, h2⟩ | ⟨m, h, h1, h2, h3, h4, h5⟩
        · refine .inl ⟨h1, fun m hm hlm => ?_⟩
          rcases Nat.lt_or_ge m n with h' | h'
          · exact h2 m h' hlm
          · obtain rfl : m = n := by omega
            exact hv
        · refine .inr ⟨m, h, by omega, h2, h3, h4, fun m' h6 h7 => ?_⟩
          rcases Nat.lt_or_ge m' n with h' | h'
          · exact h5 m' h6 h'
          · obtain rfl : m' = n := by omega
            exact hv
    · rw [if_neg hl]
      rcases betwGo_spec (val := val) (a := a) (low := low) n with ⟨h1, h2⟩ | ⟨m, h, h1, h2, h3, h4, h5⟩
      · refine .inl ⟨h1, fun m hm hlm => ?_⟩
        rcases Nat.lt_or_ge m n with h' | h'
        · exact h2 m h' hlm
        · obtain rfl : m = n := by omega
          exact absurd hlm hl
      · omega
end Go.Fl
