/-
  The data of this claim: addresses, prefixes, routes; the places of a bucket; their cells.
-/
import Derived.Test.YtoenjjlicglceaaK3
namespace Go.Fl

structure Pfx where
  hi : BitVec 64
  lo : BitVec 64
  len : Int
  deriving DecidableEq, Inhabited
structure Rt where
  p : Pfx
  hop : Int
  deriving DecidableEq, Inhabited
structure Pl where
  there : Bool
  r : Rt
  deriving DecidableEq, Inhabited
def Pfx.cells (p : Pfx) : List Value := [U p.hi, U p.lo, .int .i64 p.len]
def Rt.cells (r : Rt) : List Value := [U r.p.hi, U r.p.lo, .int .i64 r.p.len, .int .i64 r.hop]
def Pl.cells (x : Pl) : List Value := [.bool x.there, U x.r.p.hi, U x.r.p.lo, .int .i64 x.r.p.len, .int .i64 x.r.hop]
abbrev Pfx.val (p : Pfx) : Value := .agg #[U p.hi, U p.lo, .int .i64 p.len]
abbrev Rt.val (r : Rt) : Value := .agg #[U r.p.hi, U r.p.lo, .int .i64 r.p.len, .int .i64 r.hop]
def bcells (B : List Pl) : List Value := B.flatMap Pl.cells

theorem Pl.cells_length (x : Pl) : x.cells.length = 5 := rfl
theorem flat_length {α : Type} (f : α → List Value) (k : Nat) (hf : ∀ x, (f x).length = k) : ∀ l : List α, (l.flatMap f).length = l.length * k
  | [] => by simp
  | x :: l => by rw [List.flatMap_cons, List.length_append, hf, flat_length f k hf l, List.length_cons, Nat.succ_mul]; omega
theorem flat_drop {α : Type} (f : α → List Value) (k : Nat) (hf : ∀ x, (f x).length = k) : ∀ (l : List α) (i : Nat), (l.flatMap f).drop (i * k) = (l.drop i).flatMap f
  | l, 0 => by simp
  | [], i + 1 => by simp
  | x :: l, i + 1 => by
    rw [List.flatMap_cons, List.drop_append, List.drop_eq_nil_of_le (by rw [hf, Nat.succ_mul]; omega), List.nil_append, hf, List.drop_succ_cons, ← flat_drop f k hf l i]
    congr 1; rw [Nat.succ_mul]; omega
theorem flat_part {α : Type} (f : α → List Value) (k : Nat) (hf : ∀ x, (f x).length = k) (l : List α) (i : Nat) (h : i < l.length) : ((l.flatMap f).drop (i * k)).take k = f l[i] := by
  rw [flat_drop f k hf, List.drop_eq_getElem_cons h, List.flatMap_cons, List.take_append_of_le_length (by rw [hf]; exact Nat.le_refl _), List.take_of_length_le (by rw [hf]; exact Nat.le_refl _)]
theorem bcells_length (B : List Pl) : (bcells B).length = B.length * 5 := flat_length _ 5 (fun _ => rfl) B
theorem bcells_part (B : List Pl) (i : Nat) (h : i < B.length) : ((bcells B).drop (i * 5)).take 5 = B[i].cells := flat_part _ 5 (fun _ => rfl) B i h

/-- The first place of a list at which a test holds, from one on. -/
def firstI {α : Type} (q : α → Bool) : List α → Nat → Option Nat
  | [], _ => none
  | x :: l, i => if q x = true then some i else firstI q l (i + 1)
theorem firstI_skip {α : Type} (q : α → Bool) : ∀ (B : List α) (k i : Nat), (∀ j (h : j < B.length), j < i → q B[j] = false) → i ≤ B.length → firstI q B k = firstI q (B.drop i) (k + i)
  | B, k, 0, _, _ => by simp
  | [], k, i + 1, _, h => by simp at h
  | x :: B, k, i + 1, hn, h => by
    have h0 := hn 0 (by simp) (by omega)
    simp only [List.getElem_cons_zero] at h0
    rw [firstI, if_neg (by simp [h0]), List.drop_succ_cons, firstI_skip q B (k + 1) i (fun j hj hji => by have := hn (j + 1) (by simpa using hj) (by omega); simpa using this) (by simpa using h)]
    congr 1; omega
theorem firstI_at {α : Type} (q : α → Bool) (B : List α) (i : Nat) (hi : i < B.length) (hn : ∀ j (h : j < B.length), j < i → q B[j] = false) (hq : q B[i] = true) : firstI q B 0 = some i := by
  rw [firstI_skip q B 0 i hn (by omega), List.drop_eq_getElem_cons hi, firstI, if_pos hq]; simp
theorem firstI_none {α : Type} (q : α → Bool) (B : List α) (i : Nat) (hi : i = B.length) (hn : ∀ j (h : j < B.length), j < i → q B[j] = false) : firstI q B 0 = none := by
  rw [firstI_skip q B 0 i hn (by omega), hi, List.drop_length]; rfl
theorem firstI_some {α : Type} (q : α → Bool) : ∀ (B : List α) (k i : Nat), firstI q B k = some i → k ≤ i ∧ ∃ h : i - k < B.length, q B[i - k] = true ∧ ∀ j (hj : j < B.length), j < i - k → q B[j] = false
  | [], k, i, h => by simp [firstI] at h
  | x :: B, k, i, h => by
    rw [firstI] at h
    by_cases hx : q x = true
    · rw [if_pos hx] at h; cases h
      exact ⟨Nat.le_refl _, by simp, by simpa using hx, fun j _ hj => by omega⟩
    · rw [if_neg hx] at h
      obtain ⟨h1, h2, h3, h4⟩ := firstI_some q B (k + 1) i h
      have e : i - k = (i - (k + 1)) + 1 := by omega
      refine ⟨by omega, by simp; omega, by simp only [e, List.getElem_cons_succ]; exact h3, fun j hj hji => ?_⟩
      cases j with
      | zero => simpa using hx
      | succ j => simp only [List.getElem_cons_succ]; exact h4 j (by simpa using hj) (by omega)
theorem firstI_all {α : Type} (q : α → Bool) : ∀ (B : List α) (k : Nat), firstI q B k = none → ∀ x ∈ B, q x = false
  | [], _, _, x, hx => by cases hx
  | y :: B, k, h, x, hx => by
    rw [firstI] at h
    by_cases hy : q y = true
    · rw [if_pos hy] at h; cases h
    · rw [if_neg hy] at h
      rcases List.mem_cons.1 hx with rfl | hx
      · simpa using hy
      · exact firstI_all q B (k + 1) h x hx

/-- A bucket: where a key is; where it is put. -/
def isKey (p : Pfx) (x : Pl) : Bool := x.there && decide (x.r.p = p)
def Bfind (B : List Pl) (p : Pfx) : Option Nat := firstI (isKey p) B 0
def Bspot (B : List Pl) (p : Pfx) : Option Nat :=
  match Bfind B p with
  | some i => some i
  | none => firstI (fun x => !x.there) B 0
def Bput (B : List Pl) (r : Rt) : Option (List Pl) := (Bspot B r.p).map fun i => B.set i ⟨true, r⟩
def Bget (B : List Pl) (p : Pfx) : Option Int := (Bfind B p).bind fun i => (B[i]?).map (·.r.hop)
def noPl : Pl := ⟨false, ⟨⟨0, 0, 0⟩, 0⟩⟩
def Btake (B : List Pl) (p : Pfx) : Option (List Pl) := (Bfind B p).map fun i => B.set i noPl
def Ball (B : List Pl) : List Rt := (B.filter (·.there)).map (·.r)
def ofFind : Option Nat → Int
  | some i => i
  | none => -1
theorem Bfind_lt {B : List Pl} {p : Pfx} {i : Nat} (h : Bfind B p = some i) : i < B.length := by
  obtain ⟨_, h2, _⟩ := firstI_some _ _ _ _ h; simpa using h2
theorem Bspot_lt {B : List Pl} {p : Pfx} {i : Nat} (h : Bspot B p = some i) : i < B.length := by
  unfold Bspot at h
  split at h
  · rename_i j hj; cases h; exact Bfind_lt hj
  · obtain ⟨_, h2, _⟩ := firstI_some _ _ _ _ h; simpa using h2

/-- Cells written in the midst of a row. -/
theorem splice_eq : ∀ (vs cs : List Value) (o : Nat), o + vs.length ≤ cs.length → splice cs o vs = cs.take o ++ vs ++ cs.drop (o + vs.length)
  | [], cs, o, _ => by simp [splice]
  | v :: vs, cs, o, h => by
    simp only [List.length_cons] at h
    rw [splice, splice_eq vs _ _ (by simp; omega), List.drop_set_of_lt (by omega)]
    have h1 : (cs.set o v).take (o + 1) = cs.take o ++ [v] := by
      rw [List.take_set, List.take_succ_eq_append_getElem (by omega), List.set_append_right _ _ (by rw [List.length_take]; omega)]
      simp [Nat.min_eq_left (show o ≤ cs.length by omega)]
    rw [h1, show o + 1 + vs.length = o + (v :: vs).length by simp; omega]
    simp
theorem splice_mid (a b c vs : List Value) (k : Nat) (h : k + vs.length ≤ b.length) : splice (a ++ b ++ c) (a.length + k) vs = a ++ splice b k vs ++ c := by
  rw [splice_eq _ _ _ (by simp; omega), splice_eq _ _ _ h]
  simp only [List.append_assoc]
  rw [List.take_append, List.take_of_length_le (by omega), List.drop_append, List.drop_of_length_le (by omega)]
  rw [show a.length + k - a.length = k by omega, show a.length + k + vs.length - a.length = k + vs.length by omega]
  rw [List.take_append_of_le_length (by omega), List.drop_append_of_le_length (by omega)]
  simp
theorem flat_set {α : Type} (f : α → List Value) (k : Nat) (hf : ∀ x, (f x).length = k) : ∀ (l : List α) (i : Nat) (x : α), i < l.length → splice (l.flatMap f) (i * k) (f x) = (l.set i x).flatMap f
  | [], _, _, h => by simp at h
  | y :: l, 0, x, _ => by
    rw [splice_eq _ _ _ (by simp [hf])]
    simp only [Nat.zero_mul, List.take_zero, List.nil_append, Nat.zero_add, List.set_cons_zero, List.flatMap_cons]
    rw [hf x, ← hf y, List.drop_left]
  | y :: l, i + 1, x, h => by
    have hi : i < l.length := by simpa using h
    have hle : i * k + (f x).length ≤ (l.flatMap f).length := by
      rw [flat_length f k hf, hf]
      calc i * k + k = (i + 1) * k := (Nat.succ_mul i k).symm
        _ ≤ l.length * k := Nat.mul_le_mul_right k hi
    have := splice_mid (f y) (l.flatMap f) [] (f x) (i * k) hle
    simp only [List.append_nil] at this
    rw [List.flatMap_cons, show (i + 1) * k = (f y).length + i * k by rw [hf, Nat.succ_mul]; omega, this, flat_set f k hf l i x hi]
    simp
theorem bcells_set (a c : List Value) (B : List Pl) (i : Nat) (x : Pl) (h : i < B.length) : splice (a ++ bcells B ++ c) (a.length + i * 5) x.cells = a ++ bcells (B.set i x) ++ c := by
  rw [splice_mid _ _ _ _ _ (by rw [bcells_length]; show i * 5 + 5 ≤ _; omega), bcells, flat_set Pl.cells 5 (fun _ => rfl) B i x h]; rfl
theorem Blk.mid {h : Array Obj} {b : Nat} {a m c : List Value} {T : TypeId} (hb : Blk h b (a ++ m ++ c) T) : At h b a.length m :=
  hb.part ⟨c, by rw [List.append_assoc, List.drop_left]⟩
end Go.Fl
