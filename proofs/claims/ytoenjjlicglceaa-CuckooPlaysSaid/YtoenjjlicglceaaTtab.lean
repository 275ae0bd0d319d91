/-
  Chapter 11: the table as plain data: what the given program's Put and grow make of it; that they keep every key once, where Get looks for it.
-/
import Derived.Test.YtoenjjlicglceaaFmix
import Derived.Test.YtoenjjlicglceaaFstash
namespace Go.Fl

structure Tab where
  seed : BitVec 64
  bks : List (List Pl)
  stash : List Rt

def ix1 (s : BitVec 64) (n : Nat) (p : Pfx) : Nat := (bk1 s p n).toNat
def ix2 (s : BitVec 64) (n : Nat) (p : Pfx) : Nat := (bk2 s p n).toNat
def bkAt (bks : List (List Pl)) (i : Nat) : List Pl := bks.getD i []
def bcont (bks : List (List Pl)) : List Rt := bks.flatMap Ball
abbrev Tab.n (T : Tab) : Nat := T.bks.length
def Tab.cont (T : Tab) : List Rt := bcont T.bks ++ T.stash
def Tab.setBk (T : Tab) (i : Nat) (B : List Pl) : Tab := ⟨T.seed, T.bks.set i B, T.stash⟩
def replF (T : Tab) (r : Rt) : Option Tab :=
  if (Bget (bkAt T.bks (ix1 T.seed T.n r.p)) r.p).isSome = true then (Bput (bkAt T.bks (ix1 T.seed T.n r.p)) r).map (T.setBk (ix1 T.seed T.n r.p))
  else if (Bget (bkAt T.bks (ix2 T.seed T.n r.p)) r.p).isSome = true then (Bput (bkAt T.bks (ix2 T.seed T.n r.p)) r).map (T.setBk (ix2 T.seed T.n r.p))
  else if atLow T.stash r.p = true then some ⟨T.seed, T.bks, T.stash.set (lowB T.stash r.p) r⟩
  else none
def otherF (s : BitVec 64) (n : Nat) (p : Pfx) (at_ : Nat) : Nat := if at_ = ix1 s n p then ix2 s n p else ix1 s n p
/-- The kicks: so many rounds yet; the round's number. -/
def kickF (s : BitVec 64) (n : Nat) : Nat → Nat → List (List Pl) → Rt → Nat → List (List Pl) × Option Rt
  | 0, _, bks, r, _ => (bks, some r)
  | k + 1, i, bks, r, a =>
    let B := bkAt bks a
    let old := (B.getD (i % 4) noPl).r
    let bks1 := bks.set a (B.set (i % 4) ⟨true, r⟩)
    let a' := otherF s n old.p a
    match Bput (bkAt bks1 a') old with
    | some B' => (bks1.set a' B', none)
    | none => kickF s n k (i + 1) bks1 old a'
def insF (l : List Rt) (r : Rt) : List Rt := l.take (lowB l r.p) ++ r :: l.drop (lowB l r.p)
/-- Put, up to where it may grow; does it? -/
def putStep (T : Tab) (r : Rt) : Tab × Bool :=
  match replF T r with
  | some T' => (T', false)
  | none => match Bput (bkAt T.bks (ix1 T.seed T.n r.p)) r with
    | some B => (T.setBk (ix1 T.seed T.n r.p) B, false)
    | none => match Bput (bkAt T.bks (ix2 T.seed T.n r.p)) r with
      | some B => (T.setBk (ix2 T.seed T.n r.p) B, false)
      | none => match kickF T.seed T.n 16 0 T.bks r (ix2 T.seed T.n r.p) with
        | (bks, none) => (⟨T.seed, bks, T.stash⟩, false)
        | (bks, some r') => (⟨T.seed, bks, insF T.stash r'⟩, decide (8 < (insF T.stash r').length ∧ bks.length < 65536))
def emptyBks (n : Nat) : List (List Pl) := List.replicate n [noPl, noPl, noPl, noPl]
def grown0 (T : Tab) : Tab := ⟨mix T.seed, emptyBks (min (2 * T.n) 65536), []⟩
def putF : Nat → Tab → Rt → Tab
  | 0, T, r => (putStep T r).1
  | f + 1, T, r => if (putStep T r).2 = true then (putStep T r).1.cont.foldl (putF f) (grown0 (putStep T r).1) else (putStep T r).1
def getF (T : Tab) (p : Pfx) : Option Int :=
  match Bget (bkAt T.bks (ix1 T.seed T.n p)) p with
  | some h => some h
  | none => match Bget (bkAt T.bks (ix2 T.seed T.n p)) p with
    | some h => some h
    | none => if atLow T.stash p = true then (T.stash[lowB T.stash p]?).map (·.hop) else none

/-! Buckets. -/
def pl (x : Pl) : List Rt := if x.there = true then [x.r] else []
theorem Ball_eq (B : List Pl) : Ball B = B.flatMap pl := by
  induction B with
  | nil => rfl
  | cons x B ih =>
    rw [List.flatMap_cons, ← ih]
    unfold Ball pl
    by_cases h : x.there = true <;> simp [h]
theorem mem_Ball {B : List Pl} {r : Rt} : r ∈ Ball B ↔ ∃ x ∈ B, x.there = true ∧ x.r = r := by
  unfold Ball; simp [and_assoc]
theorem split_at {α β : Type} (f : α → List β) (l : List α) (i : Nat) (h : i < l.length) : ∀ x, (l.set i x).flatMap f = (l.take i).flatMap f ++ f x ++ (l.drop (i + 1)).flatMap f := by
  intro x
  rw [List.set_eq_take_append_cons_drop, if_pos h]; simp
theorem cont_at (bks : List (List Pl)) (a : Nat) (B : List Pl) (hB : bks[a]? = some B) (i : Nat) (h : i < B.length) :
    ∃ L R, bcont bks = L ++ pl B[i] ++ R ∧ ∀ x, bcont (bks.set a (B.set i x)) = L ++ pl x ++ R := by
  obtain ⟨ha, rfl⟩ := List.getElem?_eq_some_iff.1 hB
  have key : ∀ x, bcont (bks.set a (bks[a].set i x)) = ((bks.take a).flatMap Ball ++ (bks[a].take i).flatMap pl) ++ pl x ++ ((bks[a].drop (i + 1)).flatMap pl ++ (bks.drop (a + 1)).flatMap Ball) := fun x => by
    unfold bcont
    rw [split_at Ball bks a ha, Ball_eq, split_at pl _ i h]
    simp
  refine ⟨_, _, ?_, key⟩
  rw [← key, List.set_getElem_self, List.set_getElem_self]

theorem Bfind_some {B : List Pl} {p : Pfx} {i : Nat} (h : Bfind B p = some i) : ∃ hi : i < B.length, B[i].there = true ∧ B[i].r.p = p := by
  obtain ⟨_, h2, h3, _⟩ := firstI_some _ _ _ _ h
  simp only [Nat.sub_zero] at h2 h3
  refine ⟨h2, ?_⟩
  simpa [isKey] using h3
theorem Bfind_none {B : List Pl} {p : Pfx} (h : Bfind B p = none) : ∀ r ∈ Ball B, r.p ≠ p := by
  intro r hr e
  obtain ⟨x, hx, ht, rfl⟩ := mem_Ball.1 hr
  have := firstI_all _ _ _ h x hx
  simp [isKey, ht, e] at this
theorem Bput_some {B B' : List Pl} {r : Rt} (h : Bput B r = some B') : ∃ i, ∃ hi : i < B.length, B' = B.set i ⟨true, r⟩ ∧ ((B[i].there = true ∧ B[i].r.p = r.p ∧ Bfind B r.p = some i) ∨ (B[i].there = false ∧ Bfind B r.p = none)) := by
  unfold Bput at h
  cases hs : Bspot B r.p with
  | none => rw [hs] at h; cases h
  | some i =>
    rw [hs] at h
    simp only [Option.map_some, Option.some.injEq] at h
    refine ⟨i, Bspot_lt hs, h.symm, ?_⟩
    unfold Bspot at hs
    split at hs
    · rename_i j hj
      cases hs
      obtain ⟨_, h1, h2⟩ := Bfind_some hj
      exact .inl ⟨h1, h2, hj⟩
    · rename_i hn
      obtain ⟨_, h2, h3, _⟩ := firstI_some _ _ _ _ hs
      simp only [Nat.sub_zero] at h3
      exact .inr ⟨by simpa using h3, hn⟩
theorem Bput_none {B : List Pl} {r : Rt} (h : Bput B r = none) : (∀ x ∈ B, x.there = true) ∧ Bfind B r.p = none := by
  unfold Bput at h
  cases hs : Bspot B r.p with
  | some i => rw [hs] at h; cases h
  | none =>
    unfold Bspot at hs
    split at hs
    · cases hs
    · rename_i hn
      refine ⟨fun x hx => ?_, hn⟩
      simpa using firstI_all _ _ _ hs x hx
theorem Bget_isSome {B : List Pl} {p : Pfx} : (Bget B p).isSome = true ↔ ∃ i, Bfind B p = some i := by
  unfold Bget
  cases h : Bfind B p with
  | none => simp
  | some i =>
    obtain ⟨hi, _⟩ := Bfind_some h
    simp [List.getElem?_eq_getElem hi]
theorem Bget_some {B : List Pl} {p : Pfx} {v : Int} (h : Bget B p = some v) : ⟨p, v⟩ ∈ Ball B := by
  unfold Bget at h
  cases hf : Bfind B p with
  | none => rw [hf] at h; cases h
  | some i =>
    obtain ⟨hi, h1, h2⟩ := Bfind_some hf
    rw [hf] at h
    simp only [Option.bind_some, List.getElem?_eq_getElem hi, Option.map_some, Option.some.injEq] at h
    refine mem_Ball.2 ⟨B[i], List.getElem_mem hi, h1, ?_⟩
    subst h2; subst h; rfl
theorem Bget_none {B : List Pl} {p : Pfx} (h : Bget B p = none) : ∀ r ∈ Ball B, r.p ≠ p := by
  refine Bfind_none ?_
  cases hf : Bfind B p with
  | none => rfl
  | some i => have := Bget_isSome.2 ⟨i, hf⟩; rw [h] at this; cases this

/-! The invariant. -/
structure OkB (s : BitVec 64) (n : Nat) (bks : List (List Pl)) : Prop where
  len : bks.length = n
  n1 : 1 ≤ n
  n2 : n ≤ 65536
  four : ∀ (i : Nat) (B : List Pl), bks[i]? = some B → B.length = 4
  placed : ∀ (i : Nat) (B : List Pl), bks[i]? = some B → ∀ r ∈ Ball B, i = ix1 s n r.p ∨ i = ix2 s n r.p
structure Ok (T : Tab) : Prop where
  b : OkB T.seed T.n T.bks
  nodup : (T.cont.map (·.p)).Nodup
  sorted : SortedR T.stash

theorem ix1_lt (s : BitVec 64) {n : Nat} (p : Pfx) (h1 : 1 ≤ n) (h2 : n ≤ 65536) : ix1 s n p < n := by
  have := reduce_range (mix (hash s p ^^^ 1#64)) n (by omega) (by omega)
  unfold ix1 bk1; omega
theorem ix2_lt (s : BitVec 64) {n : Nat} (p : Pfx) (h1 : 1 ≤ n) (h2 : n ≤ 65536) : ix2 s n p < n := by
  have := reduce_range (mix (hash s p ^^^ 2#64)) n (by omega) (by omega)
  unfold ix2 bk2; omega
theorem other_lt (s : BitVec 64) {n : Nat} (p : Pfx) (a : Nat) (h1 : 1 ≤ n) (h2 : n ≤ 65536) : otherF s n p a < n := by
  unfold otherF; split
  · exact ix2_lt s p h1 h2
  · exact ix1_lt s p h1 h2
theorem other_or (s : BitVec 64) (n : Nat) (p : Pfx) (a : Nat) : otherF s n p a = ix1 s n p ∨ otherF s n p a = ix2 s n p := by
  unfold otherF; split
  · exact .inr rfl
  · exact .inl rfl
theorem bkAt_some {bks : List (List Pl)} {i : Nat} (h : i < bks.length) : bks[i]? = some (bkAt bks i) := by
  unfold bkAt; rw [List.getD_eq_getElem?_getD, List.getElem?_eq_getElem h]; rfl

section
variable {s : BitVec 64} {n : Nat} {bks : List (List Pl)}

/-- A place written in its key's bucket. -/
theorem OkB.set (h : OkB s n bks) {a : Nat} {B : List Pl} (hB : bks[a]? = some B) {i : Nat} (r : Rt) (ha : a = ix1 s n r.p ∨ a = ix2 s n r.p) : OkB s n (bks.set a (B.set i ⟨true, r⟩)) := by
  obtain ⟨hal, _⟩ := List.getElem?_eq_some_iff.1 hB
  refine ⟨by rw [List.length_set]; exact h.len, h.n1, h.n2, fun j C hj => ?_, fun j C hj x hx => ?_⟩
  · rw [List.getElem?_set] at hj
    by_cases e : a = j
    · subst e
      rw [if_pos rfl, if_pos hal] at hj
      cases hj
      rw [List.length_set]; exact h.four a B hB
    · rw [if_neg e] at hj; exact h.four j C hj
  · rw [List.getElem?_set] at hj
    by_cases e : a = j
    · subst e
      rw [if_pos rfl, if_pos hal] at hj
      cases hj
      obtain ⟨y, hy, ht, rfl⟩ := mem_Ball.1 hx
      rcases List.mem_or_eq_of_mem_set hy with hy | rfl
      · exact h.placed a B hB _ (mem_Ball.2 ⟨y, hy, ht, rfl⟩)
      · exact ha
    · rw [if_neg e] at hj; exact h.placed j C hj x hx

/-- A key's bucket holds it, if any bucket does. -/
theorem OkB.mem (h : OkB s n bks) {r : Rt} (hr : r ∈ bcont bks) : r ∈ Ball (bkAt bks (ix1 s n r.p)) ∨ r ∈ Ball (bkAt bks (ix2 s n r.p)) := by
  obtain ⟨B, hB, hr⟩ := List.mem_flatMap.1 hr
  obtain ⟨i, hi, rfl⟩ := List.getElem_of_mem hB
  have hs : bks[i]? = some bks[i] := List.getElem?_eq_getElem hi
  have hb := bkAt_some hi
  rw [hs] at hb
  cases hb' : bkAt bks i with
  | nil => rw [hb'] at hb; simp only [Option.some.injEq] at hb; rw [hb] at hr; cases hr
  | cons =>
    simp only [Option.some.injEq] at hb
    rcases h.placed i _ hs r hr with e | e
    · left; rw [← e, ← hb]; exact hr
    · right; rw [← e, ← hb]; exact hr

theorem mem_bcont {i : Nat} (h : i < bks.length) {r : Rt} (hr : r ∈ Ball (bkAt bks i)) : r ∈ bcont bks :=
  List.mem_flatMap.2 ⟨bkAt bks i, List.mem_of_getElem? (bkAt_some h), hr⟩

/-- The kicks keep every key. -/
theorem kick_ok : ∀ (k i : Nat) (bks : List (List Pl)) (r : Rt) (a : Nat), OkB s n bks → (a = ix1 s n r.p ∨ a = ix2 s n r.p) → (∀ x ∈ bkAt bks a, x.there = true) → (∀ x ∈ bcont bks, x.p ≠ r.p) → ((bcont bks).map (·.p)).Nodup →
    OkB s n (kickF s n k i bks r a).1 ∧ (r :: bcont bks).Perm ((kickF s n k i bks r a).2.toList ++ bcont (kickF s n k i bks r a).1)
  | 0, _, bks, r, a, h, _, _, _, _ => ⟨h, by simp [kickF]⟩
  | k + 1, i, bks, r, a, h, ha, hfull, hnew, hnd => by
    have hal : a < bks.length := by rw [h.len]; rcases ha with rfl | rfl; exact ix1_lt s _ h.n1 h.n2; exact ix2_lt s _ h.n1 h.n2
    have hB := bkAt_some hal
    have h4 := h.four a _ hB
    have hi : i % 4 < (bkAt bks a).length := by rw [h4]; exact Nat.mod_lt _ (by decide)
    have hg : (bkAt bks a).getD (i % 4) noPl = (bkAt bks a)[i % 4] := by rw [List.getD_eq_getElem?_getD, List.getElem?_eq_getElem hi]; rfl
    obtain ⟨L, R, h0, hset⟩ := cont_at bks a _ hB (i % 4) hi
    have ht := hfull _ (List.getElem_mem hi)
    have hp : pl (bkAt bks a)[i % 4] = [(bkAt bks a)[i % 4].r] := by unfold pl; rw [if_pos ht]
    rw [hp] at h0
    have h1 := h.set hB (i := i % 4) r ha
    have hc1 : bcont (bks.set a ((bkAt bks a).set (i % 4) ⟨true, r⟩)) = L ++ [r] ++ R := by rw [hset]; rfl
    rw [kickF]
    simp only [hg]
    generalize (bkAt bks a)[i % 4].r = old at *
    generalize hb1 : bks.set a ((bkAt bks a).set (i % 4) ⟨true, r⟩) = bks1 at *
    have hperm : (r :: bcont bks).Perm (old :: bcont bks1) := by
      rw [h0, hc1]
      have e1 : (L ++ [old] ++ R).Perm (old :: (L ++ R)) := by rw [List.append_assoc]; exact List.perm_middle
      have e2 : (L ++ [r] ++ R).Perm (r :: (L ++ R)) := by rw [List.append_assoc]; exact List.perm_middle
      exact ((e1.cons r).trans (List.Perm.swap _ _ _)).trans (e2.symm.cons old)
    have hnd2 : ((r :: bcont bks).map (·.p)).Nodup := by
      rw [List.map_cons, List.nodup_cons]
      refine ⟨fun hm => ?_, hnd⟩
      obtain ⟨x, hx, e⟩ := List.mem_map.1 hm
      exact hnew x hx e
    have hnd3 := (hperm.map (·.p)).nodup_iff.1 hnd2
    rw [List.map_cons, List.nodup_cons] at hnd3
    have hnew3 : ∀ x ∈ bcont bks1, x.p ≠ old.p := fun x hx e => hnd3.1 (List.mem_map.2 ⟨x, hx, e⟩)
    have hol := other_lt s old.p a h.n1 h.n2
    have hor := other_or s n old.p a
    have hB1 := bkAt_some (bks := bks1) (i := otherF s n old.p a) (by rw [h1.len]; exact hol)
    cases hput : Bput (bkAt bks1 (otherF s n old.p a)) old with
    | some B' =>
      obtain ⟨j, hj, rfl, hcase⟩ := Bput_some hput
      obtain ⟨L2, R2, h02, hset2⟩ := cont_at bks1 _ _ hB1 j hj
      refine ⟨h1.set hB1 old hor, ?_⟩
      rcases hcase with ⟨_, e, _⟩ | ⟨hf, _⟩
      · refine absurd e (hnew3 _ (mem_bcont (by rw [h1.len]; exact hol) (mem_Ball.2 ⟨_, List.getElem_mem hj, ?_, rfl⟩)))
        assumption
      · refine hperm.trans ?_
        rw [hset2]
        rw [h02, show pl (bkAt bks1 (otherF s n old.p a))[j] = [] by unfold pl; rw [hf]; rfl]
        show (old :: (L2 ++ [] ++ R2)).Perm (L2 ++ [old] ++ R2)
        rw [List.append_nil, List.append_assoc]
        exact List.perm_middle.symm
    | none =>
      obtain ⟨h5, h6⟩ := kick_ok k (i + 1) bks1 old (otherF s n old.p a) h1 hor (Bput_none hput).1 hnew3 hnd3.2
      exact ⟨h5, hperm.trans h6⟩
end

/-! The stash. -/
theorem sorted_iff {l : List Rt} : SortedR l ↔ l.Pairwise fun a b => Pfx.lt a.p b.p := Iff.rfl
theorem atLow_some {l : List Rt} {p : Pfx} (h : atLow l p = true) : ∃ hi : lowB l p < l.length, l[lowB l p].p = p := by
  unfold atLow at h
  split at h
  · rename_i r hr
    obtain ⟨hi, rfl⟩ := List.getElem?_eq_some_iff.1 hr
    exact ⟨hi, by simpa using h⟩
  · cases h
theorem atLow_none {l : List Rt} {p : Pfx} (hs : SortedR l) (h : atLow l p = false) : ∀ r ∈ l, r.p ≠ p := by
  intro r hr e
  obtain ⟨j, hj, rfl⟩ := List.getElem_of_mem hr
  rcases Nat.lt_trichotomy j (lowB l p) with hlt | heq | hgt
  · have := lowB_lt hlt
    rw [e] at this; exact Pfx.lt_irrefl _ this
  · subst heq
    unfold atLow at h
    rw [List.getElem?_eq_getElem hj] at h
    simp [e] at h
  · have h1 := sorted_get hs (by omega) hj hgt
    have h2 := lowB_ge (l := l) (p := p) (by omega)
    rw [e] at h1
    exact h2 h1
theorem insF_sorted {l : List Rt} {r : Rt} (hs : SortedR l) (hn : ∀ x ∈ l, x.p ≠ r.p) : SortedR (insF l r) := by
  unfold SortedR insF
  have h0 := hs
  unfold SortedR at h0
  rw [← List.take_append_drop (lowB l r.p) l, List.pairwise_append] at h0
  rw [List.pairwise_append]
  have hlow : ∀ x ∈ l.take (lowB l r.p), Pfx.lt x.p r.p := fun x hx => by
    obtain ⟨j, hj, rfl⟩ := List.getElem_of_mem hx
    rw [List.length_take] at hj
    rw [List.getElem_take]
    exact lowB_lt (by omega)
  have hhigh : ∀ x ∈ l.drop (lowB l r.p), Pfx.lt r.p x.p := fun x hx => by
    obtain ⟨j, hj, rfl⟩ := List.getElem_of_mem hx
    rw [List.length_drop] at hj
    rw [List.getElem_drop]
    have h2 := lowB_ge (l := l) (p := r.p) (by omega)
    have h3 : ¬ Pfx.lt l[lowB l r.p + j].p r.p := by
      cases j with
      | zero => exact h2
      | succ j => exact fun k => h2 (Pfx.lt_trans (sorted_get hs (by omega) (by omega) (by omega)) k)
    rcases Pfx.lt_total l[lowB l r.p + j].p r.p with h | h | h
    · exact absurd h h3
    · exact absurd h (hn _ (List.getElem_mem _))
    · exact h
  refine ⟨h0.1, List.pairwise_cons.2 ⟨hhigh, h0.2.1⟩, fun x hx y hy => ?_⟩
  rcases List.mem_cons.1 hy with rfl | hy
  · exact hlow x hx
  · exact h0.2.2 x hx y hy
theorem insF_perm (l : List Rt) (r : Rt) : (insF l r).Perm (r :: l) := by
  unfold insF
  have := @List.perm_middle _ r (l.take (lowB l r.p)) (l.drop (lowB l r.p))
  rwa [List.take_append_drop] at this
theorem set_perm {l : List Rt} {i : Nat} (hi : i < l.length) (r : Rt) : ∃ L R, l = L ++ [l[i]] ++ R ∧ l.set i r = L ++ [r] ++ R :=
  ⟨l.take i, l.drop (i + 1), by rw [List.append_assoc, List.singleton_append, ← List.drop_eq_getElem_cons hi, List.take_append_drop], by rw [List.set_eq_take_append_cons_drop, if_pos hi]; simp⟩
theorem set_sorted {l : List Rt} {i : Nat} (hi : i < l.length) {r : Rt} (e : l[i].p = r.p) (hs : SortedR l) : SortedR (l.set i r) := by
  have : (l.set i r).map (·.p) = l.map (·.p) := by
    rw [List.map_set]
    refine List.ext_getElem (by simp) fun j h1 h2 => ?_
    rw [List.getElem_set]
    split
    · rename_i e'; subst e'; simp [e]
    · rfl
  unfold SortedR at *
  have h1 : (l.map (·.p)).Pairwise Pfx.lt := List.pairwise_map.2 hs
  rw [← this] at h1
  exact List.pairwise_map.1 h1

/-! What lies in a table, a key put. -/
def without (C : List Rt) (p : Pfx) : List Rt := C.filter fun x => !decide (x.p = p)
theorem without_mid {L R : List Rt} {o : Rt} {p : Pfx} (e : o.p = p) (hnd : ((L ++ [o] ++ R).map (·.p)).Nodup) : without (L ++ [o] ++ R) p = L ++ R := by
  subst e
  have hp : ((L ++ [o] ++ R).map (·.p)).Perm ((o :: (L ++ R)).map (·.p)) := by rw [List.append_assoc]; exact List.perm_middle.map _
  have h := hp.nodup_iff.1 hnd
  rw [List.map_cons, List.nodup_cons] at h
  have hne : ∀ x ∈ L ++ R, x.p ≠ o.p := fun x hx e => h.1 (List.mem_map.2 ⟨x, hx, e⟩)
  unfold without
  rw [List.filter_append, List.filter_append, List.filter_cons, if_neg (by simp), List.filter_nil, List.append_nil]
  rw [List.filter_eq_self.2 (fun x hx => by simpa using hne x (List.mem_append_left _ hx)), List.filter_eq_self.2 (fun x hx => by simpa using hne x (List.mem_append_right _ hx))]
theorem without_none {C : List Rt} {p : Pfx} (h : ∀ x ∈ C, x.p ≠ p) : without C p = C := List.filter_eq_self.2 fun x hx => by simpa using h x hx
/-- One entry for another of the same key. -/
theorem swap_ok {C C' L R : List Rt} {o r : Rt} (hC : C = L ++ [o] ++ R) (hC' : C' = L ++ [r] ++ R) (e : o.p = r.p) (hnd : (C.map (·.p)).Nodup) : (C'.map (·.p)).Nodup ∧ C'.Perm (r :: without C r.p) := by
  subst hC; subst hC'
  rw [without_mid e hnd]
  refine ⟨?_, by rw [List.append_assoc]; exact List.perm_middle⟩
  have : (L ++ [r] ++ R).map (·.p) = (L ++ [o] ++ R).map (·.p) := by simp [e]
  rw [this]; exact hnd
/-- A new entry. -/
theorem new_ok {C C' : List Rt} {r : Rt} (hp : C'.Perm (r :: C)) (hn : ∀ x ∈ C, x.p ≠ r.p) (hnd : (C.map (·.p)).Nodup) : (C'.map (·.p)).Nodup ∧ C'.Perm (r :: without C r.p) := by
  rw [without_none hn]
  refine ⟨((hp.map (·.p)).nodup_iff).2 ?_, hp⟩
  rw [List.map_cons, List.nodup_cons]
  refine ⟨fun hm => ?_, hnd⟩
  obtain ⟨x, hx, e⟩ := List.mem_map.1 hm
  exact hn x hx e

section
variable {T : Tab}
theorem Ok.i1 (h : Ok T) (p : Pfx) : ix1 T.seed T.n p < T.bks.length := ix1_lt _ p h.b.n1 h.b.n2
theorem Ok.i2 (h : Ok T) (p : Pfx) : ix2 T.seed T.n p < T.bks.length := ix2_lt _ p h.b.n1 h.b.n2

/-- What a table keeps when a bucket of a key's is written. -/
theorem setBk_ok (h : Ok T) {a : Nat} {r : Rt} (ha : a = ix1 T.seed T.n r.p ∨ a = ix2 T.seed T.n r.p) {B' : List Pl} (hput : Bput (bkAt T.bks a) r = some B')
    (hnew : Bfind (bkAt T.bks a) r.p = none → ∀ x ∈ T.cont, x.p ≠ r.p) : Ok (T.setBk a B') ∧ (T.setBk a B').cont.Perm (r :: without T.cont r.p) := by
  have hal : a < T.bks.length := by rcases ha with rfl | rfl; exact h.i1 _; exact h.i2 _
  have hB := bkAt_some hal
  obtain ⟨j, hj, rfl, hcase⟩ := Bput_some hput
  obtain ⟨L, R, h0, hset⟩ := cont_at T.bks a _ hB j hj
  have hb := h.b.set hB (i := j) r ha
  have hc : (T.setBk a ((bkAt T.bks a).set j ⟨true, r⟩)).cont = L ++ [r] ++ (R ++ T.stash) := by
    show bcont (T.bks.set a ((bkAt T.bks a).set j ⟨true, r⟩)) ++ T.stash = _
    rw [hset, show pl ⟨true, r⟩ = [r] from rfl, List.append_assoc]
  have key : ((T.setBk a ((bkAt T.bks a).set j ⟨true, r⟩)).cont.map (·.p)).Nodup ∧ (T.setBk a ((bkAt T.bks a).set j ⟨true, r⟩)).cont.Perm (r :: without T.cont r.p) := by
    rcases hcase with ⟨h1, h2, _⟩ | ⟨h1, h2⟩
    · refine swap_ok (L := L) (R := R ++ T.stash) (o := (bkAt T.bks a)[j].r) ?_ hc h2 h.nodup
      show bcont T.bks ++ T.stash = _
      rw [h0, show pl (bkAt T.bks a)[j] = [(bkAt T.bks a)[j].r] by unfold pl; rw [if_pos h1], List.append_assoc]
    · refine new_ok ?_ (hnew h2) h.nodup
      rw [hc]
      show (L ++ [r] ++ (R ++ T.stash)).Perm (r :: (bcont T.bks ++ T.stash))
      rw [h0, show pl (bkAt T.bks a)[j] = [] by unfold pl; rw [h1]; rfl, List.append_nil, List.append_assoc, List.append_assoc]
      exact List.perm_middle
  have hn : (T.setBk a ((bkAt T.bks a).set j ⟨true, r⟩)).n = T.n := List.length_set
  refine ⟨⟨?_, key.1, h.sorted⟩, key.2⟩
  rw [hn]; exact hb

/-- A key that is nowhere among the three. -/
theorem absent (h : Ok T) {p : Pfx} (h1 : Bfind (bkAt T.bks (ix1 T.seed T.n p)) p = none) (h2 : Bfind (bkAt T.bks (ix2 T.seed T.n p)) p = none) (h3 : atLow T.stash p = false) : ∀ x ∈ T.cont, x.p ≠ p := by
  intro x hx e
  rcases List.mem_append.1 hx with hx | hx
  · rcases h.b.mem hx with hx | hx
    · rw [e] at hx; exact Bfind_none h1 x hx e
    · rw [e] at hx; exact Bfind_none h2 x hx e
  · exact atLow_none h.sorted h3 x hx e

theorem not_some_none {α : Type} {o : Option α} (h : ¬ o.isSome = true) : o = none := by cases o with | none => rfl | some => simp at h
theorem Bfind_of_get {B : List Pl} {p : Pfx} (h : ¬ (Bget B p).isSome = true) : Bfind B p = none := by
  cases hf : Bfind B p with
  | none => rfl
  | some i => exact absurd (Bget_isSome.2 ⟨i, hf⟩) h
theorem Bput_isSome {B : List Pl} {r : Rt} (h : (Bget B r.p).isSome = true) : ∃ B', Bput B r = some B' ∧ Bfind B r.p ≠ none := by
  obtain ⟨i, hi⟩ := Bget_isSome.1 h
  exact ⟨_, by unfold Bput Bspot; rw [hi]; rfl, by rw [hi]; simp⟩

theorem repl_some (h : Ok T) {r : Rt} {T' : Tab} (hr : replF T r = some T') : Ok T' ∧ T'.cont.Perm (r :: without T.cont r.p) ∧ T'.seed = T.seed ∧ T'.n = T.n ∧ T'.stash.length = T.stash.length := by
  unfold replF at hr
  split at hr
  · rename_i hg
    obtain ⟨B', hB', hne⟩ := Bput_isSome hg
    rw [hB', Option.map_some, Option.some.injEq] at hr
    subst hr
    obtain ⟨h1, h2⟩ := setBk_ok h (.inl rfl) hB' fun e => absurd e hne
    exact ⟨h1, h2, rfl, List.length_set, rfl⟩
  · split at hr
    · rename_i hg
      obtain ⟨B', hB', hne⟩ := Bput_isSome hg
      rw [hB', Option.map_some, Option.some.injEq] at hr
      subst hr
      obtain ⟨h1, h2⟩ := setBk_ok h (.inr rfl) hB' fun e => absurd e hne
      exact ⟨h1, h2, rfl, List.length_set, rfl⟩
    · split at hr
      · rename_i ha
        cases hr
        obtain ⟨hi, e⟩ := atLow_some ha
        obtain ⟨L, R, e1, e2⟩ := set_perm hi r
        obtain ⟨k1, k2⟩ := swap_ok (C := T.cont) (C' := (⟨T.seed, T.bks, T.stash.set (lowB T.stash r.p) r⟩ : Tab).cont) (L := bcont T.bks ++ L) (R := R) (o := T.stash[lowB T.stash r.p]) (r := r)
          (by show bcont T.bks ++ T.stash = _; rw [List.append_assoc, List.append_assoc, ← List.append_assoc L, ← e1]) (by show bcont T.bks ++ T.stash.set _ r = _; rw [e2]; simp) e h.nodup
        exact ⟨⟨h.b, k1, set_sorted hi e h.sorted⟩, k2, rfl, rfl, List.length_set⟩
      · cases hr
theorem repl_none (h : Ok T) {r : Rt} (hr : replF T r = none) : Bfind (bkAt T.bks (ix1 T.seed T.n r.p)) r.p = none ∧ Bfind (bkAt T.bks (ix2 T.seed T.n r.p)) r.p = none ∧ ∀ x ∈ T.cont, x.p ≠ r.p := by
  unfold replF at hr
  split at hr
  · rename_i hg
    obtain ⟨B', hB', _⟩ := Bput_isSome hg
    rw [hB'] at hr; cases hr
  · rename_i h1
    split at hr
    · rename_i hg
      obtain ⟨B', hB', _⟩ := Bput_isSome hg
      rw [hB'] at hr; cases hr
    · rename_i h2
      split at hr
      · cases hr
      · rename_i h3
        exact ⟨Bfind_of_get h1, Bfind_of_get h2, absent h (Bfind_of_get h1) (Bfind_of_get h2) (by simpa using h3)⟩

theorem putStep_ok (h : Ok T) (r : Rt) : Ok (putStep T r).1 ∧ (putStep T r).1.cont.Perm (r :: without T.cont r.p) ∧ (putStep T r).1.seed = T.seed ∧ (putStep T r).1.n = T.n ∧ ((putStep T r).2 = true → T.n < 65536) := by
  unfold putStep
  cases hr : replF T r with
  | some T' =>
    obtain ⟨h1, h2, h3, h4, _⟩ := repl_some h hr
    exact ⟨h1, h2, h3, h4, fun e => by cases e⟩
  | none =>
    obtain ⟨hf1, hf2, hnew⟩ := repl_none h hr
    simp only
    cases hp1 : Bput (bkAt T.bks (ix1 T.seed T.n r.p)) r with
    | some B =>
      obtain ⟨h1, h2⟩ := setBk_ok h (.inl rfl) hp1 fun _ => hnew
      exact ⟨h1, h2, rfl, List.length_set, fun e => by cases e⟩
    | none =>
      simp only
      cases hp2 : Bput (bkAt T.bks (ix2 T.seed T.n r.p)) r with
      | some B =>
        obtain ⟨h1, h2⟩ := setBk_ok h (.inr rfl) hp2 fun _ => hnew
        exact ⟨h1, h2, rfl, List.length_set, fun e => by cases e⟩
      | none =>
        simp only
        have hnd0 := h.nodup
        unfold Tab.cont at hnd0
        rw [List.map_append] at hnd0
        obtain ⟨hk1, hk2⟩ := kick_ok 16 0 T.bks r (ix2 T.seed T.n r.p) h.b (.inr rfl) (Bput_none hp2).1 (fun x hx => hnew x (List.mem_append_left _ hx)) (List.nodup_append.1 hnd0).1
        cases hk : kickF T.seed T.n 16 0 T.bks r (ix2 T.seed T.n r.p) with
        | mk bks' o =>
          rw [hk] at hk1 hk2
          cases o with
          | none =>
            simp only [Option.toList_none, List.nil_append] at hk2
            obtain ⟨k1, k2⟩ := new_ok (C := T.cont) (C' := bcont bks' ++ T.stash) (r := r) (by show _ ; exact (hk2.symm.append_right T.stash)) hnew h.nodup
            refine ⟨⟨?_, k1, h.sorted⟩, k2, rfl, hk1.len, fun e => by cases e⟩
            show OkB T.seed bks'.length bks'
            rw [hk1.len]; exact hk1
          | some r' =>
            simp only [Option.toList_some, List.singleton_append] at hk2
            have hperm : (bcont bks' ++ insF T.stash r').Perm (r :: T.cont) :=
              (((insF_perm T.stash r').append_left (bcont bks')).trans List.perm_middle).trans (show (r' :: bcont bks' ++ T.stash).Perm _ from hk2.symm.append_right T.stash)
            obtain ⟨k1, k2⟩ := new_ok (C := T.cont) (C' := bcont bks' ++ insF T.stash r') (r := r) hperm hnew h.nodup
            have hr' : ∀ x ∈ T.stash, x.p ≠ r'.p := fun x hx e => by
              have hp : ((r' :: (bcont bks' ++ T.stash)).map (·.p)).Nodup := by
                have := ((((insF_perm T.stash r').append_left (bcont bks')).trans List.perm_middle).map (·.p)).nodup_iff.1 k1
                exact this
              rw [List.map_cons, List.nodup_cons] at hp
              exact hp.1 (List.mem_map.2 ⟨x, List.mem_append_right _ hx, e⟩)
            refine ⟨⟨?_, k1, insF_sorted h.sorted hr'⟩, k2, rfl, hk1.len, fun e => ?_⟩
            · show OkB T.seed bks'.length bks'
              rw [hk1.len]; exact hk1
            · have := (of_decide_eq_true e).2
              rw [hk1.len] at this; exact this
end

/-! Growth. -/
theorem emptyBks_get {n i : Nat} {B : List Pl} (h : (emptyBks n)[i]? = some B) : B = [noPl, noPl, noPl, noPl] := by
  unfold emptyBks at h
  exact List.eq_of_mem_replicate (List.mem_of_getElem? h)
theorem empty_cont (n : Nat) : bcont (emptyBks n) = [] := by
  unfold bcont
  rw [List.flatMap_eq_nil_iff]
  intro B hB
  rw [List.eq_of_mem_replicate hB]; rfl
theorem empty_ok (s : BitVec 64) (n : Nat) (h1 : 1 ≤ n) (h2 : n ≤ 65536) : Ok ⟨s, emptyBks n, []⟩ ∧ (⟨s, emptyBks n, []⟩ : Tab).cont = [] ∧ (⟨s, emptyBks n, []⟩ : Tab).n = n := by
  have hl : (emptyBks n).length = n := List.length_replicate
  have hc : (⟨s, emptyBks n, []⟩ : Tab).cont = [] := by unfold Tab.cont; rw [empty_cont]; rfl
  refine ⟨⟨?_, by rw [hc]; exact List.nodup_nil, List.Pairwise.nil⟩, hc, hl⟩
  show OkB s (emptyBks n).length (emptyBks n)
  rw [hl]
  refine ⟨hl, h1, h2, fun i B hB => by rw [emptyBks_get hB]; rfl, fun i B hB r hr => ?_⟩
  rw [emptyBks_get hB] at hr
  cases hr
theorem grown0_ok {T : Tab} (h : Ok T) : Ok (grown0 T) ∧ (grown0 T).cont = [] ∧ (grown0 T).n = min (2 * T.n) 65536 := by
  have := h.b.n1
  exact empty_ok _ _ (by omega) (by omega)

theorem fold_ok {g : Tab → Rt → Tab} {Q : Tab → Prop} (hg : ∀ T r, Q T → Ok T → Q (g T r) ∧ Ok (g T r) ∧ (g T r).cont.Perm (r :: without T.cont r.p) ∧ T.n ≤ (g T r).n) :
    ∀ (l : List Rt) (T : Tab), Q T → Ok T → ((l ++ T.cont).map (·.p)).Nodup → Q (l.foldl g T) ∧ Ok (l.foldl g T) ∧ (l.foldl g T).cont.Perm (l ++ T.cont) ∧ T.n ≤ (l.foldl g T).n
  | [], T, hq, h, _ => ⟨hq, h, List.Perm.refl _, Nat.le_refl _⟩
  | r :: l, T, hq, h, hnd => by
    obtain ⟨q1, h1, p1, n1⟩ := hg T r hq h
    rw [List.cons_append, List.map_cons, List.nodup_cons] at hnd
    have hn : ∀ x ∈ T.cont, x.p ≠ r.p := fun x hx e => hnd.1 (List.mem_map.2 ⟨x, List.mem_append_right _ hx, e⟩)
    rw [without_none hn] at p1
    have hp : (l ++ (g T r).cont).Perm (r :: (l ++ T.cont)) := (p1.append_left l).trans List.perm_middle
    have hnd2 : ((l ++ (g T r).cont).map (·.p)).Nodup := (hp.map (·.p)).nodup_iff.2 (by
      rw [List.map_cons, List.nodup_cons]; exact hnd)
    obtain ⟨q2, h2, p2, n2⟩ := fold_ok hg l (g T r) q1 h1 hnd2
    exact ⟨q2, h2, p2.trans hp, Nat.le_trans n1 n2⟩

theorem put_ok : ∀ (f : Nat) (T : Tab) (r : Rt), 65536 ≤ T.n * 2 ^ f → Ok T → Ok (putF f T r) ∧ (putF f T r).cont.Perm (r :: without T.cont r.p) ∧ T.n ≤ (putF f T r).n
  | 0, T, r, _, h => by
    obtain ⟨h1, h2, _, h4, _⟩ := putStep_ok h r
    exact ⟨h1, h2, Nat.le_of_eq h4.symm⟩
  | f + 1, T, r, hf, h => by
    obtain ⟨h1, h2, _, h4, h5⟩ := putStep_ok h r
    rw [putF]
    split
    · rename_i hg
      obtain ⟨g1, g2, g3⟩ := grown0_ok h1
      have hn : 65536 ≤ (grown0 (putStep T r).1).n * 2 ^ f := by
        rw [g3, h4]
        rcases Nat.lt_or_ge (2 * T.n) 65536 with hl | hl
        · rw [Nat.min_eq_left (by omega)]
          rw [Nat.pow_succ] at hf
          calc 65536 ≤ T.n * (2 ^ f * 2) := hf
            _ = 2 * T.n * 2 ^ f := by rw [Nat.mul_comm (2 ^ f), ← Nat.mul_assoc, Nat.mul_comm T.n]
        · rw [Nat.min_eq_right hl]
          exact Nat.le_mul_of_pos_right _ (Nat.pow_pos (by decide))
      obtain ⟨_, k2, k3, k4⟩ := fold_ok (g := putF f) (Q := fun T => 65536 ≤ T.n * 2 ^ f)
        (fun T r hq ho => by
          obtain ⟨a1, a2, a3⟩ := put_ok f T r hq ho
          exact ⟨Nat.le_trans hq (Nat.mul_le_mul_right _ a3), a1, a2, a3⟩)
        (putStep T r).1.cont (grown0 (putStep T r).1) hn g1 (by rw [g2, List.append_nil]; exact h1.nodup)
      rw [g2, List.append_nil] at k3
      refine ⟨k2, k3.trans h2, Nat.le_trans ?_ k4⟩
      rw [g3, h4]
      have := h.b.n2
      omega
    · exact ⟨h1, h2, Nat.le_of_eq h4.symm⟩

theorem put_repl {T T' : Tab} {r : Rt} (h : replF T r = some T') : ∀ f, putF f T r = T'
  | 0 => by rw [putF, putStep, h]
  | f + 1 => by rw [putF, putStep, h]; rfl

theorem get_ok {T : Tab} (h : Ok T) (p : Pfx) (v : Int) : getF T p = some v ↔ ⟨p, v⟩ ∈ T.cont := by
  have uniq : ∀ r ∈ T.cont, r.p = p → ∀ r' ∈ T.cont, r'.p = p → r = r' := by
    intro r hr e r' hr' e'
    have hnd := h.nodup
    rw [List.Nodup, List.pairwise_map] at hnd
    obtain ⟨i, hi, rfl⟩ := List.getElem_of_mem hr
    obtain ⟨j, hj, rfl⟩ := List.getElem_of_mem hr'
    rcases Nat.lt_trichotomy i j with hij | rfl | hij
    · exact absurd (e.trans e'.symm) (List.pairwise_iff_getElem.1 hnd i j hi hj hij)
    · rfl
    · exact absurd (e'.trans e.symm) (List.pairwise_iff_getElem.1 hnd j i hj hi hij)
  have sound : ∀ v, getF T p = some v → ⟨p, v⟩ ∈ T.cont := by
    intro v hv
    unfold getF at hv
    split at hv
    · rename_i x hx
      cases hv
      exact List.mem_append_left _ (mem_bcont (h.i1 p) (Bget_some hx))
    · split at hv
      · rename_i x hx
        cases hv
        exact List.mem_append_left _ (mem_bcont (h.i2 p) (Bget_some hx))
      · split at hv
        · rename_i ha
          obtain ⟨hi, e⟩ := atLow_some ha
          rw [List.getElem?_eq_getElem hi, Option.map_some, Option.some.injEq] at hv
          refine List.mem_append_right _ ?_
          have : T.stash[lowB T.stash p] = ⟨p, v⟩ := by
            rw [← hv]
            cases hx : T.stash[lowB T.stash p]
            rw [hx] at e
            cases e; rfl
          rw [← this]; exact List.getElem_mem hi
        · cases hv
  refine ⟨sound v, fun hm => ?_⟩
  cases hg : getF T p with
  | some v' => have := uniq _ (sound v' hg) rfl _ hm rfl; cases this; rfl
  | none =>
    exfalso
    unfold getF at hg
    split at hg
    · cases hg
    · rename_i h1
      split at hg
      · cases hg
      · rename_i h2
        split at hg
        · rename_i ha
          obtain ⟨hi, _⟩ := atLow_some ha
          rw [List.getElem?_eq_getElem hi] at hg; cases hg
        · rename_i h3
          have f1 : Bfind (bkAt T.bks (ix1 T.seed T.n p)) p = none := Bfind_of_get (by rw [h1]; simp)
          have f2 : Bfind (bkAt T.bks (ix2 T.seed T.n p)) p = none := Bfind_of_get (by rw [h2]; simp)
          exact absent h f1 f2 (by simpa using h3) _ hm rfl
/-- Does Get find the key in the first of its two buckets? -/
def getSeenD (T : Tab) (p : Pfx) : Bool := (Bget (bkAt T.bks (ix1 T.seed T.n p)) p).isSome
attribute [irreducible] ix1 ix2 getF
end Go.Fl
