/-
  Chapter 18, plain: that the trie and the sorted list of routes tell the same hop of every key, and that the program's set of keys is the reference's.
-/
import Derived.Test.YtoenjjlicglceaaFtrie
import Derived.Test.YtoenjjlicglceaaFlong
import Derived.Test.YtoenjjlicglceaaFcompact
namespace Go.Fl

theorem mem_set_iff {l : List Rt} {i : Nat} (hi : i < l.length) {r x : Rt} (hs : SortedR l) (e : l[i].p = r.p) : x ∈ l.set i r ↔ x = r ∨ (x ∈ l ∧ x.p ≠ r.p) := by
  constructor
  · intro h
    obtain ⟨j, hj, rfl⟩ := List.getElem_of_mem h
    rw [List.length_set] at hj
    rw [List.getElem_set]
    by_cases hij : i = j
    · left; rw [if_pos hij]
    · right
      rw [if_neg hij]
      refine ⟨List.getElem_mem hj, fun e2 => ?_⟩
      rw [← e] at e2
      rcases Nat.lt_or_gt_of_ne hij with h1 | h1
      · have := sorted_get hs hi hj h1; rw [e2] at this; exact Pfx.lt_irrefl _ this
      · have := sorted_get hs hj hi h1; rw [e2] at this; exact Pfx.lt_irrefl _ this
  · rintro (rfl | ⟨h, hne⟩)
    · exact List.mem_set hi _
    · obtain ⟨j, hj, rfl⟩ := List.getElem_of_mem h
      have hij : i ≠ j := fun e2 => hne (by subst e2; exact e)
      exact List.mem_iff_getElem.2 ⟨j, by rw [List.length_set]; exact hj, by rw [List.getElem_set, if_neg hij]⟩
theorem intoF_sorted {l : List Rt} {r : Rt} (hs : SortedR l) : SortedR (intoF l r) := by
  unfold intoF
  split
  · rename_i h
    obtain ⟨hi, e⟩ := atLow_some h
    exact set_sorted hi e hs
  · rename_i h
    exact insF_sorted hs (atLow_none hs (by simpa using h))
theorem mem_intoF {l : List Rt} {r x : Rt} (hs : SortedR l) : x ∈ intoF l r ↔ x = r ∨ (x ∈ l ∧ x.p ≠ r.p) := by
  unfold intoF
  split
  · rename_i h
    obtain ⟨hi, e⟩ := atLow_some h
    exact mem_set_iff hi hs e
  · rename_i h
    have hn := atLow_none hs (show atLow l r.p = false by simpa using h)
    rw [(insF_perm l r).mem_iff, List.mem_cons]
    exact ⟨fun h => h.imp id fun h => ⟨h, hn x h⟩, fun h => h.imp id fun h => h.1⟩
theorem sorted_ext : ∀ {a b : List Rt}, SortedR a → SortedR b → (∀ x, x ∈ a ↔ x ∈ b) → a = b
  | [], [], _, _, _ => rfl
  | [], y :: b, _, _, h => absurd ((h y).2 List.mem_cons_self) (by simp)
  | x :: a, [], _, _, h => absurd ((h x).1 List.mem_cons_self) (by simp)
  | x :: a, y :: b, ha, hb, h => by
    have ha' := List.pairwise_cons.1 ha
    have hb' := List.pairwise_cons.1 hb
    have e : x = y := by
      rcases List.mem_cons.1 ((h x).1 List.mem_cons_self) with e | h1
      · exact e
      · rcases List.mem_cons.1 ((h y).2 List.mem_cons_self) with e | h2
        · exact e.symm
        · exact absurd (ha'.1 y h2) (Pfx.lt_asymm (hb'.1 x h1))
    subst e
    congr 1
    refine sorted_ext ha'.2 hb'.2 fun z => ?_
    constructor
    · intro hz
      rcases List.mem_cons.1 ((h z).1 (List.mem_cons_of_mem _ hz)) with rfl | h1
      · exact absurd (ha'.1 z hz) (Pfx.lt_irrefl _)
      · exact h1
    · intro hz
      rcases List.mem_cons.1 ((h z).2 (List.mem_cons_of_mem _ hz)) with rfl | h1
      · exact absurd (hb'.1 z hz) (Pfx.lt_irrefl _)
      · exact h1
theorem sortedF_snoc (l : List Rt) (r : Rt) : sortedF (l ++ [r]) = intoF (sortedF l) r := by unfold sortedF; rw [List.foldl_append]; rfl
theorem sortedF_ok (l : List Rt) : SortedR (sortedF l) ∧ ∀ r, r ∈ sortedF l ↔ lastHop l r.p = some r.hop := by
  induction l using list_snoc with
  | h0 => exact ⟨List.Pairwise.nil, fun r => by simp [sortedF, lastHop]⟩
  | hs l r ih =>
    rw [sortedF_snoc]
    refine ⟨intoF_sorted ih.1, fun x => ?_⟩
    rw [mem_intoF ih.1, lastHop_snoc, ih.2]
    by_cases e : r.p = x.p
    · rw [if_pos e]
      constructor
      · rintro (rfl | ⟨_, h⟩)
        · rfl
        · exact absurd e.symm h
      · intro h
        left
        rcases x with ⟨p, y⟩
        rcases r with ⟨q, z⟩
        cases e
        cases h; rfl
    · rw [if_neg e]
      constructor
      · rintro (rfl | ⟨h, _⟩)
        · exact absurd rfl e
        · exact h
      · intro h
        exact .inr ⟨h, fun e2 => e e2.symm⟩
theorem lastHop_mem {l : List Rt} {p : Pfx} {h : Int} (hl : lastHop l p = some h) : (⟨p, h⟩ : Rt) ∈ l := by
  unfold lastHop at hl
  cases hf : l.reverse.find? fun r => decide (r.p = p) with
  | none => rw [hf] at hl; cases hl
  | some r =>
    rw [hf] at hl
    have h1 := List.find?_some hf
    have h2 := List.mem_of_find?_eq_some hf
    simp only [decide_eq_true_eq] at h1
    simp only [Option.map_some, Option.some.injEq] at hl
    subst h1; subst hl
    exact List.mem_reverse.1 h2
theorem lastHop_sorted {l : List Rt} (hs : SortedR l) (p : Pfx) (h : Int) : lastHop l p = some h ↔ (⟨p, h⟩ : Rt) ∈ l := by
  refine ⟨lastHop_mem, fun hm => ?_⟩
  unfold lastHop
  cases hf : l.reverse.find? fun r => decide (r.p = p) with
  | none =>
    have := List.find?_eq_none.1 hf ⟨p, h⟩ (List.mem_reverse.2 hm)
    simp at this
  | some r =>
    have h1 := List.find?_some hf
    have h2 := List.mem_reverse.1 (List.mem_of_find?_eq_some hf)
    simp only [decide_eq_true_eq] at h1
    obtain ⟨i, hi, e1⟩ := List.getElem_of_mem hm
    obtain ⟨j, hj, e2⟩ := List.getElem_of_mem h2
    have : i = j := by
      rcases Nat.lt_trichotomy i j with h' | h' | h'
      · have := sorted_get hs hi hj h'; rw [e1, e2, h1] at this; exact absurd this (Pfx.lt_irrefl _)
      · exact h'
      · have := sorted_get hs hj hi h'; rw [e1, e2, h1] at this; exact absurd this (Pfx.lt_irrefl _)
    subst this
    rw [e1] at e2
    subst e2; rfl
theorem sortedF_of {l : List Rt} (hs : SortedR l) : sortedF l = l := sorted_ext (sortedF_ok l).1 hs fun r => by rw [(sortedF_ok l).2, lastHop_sorted hs]
theorem sortedF_idem (l : List Rt) : sortedF (sortedF l) = sortedF l := sortedF_of (sortedF_ok l).1

/-- An address' prefix of a length. -/
def cutP (a : Adr) (m : Nat) : Pfx := ⟨(cutA a m).hi, (cutA a m).lo, m⟩
theorem cut_cut (a : Adr) (m : Nat) : cutA (cutA a m) m = cutA a m := Adr.ext_bit fun i hi => by
  rw [cut_bit, cut_bit, Bool.and_assoc, Bool.and_self]
theorem cutP_right (a : Adr) (m : Nat) (h : m ≤ 128) : rightF (cutP a m) = true := (right_iff _).2 ⟨Int.natCast_nonneg m, by show (m : Int) ≤ 128; omega, cut_cut a m⟩
theorem cutP_path (a : Adr) (m : Nat) : path (cutP a m) = bitsOf a m := by
  show bitsOf (cutA a m) (Int.toNat (m : Int)) = _
  rw [Int.toNat_natCast, bitsOf_cut a (Nat.le_refl m)]
theorem val_cut (l : List Rt) (a : Adr) (m : Nat) (h : m ≤ 128) : valOf l (bitsOf a m) = lastHop l (cutP a m) := by
  rw [← cutP_path, val_path l (cutP_right a m h)]
theorem cand_iff {a : Adr} {low high : Int} {r : Rt} : cand a low high r = true ↔ low < r.p.len ∧ r.p.len ≤ high ∧ 0 ≤ r.p.len ∧ r.p.len ≤ 128 ∧ r.p = cutP a r.p.len.toNat := by
  unfold cand hasF
  rw [Bool.and_eq_true, Bool.and_eq_true, Bool.and_eq_true, right_iff]
  simp only [decide_eq_true_eq]
  constructor
  · rintro ⟨⟨h1, h2⟩, ⟨h3, h4, _⟩, h6⟩
    refine ⟨h1, h2, h3, h4, ?_⟩
    unfold cutP
    rw [Int.toNat_of_nonneg h3, h6]; rfl
  · rintro ⟨h1, h2, h3, h4, h5⟩
    have e : cutA a r.p.len = r.p.adr := by
      have h6 := congrArg Pfx.adr h5
      rw [h6]
      show _ = cutA a (r.p.len.toNat : Int)
      rw [Int.toNat_of_nonneg h3]
    refine ⟨⟨h1, h2⟩, ⟨h3, h4, ?_⟩, e⟩
    have h7 := (right_iff _).1 (cutP_right a r.p.len.toNat (by omega))
    rw [← h5] at h7
    exact h7.2.2

/-- The hop that the trie tells of a key. -/
def atF (val : Val) (k : Pfx) (low : Int) : Option Int := (betw val k.adr low (min k.len 128)).map (·.hop)
theorem upTo_lt {high : Int} {m : Nat} : m < upTo (min high 128) ↔ (m : Int) ≤ high ∧ m ≤ 128 := by
  unfold upTo
  split <;> omega
theorem hop_eq (l : List Rt) (k : Pfx) (low : Int) : hopF l k low = atF (valOf l) k low := by
  have hmem := (sortedF_ok l).2
  unfold hopF atF betw
  rcases longF_spec (sortedF l) k.adr low k.len with ⟨h1, h2⟩ | ⟨b, h1, hb, hc, hmax⟩
  · rw [h1, if_pos (by decide)]
    rcases betwGo_spec (val := valOf l) (a := k.adr) (low := low) (upTo (min k.len 128)) with ⟨h3, _⟩ | ⟨m, h, h3, h4, h5, _⟩
    · rw [h3]; rfl
    · exfalso
      obtain ⟨h6, h7⟩ := upTo_lt.1 h3
      rw [val_cut l _ m h7] at h5
      have := h2 ⟨cutP k.adr m, h⟩ ((hmem _).2 h5)
      rw [show cand k.adr low k.len ⟨cutP k.adr m, h⟩ = true from cand_iff.2 ⟨h4, h6, Int.natCast_nonneg m, by show (m : Int) ≤ 128; omega, by show _ = cutP _ (Int.toNat (m : Int)); rw [Int.toNat_natCast]⟩] at this
      cases this
  · rw [h1, if_neg (by omega), Int.toNat_natCast, List.getElem?_eq_getElem hb]
    obtain ⟨c1, c2, c3, c4, c5⟩ := cand_iff.1 hc
    have hm := (hmem _).1 (List.getElem_mem hb)
    have hv : valOf l (bitsOf k.adr (sortedF l)[b].p.len.toNat) = some (sortedF l)[b].hop := by
      rw [val_cut l _ _ (by omega), ← c5]; exact hm
    have hlt : (sortedF l)[b].p.len.toNat < upTo (min k.len 128) := upTo_lt.2 ⟨by omega, by omega⟩
    rcases betwGo_spec (val := valOf l) (a := k.adr) (low := low) (upTo (min k.len 128)) with ⟨_, h4⟩ | ⟨m, h, h3, h4, h5, h6, h7⟩
    · rw [h4 _ hlt (by omega)] at hv; cases hv
    · obtain ⟨h8, h9⟩ := upTo_lt.1 h3
      rw [h6]
      have hv2 := h5
      rw [val_cut l _ m h9] at hv2
      have hle := hmax ⟨cutP k.adr m, h⟩ ((hmem _).2 hv2) (cand_iff.2 ⟨h4, h8, Int.natCast_nonneg m, by show (m : Int) ≤ 128; omega, by show _ = cutP _ (Int.toNat (m : Int)); rw [Int.toNat_natCast]⟩)
      have hle2 : (m : Int) ≤ (sortedF l)[b].p.len := hle
      have hmm : m = (sortedF l)[b].p.len.toNat := by
        rcases Nat.lt_or_ge m (sortedF l)[b].p.len.toNat with h' | h'
        · rw [h7 _ h' hlt] at hv; cases hv
        · omega
      subst hmm
      rw [hv] at h5
      cases h5; rfl
theorem hop_idem (l : List Rt) (k : Pfx) (low : Int) : hopF (sortedF l) k low = hopF l k low := by unfold hopF; rw [sortedF_idem]

/-- All that a trie of routes has. -/
theorem mem_allF (l : List Rt) (r : Rt) : r ∈ allF (valOf l) ↔ rightF r.p = true ∧ lastHop l r.p = some r.hop := by
  unfold allF
  rw [mem_allT]
  constructor
  · rintro ⟨v, hv, h1, h2⟩
    rw [List.nil_append] at h1 h2
    rw [h1]
    exact ⟨pfxOf_right v hv, (val_some h2).2⟩
  · rintro ⟨h1, h2⟩
    obtain ⟨h3, h4, _⟩ := (right_iff _).1 h1
    exact ⟨path r.p, by rw [path_length]; omega, by rw [List.nil_append, pfxOf_path h1], by rw [List.nil_append, val_path l h1]; exact h2⟩
theorem allT_nodup {val : Val} : ∀ (f : Nat) (u : Path), u.length + f ≤ 128 → ((allT val f u).map (·.p)).Nodup
  | 0, u, _ => by
    unfold allT hereT
    split <;> simp
  | f + 1, u, h => by
    have hin : ∀ v w : Path, v.length ≤ 128 → w.length ≤ 128 → pfxOf v = pfxOf w → v = w := fun v w hv hw e => by
      rw [← path_pfxOf v hv, ← path_pfxOf w hw, e]
    rw [allT, List.map_append, List.map_append]
    refine List.nodup_append.2 ⟨List.nodup_append.2 ⟨?_, allT_nodup f _ (by simp; omega), ?_⟩, allT_nodup f _ (by simp; omega), ?_⟩
    · unfold hereT
      split <;> simp
    · intro p hp q hq e
      obtain ⟨r, hr, rfl⟩ := List.mem_map.1 hp
      obtain ⟨s, hs, rfl⟩ := List.mem_map.1 hq
      obtain ⟨v, hv, h1, _⟩ := (mem_allT f _ s).1 hs
      have hr2 : r.p = pfxOf u := by
        unfold hereT at hr
        split at hr
        · rw [List.mem_singleton] at hr; rw [hr]
        · cases hr
      rw [hr2, h1] at e
      have := congrArg List.length (hin u _ (by omega) (by simp; omega) e)
      simp at this
      try omega
    · intro p hp q hq e
      obtain ⟨s, hs, rfl⟩ := List.mem_map.1 hq
      obtain ⟨v, hv, h1, _⟩ := (mem_allT f _ s).1 hs
      rcases List.mem_append.1 hp with hp | hp
      · obtain ⟨r, hr, rfl⟩ := List.mem_map.1 hp
        have hr2 : r.p = pfxOf u := by
          unfold hereT at hr
          split at hr
          · rw [List.mem_singleton] at hr; rw [hr]
          · cases hr
        rw [hr2, h1] at e
        have := congrArg List.length (hin u _ (by omega) (by simp; omega) e)
        simp at this
      try omega
      · obtain ⟨r, hr, rfl⟩ := List.mem_map.1 hp
        obtain ⟨v', hv', h2, _⟩ := (mem_allT f _ r).1 hr
        rw [h2, h1] at e
        have := hin _ _ (by simp; omega) (by simp; omega) e
        have := congrArg (fun z : Path => z[u.length]?) this
        simp at this
theorem nodup_sub {α : Type} [DecidableEq α] : ∀ {a b : List α}, a.Nodup → (∀ x ∈ a, x ∈ b) → a.length ≤ b.length
  | [], b, _, _ => Nat.zero_le _
  | x :: a, b, h, hs => by
    have hn := List.nodup_cons.1 h
    have h1 := nodup_sub (a := a) (b := b.erase x) hn.2 fun y hy => (List.mem_erase_of_ne fun e => hn.1 (by rw [← e]; exact hy)).2 (hs y (List.mem_cons_of_mem _ hy))
    have h2 := List.length_erase_of_mem (hs x List.mem_cons_self)
    have h3 := List.length_pos_of_mem (hs x List.mem_cons_self)
    rw [List.length_cons]; omega
theorem allF_le (l : List Rt) : (allF (valOf l)).length ≤ l.length := by
  have h := nodup_sub (allT_nodup (val := valOf l) 128 [] (by simp)) (b := l.map (·.p)) fun p hp => by
    obtain ⟨r, hr, rfl⟩ := List.mem_map.1 hp
    exact List.mem_map.2 ⟨_, lastHop_mem ((mem_allF l r).1 hr).2, rfl⟩
  simpa [allF] using h

/-- Sorted, with copies: of each run one. -/
theorem ded_ok {l : List Pfx} (h : l.Pairwise fun x y => ¬ cmpP y x < 0) : ∀ j, j ≤ l.length → (ded l j).Pairwise Pfx.lt ∧ (∀ x, x ∈ ded l j ↔ x ∈ l.take j)
  | 0, _ => ⟨List.Pairwise.nil, fun x => by simp [ded]⟩
  | j + 1, hj => by
    obtain ⟨h1, h2⟩ := ded_ok h j (by omega)
    have hjl : j < l.length := by omega
    have hle : ∀ i (hi : i < l.length), i < j → ¬ Pfx.lt l[j] l[i] := fun i hi hij => by
      have := List.pairwise_iff_getElem.1 h i j hi hjl hij
      rwa [cmp_neg] at this
    rw [List.take_succ_eq_append_getElem hjl]
    by_cases e : 0 < j ∧ l[j] = l[j - 1]'(by omega)
    · rw [ded_copy hjl e.1 e.2]
      refine ⟨h1, fun x => ?_⟩
      rw [h2, List.mem_append, List.mem_singleton]
      constructor
      · exact .inl
      · rintro (h3 | rfl)
        · exact h3
        · rw [e.2]
          exact List.mem_iff_getElem.2 ⟨j - 1, by rw [List.length_take]; omega, by rw [List.getElem_take]⟩
    · have hne : 0 < j → l[j] ≠ l[j - 1]'(by omega) := fun h0 e2 => e ⟨h0, e2⟩
      rw [ded_new hjl hne]
      refine ⟨List.pairwise_append.2 ⟨h1, List.pairwise_singleton _ _, fun x hx y hy => ?_⟩, fun x => by rw [List.mem_append, List.mem_append, h2]⟩
      rw [List.mem_singleton] at hy
      subst hy
      obtain ⟨i, hi, rfl⟩ := List.getElem_of_mem ((h2 x).1 hx)
      rw [List.length_take] at hi
      rw [List.getElem_take]
      have h3 := hle i (by omega) (by omega)
      rcases Pfx.lt_total l[i] l[j] with h4 | h4 | h4
      · exact h4
      · exfalso
        rcases Nat.lt_or_ge i (j - 1) with h5 | h5
        · have h6 := List.pairwise_iff_getElem.1 h i (j - 1) (by omega) (by omega) h5
          rw [cmp_neg, h4] at h6
          have h7 := hle (j - 1) (by omega) (by omega)
          rcases Pfx.lt_total l[j] (l[j - 1]'(by omega)) with h8 | h8 | h8
          · exact h7 h8
          · exact hne (by omega) h8
          · exact h6 h8
        · have : i = j - 1 := by omega
          subst this
          exact hne (by omega) h4.symm
      · exact absurd h4 h3

def inLen (low high : Int) (r : Rt) : Bool := decide (low < r.p.len) && decide (r.p.len ≤ high)
def keysOf (l : List Rt) (low high : Int) : List Pfx := l.flatMap fun r => if inLen low high r = true then keysF r.p high else []
/-- The reference's set. -/
def setF (l : List Rt) (low high : Int) : List Rt := if low < high then (keysOf (sortedF l) low high).foldl (fun out k => intoF out ⟨k, (hopF (sortedF l) k low).getD 0⟩) [] else []
theorem fold_into (g : Pfx → Int) (ks : List Pfx) : SortedR (ks.foldl (fun out k => intoF out ⟨k, g k⟩) []) ∧ ∀ x, x ∈ ks.foldl (fun out k => intoF out ⟨k, g k⟩) [] ↔ ∃ k ∈ ks, x = ⟨k, g k⟩ := by
  induction ks using list_snoc with
  | h0 => exact ⟨List.Pairwise.nil, fun x => by simp⟩
  | hs ks k ih =>
    rw [List.foldl_append]
    refine ⟨intoF_sorted ih.1, fun x => ?_⟩
    show x ∈ intoF _ _ ↔ _
    rw [mem_intoF ih.1, ih.2]
    constructor
    · rintro (rfl | ⟨⟨k', hk', rfl⟩, _⟩)
      · exact ⟨k, by simp, rfl⟩
      · exact ⟨k', by simp [hk'], rfl⟩
    · rintro ⟨k', hk', rfl⟩
      rcases List.mem_append.1 hk' with h | h
      · by_cases e : k' = k
        · subst e; exact .inl rfl
        · exact .inr ⟨⟨k', h, rfl⟩, e⟩
      · rw [List.mem_singleton] at h
        subst h; exact .inl rfl
theorem keysF_wrong {p : Pfx} {n : Int} (h : ¬ rightF p = true) : keysF p n = [] := by
  unfold keysF
  rw [if_neg]
  unfold mayKeys
  simp [h]
theorem set_eq (l : List Rt) (low high : Int) (s : List Pfx) (hp : s.Perm (keysOf (allF (valOf l)) low high)) (hs : s.Pairwise fun x y => ¬ cmpP y x < 0) :
    (dedF s).map (fun k => (⟨k, (atF (valOf l) k low).getD 0⟩ : Rt)) = setF l low high := by
  obtain ⟨d1, d2⟩ := ded_ok hs s.length (Nat.le_refl _)
  rw [List.take_length] at d2
  have hkeys : ∀ k, k ∈ keysOf (allF (valOf l)) low high ↔ k ∈ keysOf (sortedF l) low high := by
    intro k
    unfold keysOf
    rw [List.mem_flatMap, List.mem_flatMap]
    constructor
    · rintro ⟨r, hr, hk⟩
      exact ⟨r, ((sortedF_ok l).2 r).2 ((mem_allF l r).1 hr).2, hk⟩
    · rintro ⟨r, hr, hk⟩
      by_cases hw : rightF r.p = true
      · exact ⟨r, (mem_allF l r).2 ⟨hw, ((sortedF_ok l).2 r).1 hr⟩, hk⟩
      · rw [keysF_wrong hw] at hk
        split at hk <;> cases hk
  unfold setF
  split
  · obtain ⟨f1, f2⟩ := fold_into (fun k => (hopF (sortedF l) k low).getD 0) (keysOf (sortedF l) low high)
    refine sorted_ext (List.pairwise_map.2 (d1.imp fun h => h)) f1 fun x => ?_
    rw [f2, List.mem_map]
    constructor
    · rintro ⟨k, hk, rfl⟩
      exact ⟨k, (hkeys k).1 (hp.mem_iff.1 ((d2 k).1 hk)), by rw [hop_idem, hop_eq]⟩
    · rintro ⟨k, hk, rfl⟩
      exact ⟨k, (d2 k).2 (hp.mem_iff.2 ((hkeys k).2 hk)), by rw [hop_idem, hop_eq]⟩
  · rename_i hlh
    have : keysOf (allF (valOf l)) low high = [] := by
      unfold keysOf
      rw [List.flatMap_eq_nil_iff]
      intro r _
      rw [if_neg]
      unfold inLen
      simp; omega
    rw [this] at hp
    have : s = [] := List.Perm.eq_nil hp
    subst this; rfl
end Go.Fl
