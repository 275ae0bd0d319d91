/-
  Chapter 4: the stash: a sorted slice of routes; where a route would stand (slices.BinarySearchFunc), put there (slices.Insert), taken out (slices.Delete).
-/
import Derived.Test.YtoenjjlicglceaaK4
import Derived.Test.YtoenjjlicglceaaFcmp
import Derived.Lib.Overlaps
namespace Go.Fl
open Go.Proofs
set_option maxHeartbeats 400000
set_option maxRecDepth 100000

/-- A slice value that holds these routes. -/
def SlR (h : Array Obj) (a : Option Addr) (l : List Rt) : Prop := l = [] ∨ ∃ b o, a = some ⟨b, o, none⟩ ∧ At h b o (l.flatMap Rt.cells)

theorem rcells_part (l : List Rt) (i : Nat) (h : i < l.length) : l[i].cells <+: (l.flatMap Rt.cells).drop (i * 4) :=
  ⟨((l.flatMap Rt.cells).drop (i * 4)).drop 4, by rw [← flat_part Rt.cells 4 (fun _ => rfl) l i h]; exact List.take_append_drop _ _⟩
theorem rcells_length (l : List Rt) : (l.flatMap Rt.cells).length = l.length * 4 := flat_length _ 4 (fun _ => rfl) l

/-- The routes stand in the order of their prefixes, none twice. -/
def SortedR (l : List Rt) : Prop := l.Pairwise fun a b => Pfx.lt a.p b.p
/-- How many routes are ahead of a prefix. -/
def lowB (l : List Rt) (p : Pfx) : Nat := l.findIdx fun r => !decide (Pfx.lt r.p p)
def atLow (l : List Rt) (p : Pfx) : Bool := match l[lowB l p]? with | some r => decide (r.p = p) | none => false

theorem sorted_get {l : List Rt} (h : SortedR l) {i j : Nat} (hi : i < l.length) (hj : j < l.length) (hij : i < j) : Pfx.lt l[i].p l[j].p := List.pairwise_iff_getElem.1 h i j hi hj hij
theorem lowB_eq {l : List Rt} {p : Pfx} {i : Nat} (hi : i ≤ l.length) (h1 : ∀ j (h : j < l.length), j < i → Pfx.lt l[j].p p) (h2 : ∀ h : i < l.length, ¬ Pfx.lt l[i].p p) : lowB l p = i := by
  unfold lowB
  rcases Nat.lt_or_ge i l.length with h | h
  · exact (List.findIdx_eq h).2 ⟨by simp [h2 h], fun j hj => by simp [h1 j (by omega) hj]⟩
  · have : i = l.length := by omega
    rw [this]
    exact List.findIdx_eq_length.2 fun x hx => by
      obtain ⟨j, hj, rfl⟩ := List.getElem_of_mem hx
      simp [h1 j hj (by omega)]
theorem lowB_le (l : List Rt) (p : Pfx) : lowB l p ≤ l.length := List.findIdx_le_length
theorem lowB_lt {l : List Rt} {p : Pfx} {j : Nat} (h : j < lowB l p) : Pfx.lt (l[j]'(Nat.lt_of_lt_of_le h (lowB_le l p))).p p := by
  have := List.not_of_lt_findIdx h
  simpa using this
theorem lowB_ge {l : List Rt} {p : Pfx} (h : lowB l p < l.length) : ¬ Pfx.lt l[lowB l p].p p := by
  have := @List.findIdx_getElem _ (fun r : Rt => !decide (Pfx.lt r.p p)) l h
  simp only [Bool.not_eq_true', decide_eq_false_iff_not] at this
  exact this

theorem mid_eq (i j : Nat) (h : i + j < 2000000000) : ((BitVec.ofInt 64 ((i : Int) + (j : Int))) >>> 1).toInt = ((i + j) / 2 : Nat) := by
  have h1 : ((BitVec.ofInt 64 ((i : Int) + (j : Int))) >>> 1).toNat = (i + j) / 2 := by
    rw [BitVec.toNat_ushiftRight, Nat.shiftRight_eq_div_pow, BitVec.toNat_ofInt]
    omega
  rw [BitVec.toInt_eq_toNat_cond, h1, if_pos (by omega)]

theorem cmp_neg (a b : Pfx) : cmpP a b < 0 ↔ Pfx.lt a b := by
  rcases cmpP_cases a b with ⟨h, e⟩ | ⟨h, e⟩ | ⟨h, e⟩ <;> rw [e]
  · exact ⟨fun _ => h, fun _ => by omega⟩
  · subst h; exact ⟨fun h => by omega, fun h => absurd h (Pfx.lt_irrefl _)⟩
  · exact ⟨fun h => by omega, fun k => absurd k (Pfx.lt_asymm h)⟩
theorem cmp_zero (a b : Pfx) : cmpP a b = 0 ↔ a = b := by
  rcases cmpP_cases a b with ⟨h, e⟩ | ⟨h, e⟩ | ⟨h, e⟩ <;> rw [e]
  · exact ⟨fun h => by omega, fun k => by subst k; exact absurd h (Pfx.lt_irrefl _)⟩
  · exact ⟨fun _ => h, fun _ => rfl⟩
  · exact ⟨fun h => by omega, fun k => by subst k; exact absurd h (Pfx.lt_irrefl _)⟩

theorem BS_spec (a : Option Addr) (c : Nat) (l : List Rt) (t : Rt) (w : World) (hl : SlR w.heap a l) (hs : SortedR l) (hn : l.length < 1000000000) :
    Ret Try.prog 100 #[.slice a l.length c, t.val, .func (.func 85) #[] #[]] w fun v w' => v = .tuple #[.int .i64 (lowB l t.p), .bool (atLow l t.p)] ∧ Ext No w w' := by
  refine calls_ev (args := [_, _, _]) mixed Try.func100 ok_100 rfl ?_
  refine bx (cs := _) rfl ?_
  intro w1 h1
  have ht1 : Blk w1.heap w.heap.size t.cells 45 := h1.blk
  refine lenS ?_
  refine loop [0, 2, 4, 8, 9, 10] (fun k vs w' => ∃ i j : Nat, i ≤ j ∧ j ≤ l.length ∧ k = j - i ∧ vs = [.slice a l.length c, .func (.func 85) #[] #[], .pointer (some ⟨w.heap.size, 0, none⟩), .int .i64 l.length, .int .i64 i, .int .i64 j] ∧
    (∀ m (h : m < l.length), m < i → Pfx.lt l[m].p t.p) ∧ (∀ m (h : m < l.length), j ≤ m → ¬ Pfx.lt l[m].p t.p) ∧ Ext No w1 w') l.length _ rfl ⟨0, l.length, by omega, by omega, rfl, rfl, by omega, by omega, Ext.refl _ _⟩ ?_
  rintro k vs w2 ⟨i, j, hij, hj, rfl, rfl, hlo, hhi, he⟩
  have hnil : l = [] ∨ ∃ b o, a = some ⟨b, o, none⟩ ∧ At w2.heap b o (l.flatMap Rt.cells) := by
    rcases hl with h | ⟨b, o, h, hat⟩
    · exact .inl h
    · exact .inr ⟨b, o, h, ((h1.ext No).trans he).at_ hat id⟩
  refine TestK.mk (fun hlt => ?_) (fun hlt => ?_)
  · skip
    have hm := mid_eq i j (by omega)
    have hlt' : (i + j) / 2 < l.length := by omega
    rcases hnil with rfl | ⟨b, o, rfl, hat⟩
    · exact absurd hlt' (by simp)
    refine add64 (by omega) (by omega) ?_
    refine toU ?_
    refine shrU 1 rfl rfl ?_
    refine toI rfl ?_
    refine iaS ((i + j) / 2) (hm) (by omega) ?_
    refine ldN (cs := l[(i + j) / 2].cells) (rfl) (hat.sub (rcells_part l _ hlt')) ?_
    refine ldN (cs := t.cells) (rfl) ((he.blk ht1 id).at_) ?_
    refine Ret.mono (Order_spec _ _ _) ?_
    rintro v3 w3 ⟨rfl, e3⟩
    refine TestK.mk (fun h => ?_) (fun h => ?_)
    · skip
      have h' := (cmp_neg _ _).1 h
      refine add64 (by omega) (by omega) ?_
      refine again (j - ((i + j) / 2 + 1)) (by omega) _ rfl ⟨(i + j) / 2 + 1, j, by omega, hj, rfl, by rw [hm]; rfl, fun m hm' hlt => ?_, hhi, he.trans e3⟩
      rcases Nat.lt_or_ge m ((i + j) / 2) with h'' | h''
      · exact Pfx.lt_trans (sorted_get hs hm' hlt' h'') h'
      · obtain rfl : m = (i + j) / 2 := by omega
        exact h'
    · skip
      have h' := fun k => h ((cmp_neg _ _).2 k)
      refine again ((i + j) / 2 - i) (by omega) _ rfl ⟨i, (i + j) / 2, by omega, by omega, rfl, by rw [hm], hlo, fun m hm' hle => ?_, he.trans e3⟩
      rcases Nat.lt_or_ge ((i + j) / 2) m with h'' | h''
      · exact fun k => h' (Pfx.lt_trans (sorted_get hs hlt' hm' h'') k)
      · obtain rfl : m = (i + j) / 2 := by omega
        exact h'
  · skip
    obtain rfl : i = j := by omega
    have hlow : lowB l t.p = i := lowB_eq hj hlo fun h => hhi i h (Nat.le_refl _)
    refine TestK.mk (fun h => ?_) (fun h => ?_)
    · skip
      have h' : i < l.length := by omega
      rcases hnil with rfl | ⟨b, o, rfl, hat⟩
      · exact absurd h' (by simp)
      refine iaS (i) (rfl) (by omega) ?_
      refine ldN (cs := l[i].cells) (rfl) (hat.sub (rcells_part l _ h')) ?_
      refine ldN (cs := t.cells) (rfl) ((he.blk ht1 id).at_) ?_
      refine Ret.mono (Order_spec _ _ _) ?_
      rintro v3 w3 ⟨rfl, e3⟩
      refine TestK.mk (fun h2 => ?_) (fun h2 => ?_)
      · skip
        exact And.intro (by rw [atLow, hlow, List.getElem?_eq_getElem h']; simp [(cmp_zero _ _).1 h2]; rfl) (((h1.ext No).trans he).trans e3)
      · skip
        exact And.intro (by rw [atLow, hlow, List.getElem?_eq_getElem h']; simp [show ¬ l[i].p = t.p from fun k => h2 ((cmp_zero _ _).2 k)]; rfl) (((h1.ext No).trans he).trans e3)
    · skip
      exact And.intro (by rw [atLow, hlow, List.getElem?_eq_none (by omega)]; rfl) ((h1.ext No).trans he)

theorem overlaps_spec {b o b' o' n c n' c' T T' : Nat} {cs cs' : List Value} (w : World) (h : Blk w.heap b cs T) (h' : Blk w.heap b' cs' T') (hne : b ≠ b') (hc : cs'.length ≠ 0) :
    Ret Try.prog 101 #[.slice (some ⟨b, o, none⟩) n c, .slice (some ⟨b', o', none⟩) n' c'] w fun v w' => v = .bool false ∧ w = w' := by
  have hs : w.shape? b = some (T, cs.toArray.size) := by unfold World.shape?; rw [h]
  have hs' : w.shape? b' = some (T', cs'.toArray.size) := by unfold World.shape?; rw [h']
  refine extern _ w ?_ ⟨rfl, rfl⟩
  rw [run_callFunc_extern (fn := Try.f101) (e := Extern.SlicesOverlaps.overlaps #[42, 42] #[4]) (by kernel_rfl) (by kernel_rfl) (by kernel_rfl) (by kernel_rfl) (by kernel_rfl)]
  rw [Lib.run_overlaps_apart w 42 4 45 Try.underlying42 4 Try.sizeOf45 ⟨b, o, none⟩ ⟨b', o', none⟩ n c n' c' hne _ _ _ _ hs hs' (by simpa using hc) (by unfold World.frozen?; rw [h]; simp) (by unfold World.frozen?; rw [h]; simp)]
  rfl

theorem rcells_one (l : List Rt) : (l.flatMap Rt.cells).all oneB = true := by
  rw [List.all_flatMap]; simp [Rt.cells, oneB, U]

/-- Cells put between: into a new row; into the same row. -/
theorem splice_grow {A B C cs : List Value} (ha : A <+: cs) (hl : A.length + B.length + C.length ≤ cs.length) :
    splice (splice cs A.length B) (A.length + B.length) C = A ++ B ++ C ++ cs.drop (A.length + B.length + C.length) := by
  obtain ⟨r, rfl⟩ := ha
  simp only [List.length_append] at hl
  have h0 : splice (A ++ r) A.length B = A ++ B ++ r.drop B.length := by
    rw [splice_eq _ _ _ (by simp; omega), List.take_left' rfl, List.drop_append, List.drop_of_length_le (by omega), List.nil_append]
    congr 2; omega
  have hab : (A ++ B).length = A.length + B.length := by simp
  rw [h0, splice_eq _ _ _ (by simp; omega), List.take_left' (by simp)]
  rw [List.drop_append, List.drop_of_length_le (by omega), List.nil_append, List.drop_drop, List.drop_append, List.drop_of_length_le (i := A.length + B.length + C.length) (l := A) (by omega), List.nil_append]
  congr 2; omega
theorem splice_in {A D ys R : List Value} (hl : R.length ≤ ys.length) :
    splice (splice (A ++ D ++ ys) (A.length + R.length) D) A.length R = A ++ R ++ D ++ ys.drop R.length := by
  have h0 : splice (A ++ D ++ ys) (A.length + R.length) D = (A ++ (D ++ ys).take R.length) ++ D ++ ys.drop R.length := by
    rw [splice_eq _ _ _ (by simp; omega), List.append_assoc A D ys, List.take_append, List.take_of_length_le (by omega), List.drop_append, List.drop_of_length_le (by omega), List.nil_append,
      show A.length + R.length - A.length = R.length by omega, show A.length + R.length + D.length - A.length = D.length + R.length by omega, List.drop_append, List.drop_of_length_le (by omega), List.nil_append]
    congr 2; omega
  rw [h0, splice_eq _ _ _ (by simp; omega)]
  have hl2 : ((D ++ ys).take R.length).length = R.length := by simp; omega
  generalize (D ++ ys).take R.length = Z at hl2
  simp only [List.append_assoc]
  rw [List.take_left' rfl, ← List.append_assoc A Z, List.drop_left' (by simp [hl2])]

theorem Insert_spec (base b1 c1 i : Nat) (v : Value) (l : List Rt) (r : Rt) (w : World) (hown : w.ownsRow base 45 4 v l.length (l.flatMap Rt.cells)) (hbase : base ≤ w.heap.size) (h1 : Blk w.heap b1 r.cells 45) (hne : v.ownBlock ≠ some b1)
    (hi : i ≤ l.length) (hn : l.length < 1000000) :
    Ret Try.prog 59 #[v, .int .i64 i, .slice (some ⟨b1, 0, none⟩) 1 c1] w fun v' w' => w'.ownsRow base 45 4 v' (l.length + 1) ((l.take i ++ r :: l.drop i).flatMap Rt.cells) ∧ (∀ k, v'.ownBlock = some k → v.ownBlock = some k ∨ w.heap.size ≤ k) ∧ Ext (fun k => v.ownBlock = some k) w w' := by
  have hform : ∃ a c, v = .slice a l.length c := by
    rcases own_cases hown with ⟨h, h', _⟩ | ⟨g, cap, ys, h, _⟩
    · exact ⟨none, 0, by rw [h, h']⟩
    · exact ⟨_, _, h⟩
  have hsplit : (l.take i ++ r :: l.drop i).flatMap Rt.cells = (l.take i).flatMap Rt.cells ++ r.cells ++ (l.drop i).flatMap Rt.cells := by simp
  have hall : l.flatMap Rt.cells = (l.take i).flatMap Rt.cells ++ (l.drop i).flatMap Rt.cells := by rw [← List.flatMap_append, List.take_append_drop]
  have hti : ((l.take i).flatMap Rt.cells).length = i * 4 := by rw [rcells_length, List.length_take, Nat.min_eq_left hi]
  have hdi : ((l.drop i).flatMap Rt.cells).length = (l.length - i) * 4 := by rw [rcells_length, List.length_drop]
  rw [hsplit]
  obtain ⟨a, c, rfl⟩ := hform
  refine calls_ev (args := [_, _, _]) mixed Try.func59 ok_59 rfl ?_
  refine slLoA i rfl hi ?_
  intro _
  refine lenS ?_
  refine TestK.mk (fun h => ?_) (fun h => ?_)
  · skip
    exact absurd h (by omega)
  · skip
    refine lenS ?_
    refine TestK.mk (fun h' => ?_) (fun h' => ?_)
    · skip
      obtain rfl : i = l.length := by omega
      refine apF hown h1.at_ rfl rfl (by omega) (by decide) hbase ?_
      intro v' w' hown' hfr' he'
      exact And.intro (by rw [List.take_length, List.drop_length]; simp only [List.flatMap_nil, List.append_nil]; exact hown') ⟨hfr', he'⟩
    · skip
      rcases own_cases hown with ⟨h2, h3, _⟩ | ⟨g, cap, ys, h2, hbg, hg, hcap, hmax, hsz, hlen⟩
      · exact absurd h3 (by omega)
      · cases h2
        have hgne : g ≠ b1 := fun e => hne (by rw [e]; rfl)
        refine add64 (by omega) (by omega) ?_
        refine capS ?_
        rw [rcells_length] at hsz
        have hA : At w.heap g 0 ((l.take i).flatMap Rt.cells) := hg.part (by rw [hall, List.append_assoc]; exact List.prefix_append _ _)
        have hD : At w.heap g (0 + i * 4) ((l.drop i).flatMap Rt.cells) := hg.part (by rw [hall, List.append_assoc, Nat.zero_add, List.drop_left' hti]; exact List.prefix_append _ _)
        refine TestK.mk (fun h3 => ?_) (fun h3 => ?_)
        · skip
          refine slHi i rfl (by omega) ?_
          refine add64 (by omega) (by omega) ?_
          refine sub64 (by omega) (by omega) ?_
          refine apz (l.length + 1 - i) (by omega) hA hti (by omega) (by omega) (by omega) (by decide) ?_
          intro cap' cs w2 h2 hpre hcs hle hmax'
          have e2 := h2.ext No
          refine slLo i rfl (by omega) (by omega) ?_
          refine cp 1 (by omega) (e2.at_ h1.at_ id) rfl rfl h2.blk (by rw [hcs]; show 0 + i * 4 + 4 ≤ _; omega) ?_
          intro w3 h3
          refine add64 (by omega) (by omega) ?_
          refine slLo (i + 1) rfl (by omega) (by omega) ?_
          refine slLo i rfl (by omega) (by omega) ?_
          have e3 : Ext (· = w.heap.size) w2 w3 := h3.ext fun _ => rfl
          refine cp (l.length - i) (by omega) (e3.at_ (e2.at_ hD id) (Nat.ne_of_lt hg.lt)) hdi (rcells_one _) h3.blk (by rw [splice_length, hcs, hdi]; omega) ?_
          intro w4 h4
          refine And.intro ?_ ⟨fun k hk => .inr (by cases hk; exact Nat.le_refl _), ((e2.of_no.andThen e3 fun k hk e => by omega).andThen (h4.ext (S := (· = w.heap.size)) fun _ => rfl) fun k hk e => by omega)⟩
          have hb4 := h4.blk
          rw [show 0 + i * 4 = ((l.take i).flatMap Rt.cells).length by omega, show 0 + (i + 1) * 4 = ((l.take i).flatMap Rt.cells).length + r.cells.length by rw [hti]; show _ = i * 4 + 4; omega,
            splice_grow hpre (by rw [hti, hdi, hcs]; show i * 4 + 4 + _ ≤ _; omega)] at hb4
          have hc : i + (l.length + 1 - i) = l.length + 1 := by omega
          rw [hc]
          exact own_of hbase hb4 (by omega) hmax' (by simp only [List.length_append, List.length_drop, hti, hdi, hcs]; show i * 4 + 4 + _ + (_ - (i * 4 + 4 + _)) = _; omega) (by simp only [List.length_append, hti, hdi]; show i * 4 + 4 + _ = _; omega)
        · skip
          refine add64 (by omega) (by omega) ?_
          refine slHi (l.length + 1) (by omega) (by omega) ?_
          refine add64 (by omega) (by omega) ?_
          refine slLo (i + 1) rfl (by omega) (by omega) ?_
          refine Ret.mono (overlaps_spec w h1 hg (Ne.symm hgne) (by rw [List.length_append, rcells_length]; omega)) ?_
          rintro v2 w2 ⟨rfl, rfl⟩
          refine add64 (by omega) (by omega) ?_
          refine slLo (i + 1) rfl (by omega) (by omega) ?_
          refine slLo i rfl (by omega) (by omega) ?_
          refine cp (l.length - i) (by omega) hD hdi (rcells_one _) hg (by simp only [List.length_append, hdi, rcells_length]; omega) ?_
          intro w3 h3
          refine slLo i rfl (by omega) (by omega) ?_
          have e3 : Ext (· = g) w w3 := h3.ext fun _ => rfl
          refine cp 1 (by omega) (e3.at_ h1.at_ fun e => hgne e.symm) rfl rfl h3.blk (by rw [splice_length]; simp only [List.length_append, rcells_length]; show 0 + i * 4 + 4 ≤ _; omega) ?_
          intro w4 h4
          refine And.intro ?_ ⟨fun k hk => .inl hk, ((e3.andThen (h4.ext (S := (· = g)) fun _ => rfl) fun k hk e => e).weaken fun k _ e => by rw [e]; rfl)⟩
          have hb4 := h4.blk
          rw [hall, show 0 + i * 4 = ((l.take i).flatMap Rt.cells).length by omega, show 0 + (i + 1) * 4 = ((l.take i).flatMap Rt.cells).length + r.cells.length by rw [hti]; show _ = i * 4 + 4; omega,
            splice_in (by show 4 ≤ _; omega)] at hb4
          exact own_of hbg hb4 (by omega) hmax (by simp only [List.length_append, List.length_drop, hti, hdi]; show i * 4 + 4 + _ + (_ - 4) = _; omega) (by simp only [List.length_append, hti, hdi]; show i * 4 + 4 + _ = _; omega)

theorem splice_del {A X D Y Z : List Value} (hz : Z.length = X.length) :
    splice (splice (A ++ X ++ D ++ Y) A.length D) (A.length + D.length) Z = A ++ D ++ Z ++ Y := by
  have h0 : splice (A ++ X ++ D ++ Y) A.length D = A ++ D ++ ((X ++ D).drop D.length ++ Y) := by
    simp only [List.append_assoc]
    rw [splice_eq _ _ _ (by simp; omega), List.take_left' rfl, List.drop_append, List.drop_of_length_le (by omega), List.nil_append,
      show A.length + D.length - A.length = D.length by omega, ← List.append_assoc X D, List.drop_append_of_le_length (by simp), List.append_assoc]
  have hl2 : ((X ++ D).drop D.length).length = X.length := by simp
  rw [h0, splice_eq _ _ _ (by simp; omega)]
  generalize (X ++ D).drop D.length = W at hl2
  rw [← List.append_assoc (A ++ D), List.append_assoc (A ++ D) W, List.take_left' (by simp), ← List.append_assoc (A ++ D), List.drop_left' (by simp; omega)]

theorem Delete_spec (base i : Nat) (v : Value) (l : List Rt) (w : World) (hown : w.ownsRow base 45 4 v l.length (l.flatMap Rt.cells)) (hi : i < l.length) (hn : l.length < 1000000) :
    Ret Try.prog 75 #[v, .int .i64 i, .int .i64 (i + 1)] w fun v' w' => w'.ownsRow base 45 4 v' (l.length - 1) ((l.eraseIdx i).flatMap Rt.cells) ∧ v'.ownBlock = v.ownBlock ∧ Ext (fun k => v.ownBlock = some k) w w' := by
  rcases own_cases hown with ⟨h2, h3, _⟩ | ⟨g, cap, ys, h2, hbg, hg, hcap, hmax, hsz, hlen⟩
  · exact absurd h3 (by omega)
  subst h2
  have hsplit : (l.eraseIdx i).flatMap Rt.cells = (l.take i).flatMap Rt.cells ++ (l.drop (i + 1)).flatMap Rt.cells := by rw [List.eraseIdx_eq_take_drop_succ, List.flatMap_append]
  have hall : l.flatMap Rt.cells = (l.take i).flatMap Rt.cells ++ l[i].cells ++ (l.drop (i + 1)).flatMap Rt.cells := by
    conv => lhs; rw [← List.take_append_drop i l, List.drop_eq_getElem_cons hi, List.flatMap_append, List.flatMap_cons]
    rw [List.append_assoc]
  have hti : ((l.take i).flatMap Rt.cells).length = i * 4 := by rw [rcells_length, List.length_take, Nat.min_eq_left (by omega)]
  have hdi : ((l.drop (i + 1)).flatMap Rt.cells).length = (l.length - (i + 1)) * 4 := by rw [rcells_length, List.length_drop]
  rw [rcells_length] at hsz
  have hD : ∀ o', (i + 1 < cap → o' = 0 + (i + 1) * 4) → At w.heap g o' ((l.drop (i + 1)).flatMap Rt.cells) := fun o' ho => by
    rcases Nat.lt_or_ge (i + 1) cap with h | h
    · rw [ho h]
      refine hg.part ?_
      rw [hall, List.append_assoc, Nat.zero_add, List.drop_left' (by rw [List.length_append, hti]; show i * 4 + 4 = _; omega)]
      exact List.prefix_append _ _
    · intro j v hj
      have := (List.getElem?_eq_some_iff.1 hj).1
      omega
  refine calls_ev (args := [_, _, _]) mixed Try.func75 ok_75 rfl ?_
  refine lenS ?_
  refine slLHM i (i + 1) l.length rfl (by omega) rfl (by omega) (by omega) (by omega) ?_
  intro _
  refine TestK.mk (fun h => ?_) (fun h => ?_)
  · skip
    exact absurd h (by omega)
  · skip
    refine lenS ?_
    refine slHi i rfl (by omega) ?_
    refine slLoX (i + 1) (by omega) (by omega) ?_
    intro o' ho'
    refine apIn (hD o' ho') hdi (rcells_one _) hg (by omega) (by rw [List.length_append, hdi, rcells_length]; omega) ?_
    intro w2 h2
    have hb2 := h2.blk
    refine lenS ?_
    refine slLH (l.length - 1) l.length (by omega) rfl (by omega) (by omega) (by omega) ?_
    refine clr (zs := [.int .u64 0, .int .u64 0, .int .i64 0, .int .i64 0]) rfl rfl rfl hb2 (by rw [splice_length, List.length_append, rcells_length]; show _ + (l.length - (l.length - 1)) * 4 ≤ _; omega) ?_
    intro w3 vs hvs h3
    have hb3 := h3.blk
    have hc : i + (l.length - (i + 1)) = l.length - 1 := by omega
    have e2 : Ext (· = g) w w2 := h2.ext fun _ => rfl
    have e3 : Ext (· = g) w2 w3 := h3.ext fun _ => rfl
    refine And.intro ?_ ⟨rfl, (e2.andThen e3 fun k _ e => e).weaken fun k _ e => by rw [e]; rfl⟩
    have hvs4 : vs.length = 4 := by rw [hvs, show l.length - (l.length - 1) = 1 by omega]; rfl
    rw [hc]
    rw [hsplit]
    rw [hall, show 0 + i * 4 = ((l.take i).flatMap Rt.cells).length by omega, show ((l.take i).flatMap Rt.cells).length = ((l.take i).flatMap Rt.cells).length from rfl,
      show 0 + (l.length - 1) * 4 = ((l.take i).flatMap Rt.cells).length + ((l.drop (i + 1)).flatMap Rt.cells).length by omega,
      splice_del (by rw [hvs4]; rfl), List.append_assoc] at hb3
    exact own_of hbg hb3 (by omega) hmax (by simp only [List.length_append, hti, hdi, hvs4]; omega) (by simp only [List.length_append, hti, hdi]; omega)
end Go.Fl
