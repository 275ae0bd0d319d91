/-
  slices.Compact over prefixes: of each run the first one.
-/
import Derived.Test.YtoenjjlicglceaaFspread
namespace Go.Fl
open Go.Proofs
set_option maxHeartbeats 4000000
set_option maxRecDepth 100000

/-- Of the first j elements, those that are no copy of the one ahead. -/
def ded (l : List Pfx) : Nat → List Pfx
  | 0 => []
  | j + 1 => ded l j ++ (match l[j]? with | some x => if j ≠ 0 ∧ l[j - 1]? = some x then [] else [x] | none => [])
def dedF (l : List Pfx) : List Pfx := ded l l.length
theorem ded_copy {l : List Pfx} {j : Nat} (hj : j < l.length) (h0 : 0 < j) (e : l[j] = l[j - 1]) : ded l (j + 1) = ded l j := by
  rw [ded, List.getElem?_eq_getElem hj]
  simp only
  rw [if_pos ⟨by omega, by rw [List.getElem?_eq_getElem (by omega), e]⟩, List.append_nil]
theorem ded_new {l : List Pfx} {j : Nat} (hj : j < l.length) (h : 0 < j → l[j] ≠ l[j - 1]'(by omega)) : ded l (j + 1) = ded l j ++ [l[j]] := by
  rw [ded, List.getElem?_eq_getElem hj]
  simp only
  rw [if_neg]
  rintro ⟨h0, h1⟩
  rw [List.getElem?_eq_getElem (by omega)] at h1
  exact h (by omega) (Option.some.inj h1).symm
theorem ded_take {l : List Pfx} : ∀ (j : Nat), j ≤ l.length → (∀ i (h : i < l.length), 0 < i → i < j → l[i] ≠ l[i - 1]) → ded l j = l.take j
  | 0, _, _ => by simp [ded]
  | j + 1, h, hn => by
    rw [ded_new (by omega) (fun h0 => hn j (by omega) h0 (by omega)), ded_take j (by omega) (fun i hi h0 hij => hn i hi h0 (by omega)), List.take_succ_eq_append_getElem (by omega)]
theorem ded_le (l : List Pfx) : ∀ j, (ded l j).length ≤ j
  | 0 => Nat.le_refl _
  | j + 1 => by
    have := ded_le l j
    rw [ded, List.length_append]
    split
    · split <;> simp <;> omega
    · simp; omega

theorem own_at {α : Type} {f : α → List Value} {size : Nat} (hf : ∀ x, (f x).length = size) {w : World} {base E g cap : Nat} {l : List α} (h : w.ownsRow base E size (.slice (some ⟨g, 0, none⟩) l.length cap) l.length (l.flatMap f)) (i : Nat) (hi : i < l.length) : At w.heap g (i * size) (f l[i]) := by
  rcases own_cases h with ⟨h1, _, _⟩ | ⟨g', cap', ys, h1, _, hg, _⟩
  · cases h1
  · cases h1
    have := (elt_part hf l i hi).trans (show (l.flatMap f).drop (i * size) <+: (l.flatMap f ++ ys).drop (i * size) by
      rw [List.drop_append_of_le_length (by
        rw [flat_length f size hf]
        exact Nat.mul_le_mul_right size (by omega))]
      exact List.prefix_append _ _)
    have := hg.part this
    exact this

theorem Compact_spec (base : Nat) (v : Value) (l : List Pfx) (w : World) (h : OwnP base w v l) (hn : l.length ≤ 1000000) :
    Ret Try.prog 68 #[v] w fun v' w' => OwnP base w' v' (dedF l) ∧ Ext (fun k => v.ownBlock = some k) w w' := by
  have hshort : l.length < 2 → dedF l = l := fun h2 => by
    rw [dedF, ded_take l.length (Nat.le_refl _) (fun i hi h0 _ => by omega), List.take_length]
  rcases own_cases h with ⟨rfl, hl0, _⟩ | ⟨g, cap, ys, rfl, hbg, hg, hcap, hmax, hsz, hlen⟩
  · refine calls_ev (args := [_]) mixed Try.func68 ok_68 rfl ?_
    refine lenS ?_
    refine TestK.mk (fun h1 => ?_) (fun h1 => ?_)
    · skip
      exact ⟨by rw [hshort (by omega)]; exact h, Ext.refl _ _⟩
    · skip
      exact absurd h1 (by decide)
  · refine calls_ev (args := [_]) mixed Try.func68 ok_68 rfl ?_
    refine lenS ?_
    refine TestK.mk (fun h1 => ?_) (fun h1 => ?_)
    · skip
      exact ⟨by rw [hshort (by omega)]; exact h, Ext.refl _ _⟩
    · skip
      refine loop [0, 3] (fun k vs w' => ∃ i : Nat, 1 ≤ i ∧ i ≤ l.length ∧ k = l.length - i ∧ vs = [.slice (some ⟨g, 0, none⟩) l.length cap, .int .i64 i] ∧ (∀ j (h : j < l.length), 0 < j → j < i → l[j] ≠ l[j - 1]) ∧ Ext No w w') (l.length - 1) _ rfl ⟨1, by omega, by omega, rfl, rfl, fun j _ h0 hj => by omega, Ext.refl _ _⟩ ?_
      rintro k vs w2 ⟨i, hi1, hi, rfl, rfl, hne, e2⟩
      have ho2 := OwnP.no h e2
      refine lenS ?_
      refine TestK.mk (fun hlt => ?_) (fun hlt => ?_)
      · skip
        have hi' : i < l.length := by omega
        refine iaS (i) (rfl) (by omega) ?_
        refine ldN (cs := l[i].cells) (rfl) ((by rw [Nat.zero_add]; exact own_at plen ho2 i hi')) ?_
        refine sub64 (by omega) (by omega) ?_
        refine iaS (i - 1) (by omega) (by omega) ?_
        refine ldN (cs := l[i - 1].cells) (rfl) ((by rw [Nat.zero_add]; exact own_at plen ho2 (i - 1) (by omega))) ?_
        refine eqPfx (fun heq => ?_) (fun heq => ?_)
        · skip
          refine slLo i rfl (by omega) (by omega) ?_
          refine loop [0, 3, 4, 5] (fun k vs w' => ∃ (c : List Pfx) (q j : Nat), c.length = l.length ∧ 1 ≤ j ∧ i + j ≤ l.length ∧ q ≤ i + j - 1 ∧ k = l.length - (i + j) ∧ vs = [.slice (some ⟨g, 0, none⟩) l.length cap, .int .i64 q, .slice (some ⟨g, 0 + i * 3, none⟩) (l.length - i) (cap - i), .int .i64 j] ∧
            OwnP base w' (.slice (some ⟨g, 0, none⟩) l.length cap) c ∧ c.take q = ded l (i + j) ∧ (ded l (i + j)).length = q ∧ c.drop (i + j - 1) = l.drop (i + j - 1) ∧ Ext (· = g) w w') (l.length - (i + 1)) _ rfl
            ⟨l, i, 1, rfl, by omega, by omega, by omega, rfl, rfl, ho2, by rw [ded_copy hi' (by omega) heq, ded_take i (by omega) hne], by rw [ded_copy hi' (by omega) heq, ded_take i (by omega) hne, List.length_take]; omega, rfl, e2.of_no⟩ ?_
          rintro k vs w3 ⟨c, q, j, hc, hj1, hij, hq, rfl, rfl, ho3, hct, hdl, hcd, e3⟩
          have ho3' : OwnP base w3 (.slice (some ⟨g, 0, none⟩) c.length cap) c := by rw [hc]; exact ho3
          refine lenS ?_
          refine TestK.mk (fun hlt2 => ?_) (fun hlt2 => ?_)
          · skip
            have hx : i + j < l.length := by omega
            have hcx : ∀ m (h1 : m < c.length) (h2 : m < l.length), i + j - 1 ≤ m → c[m] = l[m] := fun m h1 h2 hm => by
              have := congrArg (fun z : List Pfx => z[m - (i + j - 1)]?) hcd
              simp only [List.getElem?_drop] at this
              rw [show i + j - 1 + (m - (i + j - 1)) = m by omega, List.getElem?_eq_getElem h1, List.getElem?_eq_getElem h2] at this
              exact Option.some.inj this
            refine iaS (j) (rfl) (by omega) ?_
            refine ldN (cs := l[i + j].cells) (rfl) ((by rw [show 0 + i * 3 + j * 3 = (i + j) * 3 by omega, ← hcx (i + j) (by omega) hx (by omega)]; exact own_at plen ho3' (i + j) (by omega))) ?_
            refine sub64 (by omega) (by omega) ?_
            refine iaS (j - 1) (by omega) (by omega) ?_
            refine ldN (cs := l[i + j - 1].cells) (rfl) ((by rw [show 0 + i * 3 + (j - 1) * 3 = (i + j - 1) * 3 by omega, ← hcx (i + j - 1) (by omega) (by omega) (by omega)]; exact own_at plen ho3' (i + j - 1) (by omega))) ?_
            refine neqPfx (fun hne2 => ?_) (fun hne2 => ?_)
            · skip
              refine iaS (j) (rfl) (by omega) ?_
              refine ldN (cs := l[i + j].cells) (rfl) ((by rw [show 0 + i * 3 + j * 3 = (i + j) * 3 by omega, ← hcx (i + j) (by omega) hx (by omega)]; exact own_at plen ho3' (i + j) (by omega))) ?_
              refine iaS (q) (rfl) (by omega) ?_
              have hown := own_put plen (OwnP.no ho3' (Quiet.drew w3).ext) (show q < c.length by omega) l[i + j]
              refine Exists.elim hown fun g' hown => ?_
              refine Exists.elim hown fun cap' hown => ?_
              refine Exists.elim hown fun ds hown => ?_
              have hgg : g' = g := by have := hown.1; cases this; rfl
              subst hgg
              refine stN (vs := l[i + j].cells) rfl rfl rfl (hown.2.2.1) (hown.2.2.2.1) ?_
              intro w4 h4
              have ho4 := hown.2.2.2.2 _ h4
              have hs := ded_new (l := l) hx (fun _ => hne2)
              refine add64 (by omega) (by omega) ?_
              refine add64 (by omega) (by omega) ?_
              refine again (l.length - (i + (j + 1))) (by omega) _ rfl ⟨c.set q l[i + j], q + 1, j + 1, by rw [List.length_set, hc], by omega, by omega, by omega, rfl, rfl, ?_, ?_, ?_, ?_, e3.andThen (h4.ext (S := (· = g')) fun _ => rfl) fun _ _ h => h⟩
              · rw [hc] at ho4; exact ho4
              · rw [show i + (j + 1) = i + j + 1 by omega, hs, List.take_succ_eq_append_getElem (by rw [List.length_set]; omega), List.getElem_set_self, List.take_set_of_le (Nat.le_refl q), hct]
              · rw [show i + (j + 1) = i + j + 1 by omega, hs, List.length_append, hdl]; rfl
              · rw [List.drop_set_of_lt (by omega)]
                have := congrArg (List.drop 1) hcd
                rw [List.drop_drop, List.drop_drop] at this
                rw [show i + (j + 1) - 1 = i + j - 1 + 1 by omega]; exact this
            · skip
              have hs := ded_copy (l := l) hx (by omega) hne2
              refine add64 (by omega) (by omega) ?_
              refine again (l.length - (i + (j + 1))) (by omega) _ rfl ⟨c, q, j + 1, hc, by omega, by omega, by omega, rfl, rfl, ho3, by rw [show i + (j + 1) = i + j + 1 by omega, hs]; exact hct, by rw [show i + (j + 1) = i + j + 1 by omega, hs]; exact hdl, ?_, e3⟩
              have := congrArg (List.drop 1) hcd
              rw [List.drop_drop, List.drop_drop] at this
              rw [show i + (j + 1) - 1 = i + j - 1 + 1 by omega]; exact this
          · skip
            have hij2 : i + j = l.length := by omega
            rcases own_cases ho3' with ⟨h5, _, _⟩ | ⟨g', cap', ys', h5, _, hg3, _, _, hsz3, hlen3⟩
            · cases h5
            have hgg : g' = g ∧ cap' = cap := by cases h5; exact ⟨rfl, rfl⟩
            obtain ⟨rfl, rfl⟩ := hgg
            refine slLo q rfl (by omega) (by omega) ?_
            refine clr (zs := [.int .u64 0, .int .u64 0, .int .i64 0]) rfl rfl rfl hg3 (by show 0 + q * 3 + (l.length - q) * 3 ≤ _; rw [List.length_append, hlen3]; omega) ?_
            intro w4 vs hvs0 h4
            have hvs : vs.length = (l.length - q) * 3 := hvs0
            refine slHi q rfl (by omega) ?_
            have hb4 := h4.blk
            have hfl : (c.flatMap Pfx.cells) = (c.take q).flatMap Pfx.cells ++ (c.drop q).flatMap Pfx.cells := by rw [← List.flatMap_append, List.take_append_drop]
            have htl : ((c.take q).flatMap Pfx.cells).length = q * 3 := by rw [flat_length Pfx.cells 3 plen, List.length_take, Nat.min_eq_left (by omega)]
            have hdl2 : ((c.drop q).flatMap Pfx.cells).length = (l.length - q) * 3 := by rw [flat_length Pfx.cells 3 plen, List.length_drop, hc]
            rw [Nat.zero_add, splice_eq _ _ _ (by rw [List.length_append, hlen3, hvs]; omega)] at hb4
            rw [hfl, List.append_assoc ((c.take q).flatMap Pfx.cells), List.take_left' htl, List.append_assoc] at hb4
            have hfin : OwnP base w4 (.slice (some ⟨g', 0, none⟩) q cap') (dedF l) := by
              have e1 : dedF l = c.take q := by rw [dedF, ← hij2, hct]
              have hql : (c.take q).length = q := by rw [List.length_take]; omega
              rw [e1]
              show w4.ownsRow base 35 3 _ (c.take q).length _
              rw [hql]
              refine own_of hbg hb4 (by omega) hmax ?_ htl
              rw [hlen3, hc] at hsz3
              simp only [List.length_append, List.length_drop, htl, hvs, hdl2]
              omega
            exact ⟨hfin, (e3.andThen (h4.ext (S := (· = g')) fun _ ↦ rfl) fun _ _ h ↦ h).weaken fun k _ e ↦ by rw [e]; rfl⟩
        · skip
          refine add64 (by omega) (by omega) ?_
          refine again (l.length - (i + 1)) (by omega) _ rfl ⟨i + 1, by omega, by omega, rfl, rfl, ?_, e2⟩
          intro j hj h0 hji
          rcases Nat.lt_or_ge j i with h' | h'
          · exact hne j hj h0 h'
          · obtain rfl : j = i := by omega
            exact heq
      · skip
        have hin : i = l.length := by omega
        have : dedF l = l := by rw [dedF, ← hin, ded_take i (by omega) hne, hin, List.take_length]
        exact ⟨by rw [this]; exact ho2, e2.of_no⟩
end Go.Fl
