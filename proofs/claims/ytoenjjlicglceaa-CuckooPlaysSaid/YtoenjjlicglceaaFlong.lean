/-
  The references' longest route of an address, the hop of a key, the keys of a prefix.
-/
import Derived.Test.YtoenjjlicglceaaFaddr
namespace Go.Fl
open Go.Proofs
set_option maxHeartbeats 2000000
set_option maxRecDepth 100000

def cand (a : Adr) (low high : Int) (r : Rt) : Bool := decide (low < r.p.len) && decide (r.p.len ≤ high) && hasF r.p a
def longGo (a : Adr) (low high : Int) : List Rt → Nat → Int → Int → Int
  | [], _, best, _ => best
  | r :: rs, i, best, bl => if (cand a low high r && (decide (best < 0) || decide (bl < r.p.len))) = true then longGo a low high rs (i + 1) i r.p.len else longGo a low high rs (i + 1) best bl
def longF (l : List Rt) (a : Adr) (low high : Int) : Int := longGo a low high l 0 (-1) 0

theorem long_yes {l : List Rt} {a : Adr} {low high best bl : Int} {i : Nat} (hi : i < l.length) (hc : cand a low high l[i] = true) (hb : best < 0 ∨ bl < l[i].p.len) :
    longGo a low high (l.drop i) i best bl = longGo a low high (l.drop (i + 1)) (i + 1) i l[i].p.len := by
  rw [List.drop_eq_getElem_cons hi, longGo, if_pos]
  rw [hc, Bool.true_and, Bool.or_eq_true]
  exact hb.imp decide_eq_true decide_eq_true
theorem long_no {l : List Rt} {a : Adr} {low high best bl : Int} {i : Nat} (hi : i < l.length) (hc : cand a low high l[i] = false ∨ (¬ best < 0 ∧ ¬ bl < l[i].p.len)) :
    longGo a low high (l.drop i) i best bl = longGo a low high (l.drop (i + 1)) (i + 1) best bl := by
  rw [List.drop_eq_getElem_cons hi, longGo, if_neg]
  rcases hc with hc | ⟨h1, h2⟩
  · rw [hc]; simp
  · simp [h1, h2]

theorem Longest_spec (v : Value) (l : List Rt) (a : Adr) (low high : Int) (w : World) (h : IsR w.heap v l) (hn : l.length ≤ 1000000) : Ret Try.prog 24 #[v, a.val, .int .i64 low, .int .i64 high] w fun v w' => v = .int .i64 (longF l a low high) ∧ Ext No w w' := by
  obtain ⟨ad, c, rfl, hc, hs⟩ := h
  refine calls_ev (args := [_, _, _, _]) mixed Try.func24 ok_24 rfl ?_
  refine bx (cs := _) rfl ?_
  intro w1 h1
  have ha1 : Blk w1.heap w.heap.size a.cells 33 := h1.blk
  refine loop [0, 2, 3, 5, 9, 10] (fun k vs w' => ∃ (i : Nat) (best bl : Int), i ≤ l.length ∧ k = l.length - i ∧ vs = [.slice ad l.length c, .int .i64 low, .int .i64 high, .pointer (some ⟨w.heap.size, 0, none⟩), .int .i64 best, .int .i64 i] ∧
    longF l a low high = longGo a low high (l.drop i) i best bl ∧ (best < 0 ∨ ∃ b : Nat, best = b ∧ ∃ h : b < l.length, l[b].p.len = bl) ∧ Ext No w1 w') l.length _ rfl ⟨0, -1, 0, by omega, rfl, rfl, by rw [longF, List.drop_zero], .inl (by omega), Ext.refl _ _⟩ ?_
  rintro k vs w2 ⟨i, best, bl, hi, rfl, rfl, hgo, hbest, e2⟩
  have e2' : Ext No w w2 := (h1.ext No).trans e2
  refine lenS ?_
  refine TestK.mk (fun hlt => ?_) (fun hlt => ?_)
  · skip
    have hi' : i < l.length := by omega
    refine iaG rlen (hs.no e2') i rfl hi' rfl ?_
    intro b o hat
    refine fa ?_
    refine ldN (cs := l[i].p.cells) (rfl) (rp_at hat) ?_
    refine al (cs := _) rfl ?_
    intro w3 h3
    refine stN (vs := l[i].p.cells) rfl rfl rfl (h3.blk) (Nat.le_refl 3) ?_
    intro w4 h4
    have hp4 : Blk w4.heap w2.heap.size l[i].p.cells 35 := h4.blk
    have e24 : Ext (· = w2.heap.size) w2 w4 := (h3.ext _).andThen (h4.ext (S := (· = w2.heap.size)) fun _ => rfl) fun _ _ h => h
    have e14 : Ext No w1 w4 := e2.andThen e24 fun k hk e => by have := e2.size; omega
    refine fa ?_
    refine ld1 (hp4.cell 2) ?_
    refine TestK.mk (fun g1 => ?_) (fun g1 => ?_)
    · skip
      refine fa ?_
      refine ld1 (hp4.cell 2) ?_
      refine TestK.mk (fun g2 => ?_) (fun g2 => ?_)
      · skip
        refine ldN (cs := l[i].p.cells) (rfl) (hp4.at_) ?_
        refine ldN (cs := a.cells) (rfl) ((e14.blk ha1 id).at_) ?_
        refine Ret.mono (rHas_spec l[i].p a _) ?_
        rintro v5 w5 ⟨rfl, e5⟩
        have e15 : Ext No w1 w5 := e14.trans e5
        refine gdB (fun hh => ?_) (fun hh => ?_)
        · skip
          have hcd : cand a low high l[i] = true := by rw [cand, hh, decide_eq_true g1, decide_eq_true g2]; rfl
          refine TestK.mk (fun g3 => ?_) (fun g3 => ?_)
          · skip
            refine add64 (by omega) (by omega) ?_
            refine again (l.length - (i + 1)) (by omega) _ rfl ⟨i + 1, i, l[i].p.len, by omega, rfl, rfl, hgo.trans (long_yes hi' hcd (.inl g3)), .inr ⟨i, rfl, hi', rfl⟩, e15⟩
          · skip
            rcases hbest with hb | ⟨bb, rfl, hbb, hbl⟩
            · exact absurd hb g3
            refine fa ?_
            refine ld1 ((e5.blk hp4 id).cell 2) ?_
            refine iaG rlen (hs.no ((h1.ext No).trans e15)) bb rfl hbb rfl ?_
            intro b2 o2 hat2
            refine fa ?_
            refine fa ?_
            refine ld1 (hat2.cell (k := 2) rfl) ?_
            refine TestK.mk (fun g4 => ?_) (fun g4 => ?_)
            · skip
              refine add64 (by omega) (by omega) ?_
              refine again (l.length - (i + 1)) (by omega) _ rfl ⟨i + 1, i, l[i].p.len, by omega, rfl, rfl, hgo.trans (long_yes hi' hcd (.inr (by rw [← hbl]; exact g4))), .inr ⟨i, rfl, hi', rfl⟩, e15⟩
            · skip
              refine add64 (by omega) (by omega) ?_
              refine again (l.length - (i + 1)) (by omega) _ rfl ⟨i + 1, bb, bl, by omega, rfl, rfl, hgo.trans (long_no hi' (.inr ⟨g3, by rw [← hbl]; exact g4⟩)), .inr ⟨bb, rfl, hbb, hbl⟩, e15⟩
        · skip
          refine add64 (by omega) (by omega) ?_
          refine again (l.length - (i + 1)) (by omega) _ rfl ⟨i + 1, best, bl, by omega, rfl, rfl, hgo.trans (long_no hi' (.inl (by rw [cand, hh, Bool.and_false]))), hbest, e15⟩
      · skip
        refine add64 (by omega) (by omega) ?_
        refine again (l.length - (i + 1)) (by omega) _ rfl ⟨i + 1, best, bl, by omega, rfl, rfl, hgo.trans (long_no hi' (.inl (by rw [cand, decide_eq_false g2]; simp))), hbest, e14⟩
    · skip
      refine add64 (by omega) (by omega) ?_
      refine again (l.length - (i + 1)) (by omega) _ rfl ⟨i + 1, best, bl, by omega, rfl, rfl, hgo.trans (long_no hi' (.inl (by rw [cand, decide_eq_false g1]; rfl))), hbest, e14⟩
  · skip
    have : l.drop i = [] := List.drop_eq_nil_of_le (by omega)
    exact ⟨by rw [hgo, this]; rfl, e2'⟩

/-- What is known of the longest one. -/
theorem longGo_spec (a : Adr) (low high : Int) (l : List Rt) : ∀ (rest : List Rt) (i : Nat) (best bl : Int), l.drop i = rest → i ≤ l.length →
    ((best = -1 ∧ ∀ j (h : j < l.length), j < i → cand a low high l[j] = false) ∨ ∃ b : Nat, best = b ∧ ∃ h : b < l.length, b < i ∧ cand a low high l[b] = true ∧ l[b].p.len = bl ∧ ∀ j (h' : j < l.length), j < i → cand a low high l[j] = true → l[j].p.len ≤ l[b].p.len) →
    ((longGo a low high rest i best bl = -1 ∧ ∀ r ∈ l, cand a low high r = false) ∨ ∃ b : Nat, longGo a low high rest i best bl = b ∧ ∃ h : b < l.length, cand a low high l[b] = true ∧ ∀ r ∈ l, cand a low high r = true → r.p.len ≤ l[b].p.len)
  | [], i, best, bl, hd, hi, h => by
    have hi' : i = l.length := by
      have := congrArg List.length hd
      rw [List.length_drop, List.length_nil] at this; omega
    subst hi'
    rcases h with ⟨rfl, h⟩ | ⟨b, rfl, hb, _, hcb, _, h⟩
    · refine .inl ⟨rfl, fun r hr => ?_⟩
      obtain ⟨j, hj, rfl⟩ := List.getElem_of_mem hr
      exact h j hj hj
    · refine .inr ⟨b, rfl, hb, hcb, fun r hr hc => ?_⟩
      obtain ⟨j, hj, rfl⟩ := List.getElem_of_mem hr
      exact h j hj hj hc
  | r :: rest, i, best, bl, hd, hi, h => by
    have hi' : i < l.length := by
      rcases Nat.lt_or_ge i l.length with h' | h'
      · exact h'
      · rw [List.drop_eq_nil_of_le h'] at hd; cases hd
    rw [List.drop_eq_getElem_cons hi'] at hd
    have hc0 := List.cons.inj hd
    obtain rfl := hc0.1
    have hd2 := hc0.2
    rw [longGo]
    split
    · rename_i hc
      rw [Bool.and_eq_true, Bool.or_eq_true] at hc
      refine longGo_spec a low high l rest (i + 1) i _ hd2 (by omega) (.inr ⟨i, rfl, hi', by omega, hc.1, rfl, fun j hj hji hcj => ?_⟩)
      rcases Nat.lt_or_ge j i with h' | h'
      · rcases h with ⟨_, h⟩ | ⟨b, rfl, hb, _, _, hbl, h⟩
        · rw [h j hj h'] at hcj; cases hcj
        · have := h j hj h' hcj
          rcases hc.2 with h2 | h2
          · have := of_decide_eq_true h2; omega
          · have := of_decide_eq_true h2; omega
      · obtain rfl : j = i := by omega
        exact Int.le_refl _
    · rename_i hc
      refine longGo_spec a low high l rest (i + 1) best bl hd2 (by omega) ?_
      rcases h with ⟨rfl, h⟩ | ⟨b, rfl, hb, hbi, hcb, hbl, h⟩
      · refine .inl ⟨rfl, fun j hj hji => ?_⟩
        rcases Nat.lt_or_ge j i with h' | h'
        · exact h j hj h'
        · obtain rfl : j = i := by omega
          cases hcj : cand a low high l[j] with
          | false => rfl
          | true => rw [hcj] at hc; simp at hc
      · refine .inr ⟨b, rfl, hb, by omega, hcb, hbl, fun j hj hji hcj => ?_⟩
        rcases Nat.lt_or_ge j i with h' | h'
        · exact h j hj h' hcj
        · obtain rfl : j = i := by omega
          rw [hcj] at hc
          simp at hc
          omega
theorem longF_spec (l : List Rt) (a : Adr) (low high : Int) : (longF l a low high = -1 ∧ ∀ r ∈ l, cand a low high r = false) ∨ ∃ b : Nat, longF l a low high = b ∧ ∃ h : b < l.length, cand a low high l[b] = true ∧ ∀ r ∈ l, cand a low high r = true → r.p.len ≤ l[b].p.len :=
  longGo_spec a low high l l 0 (-1) 0 rfl (by omega) (.inl ⟨rfl, fun _ _ h => by omega⟩)

/-- The hop that a key has. -/
def hopF (l : List Rt) (k : Pfx) (low : Int) : Option Int := if longF (sortedF l) k.adr low k.len < 0 then none else (sortedF l)[(longF (sortedF l) k.adr low k.len).toNat]?.map (·.hop)
theorem rHop_spec (v : Value) (l : List Rt) (k : Pfx) (low : Int) (w : World) (h : IsR w.heap v l) (hn : l.length ≤ 1000000) : Ret Try.prog 26 #[v, k.val, .int .i64 low] w fun v w' => v = .tuple #[.int .i64 ((hopF l k low).getD 0), .bool (hopF l k low).isSome] ∧ Ext No w w' := by
  refine calls_ev (args := [_, _, _]) mixed Try.func26 ok_26 rfl ?_
  refine bx (cs := _) rfl ?_
  intro w1 h1
  have hk : Blk w1.heap w.heap.size k.cells 35 := h1.blk
  refine Ret.mono (Sorted_spec v l w1 (h.no (h1.ext No)) hn) ?_
  rintro v2 w2 ⟨h2, e2⟩
  have hle := sortedF_le l
  refine fa ?_
  refine ldN (cs := k.adr.cells) (rfl) ((e2.blk hk id).part ⟨[.int .i64 k.len], rfl⟩) ?_
  refine fa ?_
  refine ld1 ((e2.blk hk id).cell 2) ?_
  refine Ret.mono (Longest_spec v2 (sortedF l) k.adr low k.len w2 h2.is (by omega)) ?_
  rintro v3 w3 ⟨rfl, e3⟩
  have e3' : Ext No w w3 := ((h1.ext No).trans e2).trans e3
  refine TestK.mk (fun hz => ?_) (fun hz => ?_)
  · skip
    exact ⟨by rw [hopF, if_pos hz]; rfl, e3'⟩
  · skip
    rcases longF_spec (sortedF l) k.adr low k.len with ⟨hz', _⟩ | ⟨b, hz', hb, _⟩
    · exact absurd (by rw [hz']; decide) hz
    obtain ⟨ad, c, rfl, hc, hs⟩ := h2.is.no e3
    refine iaG rlen hs b hz' hb rfl ?_
    intro bb o hat
    refine fa ?_
    refine ld1 (rh_at hat) ?_
    exact ⟨by rw [hopF, if_neg hz, hz', Int.toNat_natCast, List.getElem?_eq_getElem hb]; rfl, e3'⟩
end Go.Fl
