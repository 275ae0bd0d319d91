/-
  The references' lists of routes: which of two prefixes is ahead; a route found, put in its place, taken out; sorted; two lists the same.
-/
import Derived.Test.YtoenjjlicglceaaK5
import Derived.Test.YtoenjjlicglceaaFstash
import Derived.Test.YtoenjjlicglceaaTtab
import Derived.Test.YtoenjjlicglceaaFbucket
namespace Go.Fl
open Go.Proofs
set_option maxHeartbeats 1000000
set_option maxRecDepth 100000

theorem neqPfx {p q : Pfx} {x y : Operand} {K : Value → Prop} (ht : ¬ p = q → K (.bool true)) (hf : p = q → K (.bool false)) :
    PureSem Try.prog (do eqGuard .neq 35 x y p.val q.val; binOp .neq 35 p.val q.val) K := by
  have hr : ∀ w, (do eqGuard .neq 35 x y p.val q.val; binOp .neq 35 p.val q.val : Sem Value).run Try.prog w = .ok (.bool (!decide (p = q))) w := by
    intro w
    have h1 : Try.prog.eqGuardType Try.prog.depth 35 = false := by kernel_rfl
    have h2 : Try.prog.stoodInHeld 35 = false := by kernel_rfl
    have h3 : Try.prog.stoodInHeld 33 = false := by kernel_rfl
    simp [go_sem, h1, h2, h3]
    rcases p with ⟨a, b, c⟩
    rcases q with ⟨a', b', c'⟩
    by_cases e1 : a = a' <;> by_cases e2 : b = b' <;> by_cases e3 : c = c' <;> simp [e1, e2, e3, natU]
  refine PureSem.of _ hr ?_
  by_cases h : p = q
  · rw [decide_eq_true h]; exact hf h
  · rw [decide_eq_false h]; exact ht h
theorem neqRt {p q : Rt} {x y : Operand} {K : Value → Prop} (ht : ¬ p = q → K (.bool true)) (hf : p = q → K (.bool false)) :
    PureSem Try.prog (do eqGuard .neq 45 x y p.val q.val; binOp .neq 45 p.val q.val) K := by
  have hr : ∀ w, (do eqGuard .neq 45 x y p.val q.val; binOp .neq 45 p.val q.val : Sem Value).run Try.prog w = .ok (.bool (!decide (p = q))) w := by
    intro w
    have h1 : Try.prog.eqGuardType Try.prog.depth 45 = false := by kernel_rfl
    have h2 : Try.prog.stoodInHeld 35 = false := by kernel_rfl
    have h3 : Try.prog.stoodInHeld 33 = false := by kernel_rfl
    have h4 : Try.prog.stoodInHeld 45 = false := by kernel_rfl
    simp [go_sem, h1, h2, h3, h4]
    rcases p with ⟨⟨a, b, c⟩, d⟩
    rcases q with ⟨⟨a', b', c'⟩, d'⟩
    by_cases e1 : a = a' <;> by_cases e2 : b = b' <;> by_cases e3 : c = c' <;> by_cases e4 : d = d' <;> simp [e1, e2, e3, e4, natU]
  refine PureSem.of _ hr ?_
  by_cases h : p = q
  · rw [decide_eq_true h]; exact hf h
  · rw [decide_eq_false h]; exact ht h

theorem rlen (r : Rt) : r.cells.length = 4 := rfl
theorem rone (r : Rt) : r.cells.all oneB = true := rfl
/-- The routes that a slice value holds. -/
abbrev IsR (h : Array Obj) (v : Value) (l : List Rt) : Prop := IsSl Rt.cells h v l
/-- A row of routes of the call's own, made since a world. -/
abbrev OwnR (b : Nat) (w : World) (v : Value) (l : List Rt) : Prop := w.ownsRow b 45 4 v l.length (l.flatMap Rt.cells)
theorem OwnR.is {b : Nat} {w : World} {v : Value} {l : List Rt} (h : OwnR b w v l) : IsR w.heap v l := own_IsSl h
theorem OwnR.nil (b : Nat) (w : World) : OwnR b w (.slice none 0 0) [] := World.ownsRow_nil _ _ _ _
theorem OwnR.no {b : Nat} {w w' : World} {v : Value} {l : List Rt} (h : OwnR b w v l) (he : Ext No w w') : OwnR b w' v l := h.ext he fun _ _ => id
theorem own_mono {w : World} {b b' E size n : Nat} {v : Value} {xs : List Value} (h : w.ownsRow b E size v n xs) (hb : b' ≤ b) : w.ownsRow b' E size v n xs := by
  refine ⟨h.1, h.2.imp id fun ⟨g, cap, cur, h1, h2, h3⟩ => ⟨g, cap, cur, h1, Nat.le_trans hb h2, h3⟩⟩
theorem rp_at {h : Array Obj} {b o : Nat} {r : Rt} (hat : At h b o r.cells) : At h b (o + 0) r.p.cells := hat.sub (k := 0) ⟨[.int .i64 r.hop], rfl⟩
theorem rh_at {h : Array Obj} {b o : Nat} {r : Rt} (hat : At h b o r.cells) : hcell h b (o + 3) = some (.int .i64 r.hop) := hat.cell (k := 3) rfl

theorem Less_spec (p q : Pfx) (w : World) : Ret Try.prog 86 #[p.val, q.val] w fun v w' => v = .bool (decide (Pfx.lt p q)) ∧ Ext No w w' := by
  refine calls_ev (args := [_, _]) mixed Try.func86 ok_86 rfl ?_
  refine bx (cs := _) rfl ?_
  intro w1 h1
  refine bx (cs := _) rfl ?_
  intro w2 h2
  have hp : Blk w2.heap w.heap.size p.cells 35 := (h2.ext No).blk h1.blk id
  have hq : Blk w2.heap w1.heap.size q.cells 35 := h2.blk
  have e2 : Ext No w w2 := (h1.ext No).trans (h2.ext No)
  refine fa ?_
  refine fa ?_
  refine ld1 (hp.cell 0) ?_
  refine fa ?_
  refine fa ?_
  refine ld1 (hq.cell 0) ?_
  refine TestK.mk (fun h => ?_) (fun h => ?_)
  · skip
    refine fa ?_
    refine fa ?_
    refine ld1 (hp.cell 1) ?_
    refine fa ?_
    refine fa ?_
    refine ld1 (hq.cell 1) ?_
    refine TestK.mk (fun h' => ?_) (fun h' => ?_)
    · skip
      refine fa ?_
      refine ld1 (hp.cell 2) ?_
      refine fa ?_
      refine ld1 (hq.cell 2) ?_
      refine TestK.mk (fun h'' => ?_) (fun h'' => ?_)
      · skip
        exact ⟨by rw [decide_eq_true (by unfold Pfx.lt; omega)]; rfl, e2⟩
      · skip
        exact ⟨by rw [decide_eq_false (by unfold Pfx.lt; omega)]; rfl, e2⟩
    · skip
      refine fa ?_
      refine fa ?_
      refine ld1 (hp.cell 1) ?_
      refine fa ?_
      refine fa ?_
      refine ld1 (hq.cell 1) ?_
      refine TestK.mk (fun h'' => ?_) (fun h'' => ?_)
      · skip
        exact ⟨by rw [decide_eq_true (by unfold Pfx.lt; omega)]; rfl, e2⟩
      · skip
        exact ⟨by rw [decide_eq_false (by unfold Pfx.lt; omega)]; rfl, e2⟩
  · skip
    refine fa ?_
    refine fa ?_
    refine ld1 (hp.cell 0) ?_
    refine fa ?_
    refine fa ?_
    refine ld1 (hq.cell 0) ?_
    refine TestK.mk (fun h'' => ?_) (fun h'' => ?_)
    · skip
      exact ⟨by rw [decide_eq_true (by unfold Pfx.lt; omega)]; rfl, e2⟩
    · skip
      exact ⟨by rw [decide_eq_false (by unfold Pfx.lt; omega)]; rfl, e2⟩

def findF (l : List Rt) (p : Pfx) : Int := ofFind (firstI (fun r => decide (r.p = p)) l 0)
theorem Find_spec (v : Value) (l : List Rt) (p : Pfx) (w : World) (h : IsR w.heap v l) (hn : l.length ≤ 1000000000) : Ret Try.prog 21 #[v, p.val] w fun v w' => v = .int .i64 (findF l p) ∧ Ext No w w' := by
  obtain ⟨a, c, rfl, _, hs⟩ := h
  refine calls_ev (args := [_, _]) mixed Try.func21 ok_21 rfl ?_
  refine bx (cs := _) rfl ?_
  intro w1 h1
  have hp : Blk w1.heap w.heap.size p.cells 35 := h1.blk
  refine loop [0, 3, 5] (fun k vs w' => ∃ i : Nat, i ≤ l.length ∧ k = l.length - i ∧ vs = [.slice a l.length c, .pointer (some ⟨w.heap.size, 0, none⟩), .int .i64 i] ∧ (∀ j (h : j < l.length), j < i → decide (l[j].p = p) = false) ∧ Ext No w1 w') l.length _ rfl ⟨0, by omega, rfl, rfl, by omega, Ext.refl _ _⟩ ?_
  rintro k vs w2 ⟨i, hi, rfl, rfl, hno, e2⟩
  have e2' : Ext No w w2 := (h1.ext No).trans e2
  refine lenS ?_
  refine TestK.mk (fun hlt => ?_) (fun hlt => ?_)
  · skip
    have hi' : i < l.length := by omega
    refine iaG rlen (hs.no e2') i rfl hi' rfl ?_
    intro b o hat
    refine fa ?_
    refine ldN (cs := l[i].p.cells) (rfl) (rp_at hat) ?_
    refine ldN (cs := p.cells) (rfl) ((e2.blk hp id).at_) ?_
    refine eqPfx (fun he => ?_) (fun he => ?_)
    · skip
      have : firstI (fun r => decide (r.p = p)) l 0 = some i := firstI_at _ l i hi' hno (by simp [he])
      exact ⟨by rw [findF, this]; rfl, e2'⟩
    · skip
      refine add64 (by omega) (by omega) ?_
      refine again (l.length - (i + 1)) (by omega) _ rfl ⟨i + 1, by omega, rfl, rfl, ?_, e2⟩
      intro j hj hji
      rcases Nat.lt_or_ge j i with h | h
      · exact hno j hj h
      · obtain rfl : j = i := by omega
        simp [he]
  · skip
    have : firstI (fun r => decide (r.p = p)) l 0 = none := firstI_none _ l i (by omega) hno
    exact ⟨by rw [findF, this]; rfl, e2'⟩

/-- A route comes into a list, in its place. -/
def intoF (l : List Rt) (r : Rt) : List Rt := if atLow l r.p = true then l.set (lowB l r.p) r else insF l r
theorem intoF_le (l : List Rt) (r : Rt) : (intoF l r).length ≤ l.length + 1 := by
  unfold intoF
  split
  · rw [List.length_set]; omega
  · exact Nat.le_of_eq (insF_perm l r).length_eq
theorem atLow_eq {l : List Rt} {p : Pfx} {i : Nat} (hlow : lowB l p = i) (hi : i < l.length) : atLow l p = decide (l[i].p = p) := by
  unfold atLow; rw [hlow, List.getElem?_eq_getElem hi]
theorem atLow_end {l : List Rt} {p : Pfx} (h : lowB l p = l.length) : atLow l p = false := by
  unfold atLow; rw [h, List.getElem?_eq_none (Nat.le_refl _)]

theorem bsRoute1 {r : Rt} {w : World} {K : Value → World → Prop} (hK : ∀ w', New w w' r.cells 45 → K (.slice (some ⟨w.heap.size, 0, none⟩) 1 1) w') : EffSem Try.prog (Instr.buildSlice 42 1 #[(0, r.val)]) w K := bs bsRoute hK

theorem Into_spec (v : Value) (l : List Rt) (r : Rt) (w : World) (h : IsR w.heap v l) (hn : l.length ≤ 1000000) : Ret Try.prog 39 #[v, r.val] w fun v' w' => OwnR w.heap.size w' v' (intoF l r) ∧ Ext No w w' := by
  obtain ⟨a, c, rfl, hc, hs⟩ := h
  refine calls_ev (args := [_, _]) mixed Try.func39 ok_39 rfl ?_
  refine bx (cs := _) rfl ?_
  intro w1 h1
  have hr1 : Blk w1.heap w.heap.size r.cells 45 := h1.blk
  have s1 := h1.size
  refine loopx 0 [0, 3, 5] (fun k vs w' => ∃ i : Nat, i ≤ l.length ∧ k = l.length - i ∧ vs = [.slice a l.length c, .pointer (some ⟨w.heap.size, 0, none⟩), .int .i64 i] ∧ (∀ j (h : j < l.length), j < i → Pfx.lt l[j].p r.p) ∧ Ext No w1 w') [0, 3, 5] (fun vs w' => vs = [.slice a l.length c, .pointer (some ⟨w.heap.size, 0, none⟩), .int .i64 (lowB l r.p)] ∧ Ext No w1 w') l.length _ rfl ⟨0, by omega, rfl, rfl, by omega, Ext.refl _ _⟩ ?_ ?_
  · skip
    rintro k vs w2 ⟨i, hi, rfl, rfl, hno, e2⟩
    have e2' : Ext No w w2 := (h1.ext No).trans e2
    refine lenS ?_
    refine TestK.mk (fun hlt => ?_) (fun hlt => ?_)
    · skip
      have hi' : i < l.length := by omega
      refine iaG rlen (hs.no e2') i rfl hi' rfl ?_
      intro b o hat
      refine fa ?_
      refine ldN (cs := l[i].p.cells) (rfl) (rp_at hat) ?_
      refine fa ?_
      refine ldN (cs := r.p.cells) (rfl) (rp_at (e2.blk hr1 id).at_) ?_
      refine Ret.mono (Less_spec _ _ _) ?_
      rintro v3 w3 ⟨rfl, e3⟩
      refine ifB (fun hc => ?_) (fun hc => ?_)
      · skip
        refine add64 (by omega) (by omega) ?_
        refine again (l.length - (i + 1)) (by omega) _ rfl ⟨i + 1, by omega, rfl, rfl, ?_, e2.trans e3⟩
        intro j hj hji
        rcases Nat.lt_or_ge j i with h | h
        · exact hno j hj h
        · obtain rfl : j = i := by omega
          simpa using hc
      · skip
        have hl : lowB l r.p = i := lowB_eq hi hno fun _ => by simpa using hc
        refine leave _ rfl ⟨by rw [hl], e2.trans e3⟩
    · skip
      have hl : lowB l r.p = i := lowB_eq hi hno fun h => by omega
      refine leave _ rfl ⟨by rw [hl], e2⟩
  · skip
    rintro vs w2 ⟨rfl, e2⟩
    have e2' : Ext No w w2 := (h1.ext No).trans e2
    have hr2 := e2.blk hr1 id
    have hlow := lowB_le l r.p
    refine lenS ?_
    refine TestK.mk (fun hlt => ?_) (fun hlt => ?_)
    · skip
      have hi' : lowB l r.p < l.length := by omega
      refine iaG rlen (hs.no e2') (lowB l r.p) rfl hi' rfl ?_
      intro b o hat
      refine fa ?_
      refine ldN (cs := l[lowB l r.p].p.cells) (rfl) (rp_at hat) ?_
      refine fa ?_
      refine ldN (cs := r.p.cells) (rfl) (rp_at hr2.at_) ?_
      refine eqPfx (fun he => ?_) (fun he => ?_)
      · skip
        have hat' : atLow l r.p = true := by rw [atLow_eq rfl hi']; simp [he]
        refine apG rlen rone (OwnR.nil w.heap.size w2) ⟨a, c, rfl, hc, hs.no e2'⟩ (by simp; omega) (by decide) e2'.size ?_
        intro v3 w3 h3 _ e3
        rw [List.nil_append] at h3
        obtain ⟨g, cap, ds, rfl, hbg, hg, hle, hput⟩ := own_put rlen h3 hi' r
        have e3' : Ext No w2 w3 := e3.weaken fun k _ e => by cases e
        refine ldN (cs := r.cells) (rfl) ((e3'.blk hr2 id).at_) ?_
        refine iaS (lowB l r.p) (rfl) (by omega) ?_
        refine stN (vs := r.cells) rfl rfl rfl (hg) (hle) ?_
        intro w4 h4
        exact And.intro (by rw [intoF, if_pos hat']; exact hput _ h4) ((e2'.trans e3').andThen (h4.ext (S := (· = g)) fun _ ↦ rfl) fun k hk e ↦ by omega)
      · skip
        have hat' : atLow l r.p = false := by rw [atLow_eq rfl hi']; simp [he]
        refine draw2 [(0, []), (1, []), (2, []), (4, [])] (3, [4]) (5, []) [(6, []), (7, []), (8, []), (9, []), (10, []), (11, [])] (by kernel_rfl) ?_
        refine slHiG (hs.no e2') hc (lowB l r.p) rfl hlow ?_
        intro c2 hs2
        refine ldN (cs := r.cells) (rfl) (hr2.at_) ?_
        refine And.intro ?_ ?_
        · skip
          refine apG rlen rone (OwnR.nil w.heap.size w2) hs2 (by simp; omega) (by decide) e2'.size ?_
          intro v3 w3 h3 _ e3
          rw [List.nil_append] at h3
          have e3' : Ext No w2 w3 := e3.weaken fun k _ e => by cases e
          refine And.intro (ldN rfl (e3'.blk hr2 id).at_ rfl) ?_
          refine bsRoute1 ?_
          intro w4 h4
          have e4' := e2'.trans e3'
          have e5 := e4'.trans (h4.ext No)
          have h5 := OwnR.no h3 (h4.ext No)
          have hln : (l.take (lowB l r.p)).length ≤ 1000000 := by rw [List.length_take]; omega
          refine apG rlen rone h5 (isSl_one h4.blk) (by simp; omega) (by decide) e5.size ?_
          intro v6 w6 h6 f6 e6
          have e6' := e5.andThen e6 fun k hk e => by have := (World.ownsRow.lt h5 k e).1; omega
          refine slLoG rlen (hs.no e6') rfl hc (lowB l r.p) rfl hlow ?_
          intro v7 h7 _
          refine apG rlen rone h6 h7 (by simp only [List.length_append, List.length_drop, List.length_cons, List.length_nil]; omega) (by decide) e6'.size ?_
          intro v8 w8 h8 f8 e8
          exact And.intro (by rw [intoF, if_neg (by rw [hat']; simp), insF]; rw [List.append_assoc] at h8; exact h8) (e6'.andThen e8 fun k hk e ↦ by have := (World.ownsRow.lt h6 k e).1; omega)
        · skip
          refine bsRoute1 ?_
          intro w4 h4
          refine apG rlen rone (OwnR.nil w.heap.size w4) (hs2.no (h4.ext No)) (by simp; omega) (by decide) (Nat.le_trans e2'.size (h4.ext No).size) ?_
          intro v3 w3 h3 _ e3
          rw [List.nil_append] at h3
          have e3' : Ext No w4 w3 := e3.weaken fun k _ e => by cases e
          refine And.intro (ldN rfl (e3'.blk ((h4.ext No).blk hr2 id) id).at_ rfl) ?_
          have e4' := e2'.trans (h4.ext No)
          have e5 := e4'.trans e3'
          have h5 := h3
          have hln : (l.take (lowB l r.p)).length ≤ 1000000 := by rw [List.length_take]; omega
          refine apG rlen rone h5 ((isSl_one h4.blk).no e3') (by simp; omega) (by decide) e5.size ?_
          intro v6 w6 h6 f6 e6
          have e6' := e5.andThen e6 fun k hk e => by have := (World.ownsRow.lt h5 k e).1; omega
          refine slLoG rlen (hs.no e6') rfl hc (lowB l r.p) rfl hlow ?_
          intro v7 h7 _
          refine apG rlen rone h6 h7 (by simp only [List.length_append, List.length_drop, List.length_cons, List.length_nil]; omega) (by decide) e6'.size ?_
          intro v8 w8 h8 f8 e8
          exact And.intro (by rw [intoF, if_neg (by rw [hat']; simp), insF]; rw [List.append_assoc] at h8; exact h8) (e6'.andThen e8 fun k hk e ↦ by have := (World.ownsRow.lt h6 k e).1; omega)
    · skip
      have hat' : atLow l r.p = false := atLow_end (by omega)
      refine draw2 [(0, []), (1, []), (2, []), (4, [])] (3, [4]) (5, []) [(6, []), (7, []), (8, []), (9, []), (10, []), (11, [])] (by kernel_rfl) ?_
      refine slHiG (hs.no e2') hc (lowB l r.p) rfl hlow ?_
      intro c2 hs2
      refine ldN (cs := r.cells) (rfl) (hr2.at_) ?_
      refine And.intro ?_ ?_
      · skip
        refine apG rlen rone (OwnR.nil w.heap.size w2) hs2 (by simp; omega) (by decide) e2'.size ?_
        intro v3 w3 h3 _ e3
        rw [List.nil_append] at h3
        have e3' : Ext No w2 w3 := e3.weaken fun k _ e => by cases e
        refine And.intro (ldN rfl (e3'.blk hr2 id).at_ rfl) ?_
        refine bsRoute1 ?_
        intro w4 h4
        have e4' := e2'.trans e3'
        have e5 := e4'.trans (h4.ext No)
        have h5 := OwnR.no h3 (h4.ext No)
        have hln : (l.take (lowB l r.p)).length ≤ 1000000 := by rw [List.length_take]; omega
        refine apG rlen rone h5 (isSl_one h4.blk) (by simp; omega) (by decide) e5.size ?_
        intro v6 w6 h6 f6 e6
        have e6' := e5.andThen e6 fun k hk e => by have := (World.ownsRow.lt h5 k e).1; omega
        refine slLoG rlen (hs.no e6') rfl hc (lowB l r.p) rfl hlow ?_
        intro v7 h7 _
        refine apG rlen rone h6 h7 (by simp only [List.length_append, List.length_drop, List.length_cons, List.length_nil]; omega) (by decide) e6'.size ?_
        intro v8 w8 h8 f8 e8
        exact And.intro (by rw [intoF, if_neg (by rw [hat']; simp), insF]; rw [List.append_assoc] at h8; exact h8) (e6'.andThen e8 fun k hk e ↦ by have := (World.ownsRow.lt h6 k e).1; omega)
      · skip
        refine bsRoute1 ?_
        intro w4 h4
        refine apG rlen rone (OwnR.nil w.heap.size w4) (hs2.no (h4.ext No)) (by simp; omega) (by decide) (Nat.le_trans e2'.size (h4.ext No).size) ?_
        intro v3 w3 h3 _ e3
        rw [List.nil_append] at h3
        have e3' : Ext No w4 w3 := e3.weaken fun k _ e => by cases e
        refine And.intro (ldN rfl (e3'.blk ((h4.ext No).blk hr2 id) id).at_ rfl) ?_
        have e4' := e2'.trans (h4.ext No)
        have e5 := e4'.trans e3'
        have h5 := h3
        have hln : (l.take (lowB l r.p)).length ≤ 1000000 := by rw [List.length_take]; omega
        refine apG rlen rone h5 ((isSl_one h4.blk).no e3') (by simp; omega) (by decide) e5.size ?_
        intro v6 w6 h6 f6 e6
        have e6' := e5.andThen e6 fun k hk e => by have := (World.ownsRow.lt h5 k e).1; omega
        refine slLoG rlen (hs.no e6') rfl hc (lowB l r.p) rfl hlow ?_
        intro v7 h7 _
        refine apG rlen rone h6 h7 (by simp only [List.length_append, List.length_drop, List.length_cons, List.length_nil]; omega) (by decide) e6'.size ?_
        intro v8 w8 h8 f8 e8
        exact And.intro (by rw [intoF, if_neg (by rw [hat']; simp), insF]; rw [List.append_assoc] at h8; exact h8) (e6'.andThen e8 fun k hk e ↦ by have := (World.ownsRow.lt h6 k e).1; omega)

theorem Without_spec (v : Value) (l : List Rt) (p : Pfx) (w : World) (h : IsR w.heap v l) (hn : l.length ≤ 1000000) : Ret Try.prog 38 #[v, p.val] w fun v' w' => OwnR w.heap.size w' v' (without l p) ∧ Ext No w w' := by
  obtain ⟨a, c, rfl, hc, hs⟩ := h
  refine calls_ev (args := [_, _]) mixed Try.func38 ok_38 rfl ?_
  refine bx (cs := _) rfl ?_
  intro w1 h1
  have hp1 : Blk w1.heap w.heap.size p.cells 35 := h1.blk
  have s1 := h1.size
  refine loop [0, 3, 5, 6] (fun k vs w' => ∃ (i : Nat) (v : Value), i ≤ l.length ∧ k = l.length - i ∧ vs = [.slice a l.length c, .pointer (some ⟨w.heap.size, 0, none⟩), v, .int .i64 i] ∧ OwnR w1.heap.size w' v (without (l.take i) p) ∧ Blk w'.heap w.heap.size p.cells 35 ∧ Ext No w1 w') l.length _ rfl ⟨0, _, by omega, rfl, rfl, OwnR.nil _ _, hp1, Ext.refl _ _⟩ ?_
  rintro k vs w2 ⟨i, v, hi, rfl, rfl, ho, hp2, e2'⟩
  have e2 : Ext No w w2 := (h1.ext No).trans e2'
  refine lenS ?_
  refine TestK.mk (fun hlt => ?_) (fun hlt => ?_)
  · skip
    have hi' : i < l.length := by omega
    have hstep : without (l.take (i + 1)) p = without (l.take i) p ++ if l[i].p = p then [] else [l[i]] := by
      rw [List.take_succ_eq_append_getElem hi', without, List.filter_append]
      congr 1
      by_cases h : l[i].p = p <;> simp [h]
    have hlen : (without (l.take i) p).length ≤ l.length := Nat.le_trans (List.length_filter_le _ _) (by rw [List.length_take]; omega)
    refine iaG rlen (hs.no e2) i rfl hi' rfl ?_
    intro b o hat
    refine fa ?_
    refine ldN (cs := l[i].p.cells) (rfl) (rp_at hat) ?_
    refine ldN (cs := p.cells) (rfl) (hp2.at_) ?_
    refine neqPfx (fun he => ?_) (fun he => ?_)
    · skip
      rw [if_neg he] at hstep
      refine iaG rlen (hs.no e2) i rfl hi' rfl ?_
      intro b o hat
      refine ldN (cs := l[i].cells) (rfl) (hat) ?_
      refine bsRoute1 ?_
      intro w3 h3
      refine apG rlen rone (OwnR.no ho (h3.ext No)) (isSl_one h3.blk) (by simp; omega) (by decide) (Nat.le_trans e2'.size (h3.ext No).size) ?_
      intro v4 w4 h4 _ e4
      have e24 : Ext No w1 w4 := (e2'.trans (h3.ext No)).andThen e4 fun k hk e => by have := (World.ownsRow.lt ho k e).1; omega
      refine add64 (by omega) (by omega) ?_
      refine again (l.length - (i + 1)) (by omega) _ rfl ⟨i + 1, v4, by omega, rfl, rfl, by rw [hstep]; exact h4, e4.blk ((h3.ext No).blk hp2 id) (fun e => by have := (World.ownsRow.lt ho _ e).1; omega), e24⟩
    · skip
      rw [if_pos he, List.append_nil] at hstep
      refine add64 (by omega) (by omega) ?_
      refine again (l.length - (i + 1)) (by omega) _ rfl ⟨i + 1, v, by omega, rfl, rfl, by rw [hstep]; exact ho, hp2, e2'⟩
  · skip
    have : l.take i = l := List.take_of_length_le (by omega)
    rw [this] at ho
    exact ⟨own_mono ho (by omega), e2⟩

def sortedF (l : List Rt) : List Rt := l.foldl intoF []
theorem sortedF_le (l : List Rt) : (sortedF l).length ≤ l.length := by
  have : ∀ (l a : List Rt), (l.foldl intoF a).length ≤ a.length + l.length := by
    intro l
    induction l with
    | nil => intro a; exact Nat.le_refl _
    | cons x l ih =>
      intro a
      have h1 := ih (intoF a x)
      have h2 := intoF_le a x
      simp only [List.foldl_cons, List.length_cons]
      omega
  have h := this l []
  rw [List.length_nil, Nat.zero_add] at h
  exact h
theorem Sorted_spec (v : Value) (l : List Rt) (w : World) (h : IsR w.heap v l) (hn : l.length ≤ 1000000) : Ret Try.prog 23 #[v] w fun v' w' => OwnR w.heap.size w' v' (sortedF l) ∧ Ext No w w' := by
  obtain ⟨a, c, rfl, hc, hs⟩ := h
  refine calls_ev (args := [_]) mixed Try.func23 ok_23 rfl ?_
  refine loop [0, 3, 4] (fun k vs w' => ∃ (i : Nat) (v : Value), i ≤ l.length ∧ k = l.length - i ∧ vs = [.slice a l.length c, v, .int .i64 i] ∧ OwnR w.heap.size w' v (sortedF (l.take i)) ∧ Ext No w w') l.length _ rfl ⟨0, _, by omega, rfl, rfl, OwnR.nil _ _, Ext.refl _ _⟩ ?_
  rintro k vs w2 ⟨i, v, hi, rfl, rfl, ho, e2⟩
  refine lenS ?_
  refine TestK.mk (fun hlt => ?_) (fun hlt => ?_)
  · skip
    have hi' : i < l.length := by omega
    refine iaG rlen (hs.no e2) i rfl hi' rfl ?_
    intro b o hat
    refine ldN (cs := l[i].cells) (rfl) (hat) ?_
    refine Ret.mono (Into_spec v (sortedF (l.take i)) l[i] w2 ho.is (Nat.le_trans (sortedF_le _) (by rw [List.length_take]; omega))) ?_
    rintro v3 w3 ⟨h3, e3⟩
    refine add64 (by omega) (by omega) ?_
    refine again (l.length - (i + 1)) (by omega) _ rfl ⟨i + 1, v3, by omega, rfl, rfl, ?_, e2.trans e3⟩
    rw [List.take_succ_eq_append_getElem hi', sortedF, List.foldl_append]
    exact own_mono h3 e2.size
  · skip
    have : l.take i = l := List.take_of_length_le (by omega)
    rw [this] at ho
    exact ⟨ho, e2⟩

theorem SameRoutes_spec (v u : Value) (l m : List Rt) (w : World) (h : IsR w.heap v l) (k : IsR w.heap u m) (hn : l.length ≤ 1000000000) : Ret Try.prog 27 #[v, u] w fun v' w' => v' = .bool (decide (l = m)) ∧ Ext No w w' := by
  obtain ⟨a, c, rfl, hc, hs⟩ := h
  obtain ⟨a', c', rfl, hc', hs'⟩ := k
  refine calls_ev (args := [_, _]) mixed Try.func27 ok_27 rfl ?_
  refine lenS ?_
  refine lenS ?_
  refine TestK.mk (fun hl => ?_) (fun hl => ?_)
  · skip
    refine loop [0, 1, 5] (fun k vs w' => ∃ (i : Nat), i ≤ l.length ∧ k = l.length - i ∧ vs = [.slice a l.length c, .slice a' m.length c', .int .i64 i] ∧ (∀ j (h : j < l.length) (h' : j < m.length), j < i → l[j] = m[j]) ∧ Ext No w w') l.length _ rfl ⟨0, by omega, rfl, rfl, by omega, Ext.refl _ _⟩ ?_
    rintro k vs w2 ⟨i, hi, rfl, rfl, heq, e2⟩
    refine lenS ?_
    refine TestK.mk (fun hlt => ?_) (fun hlt => ?_)
    · skip
      have hi' : i < l.length := by omega
      have hi2 : i < m.length := by omega
      refine iaG rlen (hs.no e2) i rfl hi' rfl ?_
      intro b o hat
      refine ldN (cs := l[i].cells) (rfl) (hat) ?_
      refine iaG rlen (hs'.no e2) i rfl hi2 rfl ?_
      intro b' o' hat'
      refine ldN (cs := m[i].cells) (rfl) (hat') ?_
      refine neqRt (fun he => ?_) (fun he => ?_)
      · skip
        exact ⟨by rw [decide_eq_false (fun e => he (by subst e; rfl))]; rfl, e2⟩
      · skip
        refine add64 (by omega) (by omega) ?_
        refine again (l.length - (i + 1)) (by omega) _ rfl ⟨i + 1, by omega, rfl, rfl, ?_, e2⟩
        intro j h1 h2 hji
        rcases Nat.lt_or_ge j i with h | h
        · exact heq j h1 h2 h
        · obtain rfl : j = i := by omega
          exact he
    · skip
      exact ⟨by rw [decide_eq_true (List.ext_getElem (by omega) fun j h1 h2 => heq j h1 h2 (by omega))]; rfl, e2⟩
  · skip
    exact ⟨by rw [decide_eq_false (fun e => hl (by rw [e]))]; rfl, Ext.refl _ _⟩
end Go.Fl
