/-
  Chapter 1: the order of prefixes, as the given program's Compare tells it.
-/
import Derived.Test.YtoenjjlicglceaaB0
import Derived.Test.YtoenjjlicglceaaB1
namespace Go.Fl
open Go.Proofs
set_option maxHeartbeats 400000
set_option maxRecDepth 100000

def cmpZ (a b : Int) : Int := if a < b then -1 else if b < a then 1 else 0
def firstNZ : List Int → Int
  | [] => 0
  | z :: zs => if z = 0 then firstNZ zs else z
def cmpP (a b : Pfx) : Int := firstNZ [cmpZ a.hi.toNat b.hi.toNat, cmpZ a.lo.toNat b.lo.toNat, cmpZ a.len b.len]
/-- Is a prefix ahead of another one? -/
def Pfx.lt (a b : Pfx) : Prop := a.hi.toNat < b.hi.toNat ∨ a.hi.toNat = b.hi.toNat ∧ (a.lo.toNat < b.lo.toNat ∨ a.lo.toNat = b.lo.toNat ∧ a.len < b.len)
instance (a b : Pfx) : Decidable (Pfx.lt a b) := by unfold Pfx.lt; infer_instance

theorem cmpZ_cases (a b : Int) : (a < b ∧ cmpZ a b = -1) ∨ (a = b ∧ cmpZ a b = 0) ∨ (b < a ∧ cmpZ a b = 1) := by
  unfold cmpZ
  by_cases h1 : a < b
  · exact .inl ⟨h1, by rw [if_pos h1]⟩
  · by_cases h2 : b < a
    · exact .inr (.inr ⟨h2, by rw [if_neg h1, if_pos h2]⟩)
    · exact .inr (.inl ⟨by omega, by rw [if_neg h1, if_neg h2]⟩)
theorem Pfx.eq_of {a b : Pfx} (h1 : a.hi.toNat = b.hi.toNat) (h2 : a.lo.toNat = b.lo.toNat) (h3 : a.len = b.len) : a = b := by
  rcases a with ⟨x, y, z⟩
  rcases b with ⟨x', y', z'⟩
  cases BitVec.eq_of_toNat_eq h1; cases BitVec.eq_of_toNat_eq h2; cases h3; rfl
theorem cmpP_cases (a b : Pfx) : (Pfx.lt a b ∧ cmpP a b = -1) ∨ (a = b ∧ cmpP a b = 0) ∨ (Pfx.lt b a ∧ cmpP a b = 1) := by
  unfold cmpP Pfx.lt
  rcases cmpZ_cases a.hi.toNat b.hi.toNat with ⟨h1, e1⟩ | ⟨h1, e1⟩ | ⟨h1, e1⟩ <;> rw [e1]
  · exact .inl ⟨.inl (by omega), rfl⟩
  · rcases cmpZ_cases a.lo.toNat b.lo.toNat with ⟨h2, e2⟩ | ⟨h2, e2⟩ | ⟨h2, e2⟩ <;> rw [e2]
    · exact .inl ⟨.inr ⟨by omega, .inl (by omega)⟩, rfl⟩
    · rcases cmpZ_cases a.len b.len with ⟨h3, e3⟩ | ⟨h3, e3⟩ | ⟨h3, e3⟩ <;> rw [e3]
      · exact .inl ⟨.inr ⟨by omega, .inr ⟨by omega, h3⟩⟩, rfl⟩
      · exact .inr (.inl ⟨Pfx.eq_of (by omega) (by omega) h3, rfl⟩)
      · exact .inr (.inr ⟨.inr ⟨by omega, .inr ⟨by omega, h3⟩⟩, rfl⟩)
    · exact .inr (.inr ⟨.inr ⟨by omega, .inl (by omega)⟩, rfl⟩)
  · exact .inr (.inr ⟨.inl (by omega), rfl⟩)
theorem Pfx.lt_irrefl (a : Pfx) : ¬ Pfx.lt a a := by unfold Pfx.lt; omega
theorem Pfx.lt_trans {a b c : Pfx} (h : Pfx.lt a b) (k : Pfx.lt b c) : Pfx.lt a c := by unfold Pfx.lt at *; omega
theorem Pfx.lt_asymm {a b : Pfx} (h : Pfx.lt a b) : ¬ Pfx.lt b a := fun k => Pfx.lt_irrefl _ (Pfx.lt_trans h k)
theorem Pfx.lt_total (a b : Pfx) : Pfx.lt a b ∨ a = b ∨ Pfx.lt b a := by
  rcases cmpP_cases a b with h | h | h
  · exact .inl h.1
  · exact .inr (.inl h.1)
  · exact .inr (.inr h.1)

theorem nanU_q (a : BitVec 64) (w : World) : Ret Try.prog 146 #[U a] w fun v w' => v = .bool false ∧ Quiet w w' := by
  refine calls_ev (args := [_]) mixed Try.func146 ok_146 rfl ?_
  refine TestK.mk (fun h => ?_) (fun h => ?_)
  · skip
    exact And.intro rfl (Quiet.refl _)
  · skip
    exact absurd rfl h
theorem nanI_q (a : Int) (w : World) : Ret Try.prog 147 #[.int .i64 a] w fun v w' => v = .bool false ∧ Quiet w w' := by
  refine calls_ev (args := [_]) mixed Try.func147 ok_147 rfl ?_
  refine TestK.mk (fun h => ?_) (fun h => ?_)
  · skip
    exact And.intro rfl (Quiet.refl _)
  · skip
    exact absurd rfl h
theorem cmpU_q (a b : BitVec 64) (w : World) : Ret Try.prog 111 #[U a, U b] w fun v w' => v = .int .i64 (cmpZ a.toNat b.toNat) ∧ Quiet w w' := by
  refine calls_ev (args := [_, _]) mixed Try.func111 ok_111 rfl ?_
  refine Ret.mono (nanU_q _ _) ?_
  rintro v2 w2 ⟨rfl, e2⟩
  refine Ret.mono (nanU_q _ _) ?_
  rintro v3 w3 ⟨rfl, e3⟩
  refine TestK.mk (fun h => ?_) (fun h => ?_)
  · skip
    exact And.intro (by rw [cmpZ, if_pos h]; rfl) (e2.trans e3)
  · skip
    refine TestK.mk (fun h' => ?_) (fun h' => ?_)
    · skip
      exact And.intro (by rw [cmpZ, if_neg h, if_pos h']; rfl) (e2.trans e3)
    · skip
      exact And.intro (by rw [cmpZ, if_neg h, if_neg h']; rfl) (e2.trans e3)
theorem cmpI_q (a b : Int) (w : World) : Ret Try.prog 112 #[.int .i64 a, .int .i64 b] w fun v w' => v = .int .i64 (cmpZ a b) ∧ Quiet w w' := by
  refine calls_ev (args := [_, _]) mixed Try.func112 ok_112 rfl ?_
  refine Ret.mono (nanI_q _ _) ?_
  rintro v2 w2 ⟨rfl, e2⟩
  refine Ret.mono (nanI_q _ _) ?_
  rintro v3 w3 ⟨rfl, e3⟩
  refine TestK.mk (fun h => ?_) (fun h => ?_)
  · skip
    exact And.intro (by rw [cmpZ, if_pos h]; rfl) (e2.trans e3)
  · skip
    refine TestK.mk (fun h' => ?_) (fun h' => ?_)
    · skip
      exact And.intro (by rw [cmpZ, if_neg h, if_pos h']; rfl) (e2.trans e3)
    · skip
      exact And.intro (by rw [cmpZ, if_neg h, if_neg h']; rfl) (e2.trans e3)
theorem firstNZ_skip : ∀ (zs : List Int) (i : Nat), (∀ j (h : j < zs.length), j < i → zs[j] = 0) → i ≤ zs.length → firstNZ zs = firstNZ (zs.drop i)
  | zs, 0, _, _ => by simp
  | [], i + 1, _, h => by simp at h
  | z :: zs, i + 1, hn, h => by
    have h0 := hn 0 (by simp) (by omega)
    simp only [List.getElem_cons_zero] at h0
    rw [firstNZ, if_pos h0, List.drop_succ_cons]
    exact firstNZ_skip zs i (fun j hj hji => by have := hn (j + 1) (by simpa using hj) (by omega); simpa using this) (by simpa using h)

theorem cmpOr_q (b o c : Nat) (zs : List Int) (w : World) (hat : At w.heap b o (zs.map (.int .i64))) (hlen : zs.length < 1000000) :
    Ret Try.prog 110 #[.slice (some ⟨b, o, none⟩) zs.length c] w fun v w' => v = .int .i64 (firstNZ zs) ∧ Quiet w w' := by
  refine calls_ev (args := [_]) mixed Try.func110 ok_110 rfl ?_
  refine lenS ?_
  refine loop [3, 6, 7, 8] (fun k vs w' => ∃ i : Nat, i ≤ zs.length ∧ k = zs.length - i ∧ vs = [.int .i64 0, .slice (some ⟨b, o, none⟩) zs.length c, .int .i64 zs.length, .int .i64 i] ∧
    (∀ j (h : j < zs.length), j < i → zs[j] = 0) ∧ Quiet w w') zs.length _ rfl ⟨0, by omega, rfl, rfl, by omega, Quiet.refl _⟩ ?_
  rintro k vs w2 ⟨i, hi, rfl, rfl, hno, he⟩
  refine TestK.mk (fun hlt => ?_) (fun hlt => ?_)
  · skip
    have hi' : i < zs.length := by omega
    refine iaS1 (i) (rfl) (by omega) ?_
    refine ld1 ((he.ext.at_ hat id).cell (k := i) (v := .int .i64 zs[i]) (by simp [hi'])) ?_
    refine TestK.mk (fun h => ?_) (fun h => ?_)
    · skip
      refine add64 (by omega) (by omega) ?_
      refine again (zs.length - (i + 1)) (by omega) _ rfl ⟨i + 1, by omega, rfl, rfl, ?_, he⟩
      intro j hj hji
      rcases Nat.lt_or_ge j i with h' | h'
      · exact hno j hj h'
      · obtain rfl : j = i := by omega
        exact h
    · skip
      exact And.intro (by rw [firstNZ_skip zs i hno hi, List.drop_eq_getElem_cons hi', firstNZ, if_neg h]; rfl) he
  · skip
    have : i = zs.length := by omega
    exact And.intro (by rw [firstNZ_skip zs i hno hi, this, List.drop_length]; rfl) he
theorem bsInts3 {a b c : Int} (w : World) : (Instr.buildSlice 23 3 #[(0, .int .i64 a), (1, .int .i64 b), (2, .int .i64 c)]).run Try.prog w =
    .ok (.slice (some ⟨w.heap.size, 0, none⟩) 3 3) (w.alloc (.cells ([.int .i64 a, .int .i64 b, .int .i64 c] : List Value).toArray 3)) := by kernel_rfl

theorem Compare_q (p q : Pfx) (w : World) : Ret Try.prog 67 #[p.val, q.val] w fun v w' => v = .int .i64 (cmpP p q) ∧ Quiet w w' := by
  refine calls_ev (args := [_, _]) mixed Try.func67 ok_67 rfl ?_
  refine bx (cs := _) rfl ?_
  intro w1 h1
  refine bx (cs := _) rfl ?_
  intro w2 h2
  have hp2 : Blk w2.heap w.heap.size p.cells 35 := (h2.ext No).blk h1.blk id
  have hq2 : Blk w2.heap w1.heap.size q.cells 35 := h2.blk
  refine draw [(0, []), (1, []), (2, []), (3, []), (4, []), (5, []), (7, []), (8, []), (9, []), (10, []), (11, []), (12, []), (14, []), (15, []), (16, []), (17, []), (6, [9, 12, 15, 17]), (13, [15, 17]), (18, []), (19, []), (20, []), (21, [])] (by kernel_rfl) ?_
  refine fa ?_
  refine fa ?_
  refine ld1 (hp2.cell 0) ?_
  refine fa ?_
  refine fa ?_
  refine ld1 (hq2.cell 0) ?_
  refine fa ?_
  refine fa ?_
  refine ld1 (hp2.cell 1) ?_
  refine fa ?_
  refine fa ?_
  refine ld1 (hq2.cell 1) ?_
  refine fa ?_
  refine ld1 (hp2.cell 2) ?_
  refine fa ?_
  refine ld1 (hq2.cell 2) ?_
  refine Ret.mono (cmpU_q _ _ _) ?_
  rintro v3 w3 ⟨rfl, e3⟩
  have hp3 := e3.ext.blk hp2 id
  have hq3 := e3.ext.blk hq2 id
  refine And.intro (ld1 (hp3.cell 1) rfl) (And.intro (ld1 (hq3.cell 1) rfl) (And.intro (ld1 (hp3.cell 2) rfl) (And.intro (ld1 (hq3.cell 2) rfl) ?_)))
  refine Ret.mono (cmpU_q _ _ _) ?_
  rintro v4 w4 ⟨rfl, e4⟩
  have hp4 := e4.ext.blk hp3 id
  have hq4 := e4.ext.blk hq3 id
  refine And.intro (ld1 (hp4.cell 2) rfl) (And.intro (ld1 (hq4.cell 2) rfl) ?_)
  refine Ret.mono (cmpI_q _ _ _) ?_
  rintro v5 w5 ⟨rfl, e5⟩
  refine bs (cs := _) bsInts3 ?_
  intro w6 h6
  refine Ret.mono (cmpOr_q _ 0 3 [cmpZ p.hi.toNat q.hi.toNat, cmpZ p.lo.toNat q.lo.toNat, cmpZ p.len q.len] _ h6.blk.at_ (by simp)) ?_
  rintro v7 w7 ⟨rfl, e7⟩
  exact And.intro rfl (((((((h1.qt.trans h2.qt).trans (Quiet.drew _)).trans e3).trans e4).trans e5).trans h6.qt).trans e7)
theorem Order_q (r s : Rt) (w : World) : Ret Try.prog 85 #[r.val, s.val] w fun v w' => v = .int .i64 (cmpP r.p s.p) ∧ Quiet w w' := by
  refine calls_ev (args := [_, _]) mixed Try.func85 ok_85 rfl ?_
  refine bx (cs := _) rfl ?_
  intro w1 h1
  refine bx (cs := _) rfl ?_
  intro w2 h2
  have hr2 : Blk w2.heap w.heap.size r.cells 45 := (h2.ext No).blk h1.blk id
  have hs2 : Blk w2.heap w1.heap.size s.cells 45 := h2.blk
  refine fa ?_
  refine ldN (cs := r.p.cells) (rfl) (hr2.part ⟨[.int .i64 r.hop], rfl⟩) ?_
  refine fa ?_
  refine ldN (cs := s.p.cells) (rfl) (hs2.part ⟨[.int .i64 s.hop], rfl⟩) ?_
  refine Ret.mono (Compare_q _ _ _) ?_
  rintro v3 w3 ⟨rfl, e3⟩
  exact And.intro rfl ((h1.qt.trans h2.qt).trans e3)

theorem Compare_spec (p q : Pfx) (w : World) : Ret Try.prog 67 #[p.val, q.val] w fun v w' => v = .int .i64 (cmpP p q) ∧ Ext No w w' := (Compare_q p q w).mono fun _ _ h => ⟨h.1, h.2.ext⟩
theorem Order_spec (r s : Rt) (w : World) : Ret Try.prog 85 #[r.val, s.val] w fun v w' => v = .int .i64 (cmpP r.p s.p) ∧ Ext No w w' := (Order_q r s w).mono fun _ _ h => ⟨h.1, h.2.ext⟩
end Go.Fl
