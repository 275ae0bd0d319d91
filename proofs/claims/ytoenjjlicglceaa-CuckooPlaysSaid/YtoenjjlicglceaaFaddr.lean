/-
  Chapter 1: the walks of the reference's and of the given program's functions on addresses.
-/
import Derived.Test.YtoenjjlicglceaaTaddr
import Derived.Test.YtoenjjlicglceaaFlist
namespace Go.Fl
open Go.Proofs
set_option maxHeartbeats 1000000
set_option maxRecDepth 100000

theorem eqAdr {p q : Adr} {x y : Operand} {K : Value → Prop} (ht : p = q → K (.bool true)) (hf : ¬ p = q → K (.bool false)) :
    PureSem Try.prog (do eqGuard .eql 33 x y p.val q.val; binOp .eql 33 p.val q.val) K := by
  have hr : ∀ w, (do eqGuard .eql 33 x y p.val q.val; binOp .eql 33 p.val q.val : Sem Value).run Try.prog w = .ok (.bool (decide (p = q))) w := by
    intro w
    have h1 : Try.prog.eqGuardType Try.prog.depth 33 = false := by kernel_rfl
    have h3 : Try.prog.stoodInHeld 33 = false := by kernel_rfl
    simp [go_sem, h1, h3]
    rcases p with ⟨a, b⟩
    rcases q with ⟨a', b'⟩
    by_cases e1 : a = a' <;> by_cases e2 : b = b' <;> simp [e1, e2, natU]
  refine PureSem.of _ hr ?_
  by_cases h : p = q
  · rw [decide_eq_true h]; exact ht h
  · rw [decide_eq_false h]; exact hf h

def capF (n lo hi : Int) : Int := if n < lo then lo else if hi < n then hi else n
theorem Cap_spec (n lo hi : Int) (w : World) : Ret Try.prog 70 #[.int .i64 n, .int .i64 lo, .int .i64 hi] w fun v w' => v = .int .i64 (capF n lo hi) ∧ Ext No w w' := by
  refine calls_ev (args := [_, _, _]) mixed Try.func70 ok_70 rfl ?_
  refine TestK.mk (fun h => ?_) (fun h => ?_)
  · skip
    exact ⟨by rw [capF, if_pos h]; rfl, Ext.refl _ _⟩
  · skip
    refine TestK.mk (fun h' => ?_) (fun h' => ?_)
    · skip
      exact ⟨by rw [capF, if_neg h, if_pos h']; rfl, Ext.refl _ _⟩
    · skip
      exact ⟨by rw [capF, if_neg h, if_neg h']; rfl, Ext.refl _ _⟩
theorem cap_clamp (n : Int) : capF n 0 128 = clamp n := by unfold capF clamp; split <;> (try split) <;> omega
theorem sub_nat (k i : Nat) (h : i ≤ k) (hk : k < 1000000) : ((BitVec.ofInt 64 ((k : Int) - (i : Int))).toNat : Int) = ((k - i : Nat) : Int) := by
  rw [BitVec.toNat_ofInt]; omega

def bitI (a : Adr) (i : Nat) : Int := if a.bit i = true then 1 else 0
theorem bit_hi (a : Adr) (i : Nat) (h : i < 64) : ((a.hi >>> (63 - i)) &&& 1#64).toInt = bitI a i := by
  rw [bit_int]
  unfold bitI Adr.bit
  rw [if_pos h, BitVec.getMsbD, decide_eq_true h, Bool.true_and]
theorem bit_lo (a : Adr) (i : Nat) (h : ¬ i < 64) (h2 : i < 128) : ((a.lo >>> (127 - i)) &&& 1#64).toInt = bitI a i := by
  rw [bit_int]
  unfold bitI Adr.bit
  rw [if_neg h, BitVec.getMsbD, decide_eq_true (show i - 64 < 64 by omega), Bool.true_and, show 64 - 1 - (i - 64) = 127 - i by omega]
theorem rBit_spec (a : Adr) (i : Nat) (w : World) : Ret Try.prog 71 #[a.val, .int .i64 i] w fun v w' => v = .int .i64 (bitI a i) ∧ Ext No w w' := by
  refine calls_ev (args := [_, _]) mixed Try.func71 ok_71 rfl ?_
  refine bx (cs := _) rfl ?_
  intro w1 h1
  have ha : Blk w1.heap w.heap.size a.cells 33 := h1.blk
  refine TestK.mk (fun h => ?_) (fun h => ?_)
  · skip
    exact absurd h (by omega)
  · skip
    refine TestK.mk (fun h' => ?_) (fun h' => ?_)
    · skip
      exact ⟨by rw [bitI, Adr.bit_high _ (by omega)]; rfl, h1.ext No⟩
    · skip
      refine TestK.mk (fun h'' => ?_) (fun h'' => ?_)
      · skip
        refine fa ?_
        refine ld1 (ha.cell 0) ?_
        refine sub64 (by omega) (by omega) ?_
        refine toU ?_
        refine shrU (63 - i) rfl (sub_nat 63 i (by omega) (by omega)) ?_
        refine andU rfl (b := 1#64) (by decide) ?_
        refine toI rfl ?_
        exact ⟨by rw [← bit_hi a i (by omega)]; rfl, h1.ext No⟩
      · skip
        refine fa ?_
        refine ld1 (ha.cell 1) ?_
        refine sub64 (by omega) (by omega) ?_
        refine toU ?_
        refine shrU (127 - i) rfl (sub_nat 127 i (by omega) (by omega)) ?_
        refine andU rfl (b := 1#64) (by decide) ?_
        refine toI rfl ?_
        exact ⟨by rw [← bit_lo a i (by omega) (by omega)]; rfl, h1.ext No⟩
theorem aBit_spec (a : Adr) (i : Nat) (w : World) : Ret Try.prog 148 #[a.val, .int .i64 i] w fun v w' => v = .int .i64 (bitI a i) ∧ Ext No w w' := by
  refine calls_ev (args := [_, _]) mixed Try.func148 ok_148 rfl ?_
  refine bx (cs := _) rfl ?_
  intro w1 h1
  have ha : Blk w1.heap w.heap.size a.cells 33 := h1.blk
  refine TestK.mk (fun h => ?_) (fun h => ?_)
  · skip
    exact absurd h (by omega)
  · skip
    refine TestK.mk (fun h' => ?_) (fun h' => ?_)
    · skip
      exact ⟨by rw [bitI, Adr.bit_high _ (by omega)]; rfl, h1.ext No⟩
    · skip
      refine TestK.mk (fun h'' => ?_) (fun h'' => ?_)
      · skip
        refine fa ?_
        refine ld1 (ha.cell 0) ?_
        refine sub64 (by omega) (by omega) ?_
        refine shrU (63 - i) rfl (by omega) ?_
        refine andU rfl (b := 1#64) (by decide) ?_
        refine toI rfl ?_
        exact ⟨by rw [← bit_hi a i (by omega)]; rfl, h1.ext No⟩
      · skip
        refine fa ?_
        refine ld1 (ha.cell 1) ?_
        refine sub64 (by omega) (by omega) ?_
        refine shrU (127 - i) rfl (by omega) ?_
        refine andU rfl (b := 1#64) (by decide) ?_
        refine toI rfl ?_
        exact ⟨by rw [← bit_lo a i (by omega) (by omega)]; rfl, h1.ext No⟩
theorem rWith_spec (a : Adr) (i : Nat) (w : World) (hi : i < 128) : Ret Try.prog 72 #[a.val, .int .i64 i] w fun v w' => v = (withA a i).val ∧ Ext No w w' := by
  refine calls_ev (args := [_, _]) mixed Try.func72 ok_72 rfl ?_
  refine bx (cs := _) rfl ?_
  intro w1 h1
  refine al (cs := _) rfl ?_
  intro w2 h2
  have ha : Blk w2.heap w.heap.size a.cells 33 := (h2.ext No).blk h1.blk id
  have hz : Blk w2.heap w1.heap.size [.int .u64 0, .int .u64 0] 33 := h2.blk
  have e2 : Ext No w w2 := (h1.ext No).trans (h2.ext No)
  have s1 := h1.size
  refine TestK.mk (fun h => ?_) (fun h => ?_)
  · skip
    refine fa ?_
    refine ld1 (ha.cell 0) ?_
    refine sub64 (by omega) (by omega) ?_
    refine toU ?_
    refine shlU (63 - i) (a := 1#64) (by decide) (sub_nat 63 i (by omega) (by omega)) ?_
    refine orU rfl rfl ?_
    refine fa ?_
    refine stN (vs := _) rfl rfl rfl (ha) (by simp [Adr.cells]) ?_
    intro w3 h3
    have hw : (withA a i) = ⟨a.hi ||| 1#64 <<< (63 - i), a.lo⟩ := by unfold withA; rw [if_pos (by omega)]
    have hb3 : Blk w3.heap w.heap.size (withA a i).cells 33 := by rw [hw]; exact h3.blk
    have e3 : Ext (· = w.heap.size) w2 w3 := h3.ext fun _ => rfl
    refine ldN (cs := (withA a i).cells) (rfl) (hb3.at_) ?_
    refine stN (vs := (withA a i).cells) rfl rfl rfl (e3.blk hz (by omega)) (Nat.le_refl 2) ?_
    intro w4 h4
    have hb4 : Blk w4.heap w1.heap.size (withA a i).cells 33 := h4.blk
    refine ldN (cs := (withA a i).cells) rfl hb4.at_ ?_
    exact ⟨rfl, (e2.andThen e3 fun k hk e ↦ by omega).andThen (h4.ext (S := (· = w1.heap.size)) fun _ ↦ rfl) fun k hk e ↦ by omega⟩
  · skip
    refine fa ?_
    refine ld1 (ha.cell 1) ?_
    refine sub64 (by omega) (by omega) ?_
    refine toU ?_
    refine shlU (127 - i) (a := 1#64) (by decide) (sub_nat 127 i (by omega) (by omega)) ?_
    refine orU rfl rfl ?_
    refine fa ?_
    refine stN (vs := _) rfl rfl rfl (ha) (by simp [Adr.cells]) ?_
    intro w3 h3
    have hw : (withA a i) = ⟨a.hi, a.lo ||| 1#64 <<< (127 - i)⟩ := by unfold withA; rw [if_neg (by omega)]
    have hb3 : Blk w3.heap w.heap.size (withA a i).cells 33 := by rw [hw]; exact h3.blk
    have e3 : Ext (· = w.heap.size) w2 w3 := h3.ext fun _ => rfl
    refine ldN (cs := (withA a i).cells) (rfl) (hb3.at_) ?_
    refine stN (vs := (withA a i).cells) rfl rfl rfl (e3.blk hz (by omega)) (Nat.le_refl 2) ?_
    intro w4 h4
    have hb4 : Blk w4.heap w1.heap.size (withA a i).cells 33 := h4.blk
    refine ldN (cs := (withA a i).cells) rfl hb4.at_ ?_
    exact ⟨rfl, (e2.andThen e3 fun k hk e ↦ by omega).andThen (h4.ext (S := (· = w1.heap.size)) fun _ ↦ rfl) fun k hk e ↦ by omega⟩

theorem rCut_spec (a : Adr) (n : Int) (w : World) : Ret Try.prog 22 #[a.val, .int .i64 n] w fun v w' => v = (cutA a n).val ∧ Ext No w w' := by
  have hcl : clamp n ≤ 128 := by unfold clamp; omega
  refine calls_ev (args := [_, _]) mixed Try.func22 ok_22 rfl ?_
  refine bx (cs := _) rfl ?_
  intro w1 h1
  refine al (cs := _) rfl ?_
  intro w2 h2
  have s1 := h1.size
  have s2 := h2.size
  refine Ret.mono (Cap_spec n 0 128 w2) ?_
  rintro v3 w3 ⟨rfl, e3⟩
  rw [cap_clamp]
  refine al (cs := _) rfl ?_
  intro w4 h4
  have s3 := e3.size
  have s4 := h4.size
  have e4 : Ext No w2 w4 := e3.trans (h4.ext No)
  have ha : Blk w4.heap w.heap.size a.cells 33 := e4.blk ((h2.ext No).blk h1.blk id) id
  have hz : Blk w4.heap w1.heap.size [.int .u64 0, .int .u64 0] 33 := e4.blk h2.blk id
  have ho : Blk w4.heap w3.heap.size (cutA a (0 : Nat)).cells 33 := by rw [show ((0 : Nat) : Int) = 0 from rfl, cut_zero]; exact h4.blk
  refine loopx 0 [1, 2, 4, 5, 6] (fun k vs w' => ∃ i : Nat, i ≤ clamp n ∧ k = clamp n - i ∧ vs = [.int .i64 (clamp n), .pointer (some ⟨w.heap.size, 0, none⟩), .pointer (some ⟨w1.heap.size, 0, none⟩), .pointer (some ⟨w3.heap.size, 0, none⟩), .int .i64 i] ∧ Blk w'.heap w3.heap.size (cutA a i).cells 33 ∧ Ext (· = w3.heap.size) w4 w') [4, 5] (fun vs w' => vs = [.pointer (some ⟨w1.heap.size, 0, none⟩), .pointer (some ⟨w3.heap.size, 0, none⟩)] ∧ Blk w'.heap w3.heap.size (cutA a n).cells 33 ∧ Ext (· = w3.heap.size) w4 w') (clamp n) _ rfl ⟨0, by omega, rfl, rfl, ho, Ext.refl _ _⟩ ?_ ?_
  · skip
    rintro k vs w5 ⟨i, hi, rfl, rfl, ho5, e5⟩
    refine TestK.mk (fun hlt => ?_) (fun hlt => ?_)
    · skip
      have ha5 := e5.blk ha (by omega)
      refine ldN (cs := a.cells) (rfl) (ha5.at_) ?_
      refine Ret.mono (rBit_spec a i w5) ?_
      rintro v6 w6 ⟨rfl, e6⟩
      have ho6 := e6.blk ho5 id
      have hs := cut_succ a (show i < 128 by omega)
      refine TestK.mk (fun hb => ?_) (fun hb => ?_)
      · skip
        have hb' : a.bit i = true := by
          unfold bitI at hb
          split at hb
          · assumption
          · exact absurd hb (by decide)
        rw [if_pos hb'] at hs
        refine ldN (cs := (cutA a i).cells) (rfl) (ho6.at_) ?_
        refine Ret.mono (rWith_spec (cutA a i) i w6 (by omega)) ?_
        rintro v7 w7 ⟨rfl, e7⟩
        refine stN (vs := (withA (cutA a i) i).cells) rfl rfl rfl (e7.blk ho6 id) (Nat.le_refl 2) ?_
        intro w8 h8
        have ho8 : Blk w8.heap w3.heap.size (withA (cutA a i) i).cells 33 := h8.blk
        refine add64 (by omega) (by omega) ?_
        refine again (clamp n - (i + 1)) (by omega) _ rfl ⟨i + 1, by omega, rfl, rfl, by rw [hs]; exact ho8, ((e5.then_no e6).then_no e7).andThen (h8.ext (S := (· = w3.heap.size)) fun _ => rfl) fun _ _ h => h⟩
      · skip
        have hb' : ¬ a.bit i = true := by
          unfold bitI at hb
          split at hb
          · exact absurd rfl hb
          · assumption
        rw [if_neg hb'] at hs
        refine add64 (by omega) (by omega) ?_
        refine again (clamp n - (i + 1)) (by omega) _ rfl ⟨i + 1, by omega, rfl, rfl, by rw [hs]; exact ho6, e5.then_no e6⟩
    · skip
      have hin : i = clamp n := by omega
      subst hin
      rw [← cut_cap] at ho5
      refine leave _ rfl ⟨rfl, ho5, e5⟩
  · skip
    rintro vs w5 ⟨rfl, ho5, e5⟩
    refine ldN (cs := (cutA a n).cells) (rfl) (ho5.at_) ?_
    refine stN (vs := (cutA a n).cells) rfl rfl rfl (e5.blk hz (by omega)) (Nat.le_refl 2) ?_
    intro w6 h6
    have hb6 : Blk w6.heap w1.heap.size (cutA a n).cells 33 := h6.blk
    refine ldN (cs := (cutA a n).cells) rfl hb6.at_ ?_
    have e0 : Ext No w w4 := ((h1.ext No).trans (h2.ext No)).trans e4
    exact ⟨rfl, (e0.andThen e5 fun k hk e ↦ by omega).andThen (h6.ext (S := (· = w1.heap.size)) fun _ ↦ rfl) fun k hk e ↦ by omega⟩

theorem aCut_spec (a : Adr) (n : Int) (w : World) : Ret Try.prog 96 #[a.val, .int .i64 n] w fun v w' => v = (cutA a n).val ∧ Ext No w w' := by
  have hcl : clamp n ≤ 128 := by unfold clamp; omega
  have hc : max 0 (min n 128) = (clamp n : Int) := by unfold clamp; omega
  refine calls_ev (args := [_, _]) mixed Try.func96 ok_96 rfl ?_
  refine bx (cs := _) rfl ?_
  intro w1 h1
  refine al (cs := _) rfl ?_
  intro w2 h2
  have s1 := h1.size
  have e2 : Ext No w w2 := (h1.ext No).trans (h2.ext No)
  have ha : Blk w2.heap w.heap.size a.cells 33 := (h2.ext No).blk h1.blk id
  have hz : Blk w2.heap w1.heap.size [.int .u64 0, .int .u64 0] 33 := h2.blk
  refine minI ?_
  refine maxI ?_
  rw [hc]
  refine fa ?_
  refine ld1 (ha.cell 0) ?_
  refine minI ?_
  refine shrU (a := 18446744073709551615#64) (min (clamp n) 64) (by decide) (by omega) ?_
  refine andNotU rfl rfl ?_
  refine fa ?_
  refine stN (vs := _) rfl rfl rfl (ha) (by simp [Adr.cells]) ?_
  intro w3 h3
  have hb3 : Blk w3.heap w.heap.size [U (cutA a n).hi, U a.lo] 33 := h3.blk
  refine fa ?_
  refine ld1 (hb3.cell 1) ?_
  refine sub64 (by omega) (by omega) ?_
  refine maxI ?_
  refine shrU (a := 18446744073709551615#64) (clamp n - 64) (by decide) (by omega) ?_
  refine andNotU rfl rfl ?_
  refine fa ?_
  refine stN (vs := _) rfl rfl rfl (hb3) (by simp) ?_
  intro w4 h4
  have hb4 : Blk w4.heap w.heap.size (cutA a n).cells 33 := h4.blk
  have e3 : Ext (· = w.heap.size) w2 w3 := h3.ext fun _ => rfl
  have e4 : Ext (· = w.heap.size) w3 w4 := h4.ext fun _ => rfl
  refine ldN (cs := (cutA a n).cells) (rfl) (hb4.at_) ?_
  refine stN (vs := (cutA a n).cells) rfl rfl rfl (e4.blk (e3.blk hz (by omega)) (by omega)) (Nat.le_refl 2) ?_
  intro w5 h5
  have hb5 : Blk w5.heap w1.heap.size (cutA a n).cells 33 := h5.blk
  refine ldN (cs := (cutA a n).cells) rfl hb5.at_ ?_
  exact ⟨rfl, ((e2.andThen e3 fun k hk e ↦ by omega).andThen e4 fun k hk e ↦ by omega).andThen (h5.ext (S := (· = w1.heap.size)) fun _ ↦ rfl) fun k hk e ↦ by omega⟩

theorem rRight_spec (p : Pfx) (w : World) : Ret Try.prog 19 #[p.val] w fun v w' => v = .bool (rightF p) ∧ Ext No w w' := by
  refine calls_ev (args := [_]) mixed Try.func19 ok_19 rfl ?_
  refine bx (cs := _) rfl ?_
  intro w1 h1
  have hp : Blk w1.heap w.heap.size p.cells 35 := h1.blk
  refine draw [(0, []), (1, []), (2, []), (3, []), (4, []), (5, []), (6, []), (7, []), (8, []), (9, []), (10, []), (11, []), (12, []), (14, []), (15, []), (13, [15]), (16, []), (17, []), (18, [])] (by kernel_rfl) ?_
  refine fa ?_
  refine ld1 (hp.cell 2) ?_
  refine TestK.mk (fun g1 => ?_) (fun g1 => ?_)
  · skip
    refine fa ?_
    refine ld1 (hp.cell 2) ?_
    refine TestK.mk (fun g2 => ?_) (fun g2 => ?_)
    · skip
      refine fa ?_
      refine ldN (cs := p.adr.cells) (rfl) (hp.part ⟨[.int .i64 p.len], rfl⟩) ?_
      refine fa ?_
      refine ld1 (hp.cell 2) ?_
      refine fa ?_
      refine ldN (cs := p.adr.cells) (rfl) (hp.part ⟨[.int .i64 p.len], rfl⟩) ?_
      refine Ret.mono (rCut_spec p.adr p.len _) ?_
      rintro v2 w2 ⟨rfl, e2⟩
      refine And.intro (ldN (cs := p.adr.cells) rfl ((e2.blk hp id).part ⟨[.int .i64 p.len], rfl⟩) rfl) ?_
      refine eqAdr (fun he => ?_) (fun he => ?_)
      · skip
        exact ⟨by rw [rightF, decide_eq_true g1, decide_eq_true g2, decide_eq_true he]; rfl, (h1.ext No).trans e2⟩
      · skip
        exact ⟨by rw [rightF, decide_eq_false he]; simp; rfl, (h1.ext No).trans e2⟩
    · skip
      refine And.intro trivial ?_
      exact ⟨by rw [rightF, decide_eq_false g2]; simp; rfl, h1.ext No⟩
  · skip
    refine And.intro trivial ?_
    exact ⟨by rw [rightF, decide_eq_false g1]; rfl, h1.ext No⟩
theorem aRight_spec (p : Pfx) (w : World) : Ret Try.prog 135 #[p.val] w fun v w' => v = .bool (rightF p) ∧ Ext No w w' := by
  refine calls_ev (args := [_]) mixed Try.func135 ok_135 rfl ?_
  refine bx (cs := _) rfl ?_
  intro w1 h1
  have hp : Blk w1.heap w.heap.size p.cells 35 := h1.blk
  refine draw [(0, []), (1, []), (2, []), (3, []), (4, []), (5, []), (6, []), (7, []), (8, []), (9, []), (10, []), (11, []), (12, []), (14, []), (15, []), (13, [15]), (16, []), (17, []), (18, [])] (by kernel_rfl) ?_
  refine fa ?_
  refine ld1 (hp.cell 2) ?_
  refine TestK.mk (fun g1 => ?_) (fun g1 => ?_)
  · skip
    refine fa ?_
    refine ld1 (hp.cell 2) ?_
    refine TestK.mk (fun g2 => ?_) (fun g2 => ?_)
    · skip
      refine fa ?_
      refine ldN (cs := p.adr.cells) (rfl) (hp.part ⟨[.int .i64 p.len], rfl⟩) ?_
      refine fa ?_
      refine ld1 (hp.cell 2) ?_
      refine fa ?_
      refine ldN (cs := p.adr.cells) (rfl) (hp.part ⟨[.int .i64 p.len], rfl⟩) ?_
      refine Ret.mono (aCut_spec p.adr p.len _) ?_
      rintro v2 w2 ⟨rfl, e2⟩
      refine And.intro (ldN (cs := p.adr.cells) rfl ((e2.blk hp id).part ⟨[.int .i64 p.len], rfl⟩) rfl) ?_
      refine eqAdr (fun he => ?_) (fun he => ?_)
      · skip
        exact ⟨by rw [rightF, decide_eq_true g1, decide_eq_true g2, decide_eq_true he]; rfl, (h1.ext No).trans e2⟩
      · skip
        exact ⟨by rw [rightF, decide_eq_false he]; simp; rfl, (h1.ext No).trans e2⟩
    · skip
      refine And.intro trivial ?_
      exact ⟨by rw [rightF, decide_eq_false g2]; simp; rfl, h1.ext No⟩
  · skip
    refine And.intro trivial ?_
    exact ⟨by rw [rightF, decide_eq_false g1]; rfl, h1.ext No⟩
theorem rHas_spec (p : Pfx) (a : Adr) (w : World) : Ret Try.prog 46 #[p.val, a.val] w fun v w' => v = .bool (hasF p a) ∧ Ext No w w' := by
  refine calls_ev (args := [_, _]) mixed Try.func46 ok_46 rfl ?_
  refine bx (cs := _) rfl ?_
  intro w1 h1
  refine bx (cs := _) rfl ?_
  intro w2 h2
  have hp : Blk w2.heap w.heap.size p.cells 35 := (h2.ext No).blk h1.blk id
  have ha : Blk w2.heap w1.heap.size a.cells 33 := h2.blk
  have e2 : Ext No w w2 := (h1.ext No).trans (h2.ext No)
  refine draw [(0, []), (1, []), (2, []), (3, []), (4, []), (5, []), (7, []), (8, []), (6, [8]), (9, []), (10, []), (11, [])] (by kernel_rfl) ?_
  refine ldN (cs := p.cells) (rfl) (hp.at_) ?_
  refine Ret.mono (rRight_spec p _) ?_
  rintro v3 w3 ⟨rfl, e3⟩
  have hp3 := e3.blk hp id
  refine gdB (fun hr => ?_) (fun hr => ?_)
  · skip
    refine ldN (cs := a.cells) (rfl) ((e3.blk ha id).at_) ?_
    refine fa ?_
    refine ld1 (hp3.cell 2) ?_
    refine fa ?_
    refine ldN (cs := p.adr.cells) (rfl) (hp3.part ⟨[.int .i64 p.len], rfl⟩) ?_
    refine Ret.mono (rCut_spec a p.len _) ?_
    rintro v4 w4 ⟨rfl, e4⟩
    refine And.intro (ldN (cs := p.adr.cells) rfl ((e4.blk hp3 id).part ⟨[.int .i64 p.len], rfl⟩) rfl) ?_
    refine eqAdr (fun he => ?_) (fun he => ?_)
    · skip
      exact ⟨by rw [hasF, hr, decide_eq_true he]; rfl, (e2.trans e3).trans e4⟩
    · skip
      exact ⟨by rw [hasF, decide_eq_false he]; simp; rfl, (e2.trans e3).trans e4⟩
  · skip
    refine And.intro trivial ?_
    exact ⟨by rw [hasF, hr]; rfl, e2.trans e3⟩

theorem tWith_spec (a : Adr) (i : Nat) (w : World) (hi : i < 128) : Ret Try.prog 134 #[a.val, .int .i64 i] w fun v w' => v = (withA a i).val ∧ Ext No w w' := by
  refine calls_ev (args := [_, _]) mixed Try.func134 ok_134 rfl ?_
  refine bx (cs := _) rfl ?_
  intro w1 h1
  refine al (cs := _) rfl ?_
  intro w2 h2
  have ha : Blk w2.heap w.heap.size a.cells 33 := (h2.ext No).blk h1.blk id
  have hz : Blk w2.heap w1.heap.size [.int .u64 0, .int .u64 0] 33 := h2.blk
  have e2 : Ext No w w2 := (h1.ext No).trans (h2.ext No)
  have s1 := h1.size
  refine TestK.mk (fun h => ?_) (fun h => ?_)
  · skip
    refine fa ?_
    refine ld1 (ha.cell 0) ?_
    refine sub64 (by omega) (by omega) ?_
    refine shlU (63 - i) (a := 1#64) (by decide) (by omega) ?_
    refine orU rfl rfl ?_
    refine fa ?_
    refine stN (vs := _) rfl rfl rfl (ha) (by simp [Adr.cells]) ?_
    intro w3 h3
    have hw : (withA a i) = ⟨a.hi ||| 1#64 <<< (63 - i), a.lo⟩ := by unfold withA; rw [if_pos (by omega)]
    have hb3 : Blk w3.heap w.heap.size (withA a i).cells 33 := by rw [hw]; exact h3.blk
    have e3 : Ext (· = w.heap.size) w2 w3 := h3.ext fun _ => rfl
    refine ldN (cs := (withA a i).cells) (rfl) (hb3.at_) ?_
    refine stN (vs := (withA a i).cells) rfl rfl rfl (e3.blk hz (by omega)) (Nat.le_refl 2) ?_
    intro w4 h4
    have hb4 : Blk w4.heap w1.heap.size (withA a i).cells 33 := h4.blk
    refine ldN (cs := (withA a i).cells) rfl hb4.at_ ?_
    exact ⟨rfl, (e2.andThen e3 fun k hk e ↦ by omega).andThen (h4.ext (S := (· = w1.heap.size)) fun _ ↦ rfl) fun k hk e ↦ by omega⟩
  · skip
    refine fa ?_
    refine ld1 (ha.cell 1) ?_
    refine sub64 (by omega) (by omega) ?_
    refine shlU (127 - i) (a := 1#64) (by decide) (by omega) ?_
    refine orU rfl rfl ?_
    refine fa ?_
    refine stN (vs := _) rfl rfl rfl (ha) (by simp [Adr.cells]) ?_
    intro w3 h3
    have hw : (withA a i) = ⟨a.hi, a.lo ||| 1#64 <<< (127 - i)⟩ := by unfold withA; rw [if_neg (by omega)]
    have hb3 : Blk w3.heap w.heap.size (withA a i).cells 33 := by rw [hw]; exact h3.blk
    have e3 : Ext (· = w.heap.size) w2 w3 := h3.ext fun _ => rfl
    refine ldN (cs := (withA a i).cells) (rfl) (hb3.at_) ?_
    refine stN (vs := (withA a i).cells) rfl rfl rfl (e3.blk hz (by omega)) (Nat.le_refl 2) ?_
    intro w4 h4
    have hb4 : Blk w4.heap w1.heap.size (withA a i).cells 33 := h4.blk
    refine ldN (cs := (withA a i).cells) rfl hb4.at_ ?_
    exact ⟨rfl, (e2.andThen e3 fun k hk e ↦ by omega).andThen (h4.ext (S := (· = w1.heap.size)) fun _ ↦ rfl) fun k hk e ↦ by omega⟩
theorem bldPfxA {a : Adr} {n : Int} {K : Value → Prop} (hK : K (Pfx.val ⟨a.hi, a.lo, n⟩)) : PureSem Try.prog (Instr.build 35 #[(0, a.val), (1, .int .i64 n)]) K := PureSem.of _ (fun w => by kernel_rfl) hK
end Go.Fl
