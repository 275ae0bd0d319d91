/-
  Chapter 4: the walks of the given program's keys of a prefix, and of the reference's.
-/
import Derived.Test.YtoenjjlicglceaaTspread
import Derived.Test.YtoenjjlicglceaaFaddr
import Derived.Test.YtoenjjlicglceaaFsort
namespace Go.Fl
open Go.Proofs
set_option maxHeartbeats 2000000
set_option maxRecDepth 100000

abbrev IsP (h : Array Obj) (v : Value) (l : List Pfx) : Prop := IsSl Pfx.cells h v l
abbrev OwnP (b : Nat) (w : World) (v : Value) (l : List Pfx) : Prop := w.ownsRow b 35 3 v l.length (l.flatMap Pfx.cells)
theorem OwnP.is {b : Nat} {w : World} {v : Value} {l : List Pfx} (h : OwnP b w v l) : IsP w.heap v l := own_IsSl h
theorem OwnP.nil (b : Nat) (w : World) : OwnP b w (.slice none 0 0) [] := World.ownsRow_nil _ _ _ _
theorem OwnP.no {b : Nat} {w w' : World} {v : Value} {l : List Pfx} (h : OwnP b w v l) (he : Ext No w w') : OwnP b w' v l := h.ext he fun _ _ => id

theorem Len256 (w : World) : Ret Try.prog 109 #[.int .u64 256] w fun v w' => v = .int .i64 9 ∧ w = w' := by
  have h := Any.bits_Len (SlLaysF0.n15.bits (P := Try.prog) (ρ := Try.sortPfx_ren) { Try.sortPfx with }) 256 w (by omega) (by omega)
  refine Ret.of_calls ⟨_, Try.func109, rfl, rfl⟩ ?_
  refine Calls.mono (show Calls Try.prog 109 _ w _ from h) fun e w' he => ?_
  obtain ⟨rfl, rfl⟩ := he
  exact ⟨_, rfl, by rw [show Lib.bitLen (Int.toNat 256) = 9 by decide]; rfl, rfl⟩

theorem shlI {P : Program} {T : TypeId} {x y : Operand} {k : IntKind} {a i : Int} {K : Value → Prop} (n : Nat) (hn : i = n) (hn64 : n ≤ 62) (h1 : -9223372036854775808 ≤ a * 2 ^ n) (h2 : a * 2 ^ n ≤ 9223372036854775807) (hK : K (.int .i64 (a * 2 ^ n))) :
    PureSem P (do eqGuard .shl T x y (.int .i64 a) (.int k i); binOp .shl T (.int .i64 a) (.int k i)) K := by
  subst hn
  refine PureSem.of _ (fun w => ?_) hK
  have e0 : ¬ ((n : Int) < 0) := by omega
  have e : IntKind.i64.wrap (a * 2 ^ (min n 64)) = a * 2 ^ n := by rw [Nat.min_eq_left (by omega), wrap64_in h1 h2]
  simp only [eqGuard, binOp, Op.shift, if_neg e0, IntKind.bits, Int.toNat_natCast, e]; rfl

def countF (p : Pfx) (n : Int) : Nat := if mayKeys p n = true then 2 ^ (n.toNat - p.len.toNat) else 0
theorem pow_le {a b : Nat} (h : a ≤ b) : 2 ^ a ≤ 2 ^ b := Nat.pow_le_pow_right (by decide) h
theorem Count_spec (p : Pfx) (n : Int) (w : World) : Ret Try.prog 106 #[p.val, .int .i64 n] w fun v w' => v = .int .i64 (countF p n) ∧ Ext No w w' := by
  refine calls_ev (args := [_, _]) mixed Try.func106 ok_106 rfl ?_
  refine bx (cs := _) rfl ?_
  intro w1 h1
  have hp1 : Blk w1.heap w.heap.size p.cells 35 := h1.blk
  refine ldN (cs := p.cells) (rfl) (hp1.at_) ?_
  refine Ret.mono (aRight_spec p w1) ?_
  rintro v2 w2 ⟨rfl, e2⟩
  have hp2 := e2.blk hp1 id
  have e2' : Ext No w w2 := (h1.ext No).trans e2
  cases hr : rightF p with
  | false =>
    exact ⟨by rw [countF, mayKeys, hr]; rfl, e2'⟩
  | true =>
    obtain ⟨hl0, hl1, _⟩ := (right_iff p).1 hr
    refine fa ?_
    refine ld1 (hp2.cell 2) ?_
    refine TestK.mk (fun g1 => ?_) (fun g1 => ?_)
    · skip
      exact ⟨by rw [countF, mayKeys, decide_eq_false (show ¬ p.len ≤ n by omega)]; simp; rfl, e2'⟩
    · skip
      refine TestK.mk (fun g2 => ?_) (fun g2 => ?_)
      · skip
        exact ⟨by rw [countF, mayKeys, decide_eq_false (show ¬ n ≤ 128 by omega)]; simp; rfl, e2'⟩
      · skip
        refine fa ?_
        refine ld1 (hp2.cell 2) ?_
        refine sub64 (by omega) (by omega) ?_
        refine Ret.mono (Len256 w2) ?_
        rintro v3 w3 ⟨rfl, rfl⟩
        refine TestK.mk (fun g3 => ?_) (fun g3 => ?_)
        · skip
          exact ⟨by rw [countF, mayKeys, decide_eq_false (show ¬ n - p.len ≤ 8 by omega)]; simp; rfl, e2'⟩
        · skip
          have hm : mayKeys p n = true := by rw [mayKeys, hr, decide_eq_true (show p.len ≤ n by omega), decide_eq_true (show n ≤ 128 by omega), decide_eq_true (show n - p.len ≤ 8 by omega)]; rfl
          have h8 : (2 : Int) ^ (n.toNat - p.len.toNat) ≤ 256 := by
            have := pow_le (show n.toNat - p.len.toNat ≤ 8 by omega)
            have h2 : ((2 ^ (n.toNat - p.len.toNat) : Nat) : Int) ≤ ((2 ^ 8 : Nat) : Int) := Int.ofNat_le.2 this
            simpa using h2
          have h0 : (0 : Int) ≤ (2 : Int) ^ (n.toNat - p.len.toNat) := Int.pow_nonneg (by decide)
          refine shlI (n.toNat - p.len.toNat) (by omega) (by omega) (by omega) (by omega) ?_
          exact ⟨by rw [countF, if_pos hm, Int.one_mul]; simp; rfl, e2'⟩

theorem bldAddr2 {x y : BitVec 64} {K : Value → Prop} (hK : K (Adr.val ⟨x, y⟩)) : PureSem Try.prog (Instr.build 33 #[(0, U x), (1, U y)]) K := PureSem.of _ (fun w => by kernel_rfl) hK
theorem bldAddrH {x : BitVec 64} {K : Value → Prop} (hK : K (Adr.val ⟨x, 0⟩)) : PureSem Try.prog (Instr.build 33 #[(0, U x)]) K := PureSem.of _ (fun w => by kernel_rfl) hK
theorem place_spec (x : BitVec 64) (n : Nat) (w : World) (hn : n ≤ 128) : Ret Try.prog 107 #[U x, .int .i64 n] w fun v w' => v = (placeF x n).val ∧ Ext No w w' := by
  refine calls_ev (args := [_, _]) mixed Try.func107 ok_107 rfl ?_
  refine al (cs := _) rfl ?_
  intro w1 h1
  refine TestK.mk (fun h => ?_) (fun h => ?_)
  · skip
    refine sub64 (by omega) (by omega) ?_
    refine shlU (64 - n) rfl (by omega) ?_
    refine bldAddrH ?_
    refine stN (vs := Adr.cells ⟨x <<< (64 - n), 0⟩) rfl rfl rfl (h1.blk) (Nat.le_refl 2) ?_
    intro w2 h2
    have hb2 : Blk w2.heap w.heap.size (Adr.cells ⟨x <<< (64 - n), 0⟩) 33 := h2.blk
    refine ldN (cs := Adr.cells ⟨x <<< (64 - n), 0⟩) rfl hb2.at_ ?_
    exact ⟨by rw [placeF, if_pos (show n ≤ 64 by omega)]; rfl, (h1.ext No).andThen (h2.ext (S := (· = w.heap.size)) fun _ ↦ rfl) fun k hk e ↦ by omega⟩
  · skip
    refine sub64 (by omega) (by omega) ?_
    refine sub64 (by omega) (by omega) ?_
    refine shrU (64 - (128 - n)) rfl (by omega) ?_
    refine shlU (128 - n) rfl (by omega) ?_
    refine bldAddr2 ?_
    refine stN (vs := Adr.cells ⟨x >>> (64 - (128 - n)), x <<< (128 - n)⟩) rfl rfl rfl (h1.blk) (Nat.le_refl 2) ?_
    intro w2 h2
    have hb2 : Blk w2.heap w.heap.size (Adr.cells ⟨x >>> (64 - (128 - n)), x <<< (128 - n)⟩) 33 := h2.blk
    refine ldN (cs := Adr.cells ⟨x >>> (64 - (128 - n)), x <<< (128 - n)⟩) rfl hb2.at_ ?_
    exact ⟨by rw [placeF, if_neg (show ¬ n ≤ 64 by omega)]; rfl, (h1.ext No).andThen (h2.ext (S := (· = w.heap.size)) fun _ ↦ rfl) fun k hk e ↦ by omega⟩

theorem place_at (x : BitVec 64) (n : Int) (m : Nat) (w : World) (h : n = m) (hn : m ≤ 128) : Ret Try.prog 107 #[U x, .int .i64 n] w fun v w' => v = (placeF x m).val ∧ Ext No w w' := by
  subst h; exact place_spec x m w hn
theorem bsPfx1_run {p : Pfx} (w : World) : (Instr.buildSlice 106 1 #[(0, p.val)]).run Try.prog w = .ok (.slice (some ⟨w.heap.size, 0, none⟩) 1 1) (w.alloc (.cells p.cells.toArray 35)) := by kernel_rfl
theorem bsPfx1 {p : Pfx} {w : World} {K : Value → World → Prop} (hK : ∀ w', New w w' p.cells 35 → K (.slice (some ⟨w.heap.size, 0, none⟩) 1 1) w') : EffSem Try.prog (Instr.buildSlice 106 1 #[(0, p.val)]) w K := bs bsPfx1_run hK

theorem Keys_spec (p : Pfx) (n : Int) (w : World) : Ret Try.prog 65 #[p.val, .int .i64 n] w fun v w' => OwnP w.heap.size w' v (keysF p n) ∧ Ext No w w' := by
  have hcl : countF p n ≤ 256 := by
    unfold countF
    split
    · rename_i h
      simp only [mayKeys, Bool.and_eq_true, decide_eq_true_eq] at h
      exact pow_le (show n.toNat - p.len.toNat ≤ 8 by omega)
    · exact Nat.zero_le _
  refine calls_ev (args := [_, _]) mixed Try.func65 ok_65 rfl ?_
  refine bx (cs := _) rfl ?_
  intro w1 h1
  have hp1 : Blk w1.heap w.heap.size p.cells 35 := h1.blk
  have s1 := h1.size
  refine ldN (cs := p.cells) (rfl) (hp1.at_) ?_
  refine Ret.mono (Count_spec p n w1) ?_
  rintro v2 w2 ⟨rfl, e2⟩
  have s2 := e2.size
  refine loop [1, 2, 5, 10, 11] (fun k vs w' => ∃ (i : Nat) (v : Value), i ≤ countF p n ∧ k = countF p n - i ∧ vs = [.int .i64 n, .pointer (some ⟨w.heap.size, 0, none⟩), v, .int .i64 (countF p n), .int .i64 i] ∧ OwnP w2.heap.size w' v ((List.range i).map (keyF p n.toNat n)) ∧ Ext No w2 w') (countF p n) _ rfl ⟨0, _, by omega, rfl, rfl, OwnP.nil _ _, Ext.refl _ _⟩ ?_
  rintro k vs w3 ⟨i, v, hi, rfl, rfl, ho, e3⟩
  have hp3 := e3.blk (e2.blk hp1 id) id
  have s3 := e3.size
  refine TestK.mk (fun hlt => ?_) (fun hlt => ?_)
  · skip
    have hm : mayKeys p n = true := by
      unfold countF at hlt
      split at hlt
      · assumption
      · exact absurd hlt (by omega)
    have hm2 := hm
    simp only [mayKeys, Bool.and_eq_true, decide_eq_true_eq] at hm2
    obtain ⟨hl0, _, _⟩ := (right_iff p).1 hm2.1.1.1
    refine toU ?_
    refine Ret.mono (place_at (BitVec.ofInt 64 i) n n.toNat w3 (by omega) (by omega)) ?_
    rintro v4 w4 ⟨rfl, e4⟩
    refine al (cs := _) rfl ?_
    intro w5 h5
    refine stN (vs := (placeF (BitVec.ofInt 64 i) n.toNat).cells) rfl rfl rfl (h5.blk) (Nat.le_refl 2) ?_
    intro w6 h6
    have ha6 : Blk w6.heap w4.heap.size (placeF (BitVec.ofInt 64 i) n.toNat).cells 33 := h6.blk
    have s4 := e4.size
    have s5 := h5.size
    have s6 := h6.size
    have e46 : Ext (· = w4.heap.size) w4 w6 := (h5.ext _).andThen (h6.ext (S := (· = w4.heap.size)) fun _ => rfl) fun _ _ h => h
    have e26 : Ext No w2 w6 := (e3.trans e4).andThen e46 fun k hk e => by omega
    have hp6 := e46.blk (e4.blk hp3 id) (by omega)
    refine fa ?_
    refine fa ?_
    refine ld1 (hp6.cell 0) ?_
    refine fa ?_
    refine ld1 (ha6.cell 0) ?_
    refine orU rfl rfl ?_
    refine fa ?_
    refine fa ?_
    refine ld1 (hp6.cell 1) ?_
    refine fa ?_
    refine ld1 (ha6.cell 1) ?_
    refine orU rfl rfl ?_
    refine bldAddr2 ?_
    refine bldPfxA ?_
    refine bsPfx1 ?_
    intro w7 h7
    have ho6 : OwnP w2.heap.size w6 v ((List.range i).map (keyF p n.toNat n)) := (OwnP.no ho e4).ext e46 fun k hk e => by have := own_lt ho hk; omega
    refine apG plen pone (OwnP.no ho6 (h7.ext No)) (isSl_one h7.blk) (by simp; omega) (by decide) (Nat.le_trans e26.size (h7.ext No).size) ?_
    intro v8 w8 h8 f8 e8
    refine add64 (by omega) (by omega) ?_
    refine again (countF p n - (i + 1)) (by omega) _ rfl ⟨i + 1, v8, by omega, rfl, rfl, ?_, (e26.trans (h7.ext No)).andThen e8 fun k hk e => by have := (World.ownsRow.lt ho6 k e).1; omega⟩
    rw [List.range_succ, List.map_append]
    have he : keyF p n.toNat n i = ⟨p.hi ||| (placeF (BitVec.ofInt 64 i) n.toNat).hi, p.lo ||| (placeF (BitVec.ofInt 64 i) n.toNat).lo, n⟩ := by
      unfold keyF keyA orA
      rw [show BitVec.ofInt 64 (i : Int) = BitVec.ofNat 64 i by simp]; rfl
    rw [show List.map (keyF p n.toNat n) [i] = [keyF p n.toNat n i] from rfl, he]
    exact h8
  · skip
    have hk : keysF p n = (List.range i).map (keyF p n.toNat n) := by
      have hic : i = countF p n := by omega
      subst hic
      unfold keysF countF
      by_cases hm : mayKeys p n = true
      · rw [if_pos hm, if_pos hm]; rfl
      · rw [if_neg hm, if_neg hm]; rfl
    exact ⟨by rw [hk]; exact own_mono ho (by omega), ((h1.ext No).trans e2).trans e3⟩

theorem bsPfx2_run {p q : Pfx} (w : World) : (Instr.buildSlice 106 2 #[(0, p.val), (1, q.val)]).run Try.prog w = .ok (.slice (some ⟨w.heap.size, 0, none⟩) 2 2) (w.alloc (.cells (p.cells ++ q.cells).toArray 35)) := by kernel_rfl
theorem bsPfx2 {p q : Pfx} {w : World} {K : Value → World → Prop} (hK : ∀ w', New w w' (p.cells ++ q.cells) 35 → K (.slice (some ⟨w.heap.size, 0, none⟩) 2 2) w') : EffSem Try.prog (Instr.buildSlice 106 2 #[(0, p.val), (1, q.val)]) w K := bs bsPfx2_run hK
theorem isSl_two {w : World} {b E : Nat} {p q : Pfx} (h : Blk w.heap b (p.cells ++ q.cells) E) : IsP w.heap (.slice (some ⟨b, 0, none⟩) 2 2) [p, q] :=
  ⟨_, 2, rfl, Nat.le_refl _, .inr ⟨b, 0, rfl, by simpa using h.at_⟩⟩
def dbl (m : Nat) (n : Int) (k : Pfx) : List Pfx := [k, ⟨(withA k.adr m).hi, (withA k.adr m).lo, n⟩]
theorem dbl_len (m : Nat) (n : Int) (l : List Pfx) : (l.flatMap (dbl m n)).length = 2 * l.length := by
  induction l with
  | nil => rfl
  | cons x l ih => rw [List.flatMap_cons, List.length_append, ih, List.length_cons]; show 2 + _ = _; omega
theorem pa_at {h : Array Obj} {b o : Nat} {p : Pfx} (hat : At h b o p.cells) : At h b (o + 0) p.adr.cells := hat.sub (k := 0) ⟨[.int .i64 p.len], rfl⟩

theorem rKeys_spec (p : Pfx) (n : Int) (w : World) : Ret Try.prog 73 #[p.val, .int .i64 n] w fun v w' => OwnP w.heap.size w' v (keysF p n) ∧ Ext No w w' := by
  refine calls_ev (args := [_, _]) mixed Try.func73 ok_73 rfl ?_
  refine bx (cs := _) rfl ?_
  intro w1 h1
  have hp1 : Blk w1.heap w.heap.size p.cells 35 := h1.blk
  have s1 := h1.size
  refine ldN (cs := p.cells) (rfl) (hp1.at_) ?_
  refine Ret.mono (rRight_spec p w1) ?_
  rintro v2 w2 ⟨rfl, e2⟩
  have hp2 := e2.blk hp1 id
  have e2' : Ext No w w2 := (h1.ext No).trans e2
  have none_ : mayKeys p n = false → OwnP w.heap.size w2 (.slice none 0 0) (keysF p n) := fun h => by
    unfold keysF; rw [if_neg (by rw [h]; simp)]; exact OwnP.nil _ _
  cases hr : rightF p with
  | false =>
    exact ⟨none_ (by rw [mayKeys, hr]; rfl), e2'⟩
  | true =>
    obtain ⟨hl0, hl1, _⟩ := (right_iff p).1 hr
    refine fa ?_
    refine ld1 (hp2.cell 2) ?_
    refine TestK.mk (fun g1 => ?_) (fun g1 => ?_)
    · skip
      exact ⟨none_ (by rw [mayKeys, decide_eq_false (show ¬ p.len ≤ n by omega)]; simp), e2'⟩
    · skip
      refine TestK.mk (fun g2 => ?_) (fun g2 => ?_)
      · skip
        exact ⟨none_ (by rw [mayKeys, decide_eq_false (show ¬ n ≤ 128 by omega)]; simp), e2'⟩
      · skip
        refine fa ?_
        refine ld1 (hp2.cell 2) ?_
        refine sub64 (by omega) (by omega) ?_
        refine TestK.mk (fun g3 => ?_) (fun g3 => ?_)
        · skip
          exact ⟨none_ (by rw [mayKeys, decide_eq_false (show ¬ n - p.len ≤ 8 by omega)]; simp), e2'⟩
        · skip
          have hm : mayKeys p n = true := by rw [mayKeys, hr, decide_eq_true (show p.len ≤ n by omega), decide_eq_true (show n ≤ 128 by omega), decide_eq_true (show n - p.len ≤ 8 by omega)]; rfl
          refine fa ?_
          refine ldN (cs := p.adr.cells) (rfl) (pa_at hp2.at_) ?_
          refine bldPfxA ?_
          refine bsPfx1 ?_
          intro w3 h3
          have s2 := e2.size
          have s3 := h3.size
          have hp3 := (h3.ext No).blk hp2 id
          have ho3 : OwnP w.heap.size w3 (.slice (some ⟨w2.heap.size, 0, none⟩) 1 1) (keysTo p p.len.toNat n) := by
            rw [keys_start p n hl0 hl1]
            exact own_of (ys := []) (by omega) (show Blk w3.heap w2.heap.size _ 35 from h3.blk) (Nat.le_refl 1) (by simp only [maxLen]; omega) rfl rfl
          refine fa ?_
          refine ld1 (hp3.cell 2) ?_
          refine loop [1, 2, 5, 6] (fun k vs w' => ∃ (m : Nat) (v : Value), p.len.toNat ≤ m ∧ m ≤ n.toNat ∧ k = n.toNat - m ∧ vs = [.int .i64 n, .pointer (some ⟨w.heap.size, 0, none⟩), v, .int .i64 m] ∧ OwnP w.heap.size w' v (keysTo p m n) ∧ Ext No w w') (n.toNat - p.len.toNat) _ rfl
            ⟨p.len.toNat, _, Nat.le_refl _, by omega, rfl, by rw [Int.toNat_of_nonneg hl0] <;> rfl, ho3, e2'.trans (h3.ext No)⟩ ?_
          rintro k vs w4 ⟨m, v, hm1, hm2, rfl, rfl, ho4, e4⟩
          refine TestK.mk (fun hlt => ?_) (fun hlt => ?_)
          · skip
            have hkl := keysTo_length p m n (by omega)
            refine loop [1, 2, 5, 6, 7, 8] (fun k vs w' => ∃ (i : Nat) (v' : Value), i ≤ (keysTo p m n).length ∧ k = (keysTo p m n).length - i ∧ vs = [.int .i64 n, .pointer (some ⟨w.heap.size, 0, none⟩), v, .int .i64 m, v', .int .i64 i] ∧ OwnP w4.heap.size w' v' (((keysTo p m n).take i).flatMap (dbl m n)) ∧ Ext No w4 w') (keysTo p m n).length _ rfl
              ⟨0, _, by omega, rfl, rfl, OwnP.nil _ _, Ext.refl _ _⟩ ?_
            rintro k vs w5 ⟨i, v', hi, rfl, rfl, ho5, e5⟩
            obtain ⟨a, c, rfl, hc, hs⟩ := (OwnP.is ho4).no e5
            refine lenS ?_
            refine TestK.mk (fun hlt2 => ?_) (fun hlt2 => ?_)
            · skip
              have hi' : i < (keysTo p m n).length := by omega
              refine draw [(0, []), (1, []), (2, []), (3, []), (4, []), (5, []), (6, []), (7, []), (8, []), (9, []), (10, []), (11, [4]), (12, []), (13, []), (14, []), (15, []), (16, [])] (by kernel_rfl) ?_
              refine iaG plen hs i rfl hi' rfl ?_
              intro b o hat
              refine ldN (cs := (keysTo p m n)[i].cells) (rfl) (hat) ?_
              refine iaG plen hs i rfl hi' rfl ?_
              intro b2 o2 hat2
              refine fa ?_
              refine ldN (cs := (keysTo p m n)[i].adr.cells) (rfl) (pa_at hat2) ?_
              refine Ret.mono (rWith_spec (keysTo p m n)[i].adr m _ (by omega)) ?_
              rintro v6 w6 ⟨rfl, e6⟩
              refine And.intro (ldN (cs := (keysTo p m n)[i].cells) rfl (e6.at_ hat id) rfl) ?_
              refine bldPfxA ?_
              refine bsPfx2 ?_
              intro w7 h7
              have e57 : Ext No w5 w7 := e6.trans (h7.ext No)
              refine apG plen pone (OwnP.no ho5 e57) (isSl_two h7.blk) (by rw [dbl_len, List.length_take]; show _ + 2 ≤ _; omega) (by decide) (Nat.le_trans e5.size e57.size) ?_
              intro v8 w8 h8 f8 e8
              refine add64 (by omega) (by omega) ?_
              refine again ((keysTo p m n).length - (i + 1)) (by omega) _ rfl ⟨i + 1, v8, by omega, rfl, rfl, ?_, (e5.trans e57).andThen e8 fun k hk e => by have := (World.ownsRow.lt ho5 k e).1; omega⟩
              rw [List.take_succ_eq_append_getElem hi', List.flatMap_append]
              rw [show List.flatMap (dbl m n) [(keysTo p m n)[i]] = [(keysTo p m n)[i], ⟨(withA (keysTo p m n)[i].adr m).hi, (withA (keysTo p m n)[i].adr m).lo, n⟩] from rfl]
              exact h8
            · skip
              have hti : (keysTo p m n).take i = keysTo p m n := List.take_of_length_le (by omega)
              rw [hti] at ho5
              refine add64 (by omega) (by omega) ?_
              refine again (n.toNat - (m + 1)) (by omega) _ rfl ⟨m + 1, v', by omega, by omega, rfl, rfl, ?_, e4.trans e5⟩
              rw [keys_double p m n hm1 (by omega) (by omega)]
              exact own_mono ho5 e4.size
          · skip
            have hmn : m = n.toNat := by omega
            exact ⟨by rw [keysF, if_pos hm, ← hmn]; exact ho4, e4⟩
end Go.Fl
