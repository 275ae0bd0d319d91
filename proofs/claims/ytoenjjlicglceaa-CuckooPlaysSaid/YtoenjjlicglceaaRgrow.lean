/-
  Chapter 12: the document's table grows; Put whole, New, Size, All, Get, Delete.
-/
import Derived.Test.YtoenjjlicglceaaRput
import Derived.Test.YtoenjjlicglceaaLrep
namespace Go.Fl
open Go.Proofs
set_option maxHeartbeats 4000000
set_option maxRecDepth 100000

def RPutC (f : Nat) : Prop := ∀ (t : Nat) (T : Tab) (F : Nat → Prop) (p : Pfx) (v : Int) (w : World), 65536 ≤ T.n * 2 ^ f → RTabAt w t T F → Ok T → T.cont.length < 400000 →
  Ret Try.prog 32 #[.pointer (some ⟨t, 0, none⟩), p.val, .int .i64 v] w fun r w' => r = .tuple #[] ∧ RTabAt w' t (putF f T ⟨p, v⟩) (Fresh F w) ∧ Ext F w w'
theorem zero_rbks (n : Nat) : (List.replicate n [.int .u64 0, .int .u64 0, .int .i64 0, .int .i64 0, .int .u64 0, .int .u64 0, .int .i64 0, .int .i64 0, .int .u64 0, .int .u64 0, .int .i64 0, .int .i64 0, .int .u64 0, .int .u64 0, .int .i64 0, .int .i64 0, .bool false, .bool false, .bool false, .bool false]).flatten = rtcells (emptyBks n) := by
  induction n with
  | zero => rfl
  | succ n ih => rw [List.replicate_succ, List.flatten_cons, ih]; rfl

theorem rgrow_spec (f : Nat) (hP : RPutC f) (t : Nat) (T : Tab) (F : Nat → Prop) (w : World) (hf : 65536 ≤ T.n * 2 ^ (f + 1)) (h : RTabAt w t T F) (hok : Ok T) (hn : T.cont.length ≤ 400000) :
    Ret Try.prog 82 #[.pointer (some ⟨t, 0, none⟩)] w fun r w' => r = .tuple #[] ∧ RTabAt w' t (T.cont.foldl (putF f) (grown0 T)) (Fresh F w) ∧ Ext F w w' := by
  have h0 := h
  obtain ⟨b, sv, ht, hb, hv, n1, n2, n3, f1, f2, f3⟩ := h
  have lt := ht.lt
  have hn2 := hok.b.n2
  have hn1 := hok.b.n1
  have h4 := hok.b.four
  have hcl : T.cont.length = (bcont T.bks).length + T.stash.length := List.length_append
  refine calls_ev (args := [_]) mixed Try.func82 ok_82 rfl ?_
  refine loop [0, 2, 3] (fun k vs w' => ∃ (i : Nat) (v : Value), i ≤ T.n ∧ k = T.n - i ∧ vs = [.pointer (some ⟨t, 0, none⟩), v, .int .i64 i] ∧ OwnR w.heap.size w' v (bcont (T.bks.take i)) ∧ Ext No w w') T.n _ rfl ⟨0, _, by omega, rfl, rfl, OwnR.nil _ _, Ext.refl _ _⟩ ?_
  rintro k vs w1 ⟨i, v, hi, rfl, rfl, ho1, e1⟩
  have s1 := e1.size
  refine fa ?_
  refine ld1 ((e1.blk ht id).cell 1) ?_
  refine lenS ?_
  refine TestK.mk (fun hlt => ?_) (fun hlt => ?_)
  · skip
    have hi' : i < T.bks.length := show i < T.n by omega
    have hle := bcont_le T.bks (i + 1)
    rw [bcont_take _ _ hi', List.length_append] at hle
    refine fa ?_
    refine ld1 ((e1.blk ht id).cell 1) ?_
    refine iaS i rfl hi' ?_
    refine Ret.mono (rbAllAt h4 hi' (e1.blk hb id)) ?_
    rintro x w2 ⟨hx, e2⟩
    refine apG rlen rone (OwnR.no ho1 e2) (OwnR.is hx) (by omega) (by decide) (Nat.le_trans s1 e2.size) ?_
    intro v3 w3 h3 f3' e3
    refine add64 (by omega) (by omega) ?_
    refine again (T.n - (i + 1)) (by omega) _ rfl ⟨i + 1, v3, by omega, rfl, rfl, by rw [bcont_take _ _ hi']; exact h3, (e1.trans e2).andThen e3 fun k hk e => by have := (World.ownsRow.lt ho1 k e).1; omega⟩
  · skip
    have hT : T.bks.take i = T.bks := List.take_of_length_le (show T.n ≤ i by omega)
    rw [hT] at ho1
    refine fa ?_
    refine ld1 ((e1.blk ht id).cell 2) ?_
    refine apG rlen rone ho1 (OwnR.is (OwnR.no hv e1)) (by omega) (by decide) s1 ?_
    intro v2 w2 h2 f2' e2
    have e12 : Ext No w w2 := e1.andThen e2 fun k hk e => by have := (World.ownsRow.lt ho1 k e).1; omega
    have h2' : OwnR w.heap.size w2 v2 T.cont := h2
    have s2 := e12.size
    refine Exists.elim (own_slice h2') fun a2 q => ?_
    refine Exists.elim q fun c2 q => ?_
    subst q
    have hg2 := h2'.is
    have ht2 := e12.blk ht id
    refine fa ?_
    refine ld1 (ht2.cell 1) ?_
    refine lenS ?_
    refine mul64 (by omega) (by omega) ?_
    refine Ret.mono (Cap_spec (2 * (T.n : Int)) 1 65536 w2) ?_
    rintro v3 w3 ⟨hv3, e3⟩
    have hcap : capF (2 * (T.n : Int)) 1 65536 = ((min (2 * T.n) 65536 : Nat) : Int) := by unfold capF; split <;> (try split) <;> omega
    rw [hcap] at hv3
    subst hv3
    have ht3 := e3.blk ht2 id
    refine mk (min (2 * T.n) 65536) rfl rfl (by omega) (by decide) ?_
    intro w4 h4'
    have hb4 : Blk w4.heap w3.heap.size (rtcells (emptyBks (min (2 * T.n) 65536))) 121 := by rw [← zero_rbks]; exact h4'.blk
    have s3 := e3.size
    have s4 : w4.heap.size = w3.heap.size + 1 := h4'.size
    have e4 : Ext No w3 w4 := h4'.ext No
    have ht4 := e4.blk ht3 id
    refine fa ?_
    refine stN (vs := _) rfl rfl rfl (ht4) (by simp) ?_
    intro w5 h5
    have ht5 : Blk w5.heap t [U T.seed, .slice (some ⟨w3.heap.size, 0, none⟩) (min (2 * T.n) 65536) (min (2 * T.n) 65536), sv] 116 := h5.blk
    have e5 : Ext (· = t) w4 w5 := h5.ext fun _ => rfl
    refine fa ?_
    refine ld1 (ht5.cell 0) ?_
    refine Ret.mono (rmix_spec _ _) ?_
    rintro v6 w6 ⟨rfl, e6⟩
    have ht6 := e6.blk ht5 id
    refine fa ?_
    refine stN (vs := _) rfl rfl rfl (ht6) (by simp) ?_
    intro w7 h7
    have e7 : Ext (· = t) w6 w7 := h7.ext fun _ => rfl
    refine fa ?_
    refine stN (vs := _) rfl rfl rfl (h7.blk) (Nat.le_refl 3) ?_
    intro w8 h8
    have e8 : Ext (· = t) w7 w8 := h8.ext fun _ => rfl
    have ht8 : Blk w8.heap t [U (mix T.seed), .slice (some ⟨w3.heap.size, 0, none⟩) (min (2 * T.n) 65536) (min (2 * T.n) 65536), .slice none 0 0] 116 := h8.blk
    have s5 := e5.size
    have s6 := e6.size
    have s7 := e7.size
    have s8 := e8.size
    have e48 : Ext (· = t) w4 w8 := ((e5.then_no e6).andThen e7 fun _ _ h => h).andThen e8 fun _ _ h => h
    have e28 : Ext (· = t) w2 w8 := ((e3.trans e4).of_no).andThen e48 fun _ _ h => h
    have ew8 : Ext (· = t) w w8 := e12.of_no.andThen e28 fun _ _ h => h
    have hT8 : RTabAt w8 t (grown0 T) (fun k => k = t ∨ w2.heap.size ≤ k) := by
      refine ⟨w3.heap.size, .slice none 0 0, ?_, e48.blk hb4 (by omega), OwnR.nil _ _, by omega, by simp [Value.ownBlock], by simp [Value.ownBlock], .inl rfl, .inr (by omega), fun k hk => by cases hk⟩
      have hl : (grown0 T).n = min (2 * T.n) 65536 := List.length_replicate
      rw [hl]; exact ht8
    have hrow8 : OwnR w.heap.size w8 (.slice a2 T.cont.length c2) T.cont := World.ownsRow.ext h2' e28 fun k hk e => by have := (World.ownsRow.lt h2' k hk).1; omega
    have hown := fun k hk => (World.ownsRow.lt h2' k hk)
    refine loop [0, 2, 4] (fun k vs w' => ∃ i : Nat, i ≤ T.cont.length ∧ k = T.cont.length - i ∧ vs = [.pointer (some ⟨t, 0, none⟩), .slice a2 T.cont.length c2, .int .i64 i] ∧
      RTabAt w' t ((T.cont.take i).foldl (putF f) (grown0 T)) (fun k => k = t ∨ w2.heap.size ≤ k) ∧ OwnR w.heap.size w' (.slice a2 T.cont.length c2) T.cont ∧ w2.heap.size ≤ w'.heap.size ∧ Ext (· = t) w w') T.cont.length _ rfl
      ⟨0, by omega, by omega, rfl, hT8, hrow8, by omega, ew8⟩ ?_
    rintro k vs w9 ⟨i, hi, rfl, rfl, hT9, hrow9, s9, e9⟩
    refine lenS ?_
    refine TestK.mk (fun hlt2 => ?_) (fun hlt2 => ?_)
    · skip
      have hi' : i < T.cont.length := by omega
      have hfo := fill_ok hok hf i hi
      refine Exists.elim (OwnR.is hrow9) fun ad q => ?_
      refine Exists.elim q fun c q => ?_
      have hq := q.1
      cases hq
      have hsl := q.2.2
      refine iaG rlen hsl i rfl hi' rfl ?_
      intro b1 o1 hat1
      refine fa ?_
      refine ldN (cs := T.cont[i].p.cells) (rfl) (rp_at hat1) ?_
      refine iaG rlen hsl i rfl hi' rfl ?_
      intro b2 o2 hat2
      refine fa ?_
      refine ld1 (rh_at hat2) ?_
      refine Ret.mono (hP t ((T.cont.take i).foldl (putF f) (grown0 T)) (fun k ↦ k = t ∨ w2.heap.size ≤ k) T.cont[i].p T.cont[i].hop w9.drew hfo.1 (hT9.ext (Quiet.drew w9).ext fun _ _ _ ↦ id) hfo.2.1 (by rw [hfo.2.2]; omega)) ?_
      rintro v10 w10 ⟨rfl, hT10, e10⟩
      have s10 : w9.heap.size ≤ w10.heap.size := e10.size
      have l9 := e9.size
      have e10' : Ext (fun k => k = t ∨ w2.heap.size ≤ k) w9 w10 := ((Quiet.drew w9).ext).of_no.andThen e10 fun _ _ h => h
      have hts : (T.cont.take (i + 1)).foldl (putF f) (grown0 T) = putF f ((T.cont.take i).foldl (putF f) (grown0 T)) T.cont[i] := by
        rw [List.take_succ_eq_append_getElem hi', List.foldl_append]; rfl
      refine add64 (by omega) (by omega) ?_
      refine again (T.cont.length - (i + 1)) (by omega) _ rfl ⟨i + 1, by omega, rfl, rfl, ?_, ?_, by omega, ?_⟩
      · rw [hts]; exact hT10.mono fun k hk => hk.elim id fun h => .inr (by have h' : w9.heap.size ≤ k := h; omega)
      · exact World.ownsRow.ext hrow9 e10' fun k hk e => by have := hown k hk; omega
      · exact e9.andThen e10' fun k hk h => h.elim id fun h => by omega
    · skip
      have hti : T.cont.take i = T.cont := List.take_of_length_le (by omega)
      rw [hti] at hT9
      exact ⟨rfl, hT9.mono fun k hk ↦ hk.elim (fun e ↦ .inl (by rw [e]; exact f1)) fun h ↦ .inr (by omega), e9.weaken fun k _ e ↦ by rw [e]; exact f1⟩

theorem rPut_spec : ∀ f : Nat, RPutC f
  | 0 => fun t T F p v w hf h hok hn => by
    have h2 := hok.b.n2
    have hx := putStep_ok hok ⟨p, v⟩
    refine Ret.mono (rPut_walk t T F p v w id h hok hn fun T' F' w' _ _ e hl => by omega) fun r w' h => ?_
    obtain ⟨k1, k2, k3⟩ := h
    refine ⟨k1, ?_, k3⟩
    rw [putF]
    simpa using k2
  | f + 1 => fun t T F p v w hf h hok hn => by
    exact rPut_walk t T F p v w (fun T' => T'.cont.foldl (putF f) (grown0 T')) h hok hn fun T' F' w' hT' hok' e hl hn' => rgrow_spec f (rPut_spec f) t T' F' w' (by rw [e]; exact hf) hT' hok' (by omega)
end Go.Fl
