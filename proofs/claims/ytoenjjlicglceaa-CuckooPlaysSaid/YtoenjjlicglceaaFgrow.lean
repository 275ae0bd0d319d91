/-
  Chapter 12: the given program's table: it grows, Put whole, New.
-/
import Derived.Test.YtoenjjlicglceaaFput
namespace Go.Fl
open Go.Proofs
set_option maxHeartbeats 400000
set_option maxRecDepth 100000

/-- What Put is to show, with so much fuel. -/
def PutC (f : Nat) : Prop := ∀ (t : Nat) (T : Tab) (F : Nat → Prop) (p : Pfx) (v : Int) (w : World), 65536 ≤ T.n * 2 ^ f → TabAt w t T F → Ok T → T.cont.length < 400000 →
  Ret Try.prog 14 #[.pointer (some ⟨t, 0, none⟩), p.val, .int .i64 v] w fun r w' => r = .tuple #[] ∧ TabAt w' t (putF f T ⟨p, v⟩) (Fresh F w) ∧ Ext F w w'

theorem zero_bks (n : Nat) : (List.replicate n [.bool false, .int .u64 0, .int .u64 0, .int .i64 0, .int .i64 0, .bool false, .int .u64 0, .int .u64 0, .int .i64 0, .int .i64 0, .bool false, .int .u64 0, .int .u64 0, .int .i64 0, .int .i64 0, .bool false, .int .u64 0, .int .u64 0, .int .i64 0, .int .i64 0]).flatten = tcells (emptyBks n) := by
  induction n with
  | zero => rfl
  | succ n ih => rw [List.replicate_succ, List.flatten_cons, ih]; rfl

/-- The table while it is filled anew. -/
theorem fill_ok {f : Nat} {T : Tab} (h : Ok T) (hf : 65536 ≤ T.n * 2 ^ (f + 1)) (i : Nat) (hi : i ≤ T.cont.length) :
    65536 ≤ ((T.cont.take i).foldl (putF f) (grown0 T)).n * 2 ^ f ∧ Ok ((T.cont.take i).foldl (putF f) (grown0 T)) ∧ ((T.cont.take i).foldl (putF f) (grown0 T)).cont.length = i := by
  obtain ⟨g1, g2, g3⟩ := grown0_ok h
  have hn : 65536 ≤ (grown0 T).n * 2 ^ f := by
    rw [g3]
    rcases Nat.lt_or_ge (2 * T.n) 65536 with hl | hl
    · rw [Nat.min_eq_left (by omega)]
      rw [Nat.pow_succ] at hf
      calc 65536 ≤ T.n * (2 ^ f * 2) := hf
        _ = 2 * T.n * 2 ^ f := by rw [Nat.mul_comm (2 ^ f), ← Nat.mul_assoc, Nat.mul_comm T.n]
    · rw [Nat.min_eq_right hl]
      exact Nat.le_mul_of_pos_right _ (Nat.pow_pos (by decide))
  obtain ⟨k1, k2, k3, _⟩ := fold_ok (g := putF f) (Q := fun T => 65536 ≤ T.n * 2 ^ f)
    (fun T r hq ho => by
      obtain ⟨a1, a2, a3⟩ := put_ok f T r hq ho
      exact ⟨Nat.le_trans hq (Nat.mul_le_mul_right _ a3), a1, a2, a3⟩)
    (T.cont.take i) (grown0 T) hn g1 (by
      rw [g2, List.append_nil]
      exact (h.nodup).sublist ((List.take_sublist i T.cont).map _))
  refine ⟨k1, k2, ?_⟩
  rw [k3.length_eq, g2, List.append_nil, List.length_take, Nat.min_eq_left hi]

theorem grow_spec (f : Nat) (hP : PutC f) (t : Nat) (T : Tab) (F : Nat → Prop) (w : World) (hf : 65536 ≤ T.n * 2 ^ (f + 1)) (h : TabAt w t T F) (hok : Ok T) (hn : T.cont.length ≤ 400000) :
    Ret Try.prog 60 #[.pointer (some ⟨t, 0, none⟩)] w fun r w' => r = .tuple #[] ∧ TabAt w' t (T.cont.foldl (putF f) (grown0 T)) (Fresh F w) ∧ Ext F w w' := by
  have h0 := h
  obtain ⟨b, sv, ht, hb, hv, n1, n2, n3, f1, f2, f3⟩ := h
  have lt := ht.lt
  have hn2 := hok.b.n2
  refine calls_ev (args := [_]) mixed Try.func60 ok_60 rfl ?_
  refine Ret.mono (keys_spec t T F w h0 hok.b.four hok.b.n2 (by omega)) ?_
  rintro v1 w1 ⟨hown1, e1⟩
  obtain ⟨a1, c1, rfl, _⟩ := own_SlR hown1
  have ht1 := e1.blk ht id
  refine fa ?_
  refine ld1 (ht1.cell 0) ?_
  refine Ret.mono (mix_spec _ _) ?_
  rintro v2 w2 ⟨rfl, e2⟩
  refine fa ?_
  refine stN (vs := _) rfl rfl rfl (e2.blk ht1 id) (by simp) ?_
  intro w3 h3
  refine fa ?_
  refine stN (vs := _) rfl rfl rfl (h3.blk) (Nat.le_refl 3) ?_
  intro w4 h4
  have ht4 : Blk w4.heap t [U (mix T.seed), .slice (some ⟨b, 0, none⟩) T.n T.n, .slice none 0 0] 90 := h4.blk
  refine fa ?_
  refine ld1 (ht4.cell 1) ?_
  refine lenS ?_
  refine mul64 (by omega) (by omega) ?_
  refine minI ?_
  refine mk (min (2 * T.n) 65536) (by omega) rfl (by omega) (by decide) ?_
  intro w5 h5
  have hb5 : Blk w5.heap w4.heap.size (tcells (emptyBks (min (2 * T.n) 65536))) 98 := by rw [← zero_bks]; exact h5.blk
  have e3 : Ext (· = t) w2 w3 := h3.ext fun _ => rfl
  have e4 : Ext (· = t) w3 w4 := h4.ext fun _ => rfl
  have e5 : Ext No w4 w5 := h5.ext No
  refine fa ?_
  refine stN (vs := _) rfl rfl rfl (e5.blk ht4 id) (by simp) ?_
  intro w6 h6
  have e6 : Ext (· = t) w5 w6 := h6.ext fun _ => rfl
  have ht6 : Blk w6.heap t [U (mix T.seed), .slice (some ⟨w4.heap.size, 0, none⟩) (min (2 * T.n) 65536) (min (2 * T.n) 65536), .slice none 0 0] 90 := h6.blk
  have s1 := e1.size
  have s2 := e2.size
  have s3 := e3.size
  have s4 := e4.size
  have s5 : w5.heap.size = w4.heap.size + 1 := h5.size
  have s6 := e6.size
  have e12 : Ext (· = t) w1 w6 := ((((e2.of_no).andThen e3 fun _ _ h => h).andThen e4 fun _ _ h => h).then_no e5).andThen e6 fun _ _ h => h
  have ew6 : Ext (· = t) w w6 := e1.of_no.andThen e12 fun _ _ h => h
  have hT6 : TabAt w6 t (grown0 T) (fun k => k = t ∨ w1.heap.size ≤ k) := by
    refine ⟨w4.heap.size, .slice none 0 0, ?_, e6.blk hb5 (by omega), World.ownsRow_nil _ _ _ _, by omega, by simp [Value.ownBlock], by simp [Value.ownBlock], .inl rfl, .inr (by omega), fun k hk => by cases hk⟩
    have hl : (grown0 T).n = min (2 * T.n) 65536 := List.length_replicate
    rw [hl]; exact ht6
  have hrow6 : w6.ownsRow w.heap.size 45 4 (.slice a1 T.cont.length c1) T.cont.length (T.cont.flatMap Rt.cells) := hown1.ext e12 fun k hk e => by have := (hown1.lt k hk).1; omega
  refine lenS ?_
  refine loop [0, 29, 30, 31] (fun k vs w' => ∃ i : Nat, i ≤ T.cont.length ∧ k = T.cont.length - i ∧ vs = [.pointer (some ⟨t, 0, none⟩), .slice a1 T.cont.length c1, .int .i64 T.cont.length, .int .i64 i] ∧
    TabAt w' t ((T.cont.take i).foldl (putF f) (grown0 T)) (fun k => k = t ∨ w1.heap.size ≤ k) ∧ w'.ownsRow w.heap.size 45 4 (.slice a1 T.cont.length c1) T.cont.length (T.cont.flatMap Rt.cells) ∧ w1.heap.size ≤ w'.heap.size ∧ Ext (· = t) w w') T.cont.length _ rfl
    ⟨0, by omega, by omega, rfl, hT6, hrow6, by omega, ew6⟩ ?_
  rintro k vs w7 ⟨i, hi, rfl, rfl, hT7, hrow7, s7, e7⟩
  refine TestK.mk (fun hlt => ?_) (fun hlt => ?_)
  · skip
    have hi' : i < T.cont.length := by omega
    obtain ⟨q1, q2, q3⟩ := fill_ok hok hf i hi
    rcases own_cases hrow7 with ⟨_, h2, _⟩ | ⟨g, cap, ys, h2, hbg, hg, _⟩
    · exact absurd h2 (by omega)
    cases h2
    have hgl := (hown1.lt g rfl).2
    refine iaS (i) (rfl) (by omega) ?_
    refine ldN (cs := T.cont[i].cells) (rfl) (hg.at_.sub (by rw [List.drop_append_of_le_length (by rw [rcells_length]; omega)]; exact (rcells_part T.cont i hi').trans (List.prefix_append _ _))) ?_
    refine al (cs := _) rfl ?_
    intro w8 h8
    refine stN (vs := T.cont[i].cells) rfl rfl rfl (h8.blk) (Nat.le_refl _) ?_
    intro w9 h9
    have hr9 : Blk w9.heap w7.heap.size T.cont[i].cells 45 := h9.blk
    have e9 : Ext (· = w7.heap.size) w7 w9 := (h8.ext _).andThen (h9.ext (S := (· = w7.heap.size)) fun _ => rfl) fun _ _ h => h
    have s9 := e9.size
    have l7 := e7.size
    refine fa ?_
    refine ldN (cs := T.cont[i].p.cells) (rfl) (hr9.part ⟨[.int .i64 T.cont[i].hop], rfl⟩) ?_
    refine fa ?_
    refine ld1 (hr9.cell 3) ?_
    have hT9 := hT7.ext e9 fun k hk _ e => by omega
    refine Ret.mono (hP t ((T.cont.take i).foldl (putF f) (grown0 T)) (fun k ↦ k = t ∨ w1.heap.size ≤ k) T.cont[i].p T.cont[i].hop w9 q1 hT9 q2 (by omega)) ?_
    rintro v10 w10 ⟨rfl, hT10, e10⟩
    have s10 := e10.size
    have hts : (T.cont.take (i + 1)).foldl (putF f) (grown0 T) = putF f ((T.cont.take i).foldl (putF f) (grown0 T)) T.cont[i] := by
      rw [List.take_succ_eq_append_getElem hi', List.foldl_append]; rfl
    refine add64 (by omega) (by omega) ?_
    refine again (T.cont.length - (i + 1)) (by omega) _ rfl ⟨i + 1, by omega, rfl, rfl, ?_, ?_, by omega, ?_⟩
    · rw [hts]; exact hT10.mono fun k hk => hk.elim id fun h => .inr (by omega)
    · exact (hrow7.ext e9 fun k hk e => by (obtain rfl : g = k := by cases hk; rfl); omega).ext e10 fun k hk e => by (obtain rfl : g = k := by cases hk; rfl); omega
    · exact (e7.andThen e9 fun k hk e => by omega).andThen e10 fun k hk h => h.elim id fun h => by omega
  · skip
    have hti : T.cont.take i = T.cont := List.take_of_length_le (by omega)
    rw [hti] at hT7
    exact ⟨rfl, hT7.mono fun k hk ↦ hk.elim (fun e ↦ .inl (by rw [e]; exact f1)) fun h ↦ .inr (by omega), e7.weaken fun k _ e ↦ by rw [e]; exact f1⟩

theorem Put_spec : ∀ f : Nat, PutC f
  | 0 => fun t T F p v w hf h hok hn => by
    have h2 := hok.b.n2
    have hx := putStep_ok hok ⟨p, v⟩
    refine Ret.mono (Put_walk t T F p v w id h hok hn fun T' F' w' _ _ e hl => by omega) fun r w' h => ?_
    obtain ⟨k1, k2, k3⟩ := h
    refine ⟨k1, ?_, k3⟩
    rw [putF]
    simpa using k2
  | f + 1 => fun t T F p v w hf h hok hn => by
    exact Put_walk t T F p v w (fun T' => T'.cont.foldl (putF f) (grown0 T')) h hok hn fun T' F' w' hT' hok' e hl hn' => grow_spec f (Put_spec f) t T' F' w' (by rw [e]; exact hf) hT' hok' (by omega)
end Go.Fl
