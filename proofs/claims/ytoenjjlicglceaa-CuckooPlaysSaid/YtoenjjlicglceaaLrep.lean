/-
  The law CuckooReplaces: who is put again has the new value, and the table does not grow for it.
-/
import Derived.Test.YtoenjjlicglceaaFnew
import Derived.Test.YtoenjjlicglceaaTget
namespace Go.Fl
open Go.Proofs
set_option maxHeartbeats 4000000
set_option maxRecDepth 100000

theorem bldPfx1 {n : Int} {K : Value → Prop} (hK : K (Pfx.val ⟨0, 0, n⟩)) : PureSem Try.prog (Instr.build 35 #[(1, .int .i64 n)]) K := PureSem.of _ (fun w => by kernel_rfl) hK
theorem bldAddr1 {x : BitVec 64} {K : Value → Prop} (hK : K (.agg #[U x, U 0])) : PureSem Try.prog (Instr.build 33 #[(0, U x)]) K := PureSem.of _ (fun w => by kernel_rfl) hK
theorem bldPfx {x y : BitVec 64} {n : Int} {K : Value → Prop} (hK : K (Pfx.val ⟨x, y, n⟩)) : PureSem Try.prog (Instr.build 35 #[(0, .agg #[U x, U y]), (1, .int .i64 n)]) K := PureSem.of _ (fun w => by kernel_rfl) hK
theorem and1023 {T : TypeId} {x y : Operand} {a : Int} {K : Value → Prop} (hK : K (.int .i64 (a % 1024))) :
    PureSem Try.prog (do eqGuard .and T x y (.int .i64 a) (.int .i64 1023); binOp .and T (.int .i64 a) (.int .i64 1023)) K := by
  refine PureSem.of _ (fun w => ?_) hK
  have h1 : (BitVec.ofInt 64 a &&& BitVec.ofInt 64 1023).toNat = (a % 1024).toNat := by
    rw [BitVec.toNat_and, show (BitVec.ofInt 64 1023).toNat = 2 ^ 10 - 1 from rfl, Nat.and_two_pow_sub_one_eq_mod, BitVec.toNat_ofInt]
    omega
  have e : IntKind.i64.wrap ((BitVec.ofInt 64 a &&& BitVec.ofInt 64 1023).toNat : Int) = a % 1024 := by
    rw [h1, wrap64_in (by omega) (by omega)]; omega
  simp only [eqGuard, binOp, Op.intBits, IntKind.bits]
  exact congrArg (fun z => Result.ok (Value.int .i64 z) w) e

theorem Get_at (t : Nat) (T : Tab) (F : Nat → Prop) (p : Pfx) (w : World) (v : Int) (h : TabAt w t T F) (hok : Ok T) (hn : T.cont.length < 1000000) (hg : getF T p = some v) :
    Ret Try.prog 16 #[.pointer (some ⟨t, 0, none⟩), p.val] w fun r w' =>
      ∃ g, r = .tuple #[.int .i64 v, .bool true, .slice (some ⟨g, 0, none⟩) (getSeen T p).length (getSeen T p).length] ∧ Ext No w w' := by
  have hl : T.cont.length = (bcont T.bks).length + T.stash.length := List.length_append
  refine Ret.mono (Get_spec t T F p w h hok (by omega)) fun r w' h => ?_
  obtain ⟨g, h1, _, _, h4⟩ := h
  rw [hg] at h1
  exact ⟨g, h1, h4⟩

theorem TabAt.old {w : World} {t : Nat} {T : Tab} {F : Nat → Prop} (h : TabAt w t T F) : TabAt w t T (fun k => F k ∧ k < w.heap.size) := by
  obtain ⟨b, v, h1, h2, h3, h4, h5, h6, h7, h8, h9⟩ := h
  exact ⟨b, v, h1, h2, h3, h4, h5, h6, ⟨h7, h1.lt⟩, ⟨h8, h2.lt⟩, fun k hk => ⟨h9 k hk, own_lt h3 hk⟩⟩

theorem seen_len {T : Tab} {p : Pfx} (h : getSeenD T p = true) : (getSeen T p).length = 1 := by
  unfold getSeenD at h
  unfold getSeen
  rw [if_pos h]; rfl
theorem alive12_spec (w : World) : Ret Try.prog 11 #[] w fun r w' => r = .bool true ∧ Ext No w w' := by
  have hok := (empty_ok 1 2 (by decide) (by decide)).1
  have hc : (⟨1, emptyBks 2, []⟩ : Tab).cont = [] := (empty_ok 1 2 (by decide) (by decide)).2.1
  have hn2 : (⟨1, emptyBks 2, []⟩ : Tab).n = 2 := (empty_ok 1 2 (by decide) (by decide)).2.2
  refine calls_ev (args := []) mixed Try.func11 ok_11 rfl ?_
  refine Ret.mono (New_spec 1 2 w) ?_
  rintro v1 w1 ⟨e1, h1⟩
  rcases h1 with ⟨h1, _⟩ | ⟨_, _, t, rfl, hT⟩
  · exact absurd h1 (by decide)
  refine Ret.mono (num12_spec 0 w1) ?_
  rintro v2 w2 ⟨rfl, rfl⟩
  refine TestK.mk (fun h => ?_) (fun h => ?_)
  · skip
    refine eqNil ?_
    refine Ret.mono (Len_spec t ⟨1, emptyBks 2, []⟩ _ w1 hT hok.b.four (by rw [hn2]; decide) (by rw [hc]; decide)) ?_
    rintro v3 w3 ⟨rfl, e3⟩
    refine bldPfx1 ?_
    refine Ret.mono (Put_spec 16 t ⟨1, emptyBks 2, []⟩ _ ⟨0, 0, 3⟩ 8 w3 (fuel16 (by rw [hn2]; decide)) (hT.ext e3 fun _ _ _ ↦ id) hok (by rw [hc]; decide)) ?_
    rintro v4 w4 ⟨rfl, hT4, e4⟩
    have hput := put_ok 16 ⟨1, emptyBks 2, []⟩ ⟨⟨0, 0, 3⟩, 8⟩ (fuel16 (by rw [hn2]; decide)) hok
    have hget : getF (putF 16 ⟨1, emptyBks 2, []⟩ ⟨⟨0, 0, 3⟩, 8⟩) ⟨0, 0, 3⟩ = some 8 := by rw [get_put (fuel16 (by rw [hn2]; decide)) hok, if_pos rfl]
    have hlen : (putF 16 ⟨1, emptyBks 2, []⟩ ⟨⟨0, 0, 3⟩, 8⟩).cont.length = 1 := by
      rw [put_len_new (fuel16 (by rw [hn2]; decide)) hok (get_empty 1 2 (by decide) (by decide) _), hc]; rfl
    have hseen : (getSeen (putF 16 ⟨1, emptyBks 2, []⟩ ⟨⟨0, 0, 3⟩, 8⟩) ⟨0, 0, 3⟩).length = 1 := seen_len (seen_one 1 2 (by decide) (by decide) ⟨⟨0, 0, 3⟩, 8⟩ 16)
    refine bldPfx1 ?_
    refine Ret.mono (Get_at t _ _ ⟨0, 0, 3⟩ w4 8 hT4 hput.1 (by rw [hlen]; decide) hget) ?_
    rintro v5 w5 ⟨g, rfl, e5⟩
    refine TestK.mk (fun h6 => ?_) (fun h6 => ?_)
    · skip
      refine TestK.mk (fun h7 => ?_) (fun h7 => ?_)
      · skip
        refine lenS ?_
        refine TestK.mk (fun h8 => ?_) (fun h8 => ?_)
        · skip
          exact ⟨rfl, (e1.trans e3).andThen (e4.weaken (S' := fun k ↦ w.heap.size ≤ k) fun k _ h ↦ h) (fun k hk h ↦ by omega) |>.trans e5⟩
        · skip
          exact absurd (by rw [hseen]; rfl) h8
      · skip
        exact absurd rfl h7
    · skip
      exact absurd (by rw [hc]; rfl) h6
  · skip
    exact absurd rfl h

def pk (j : Nat) : Pfx := ⟨BitVec.ofInt 64 j <<< 50, 0, 14⟩
theorem pk_inj {j k : Nat} (hj : j < 100) (hk : k < 100) (h : pk j = pk k) : j = k := by
  have h1 := congrArg (fun p : Pfx => p.hi.toNat) h
  simp only [pk, BitVec.toNat_shiftLeft, BitVec.toNat_ofInt, Nat.shiftLeft_eq] at h1
  omega
theorem rep_ints (n : Nat) : (List.replicate n [Value.int .i64 0]).flatten = (List.replicate n (0 : Int)).map (.int .i64) := by
  induction n with
  | zero => rfl
  | succ n ih => rw [List.replicate_succ, List.flatten_cons, ih]; rfl

theorem Replaces_spec (s : BitVec 64) (n keys : Int) (a : Option Addr) (cap : Nat) (zs : List Int) (w : World) (ha : SlV w.heap a (zs.map (.int .i64))) :
    Ret Try.prog 3 #[U s, .int .i64 n, .int .i64 keys, .slice a zs.length cap] w fun r w' => r = .bool true ∧ Ext No w w' := by
  refine calls_ev (args := [_, _, _, _]) mixed Try.func3 ok_3 rfl ?_
  refine Ret.mono (alive12_spec w) ?_
  rintro v1 w1 ⟨rfl, e1⟩
  refine TestK.mk (fun g1 => ?_) (fun g1 => ?_)
  · skip
    exact ⟨rfl, e1⟩
  · skip
    refine TestK.mk (fun g2 => ?_) (fun g2 => ?_)
    · skip
      exact ⟨rfl, e1⟩
    · skip
      refine TestK.mk (fun g3 => ?_) (fun g3 => ?_)
      · skip
        exact ⟨rfl, e1⟩
      · skip
        refine TestK.mk (fun g4 => ?_) (fun g4 => ?_)
        · skip
          exact ⟨rfl, e1⟩
        · skip
          refine lenS ?_
          refine TestK.mk (fun g5 => ?_) (fun g5 => ?_)
          · skip
            exact ⟨rfl, e1⟩
          · skip
            refine Ret.mono (New_spec s n w1) ?_
            rintro v2 w2 ⟨e2, h2⟩
            rcases h2 with ⟨h2, _⟩ | ⟨_, _, t, rfl, hT2⟩
            · exact absurd h2 (by omega)
            have hok := (empty_ok s n.toNat (by omega) (by omega)).1
            have hc : (⟨s, emptyBks n.toNat, []⟩ : Tab).cont = [] := (empty_ok s n.toNat (by omega) (by omega)).2.1
            have hn2 : (⟨s, emptyBks n.toNat, []⟩ : Tab).n = n.toNat := (empty_ok s n.toNat (by omega) (by omega)).2.2
            refine Ret.mono (num12_spec 0 w2) ?_
            rintro v3 w3 ⟨rfl, rfl⟩
            refine TestK.mk (fun h => ?_) (fun h => ?_)
            · skip
              refine eqNil ?_
              refine mk keys.toNat (by omega) rfl (by omega) (by decide) ?_
              intro w3 h3
              have s1 := e1.size
              have s2 := e2.size
              have s3 := h3.size
              have hb3 : Blk w3.heap w2.heap.size ((List.replicate keys.toNat (0 : Int)).map (.int .i64)) 3 := by rw [← rep_ints]; exact h3.blk
              have e3 : Ext No w w3 := (e1.trans e2).trans (h3.ext No)
              have hT3 : TabAt w3 t ⟨s, emptyBks n.toNat, []⟩ (fun k => w.heap.size ≤ k ∧ k ≠ w2.heap.size) := (hT2.old.ext (h3.ext No) fun _ _ _ => id).mono fun k hk => ⟨by omega, by omega⟩
              refine loop [2, 3, 10, 12, 13] (fun k vs w' => ∃ (i : Nat) (T : Tab), (i : Int) ≤ keys ∧ k = keys.toNat - i ∧ vs = [.int .i64 keys, .slice a zs.length cap, .pointer (some ⟨t, 0, none⟩), .slice (some ⟨w2.heap.size, 0, none⟩) keys.toNat keys.toNat, .int .i64 i] ∧
                TabAt w' t T (fun k => w.heap.size ≤ k ∧ k ≠ w2.heap.size) ∧ Ok T ∧ T.cont.length = i ∧ (∀ j, j < i → getF T (pk j) = some 0) ∧ (∀ j, i ≤ j → j < 60 → getF T (pk j) = none) ∧
                Blk w'.heap w2.heap.size ((List.replicate keys.toNat (0 : Int)).map (.int .i64)) 3 ∧ Ext No w w' ∧ w3.heap.size ≤ w'.heap.size) keys.toNat _ rfl
                ⟨0, ⟨s, emptyBks n.toNat, []⟩, by omega, by omega, rfl, hT3, hok, by rw [hc]; rfl, by omega, fun j _ _ => get_empty _ _ (by omega) (by omega) _, hb3, e3, Nat.le_refl _⟩ ?_
              rintro k vs w4 ⟨i, T, hi, rfl, rfl, hT, hokT, hcl, hlo, hhi, hb4, e4, s4⟩
              refine TestK.mk (fun hlt => ?_) (fun hlt => ?_)
              · skip
                refine toU ?_
                refine shlU 50 rfl rfl ?_
                refine bldAddr1 ?_
                refine bldPfx ?_
                refine Ret.mono (Put_spec 16 t T _ (pk i) 0 w4 (fuel16 hokT.b.n1) hT hokT (by omega)) ?_
                rintro v5 w5 ⟨rfl, hT5, e5⟩
                have s5 := e5.size
                have hgi := hhi i (by omega) (by omega)
                have hg := fun p => get_put (f := 16) (r := ⟨pk i, 0⟩) (fuel16 hokT.b.n1) hokT p
                refine add64 (by omega) (by omega) ?_
                refine again (keys.toNat - (i + 1)) (by omega) _ rfl ⟨i + 1, putF 16 T ⟨pk i, 0⟩, by omega, by omega, rfl, hT5.mono fun k hk => hk.elim id fun h => ⟨by omega, by omega⟩, (put_ok 16 T _ (fuel16 hokT.b.n1) hokT).1, by rw [put_len_new (r := ⟨pk i, 0⟩) (fuel16 hokT.b.n1) hokT hgi, hcl], fun j hj => ?_, fun j hj hj6 => ?_,
                  e5.blk hb4 (fun h => h.2 rfl), e4.andThen e5 fun k hk h => by omega, by omega⟩
                · rw [hg]
                  split
                  · rfl
                  · rename_i hne
                    refine hlo j ?_
                    rcases Nat.lt_or_ge j i with h' | h'
                    · exact h'
                    · exact absurd (by rw [show j = i by omega]) hne
                · rw [hg, if_neg (fun e => by have := pk_inj (by omega) (by omega) e; omega)]
                  exact hhi j (by omega) hj6
              · skip
                have hik : i = keys.toNat := by omega
                refine Ret.mono (Size_spec t T _ w4 hT) ?_
                rintro v5 w5 ⟨rfl, e5⟩
                have s5 := e5.size
                refine loop [2, 3, 10, 12, 14, 15, 16, 17] (fun k vs w' => ∃ (i : Nat) (T' : Tab) (vl : List Int), i ≤ zs.length ∧ k = zs.length - i ∧ vs = [.int .i64 keys, .slice a zs.length cap, .pointer (some ⟨t, 0, none⟩), .slice (some ⟨w2.heap.size, 0, none⟩) keys.toNat keys.toNat, U T.seed, .int .i64 T.n, .int .i64 T.stash.length, .int .i64 i] ∧
                  TabAt w' t T' (fun k => w.heap.size ≤ k ∧ k ≠ w2.heap.size) ∧ Ok T' ∧ T'.seed = T.seed ∧ T'.n = T.n ∧ T'.stash.length = T.stash.length ∧ T'.cont.length = keys.toNat ∧ vl.length = keys.toNat ∧ (∀ j (h : j < vl.length), getF T' (pk j) = some vl[j]) ∧
                  Blk w'.heap w2.heap.size (vl.map (.int .i64)) 3 ∧ Ext No w w' ∧ w3.heap.size ≤ w'.heap.size) zs.length _ rfl
                  ⟨0, T, List.replicate keys.toNat 0, by omega, by omega, rfl, hT.ext e5 fun _ _ _ => id, hokT, rfl, rfl, rfl, by omega, List.length_replicate, fun j h => by rw [List.getElem_replicate]; exact hlo j (by rw [List.length_replicate] at h; omega), e5.blk hb4 id, e4.trans e5, by omega⟩ ?_
                rintro k vs w6 ⟨i, T', vl, hi', rfl, rfl, hT6, hok6, q1, q2, q3, q4, hvl, hget, hb6, e6, s6⟩
                refine lenS ?_
                refine TestK.mk (fun hlt2 => ?_) (fun hlt2 => ?_)
                · skip
                  rcases ha with ha | ⟨ab, ao, rfl, hat⟩
                  · have := congrArg List.length ha
                    simp only [List.length_map, List.length_nil] at this
                    omega
                  have hiz : i < zs.length := by omega
                  obtain ⟨q, hq⟩ : ∃ q : Nat, (q : Int) = zs[i] % 1024 % keys := ⟨(zs[i] % 1024 % keys).toNat, by have := Int.emod_nonneg (zs[i] % 1024) (show keys ≠ 0 by omega); omega⟩
                  have hqk : (q : Int) < keys := by rw [hq]; exact Int.emod_lt_of_pos _ (by omega)
                  refine iaS1 (i) (rfl) (by omega) ?_
                  refine ld1 ((e6.at_ hat id).cell (k := i) (v := .int .i64 zs[i]) (by simp [hiz])) ?_
                  refine and1023 ?_
                  refine remI (q : Int) hq (by omega) (by omega) ?_
                  refine add64 (by omega) (by omega) ?_
                  refine iaS1 (q) (rfl) (by omega) ?_
                  refine stN (vs := [.int .i64 ((i : Int) + 1)]) rfl rfl rfl (hb6) (by rw [List.length_map]; show 0 + q + 1 ≤ vl.length; omega) ?_
                  intro w7 h7
                  have hb7 : Blk w7.heap w2.heap.size ((vl.set q ((i : Int) + 1)).map (.int .i64)) 3 := by
                    have := h7.blk
                    rw [Nat.zero_add] at this
                    rw [List.map_set]; exact this
                  have e7 : Ext (· = w2.heap.size) w6 w7 := h7.ext fun _ => rfl
                  have s7 := e7.size
                  have hT7 := hT6.ext e7 fun k _ h e => h.2 e
                  refine toU ?_
                  refine shlU 50 rfl rfl ?_
                  refine bldAddr1 ?_
                  refine bldPfx ?_
                  refine add64 (by omega) (by omega) ?_
                  refine Ret.mono (Put_spec 16 t T' _ (pk q) ((i : Int) + 1) w7 (fuel16 hok6.b.n1) hT7 hok6 (by omega)) ?_
                  rintro v8 w8 ⟨rfl, hT8, e8⟩
                  have s8 := e8.size
                  have hgq := hget q (by omega)
                  have hsame := put_same (f := 16) (r := ⟨pk q, (i : Int) + 1⟩) hok6 hgq
                  refine add64 (by omega) (by omega) ?_
                  refine again (zs.length - (i + 1)) (by omega) _ rfl ⟨i + 1, putF 16 T' ⟨pk q, (i : Int) + 1⟩, vl.set q ((i : Int) + 1), by omega, by omega, rfl, hT8.mono fun k hk => hk.elim id fun h => ⟨by omega, by omega⟩, (put_ok 16 T' _ (fuel16 hok6.b.n1) hok6).1, hsame.1.trans q1, hsame.2.1.trans q2, hsame.2.2.1.trans q3, hsame.2.2.2.trans q4, List.length_set.trans hvl, fun j hj => ?_,
                    e8.blk hb7 (fun h => h.2 rfl), (e6.andThen e7 fun k hk h => by omega).andThen e8 fun k hk h => by omega, by omega⟩
                  rw [List.length_set] at hj
                  rw [get_put (fuel16 hok6.b.n1) hok6, List.getElem_set]
                  by_cases hjq : q = j
                  · subst hjq
                    rw [if_pos rfl, if_pos rfl]
                  · rw [if_neg (fun e => hjq (pk_inj (by omega) (by omega) e).symm), if_neg hjq]
                    exact hget j hj
                · skip
                  refine Ret.mono (Size_spec t T' _ w6 hT6) ?_
                  rintro v7 w7 ⟨rfl, e7⟩
                  have s7 := e7.size
                  refine loop [2, 10, 12, 14, 15, 16, 19, 20, 21, 22] (fun k vs w' => ∃ (i : Nat), (i : Int) ≤ keys ∧ k = keys.toNat - i ∧ vs = [.int .i64 keys, .pointer (some ⟨t, 0, none⟩), .slice (some ⟨w2.heap.size, 0, none⟩) keys.toNat keys.toNat, U T.seed, .int .i64 T.n, .int .i64 T.stash.length, U T'.seed, .int .i64 T'.n, .int .i64 T'.stash.length, .int .i64 i] ∧
                    Ext No w6 w') keys.toNat _ rfl ⟨0, by omega, by omega, rfl, e7⟩ ?_
                  rintro k vs w8 ⟨i, hi8, rfl, rfl, e8⟩
                  refine TestK.mk (fun hlt3 => ?_) (fun hlt3 => ?_)
                  · skip
                    refine toU ?_
                    refine shlU 50 rfl rfl ?_
                    refine bldAddr1 ?_
                    refine bldPfx ?_
                    have hiv : i < vl.length := by omega
                    refine Ret.mono (Get_at t T' _ (pk i) w8 vl[i] (hT6.ext e8 fun _ _ _ ↦ id) hok6 (by omega) (hget i hiv)) ?_
                    rintro v9 w9 ⟨g, rfl, e9⟩
                    refine iaS1 (i) (rfl) (by omega) ?_
                    refine ld1 (((e8.trans e9).blk hb6 id).cell (0 + i) |>.trans (by rw [Nat.zero_add, List.getElem?_map, List.getElem?_eq_getElem hiv]; rfl)) ?_
                    refine TestK.mk (fun h9 => ?_) (fun h9 => ?_)
                    · skip
                      refine add64 (by omega) (by omega) ?_
                      refine again (keys.toNat - (i + 1)) (by omega) _ rfl ⟨i + 1, by omega, by omega, rfl, e8.trans e9⟩
                    · skip
                      exact absurd rfl h9
                  · skip
                    refine TestK.mk (fun k1 => ?_) (fun k1 => ?_)
                    · skip
                      refine TestK.mk (fun k2 => ?_) (fun k2 => ?_)
                      · skip
                        refine TestK.mk (fun k3 => ?_) (fun k3 => ?_)
                        · skip
                          refine Ret.mono (Len_spec t T' _ w8 (hT6.ext e8 fun _ _ _ ↦ id) hok6.b.four hok6.b.n2 (by omega)) ?_
                          rintro v9 w9 ⟨rfl, e9⟩
                          refine TestK.mk (fun k4 => ?_) (fun k4 => ?_)
                          · skip
                            exact ⟨rfl, (e6.trans e8).trans e9⟩
                          · skip
                            exact absurd (by omega) k4
                        · skip
                          exact absurd (by rw [q3]) k3
                      · skip
                        exact absurd (by rw [q2]) k2
                    · skip
                      exact absurd (by rw [q1]) k1
            · skip
              exact absurd rfl h
end Go.Fl
