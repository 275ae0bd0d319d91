/-
  Chapter 11: the document's bucket: Put, Swap, All.
-/
import Derived.Test.YtoenjjlicglceaaRbucket
import Derived.Test.YtoenjjlicglceaaFlist
namespace Go.Fl
open Go.Proofs
set_option maxHeartbeats 4000000
set_option maxRecDepth 100000

def orI (o : Option Nat) (f : Int) : Int := match o with | some j => j | none => f
theorem fdrop {α : Type} (q : α → Bool) {B : List α} {m : Nat} (h : m < B.length) : firstI q (B.drop m) m = if q B[m] = true then some m else firstI q (B.drop (m + 1)) (m + 1) := by rw [List.drop_eq_getElem_cons h, firstI]
theorem spot_eq (B : List Pl) (p : Pfx) : orI (firstI (isKey p) (B.drop 0) 0) (orI (firstI (fun x => !x.there) (B.drop 0) 0) (-1)) = ofFind (Bspot B p) := by
  rw [List.drop_zero]
  unfold Bspot Bfind
  cases firstI (isKey p) B 0 with
  | some j => rfl
  | none => cases firstI (fun x : Pl => !x.there) B 0 <;> rfl

theorem rbPut_spec (b : Nat) (a c : List Value) (T : TypeId) (B : List Pl) (p : Pfx) (v : Int) (w : World) (hB : B.length = 4) (hb : Blk w.heap b (a ++ rbcells B ++ c) T) :
    Ret Try.prog 79 #[.pointer (some ⟨b, a.length, none⟩), p.val, .int .i64 v] w fun r w' =>
      (∃ B', Bput B ⟨p, v⟩ = some B' ∧ r = .bool true ∧ Blk w'.heap b (a ++ rbcells B' ++ c) T ∧ Ext (· = b) w w') ∨ (Bput B ⟨p, v⟩ = none ∧ r = .bool false ∧ Ext No w w') := by
  have hbs : (rbcells B).length = 20 := by rw [rb_len, hB]
  refine calls_ev (args := [_, _, _]) mixed Try.func79 ok_79 rfl ?_
  refine bx (cs := _) rfl ?_
  intro w1 h1
  have hp1 : Blk w1.heap w.heap.size p.cells 35 := h1.blk
  refine loop [0, 2, 4, 7, 8] (fun k vs w' => ∃ (m : Nat) (x y : Int), m ≤ 4 ∧ k = m ∧ vs = [.pointer (some ⟨b, a.length, none⟩), .int .i64 v, .pointer (some ⟨w.heap.size, 0, none⟩), .int .i64 x, .int .i64 y] ∧ y = m - 1 ∧
    x = orI (firstI (fun x => !x.there) (B.drop m) m) (-1) ∧ Ext No w1 w') 4 _ rfl ⟨4, -1, 3, by omega, rfl, rfl, by omega, by rw [List.drop_of_length_le (by omega)]; rfl, Ext.refl _ _⟩ ?_
  rintro k vs w2 ⟨m, x, y, hm, rfl, rfl, rfl, hx, e2⟩
  have e2' : Ext No w w2 := (h1.ext No).trans e2
  refine TestK.mk (fun hge => ?_) (fun hge => ?_)
  · skip
    obtain ⟨n, rfl⟩ : ∃ n, k = n + 1 := ⟨k - 1, by omega⟩
    have hn4 : n < B.length := by omega
    have hthere := rb_there hB hn4 (e2'.blk hb id).mid
    have hfd := fdrop (fun x : Pl => !x.there) hn4
    refine fa ?_
    refine iaA (n) (by omega) (by omega) ?_
    cases hth : B[n].there with
    | false =>
      rw [hth] at hthere hfd
      refine ld1 (v := .bool false) (hthere) ?_
      refine sub64 (by omega) (by omega) ?_
      refine again n (by omega) _ rfl ⟨n, _, _, by omega, rfl, rfl, by omega, by rw [hfd]; simp [orI], e2⟩
    | true =>
      rw [hth] at hthere hfd
      refine ld1 (v := .bool true) (hthere) ?_
      refine sub64 (by omega) (by omega) ?_
      refine again n (by omega) _ rfl ⟨n, _, _, by omega, rfl, rfl, by omega, by rw [hfd]; simpa using hx, e2⟩
  · skip
    obtain rfl : k = 0 := by omega
    refine loop [0, 2, 4, 7, 9] (fun k vs w' => ∃ (m : Nat) (x' y : Int), m ≤ 4 ∧ k = m ∧ vs = [.pointer (some ⟨b, a.length, none⟩), .int .i64 v, .pointer (some ⟨w.heap.size, 0, none⟩), .int .i64 x', .int .i64 y] ∧ y = m - 1 ∧
      x' = orI (firstI (isKey p) (B.drop m) m) x ∧ Ext No w1 w') 4 _ rfl ⟨4, x, 3, by omega, rfl, rfl, by omega, by rw [List.drop_of_length_le (by omega)]; rfl, e2⟩ ?_
    rintro k vs w3 ⟨m, x', y, hm', rfl, rfl, rfl, hx', e3⟩
    have e3' : Ext No w w3 := (h1.ext No).trans e3
    have hp3 := e3.blk hp1 id
    have hb3 := e3'.blk hb id
    refine TestK.mk (fun hge2 => ?_) (fun hge2 => ?_)
    · skip
      obtain ⟨n, rfl⟩ : ∃ n, k = n + 1 := ⟨k - 1, by omega⟩
      have hn4 : n < B.length := by omega
      have hthere := rb_there hB hn4 hb3.mid
      have hroute := rb_route hB hn4 hb3.mid
      have hfd := fdrop (isKey p) hn4
      have hno : isKey p B[n] = false → orI (firstI (isKey p) (B.drop (n + 1)) (n + 1)) x = orI (firstI (isKey p) (B.drop n) n) x := fun hk => by rw [hfd, hk]; rfl
      refine fa ?_
      refine iaA (n) (by omega) (by omega) ?_
      cases hth : B[n].there with
      | false =>
        rw [hth] at hthere
        refine ld1 (v := .bool false) (hthere) ?_
        refine sub64 (by omega) (by omega) ?_
        refine again n (by omega) _ rfl ⟨n, _, _, by omega, rfl, rfl, by omega, hx'.trans (hno (by simp [isKey, hth])), e3⟩
      | true =>
        rw [hth] at hthere
        refine ld1 (v := .bool true) (hthere) ?_
        refine fa ?_
        refine iaA (n) (by omega) (by omega) ?_
        refine fa ?_
        refine ldN (cs := B[n].r.p.cells) (rfl) (rp_at' hroute) ?_
        refine ldN (cs := p.cells) (rfl) (hp3.at_) ?_
        refine eqPfx (fun heq => ?_) (fun heq => ?_)
        · skip
          refine sub64 (by omega) (by omega) ?_
          refine again n (by omega) _ rfl ⟨n, _, _, by omega, rfl, rfl, by omega, by rw [hfd, if_pos (by simp [isKey, hth, heq])]; show _ = (n : Int); omega, e3⟩
        · skip
          refine sub64 (by omega) (by omega) ?_
          refine again n (by omega) _ rfl ⟨n, _, _, by omega, rfl, rfl, by omega, hx'.trans (hno (by simp [isKey, heq])), e3⟩
    · skip
      obtain rfl : k = 0 := by omega
      have hsp : x' = ofFind (Bspot B p) := by rw [hx', hx]; exact spot_eq B p
      cases hs : Bspot B p with
      | none =>
        rw [hs] at hsp
        refine TestK.mk (fun hneg => ?_) (fun hneg => ?_)
        · skip
          exact .inr ⟨by simp [Bput, hs], rfl, e3'⟩
        · skip
          exact absurd (by rw [hsp]; decide) hneg
      | some j =>
        have hj4 := Bspot_lt hs
        rw [hs] at hsp
        have hxj : x' = j := hsp
        refine TestK.mk (fun hneg => ?_) (fun hneg => ?_)
        · skip
          exact absurd hneg (by omega)
        · skip
          refine ldN (cs := p.cells) (rfl) (hp3.at_) ?_
          refine bldRoute ?_
          refine fa ?_
          refine iaA (j) (hxj) (by omega) ?_
          refine stN (vs := Rt.cells ⟨p, v⟩) rfl rfl rfl (hb3) (by rw [List.length_append, List.length_append, hbs]; show a.length + 0 + j * 4 + 4 ≤ _; omega) ?_
          intro w4 h4
          have hb4 : Blk w4.heap b (a ++ rbcells (B.set j ⟨B[j].there, ⟨p, v⟩⟩) ++ c) T := by
            have := h4.blk
            rw [Nat.add_zero, rb_setr hB hj4] at this; exact this
          have hB4 : (B.set j ⟨B[j].there, ⟨p, v⟩⟩).length = 4 := by rw [List.length_set]; exact hB
          refine fa ?_
          refine iaA (j) (hxj) (by omega) ?_
          refine stN (vs := [.bool true]) rfl rfl rfl (hb4) (by rw [List.length_append, List.length_append, rb_len, hB4]; show a.length + 16 + j * 1 + 1 ≤ _; omega) ?_
          intro w5 h5
          have hb5 : Blk w5.heap b (a ++ rbcells (B.set j ⟨true, ⟨p, v⟩⟩) ++ c) T := by
            have := h5.blk
            rw [Nat.mul_one, rb_sett hB4 (by rw [List.length_set]; exact hj4), List.set_set, List.getElem_set_self] at this; exact this
          exact .inl ⟨_, by simp [Bput, hs], rfl, hb5, (e3'.of_no.andThen (h4.ext (S := (· = b)) fun _ ↦ rfl) fun _ _ h ↦ h).andThen (h5.ext (S := (· = b)) fun _ ↦ rfl) fun _ _ h ↦ h⟩

theorem rbSwap_spec (b : Nat) (a c : List Value) (T : TypeId) (B : List Pl) (i : Nat) (p : Pfx) (v : Int) (w : World) (hB : B.length = 4) (hi : i < B.length) (ht : B[i].there = true) (hb : Blk w.heap b (a ++ rbcells B ++ c) T) :
    Ret Try.prog 80 #[.pointer (some ⟨b, a.length, none⟩), .int .i64 i, p.val, .int .i64 v] w fun r w' =>
      r = .tuple #[B[i].r.p.val, .int .i64 B[i].r.hop, .bool true] ∧ Blk w'.heap b (a ++ rbcells (B.set i ⟨true, ⟨p, v⟩⟩) ++ c) T ∧ Ext (· = b) w w' := by
  have hbs : (rbcells B).length = 20 := by rw [rb_len, hB]
  refine calls_ev (args := [_, _, _, _]) mixed Try.func80 ok_80 rfl ?_
  refine bx (cs := _) rfl ?_
  intro w1 h1
  refine al (cs := _) rfl ?_
  intro w2 h2
  have e2 : Ext No w w2 := (h1.ext No).trans (h2.ext No)
  have hb2 := e2.blk hb id
  have hthere := rb_there hB hi hb2.mid
  have hroute := rb_route hB hi hb2.mid
  have hp2 : At w2.heap w.heap.size 0 p.cells := (h2.ext No).at_ h1.blk.at_ id
  have hz2 : Blk w2.heap w1.heap.size [.int .u64 0, .int .u64 0, .int .i64 0] 35 := h2.blk
  refine TestK.mk (fun h => ?_) (fun h => ?_)
  · skip
    exact absurd h (by omega)
  · skip
    refine TestK.mk (fun h' => ?_) (fun h' => ?_)
    · skip
      exact absurd h' (by omega)
    · skip
      rw [ht] at hthere
      refine fa ?_
      refine iaA (i) (rfl) (by omega) ?_
      refine ld1 (v := .bool true) (hthere) ?_
      refine fa ?_
      refine iaA (i) (rfl) (by omega) ?_
      refine ldN (cs := B[i].r.cells) (rfl) (hroute) ?_
      refine al (cs := _) rfl ?_
      intro w3 h3
      refine stN (vs := _) rfl rfl rfl (h3.blk) (by first | exact Nat.le_refl _ | (simp; done) | (simp; omega)) ?_
      intro w4 h4
      have hr4 : Blk w4.heap w2.heap.size B[i].r.cells 45 := h4.blk
      have e4 : Ext (· = w2.heap.size) w2 w4 := (h3.ext _).andThen (h4.ext (S := (· = w2.heap.size)) fun _ => rfl) fun _ _ h => h
      have l1 := h1.size
      have l2 := h2.size
      have lb := hb.lt
      have e4w : Ext No w w4 := e2.andThen e4 fun k hk e => by omega
      refine ldN (cs := p.cells) (rfl) (e4.at_ hp2 (by omega)) ?_
      refine bldRoute ?_
      refine fa ?_
      refine iaA (i) (rfl) (by omega) ?_
      refine stN (vs := Rt.cells ⟨p, v⟩) rfl rfl rfl (e4w.blk hb id) (by rw [List.length_append, List.length_append, hbs]; show a.length + 0 + i * 4 + 4 ≤ _; omega) ?_
      intro w5 h5
      have hb5 : Blk w5.heap b (a ++ rbcells (B.set i ⟨true, ⟨p, v⟩⟩) ++ c) T := by
        have := h5.blk
        rw [Nat.add_zero, rb_setr hB hi, ht] at this; exact this
      have e5 : Ext (· = b) w4 w5 := h5.ext fun _ => rfl
      have hr5 := e5.blk hr4 (by omega)
      have hz5 := e5.blk (e4.blk hz2 (by omega)) (by omega)
      refine draw [(0, []), (1, []), (2, []), (3, []), (4, [3]), (5, []), (6, [])] (by kernel_rfl) ?_
      refine fa ?_
      refine ldN (cs := B[i].r.p.cells) (rfl) (hr5.part ⟨[.int .i64 B[i].r.hop], rfl⟩) ?_
      refine fa ?_
      refine ld1 (hr5.cell 3) ?_
      refine stN (vs := _) rfl rfl rfl (hz5) (by first | exact Nat.le_refl _ | (simp; done) | (simp; omega)) ?_
      intro w6 h6
      have e6 : Ext (· = w1.heap.size) w5 w6 := h6.ext fun _ => rfl
      have hr6 := e6.blk hr5 (by omega)
      refine And.intro (ld1 (hr6.cell 3) rfl) ?_
      refine ldN (cs := B[i].r.p.cells) rfl h6.blk.at_ ?_
      exact And.intro rfl ⟨e6.blk hb5 (by omega), (e4w.of_no.andThen e5 fun _ _ h => h).andThen e6 fun k hk e => by omega⟩

theorem rbAll_spec (b o : Nat) (B : List Pl) (w : World) (hB : B.length = 4) (hat : At w.heap b o (rbcells B)) :
    Ret Try.prog 83 #[.pointer (some ⟨b, o, none⟩)] w fun v w' => OwnR w.heap.size w' v (Ball B) ∧ Ext No w w' := by
  refine calls_ev (args := [_]) mixed Try.func83 ok_83 rfl ?_
  refine loop [0, 3, 4] (fun k vs w' => ∃ (i : Nat) (v : Value), i ≤ 4 ∧ k = 4 - i ∧ vs = [.pointer (some ⟨b, o, none⟩), v, .int .i64 i] ∧ OwnR w.heap.size w' v (Ball (B.take i)) ∧ Ext No w w') 4 _ rfl ⟨0, _, by omega, rfl, rfl, OwnR.nil _ _, Ext.refl _ _⟩ ?_
  rintro k vs w2 ⟨i, v, hi, rfl, rfl, hown, he⟩
  refine TestK.mk (fun hlt => ?_) (fun hlt => ?_)
  · skip
    have hi4 : i < B.length := by omega
    have hthere := rb_there hB hi4 (he.at_ hat id)
    have hroute := rb_route hB hi4 (he.at_ hat id)
    have htake := Ball_take B i hi4
    refine fa ?_
    refine iaA (i) (rfl) (by omega) ?_
    cases hth : B[i].there with
    | false =>
      rw [hth, if_neg (by simp), List.append_nil] at htake
      rw [hth] at hthere
      refine ld1 (v := .bool false) (hthere) ?_
      refine add64 (by omega) (by omega) ?_
      refine again (4 - (i + 1)) (by omega) _ rfl ⟨i + 1, v, by omega, rfl, rfl, by rw [htake]; exact hown, he⟩
    | true =>
      rw [hth, if_pos rfl] at htake
      rw [hth] at hthere
      have hlen : (Ball (B.take i)).length ≤ 4 := by
        have : (Ball (B.take i)).length ≤ (B.take i).length := by unfold Ball; rw [List.length_map]; exact List.length_filter_le _ _
        rw [List.length_take] at this; omega
      refine ld1 (v := .bool true) (hthere) ?_
      refine fa ?_
      refine iaA (i) (rfl) (by omega) ?_
      refine ldN (cs := B[i].r.cells) (rfl) (hroute) ?_
      refine bsRoute1 ?_
      intro w3 h3
      refine apG rlen rone (OwnR.no hown (h3.ext No)) (isSl_one h3.blk) (by show _ + 1 ≤ _; omega) (by decide) (Nat.le_trans he.size (h3.ext No).size) ?_
      intro v4 w4 h4 f4 e4
      refine add64 (by omega) (by omega) ?_
      refine again (4 - (i + 1)) (by omega) _ rfl ⟨i + 1, v4, by omega, rfl, rfl, by rw [htake]; exact h4, (he.trans (h3.ext No)).andThen e4 fun k hk e => by have := (World.ownsRow.lt hown k e).1; omega⟩
  · skip
    have : B.take i = B := List.take_of_length_le (by omega)
    rw [this] at hown
    exact ⟨hown, he⟩
end Go.Fl
