/-
  Chapter 11: the document's table in memory.
-/
import Derived.Test.YtoenjjlicglceaaRbput
import Derived.Test.YtoenjjlicglceaaRmix
import Derived.Test.YtoenjjlicglceaaFdel
import Derived.Test.YtoenjjlicglceaaTall
namespace Go.Fl
open Go.Proofs
set_option maxHeartbeats 4000000
set_option maxRecDepth 100000

abbrev rtcells (bks : List (List Pl)) : List Value := bks.flatMap rbcells
theorem rtcells_split {bks : List (List Pl)} (h4 : ∀ (i : Nat) (B : List Pl), bks[i]? = some B → B.length = 4) : ∀ {i : Nat} {B : List Pl}, bks[i]? = some B →
    ∃ a c, rtcells bks = a ++ rbcells B ++ c ∧ a.length = i * 20 ∧ ∀ B', rtcells (bks.set i B') = a ++ rbcells B' ++ c := by
  intro i B hB
  obtain ⟨hi, rfl⟩ := List.getElem?_eq_some_iff.1 hB
  have key := split_at rbcells bks i hi
  refine ⟨(bks.take i).flatMap rbcells, (bks.drop (i + 1)).flatMap rbcells, ?_, ?_, key⟩
  · have := key bks[i]
    rwa [List.set_getElem_self] at this
  · have : ∀ l : List (List Pl), (∀ B ∈ l, B.length = 4) → (l.flatMap rbcells).length = l.length * 20 := by
      intro l
      induction l with
      | nil => intro _; rfl
      | cons x l ih =>
        intro hl
        rw [List.flatMap_cons, List.length_append, ih fun B hB => hl B (List.mem_cons_of_mem _ hB), rb_len, hl x List.mem_cons_self, List.length_cons]
        omega
    rw [this _ fun B hB => ?_, List.length_take, Nat.min_eq_left (by omega)]
    obtain ⟨j, hj⟩ := List.mem_iff_getElem?.1 (List.mem_of_mem_take hB)
    exact h4 j B hj

section
variable {b E : Nat} {bks : List (List Pl)} {i : Nat} {w : World} (h4 : ∀ (i : Nat) (B : List Pl), bks[i]? = some B → B.length = 4) (hi : i < bks.length) (hb : Blk w.heap b (rtcells bks) E)
include h4 hi hb
theorem rbPutAt (p : Pfx) (v : Int) : Ret Try.prog 79 #[.pointer (some ⟨b, 0 + i * 20, none⟩), p.val, .int .i64 v] w fun r w' =>
    (∃ B', Bput (bkAt bks i) ⟨p, v⟩ = some B' ∧ r = .bool true ∧ Blk w'.heap b (rtcells (bks.set i B')) E ∧ Ext (· = b) w w') ∨ (Bput (bkAt bks i) ⟨p, v⟩ = none ∧ r = .bool false ∧ Ext No w w') := by
  have hB := bkAt_some hi
  obtain ⟨a, c, e1, e2, e3⟩ := rtcells_split h4 hB
  rw [e1] at hb
  have := rbPut_spec b a c E (bkAt bks i) p v w (h4 i _ hB) hb
  rw [Nat.zero_add, ← e2]
  refine Ret.mono this fun r w' h => ?_
  rcases h with ⟨B', h1, h2, h3, h5⟩ | h
  · exact .inl ⟨B', h1, h2, by rw [e3]; exact h3, h5⟩
  · exact .inr h
theorem rbGetAt (p : Pfx) : Ret Try.prog 78 #[.pointer (some ⟨b, 0 + i * 20, none⟩), p.val] w fun v w' =>
    v = .tuple #[.int .i64 ((Bget (bkAt bks i) p).getD 0), .bool (Bget (bkAt bks i) p).isSome] ∧ Ext No w w' := by
  have hB := bkAt_some hi
  obtain ⟨a, c, e1, e2, e3⟩ := rtcells_split h4 hB
  rw [e1] at hb
  rw [Nat.zero_add, ← e2]
  refine Ret.mono (rbGet_spec b _ (bkAt bks i) p w (h4 i _ hB) hb.mid) fun r w' h => ?_
  obtain ⟨h, e⟩ := h
  refine ⟨?_, e⟩
  rcases h with ⟨x, h1, h2⟩ | ⟨h1, h2⟩
  · rw [h1, h2]; rfl
  · rw [h1, h2]; rfl
theorem rbTakeAt (p : Pfx) : Ret Try.prog 77 #[.pointer (some ⟨b, 0 + i * 20, none⟩), p.val] w fun r w' =>
    (∃ B', Btake (bkAt bks i) p = some B' ∧ r = .bool true ∧ Blk w'.heap b (rtcells (bks.set i B')) E ∧ Ext (· = b) w w') ∨ (Btake (bkAt bks i) p = none ∧ r = .bool false ∧ Ext No w w') := by
  have hB := bkAt_some hi
  obtain ⟨a, c, e1, e2, e3⟩ := rtcells_split h4 hB
  rw [e1] at hb
  have := rbTake_spec b a c E (bkAt bks i) p w (h4 i _ hB) hb
  rw [Nat.zero_add, ← e2]
  refine Ret.mono this fun r w' h => ?_
  rcases h with ⟨B', h1, h2, h3, h5⟩ | h
  · exact .inl ⟨B', h1, h2, by rw [e3]; exact h3, h5⟩
  · exact .inr h
theorem rbSwapAt (j : Nat) (p : Pfx) (v : Int) (hj : j < 4) (ht : ∀ x ∈ bkAt bks i, x.there = true) : Ret Try.prog 80 #[.pointer (some ⟨b, 0 + i * 20, none⟩), .int .i64 j, p.val, .int .i64 v] w fun r w' =>
    r = .tuple #[((bkAt bks i).getD j noPl).r.p.val, .int .i64 ((bkAt bks i).getD j noPl).r.hop, .bool true] ∧ Blk w'.heap b (rtcells (bks.set i ((bkAt bks i).set j ⟨true, ⟨p, v⟩⟩))) E ∧ Ext (· = b) w w' := by
  have hB := bkAt_some hi
  obtain ⟨a, c, e1, e2, e3⟩ := rtcells_split h4 hB
  rw [e1] at hb
  have h5 := h4 i _ hB
  have hj' : j < (bkAt bks i).length := by omega
  have := rbSwap_spec b a c E (bkAt bks i) j p v w h5 hj' (ht _ (List.getElem_mem hj')) hb
  rw [Nat.zero_add, ← e2]
  refine Ret.mono this fun r w' h => ?_
  have hg : (bkAt bks i).getD j noPl = (bkAt bks i)[j] := by rw [List.getD_eq_getElem?_getD, List.getElem?_eq_getElem hj']; rfl
  rw [hg, e3]; exact h
theorem rbAllAt : Ret Try.prog 83 #[.pointer (some ⟨b, 0 + i * 20, none⟩)] w fun v w' => OwnR w.heap.size w' v (Ball (bkAt bks i)) ∧ Ext No w w' := by
  have hB := bkAt_some hi
  obtain ⟨a, c, e1, e2, e3⟩ := rtcells_split h4 hB
  rw [e1] at hb
  rw [Nat.zero_add, ← e2]
  exact rbAll_spec b _ (bkAt bks i) w (h4 i _ hB) hb.mid
end

def RTabAt (w : World) (t : Nat) (T : Tab) (F : Nat → Prop) : Prop :=
  ∃ b v, Blk w.heap t [U T.seed, .slice (some ⟨b, 0, none⟩) T.n T.n, v] 116 ∧ Blk w.heap b (rtcells T.bks) 121 ∧ OwnR 0 w v T.stash ∧
    t ≠ b ∧ v.ownBlock ≠ some t ∧ v.ownBlock ≠ some b ∧ F t ∧ F b ∧ ∀ k, v.ownBlock = some k → F k
theorem RTabAt.mono {w : World} {t : Nat} {T : Tab} {F F' : Nat → Prop} (h : RTabAt w t T F) (hf : ∀ k, F k → F' k) : RTabAt w t T F' := by
  obtain ⟨b, v, h1, h2, h3, h4, h5, h6, h7, h8, h9⟩ := h
  exact ⟨b, v, h1, h2, h3, h4, h5, h6, hf _ h7, hf _ h8, fun k hk => hf _ (h9 k hk)⟩
theorem RTabAt.ext {w w' : World} {t : Nat} {T : Tab} {F S : Nat → Prop} (h : RTabAt w t T F) (he : Ext S w w') (hS : ∀ k, k < w.heap.size → F k → ¬ S k) : RTabAt w' t T F := by
  obtain ⟨b, v, h1, h2, h3, h4, h5, h6, h7, h8, h9⟩ := h
  exact ⟨b, v, he.blk h1 (hS _ h1.lt h7), he.blk h2 (hS _ h2.lt h8), World.ownsRow.ext h3 he fun k hk => hS k (own_lt h3 hk) (h9 k hk), h4, h5, h6, h7, h8, h9⟩
theorem RTabAt.old {w : World} {t : Nat} {T : Tab} {F : Nat → Prop} (h : RTabAt w t T F) : RTabAt w t T (fun k => F k ∧ k < w.heap.size) := by
  obtain ⟨b, v, h1, h2, h3, h4, h5, h6, h7, h8, h9⟩ := h
  exact ⟨b, v, h1, h2, h3, h4, h5, h6, ⟨h7, h1.lt⟩, ⟨h8, h2.lt⟩, fun k hk => ⟨h9 k hk, own_lt h3 hk⟩⟩
theorem RTabAt.put {w w' : World} {t b E : Nat} {T : Tab} {F : Nat → Prop} {v : Value} {bks' : List (List Pl)} (ht : Blk w.heap t [U T.seed, .slice (some ⟨b, 0, none⟩) T.n T.n, v] 116)
    (hv : OwnR 0 w v T.stash) (h4 : t ≠ b) (h5 : v.ownBlock ≠ some t) (h6 : v.ownBlock ≠ some b) (h7 : F t) (h8 : F b) (h9 : ∀ k, v.ownBlock = some k → F k)
    (he : Ext (· = b) w w') (hb : Blk w'.heap b (rtcells bks') E) (hE : E = 121) (hl : bks'.length = T.n) : RTabAt w' t ⟨T.seed, bks', T.stash⟩ F := by
  subst hE
  refine ⟨b, v, ?_, hb, World.ownsRow.ext hv he fun k hk e => h6 (by rw [hk, e]), h4, h5, h6, h7, h8, h9⟩
  have := he.blk ht h4
  show Blk w'.heap t [U T.seed, .slice (some ⟨b, 0, none⟩) bks'.length bks'.length, v] _
  rw [hl]; exact this

theorem rTwo (s : BitVec 64) (p : Pfx) (n : Nat) (w : World) (h1 : 1 ≤ n) (h2 : n ≤ 65536) : Ret Try.prog 76 #[U s, p.val, .int .i64 n] w fun v w' => v = .tuple #[.int .i64 (ix1 s n p), .int .i64 (ix2 s n p)] ∧ Ext No w w' := by
  have e1 : ((ix1 s n p : Nat) : Int) = bk1 s p n := by
    have := reduce_range (mix (hash s p ^^^ 1#64)) n (by omega) (by omega)
    unfold ix1 bk1; omega
  have e2 : ((ix2 s n p : Nat) : Int) = bk2 s p n := by
    have := reduce_range (mix (hash s p ^^^ 2#64)) n (by omega) (by omega)
    unfold ix2 bk2; omega
  rw [e1, e2]
  exact rBuckets_spec s p n w
theorem rOther_spec (t : Nat) (T : Tab) (F : Nat → Prop) (p : Pfx) (a : Nat) (w : World) (h : RTabAt w t T F) (h1 : 1 ≤ T.n) (h2 : T.n ≤ 65536) :
    Ret Try.prog 81 #[.pointer (some ⟨t, 0, none⟩), p.val, .int .i64 a] w fun v w' => v = .int .i64 (otherF T.seed T.n p a) ∧ Ext No w w' := by
  obtain ⟨b, v, ht, _⟩ := h
  refine calls_ev (args := [_, _, _]) mixed Try.func81 ok_81 rfl ?_
  refine bx (cs := _) rfl ?_
  intro w1 hx1
  have ht1 := (hx1.ext No).blk ht id
  refine fa ?_
  refine ld1 (ht1.cell 0) ?_
  refine ldN (cs := p.cells) (rfl) (hx1.blk.at_) ?_
  refine fa ?_
  refine ld1 (ht1.cell 1) ?_
  refine lenS ?_
  refine Ret.mono (rTwo T.seed p T.n _ h1 h2) ?_
  rintro v2 w2 ⟨rfl, e2⟩
  refine TestK.mk (fun h3 => ?_) (fun h3 => ?_)
  · skip
    exact And.intro (by unfold otherF; rw [if_pos (by omega)]; rfl) ((hx1.ext No).trans e2)
  · skip
    exact And.intro (by unfold otherF; rw [if_neg (by omega)]; rfl) ((hx1.ext No).trans e2)
theorem find_low {l : List Rt} {p : Pfx} (hs : SortedR l) : 0 ≤ findF l p ↔ atLow l p = true := by
  constructor
  · intro h
    cases ha : atLow l p with
    | true => rfl
    | false => rw [find_none (atLow_none hs ha)] at h; exact absurd h (by decide)
  · intro h
    obtain ⟨hi, e⟩ := atLow_some h
    obtain ⟨i, h1, _⟩ := find_some ⟨_, List.getElem_mem hi, e⟩
    rw [h1]; omega
theorem RTabAt.stash {w : World} {t b : Nat} {T : Tab} {F : Nat → Prop} {a : Option Addr} {c : Nat} {l : List Rt} (ht : Blk w.heap t [U T.seed, .slice (some ⟨b, 0, none⟩) T.n T.n, .slice a l.length c] 116)
    (hb : Blk w.heap b (rtcells T.bks) 121) (hv : OwnR 0 w (.slice a l.length c) l) (n1 : t ≠ b) (f1 : F t) (f2 : F b) (f3 : ∀ k, (Value.slice a l.length c).ownBlock = some k → F k) : RTabAt w t ⟨T.seed, T.bks, l⟩ F :=
  ⟨b, _, ht, hb, hv, n1, own_ne hv ht (by decide), own_ne hv hb (by decide), f1, f2, f3⟩
end Go.Fl
