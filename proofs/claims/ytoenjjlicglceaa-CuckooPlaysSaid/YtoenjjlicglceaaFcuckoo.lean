/-
  Chapter 11: the walks of the given program's cuckoo table.
-/
import Derived.Test.YtoenjjlicglceaaTtab
import Derived.Test.YtoenjjlicglceaaFbucket
import Derived.Test.YtoenjjlicglceaaK5
namespace Go.Fl
open Go.Proofs
set_option maxHeartbeats 400000
set_option maxRecDepth 100000

/-- A row of buckets. -/
abbrev tcells (bks : List (List Pl)) : List Value := bks.flatMap bcells
theorem tcells_split {bks : List (List Pl)} (h4 : ∀ (i : Nat) (B : List Pl), bks[i]? = some B → B.length = 4) : ∀ {i : Nat} {B : List Pl}, bks[i]? = some B →
    ∃ a c, tcells bks = a ++ bcells B ++ c ∧ a.length = i * 20 ∧ ∀ B', tcells (bks.set i B') = a ++ bcells B' ++ c := by
  intro i B hB
  obtain ⟨hi, rfl⟩ := List.getElem?_eq_some_iff.1 hB
  have key := split_at bcells bks i hi
  refine ⟨(bks.take i).flatMap bcells, (bks.drop (i + 1)).flatMap bcells, ?_, ?_, key⟩
  · have := key bks[i]
    rwa [List.set_getElem_self] at this
  · have : ∀ l : List (List Pl), (∀ B ∈ l, B.length = 4) → (l.flatMap bcells).length = l.length * 20 := by
      intro l
      induction l with
      | nil => intro _; rfl
      | cons x l ih =>
        intro hl
        rw [List.flatMap_cons, List.length_append, ih fun B hB => hl B (List.mem_cons_of_mem _ hB), bcells_length, hl x List.mem_cons_self, List.length_cons]
        omega
    rw [this _ fun B hB => ?_, List.length_take, Nat.min_eq_left (by omega)]
    obtain ⟨j, hj⟩ := List.mem_iff_getElem?.1 (List.mem_of_mem_take hB)
    exact h4 j B hj

section
variable {b E : Nat} {bks : List (List Pl)} {i : Nat} {w : World} (h4 : ∀ (i : Nat) (B : List Pl), bks[i]? = some B → B.length = 4) (hi : i < bks.length) (hb : Blk w.heap b (tcells bks) E)
include h4 hi hb

theorem bPutAt (p : Pfx) (v : Int) : Ret Try.prog 55 #[.pointer (some ⟨b, 0 + i * 20, none⟩), p.val, .int .i64 v] w fun r w' =>
    (∃ B', Bput (bkAt bks i) ⟨p, v⟩ = some B' ∧ r = .bool true ∧ Blk w'.heap b (tcells (bks.set i B')) E ∧ Ext (· = b) w w') ∨ (Bput (bkAt bks i) ⟨p, v⟩ = none ∧ r = .bool false ∧ Ext No w w') := by
  have hB := bkAt_some hi
  obtain ⟨a, c, e1, e2, e3⟩ := tcells_split h4 hB
  rw [e1] at hb
  have := bPut_spec b a c E (bkAt bks i) p v w (h4 i _ hB) hb
  rw [Nat.zero_add, ← e2]
  refine Ret.mono this fun r w' h => ?_
  rcases h with ⟨B', h1, h2, h3, h5⟩ | h
  · exact .inl ⟨B', h1, h2, by rw [e3]; exact h3, h5⟩
  · exact .inr h
theorem bGetAt (p : Pfx) : Ret Try.prog 61 #[.pointer (some ⟨b, 0 + i * 20, none⟩), p.val] w fun v w' =>
    ((∃ h, Bget (bkAt bks i) p = some h ∧ v = .tuple #[.int .i64 h, .bool true]) ∨ (Bget (bkAt bks i) p = none ∧ v = .tuple #[.int .i64 0, .bool false])) ∧ Ext No w w' := by
  have hB := bkAt_some hi
  obtain ⟨a, c, e1, e2, e3⟩ := tcells_split h4 hB
  rw [e1] at hb
  rw [Nat.zero_add, ← e2]
  exact bGet_spec b _ (bkAt bks i) p w (h4 i _ hB) hb.mid
theorem bTakeAt (p : Pfx) : Ret Try.prog 74 #[.pointer (some ⟨b, 0 + i * 20, none⟩), p.val] w fun r w' =>
    (∃ B', Btake (bkAt bks i) p = some B' ∧ r = .bool true ∧ Blk w'.heap b (tcells (bks.set i B')) E ∧ Ext (· = b) w w') ∨ (Btake (bkAt bks i) p = none ∧ r = .bool false ∧ Ext No w w') := by
  have hB := bkAt_some hi
  obtain ⟨a, c, e1, e2, e3⟩ := tcells_split h4 hB
  rw [e1] at hb
  have := bTake_spec b a c E (bkAt bks i) p w (h4 i _ hB) hb
  rw [Nat.zero_add, ← e2]
  refine Ret.mono this fun r w' h => ?_
  rcases h with ⟨B', h1, h2, h3, h5⟩ | h
  · exact .inl ⟨B', h1, h2, by rw [e3]; exact h3, h5⟩
  · exact .inr h
theorem bSwapAt (j : Nat) (p : Pfx) (v : Int) (hj : j < 4) (ht : ∀ x ∈ bkAt bks i, x.there = true) : Ret Try.prog 56 #[.pointer (some ⟨b, 0 + i * 20, none⟩), .int .i64 j, p.val, .int .i64 v] w fun r w' =>
    r = .tuple #[((bkAt bks i).getD j noPl).r.p.val, .int .i64 ((bkAt bks i).getD j noPl).r.hop, .bool true] ∧ Blk w'.heap b (tcells (bks.set i ((bkAt bks i).set j ⟨true, ⟨p, v⟩⟩))) E ∧ Ext (· = b) w w' := by
  have hB := bkAt_some hi
  obtain ⟨a, c, e1, e2, e3⟩ := tcells_split h4 hB
  rw [e1] at hb
  have h5 := h4 i _ hB
  have hj' : j < (bkAt bks i).length := by omega
  have := bSwap_spec b a c E (bkAt bks i) j p v w h5 hj' (ht _ (List.getElem_mem hj')) hb
  rw [Nat.zero_add, ← e2]
  refine Ret.mono this fun r w' h => ?_
  have hg : (bkAt bks i).getD j noPl = (bkAt bks i)[j] := by rw [List.getD_eq_getElem?_getD, List.getElem?_eq_getElem hj']; rfl
  rw [hg, e3]; exact h
theorem bAllAt : Ret Try.prog 103 #[.pointer (some ⟨b, 0 + i * 20, none⟩)] w fun v w' => w'.ownsRow w.heap.size 45 4 v (Ball (bkAt bks i)).length ((Ball (bkAt bks i)).flatMap Rt.cells) ∧ Ext No w w' := by
  have hB := bkAt_some hi
  obtain ⟨a, c, e1, e2, e3⟩ := tcells_split h4 hB
  rw [e1] at hb
  rw [Nat.zero_add, ← e2]
  exact bAll_spec b _ (bkAt bks i) w (h4 i _ hB) hb.mid
end

/-- A table in memory, its blocks among those of F. -/
def TabAt (w : World) (t : Nat) (T : Tab) (F : Nat → Prop) : Prop :=
  ∃ b v, Blk w.heap t [U T.seed, .slice (some ⟨b, 0, none⟩) T.n T.n, v] 90 ∧ Blk w.heap b (tcells T.bks) 98 ∧ w.ownsRow 0 45 4 v T.stash.length (T.stash.flatMap Rt.cells) ∧
    t ≠ b ∧ v.ownBlock ≠ some t ∧ v.ownBlock ≠ some b ∧ F t ∧ F b ∧ ∀ k, v.ownBlock = some k → F k

theorem TabAt.mono {w : World} {t : Nat} {T : Tab} {F F' : Nat → Prop} (h : TabAt w t T F) (hf : ∀ k, F k → F' k) : TabAt w t T F' := by
  obtain ⟨b, v, h1, h2, h3, h4, h5, h6, h7, h8, h9⟩ := h
  exact ⟨b, v, h1, h2, h3, h4, h5, h6, hf _ h7, hf _ h8, fun k hk => hf _ (h9 k hk)⟩
theorem TabAt.ext {w w' : World} {t : Nat} {T : Tab} {F S : Nat → Prop} (h : TabAt w t T F) (he : Ext S w w') (hS : ∀ k, k < w.heap.size → F k → ¬ S k) : TabAt w' t T F := by
  obtain ⟨b, v, h1, h2, h3, h4, h5, h6, h7, h8, h9⟩ := h
  exact ⟨b, v, he.blk h1 (hS _ h1.lt h7), he.blk h2 (hS _ h2.lt h8), h3.ext he fun k hk => hS k (own_lt h3 hk) (h9 k hk), h4, h5, h6, h7, h8, h9⟩

theorem two_spec (t : Nat) (T : Tab) (F : Nat → Prop) (p : Pfx) (w : World) (h : TabAt w t T F) (h1 : 1 ≤ T.n) (h2 : T.n ≤ 65536) :
    Ret Try.prog 54 #[.pointer (some ⟨t, 0, none⟩), p.val] w fun v w' => v = .tuple #[.int .i64 (ix1 T.seed T.n p), .int .i64 (ix2 T.seed T.n p)] ∧ Ext No w w' := by
  obtain ⟨b, v, ht, _⟩ := h
  have e1 : ((ix1 T.seed T.n p : Nat) : Int) = bk1 T.seed p T.n := by
    have := reduce_range (mix (hash T.seed p ^^^ 1#64)) T.n (by omega) (by omega)
    unfold ix1 bk1; omega
  have e2 : ((ix2 T.seed T.n p : Nat) : Int) = bk2 T.seed p T.n := by
    have := reduce_range (mix (hash T.seed p ^^^ 2#64)) T.n (by omega) (by omega)
    unfold ix2 bk2; omega
  rw [e1, e2]
  refine calls_ev (args := [_, _]) mixed Try.func54 ok_54 rfl ?_
  refine bx (cs := _) rfl ?_
  intro w1 h1
  refine fa ?_
  refine ld1 ((h1.ext No |>.blk ht id).cell 0) ?_
  refine ldN (cs := p.cells) (rfl) (h1.blk.at_) ?_
  refine fa ?_
  refine ld1 ((h1.ext No |>.blk ht id).cell 1) ?_
  refine lenS ?_
  refine Ret.mono (pkBuckets_spec _ _ _ _) ?_
  rintro v2 w2 ⟨rfl, e3⟩
  exact And.intro rfl ((h1.ext No).trans e3)
theorem other_spec (t : Nat) (T : Tab) (F : Nat → Prop) (p : Pfx) (a : Nat) (w : World) (h : TabAt w t T F) (h1 : 1 ≤ T.n) (h2 : T.n ≤ 65536) :
    Ret Try.prog 57 #[.pointer (some ⟨t, 0, none⟩), p.val, .int .i64 a] w fun v w' => v = .int .i64 (otherF T.seed T.n p a) ∧ Ext No w w' := by
  refine calls_ev (args := [_, _, _]) mixed Try.func57 ok_57 rfl ?_
  refine bx (cs := _) rfl ?_
  intro w1 h1
  refine ldN (cs := p.cells) (rfl) (h1.blk.at_) ?_
  refine Ret.mono (two_spec t T F p _ (h.ext (h1.ext No) fun _ _ _ ↦ id) (by assumption) h2) ?_
  rintro v2 w2 ⟨rfl, e2⟩
  refine TestK.mk (fun h3 => ?_) (fun h3 => ?_)
  · skip
    exact And.intro (by unfold otherF; rw [if_pos (by omega)]; rfl) ((h1.ext No).trans e2)
  · skip
    exact And.intro (by unfold otherF; rw [if_neg (by omega)]; rfl) ((h1.ext No).trans e2)
theorem own_SlR {w : World} {base n : Nat} {v : Value} {l : List Rt} (h : w.ownsRow base 45 4 v n (l.flatMap Rt.cells)) : ∃ a c, v = .slice a l.length c ∧ SlR w.heap a l := by
  rcases own_cases h with ⟨rfl, rfl, he⟩ | ⟨g, cap, ys, rfl, _, hb, _, _, _, hl⟩
  · have := rcells_length l
    rw [he, List.length_nil] at this
    obtain rfl : l = [] := List.eq_nil_of_length_eq_zero (by omega)
    exact ⟨none, 0, rfl, .inl rfl⟩
  · rw [rcells_length] at hl
    exact ⟨some ⟨g, 0, none⟩, cap, by rw [show l.length = n by omega], .inr ⟨g, 0, rfl, hb.part ⟨ys, rfl⟩⟩⟩
theorem SlR.ext {S : Nat → Prop} {w w' : World} {a : Option Addr} {l : List Rt} (h : SlR w.heap a l) (he : Ext S w w') (hS : ∀ b o, a = some ⟨b, o, none⟩ → ¬ S b) : SlR w'.heap a l := by
  rcases h with e | ⟨b, o, e, hat⟩
  · exact .inl e
  · exact .inr ⟨b, o, e, he.at_ hat (hS b o e)⟩
theorem bldRoute0 {p : Pfx} {K : Value → Prop} (hK : K (Rt.val ⟨p, 0⟩)) : PureSem Try.prog (Instr.build 45 #[(0, p.val)]) K :=
  PureSem.of _ (fun w => by kernel_rfl) hK
theorem hidden_spec (t : Nat) (T : Tab) (F : Nat → Prop) (p : Pfx) (w : World) (h : TabAt w t T F) (hs : SortedR T.stash) (hn : T.stash.length < 1000000) :
    Ret Try.prog 58 #[.pointer (some ⟨t, 0, none⟩), p.val] w fun v w' => v = .tuple #[.int .i64 (lowB T.stash p), .bool (atLow T.stash p)] ∧ Ext No w w' := by
  obtain ⟨b, v, ht, hb, hv, _⟩ := h
  obtain ⟨a, c, rfl, hsl⟩ := own_SlR hv
  refine calls_ev (args := [_, _]) mixed Try.func58 ok_58 rfl ?_
  refine bx (cs := _) rfl ?_
  intro w1 h1
  refine fa ?_
  refine ld1 ((h1.ext No |>.blk ht id).cell 2) ?_
  refine ldN (cs := p.cells) (rfl) (h1.blk.at_) ?_
  refine bldRoute0 ?_
  refine Ret.mono (BS_spec a c T.stash ⟨p, 0⟩ _ (hsl.ext (h1.ext No) fun _ _ _ ↦ id) hs (by omega)) ?_
  rintro v2 w2 ⟨rfl, e2⟩
  exact And.intro rfl ((h1.ext No).trans e2)

theorem bsInts2 {a b : Int} (w : World) : (Instr.buildSlice 23 2 #[(0, .int .i64 a), (1, .int .i64 b)]).run Try.prog w =
    .ok (.slice (some ⟨w.heap.size, 0, none⟩) 2 2) (w.alloc (.cells ([.int .i64 a, .int .i64 b] : List Value).toArray 3)) := by kernel_rfl
theorem hop_set {l : List Rt} {i : Nat} (hi : i < l.length) {r : Rt} (e : l[i].p = r.p) (ys : List Value) : splice (l.flatMap Rt.cells ++ ys) (0 + i * 4 + 3) [.int .i64 r.hop] = (l.set i r).flatMap Rt.cells ++ ys := by
  obtain ⟨L, R, e1, e2⟩ : ∃ L R : List Value, l.flatMap Rt.cells = L ++ l[i].cells ++ R ∧ (l.set i r).flatMap Rt.cells = L ++ r.cells ++ R ∧ L.length = i * 4 := by
    have key := split_at Rt.cells l i hi
    refine ⟨(l.take i).flatMap Rt.cells, (l.drop (i + 1)).flatMap Rt.cells, ?_, key r, by rw [rcells_length, List.length_take, Nat.min_eq_left (by omega)]⟩
    have := key l[i]
    rwa [List.set_getElem_self] at this
  rw [e1, e2.1]
  generalize l[i] = o at *
  rcases o with ⟨op, oh⟩
  rcases r with ⟨rp, rh⟩
  cases e
  show (L ++ _ ++ R ++ ys).set (0 + i * 4 + 3) _ = _
  rw [List.append_assoc, List.append_assoc, List.set_append_right _ _ (by omega), show 0 + i * 4 + 3 - L.length = 3 by omega]
  simp [Rt.cells]

theorem TabAt.put {w w' : World} {t b E : Nat} {T : Tab} {F : Nat → Prop} {v : Value} {bks' : List (List Pl)} (ht : Blk w.heap t [U T.seed, .slice (some ⟨b, 0, none⟩) T.n T.n, v] 90)
    (hv : w.ownsRow 0 45 4 v T.stash.length (T.stash.flatMap Rt.cells)) (h4 : t ≠ b) (h5 : v.ownBlock ≠ some t) (h6 : v.ownBlock ≠ some b) (h7 : F t) (h8 : F b) (h9 : ∀ k, v.ownBlock = some k → F k)
    (he : Ext (· = b) w w') (hb : Blk w'.heap b (tcells bks') E) (hE : E = 98) (hl : bks'.length = T.n) : TabAt w' t ⟨T.seed, bks', T.stash⟩ F := by
  subst hE
  refine ⟨b, v, ?_, hb, hv.ext he fun k hk e => h6 (by rw [hk, e]), h4, h5, h6, h7, h8, h9⟩
  have := he.blk ht h4
  show Blk w'.heap t [U T.seed, .slice (some ⟨b, 0, none⟩) bks'.length bks'.length, v] _
  rw [hl]; exact this

theorem replace_spec (t : Nat) (T : Tab) (F : Nat → Prop) (p : Pfx) (v : Int) (w : World) (h : TabAt w t T F) (hok : Ok T) (hn : T.stash.length < 1000000) :
    Ret Try.prog 53 #[.pointer (some ⟨t, 0, none⟩), p.val, .int .i64 v] w fun r w' =>
      (∃ T', replF T ⟨p, v⟩ = some T' ∧ r = .bool true ∧ TabAt w' t T' F ∧ Ext F w w') ∨ (replF T ⟨p, v⟩ = none ∧ r = .bool false ∧ Ext No w w') := by
  have h0 := h
  obtain ⟨b, sv, ht, hb, hv, n1, n2, n3, f1, f2, f3⟩ := h
  have h4 := hok.b.four
  refine calls_ev (args := [_, _, _]) mixed Try.func53 ok_53 rfl ?_
  refine bx (cs := _) rfl ?_
  intro w1 h1
  refine ldN (cs := p.cells) (rfl) (h1.blk.at_) ?_
  refine Ret.mono (two_spec t T F p _ (h0.ext (h1.ext No) fun _ _ _ ↦ id) hok.b.n1 hok.b.n2) ?_
  rintro v2 w2 ⟨rfl, e2⟩
  refine bs (cs := _) bsInts2 ?_
  intro w3 h3
  have e3 : Ext No w w3 := ((h1.ext No).trans e2).trans (h3.ext No)
  have hp3 : Blk w3.heap w.heap.size p.cells 35 := (e2.trans (h3.ext No)).blk h1.blk id
  have hi3 : Blk w3.heap w2.heap.size [.int .i64 (ix1 T.seed T.n p), .int .i64 (ix2 T.seed T.n p)] 3 := h3.blk
  refine lenS ?_
  refine loop [0, 2, 4, 23, 24, 25] (fun k vs w' => ∃ i : Nat, i ≤ 2 ∧ k = 2 - i ∧ vs = [.pointer (some ⟨t, 0, none⟩), .int .i64 v, .pointer (some ⟨w.heap.size, 0, none⟩), .slice (some ⟨w2.heap.size, 0, none⟩) 2 2, .int .i64 2, .int .i64 i] ∧
    (1 ≤ i → ¬ (Bget (bkAt T.bks (ix1 T.seed T.n p)) p).isSome = true) ∧ (2 ≤ i → ¬ (Bget (bkAt T.bks (ix2 T.seed T.n p)) p).isSome = true) ∧ Ext No w3 w') 2 _ rfl ⟨0, by omega, rfl, rfl, by omega, by omega, Ext.refl _ _⟩ ?_
  rintro k vs w4 ⟨i, hi, rfl, rfl, hg1, hg2, he⟩
  have e4 : Ext No w w4 := e3.trans he
  refine TestK.mk (fun hlt => ?_) (fun hlt => ?_)
  · skip
    obtain ⟨a, hx, ha, hr⟩ : ∃ a : Nat, ([.int .i64 (ix1 T.seed T.n p), .int .i64 (ix2 T.seed T.n p)] : List Value)[i]? = some (.int .i64 a) ∧ a < T.bks.length ∧
        ((i = 0 ∧ a = ix1 T.seed T.n p) ∨ (i = 1 ∧ a = ix2 T.seed T.n p)) := by
      rcases (show i = 0 ∨ i = 1 by omega) with rfl | rfl
      · exact ⟨_, rfl, hok.i1 p, .inl ⟨rfl, rfl⟩⟩
      · exact ⟨_, rfl, hok.i2 p, .inr ⟨rfl, rfl⟩⟩
    refine iaS1 (i) (rfl) (by omega) ?_
    refine ld1 ((he.blk hi3 id).cell (0 + i) |>.trans (by rw [Nat.zero_add]; exact hx)) ?_
    refine fa ?_
    refine ld1 ((e4.blk ht id).cell 1) ?_
    refine iaS a rfl ha ?_
    refine ldN (cs := p.cells) (rfl) ((he.blk hp3 id).at_) ?_
    refine Ret.mono (bGetAt (w := w4.drew) h4 ha (e4.blk hb id) p) ?_
    rintro v5 w5 ⟨hres, e5⟩
    have e5' := e4.trans e5
    rcases hres with ⟨hop, hget, rfl⟩ | ⟨hget, rfl⟩
    · skip
      refine fa ?_
      refine ld1 ((e5'.blk ht id).cell 1) ?_
      refine iaS a rfl ha ?_
      refine ldN (cs := p.cells) (rfl) (((he.trans e5).blk hp3 id).at_) ?_
      refine Ret.mono (bPutAt (w := w5.drew) h4 ha (e5'.blk hb id) p v) ?_
      rintro v6 w6 hres
      have hs : (Bget (bkAt T.bks a) p).isSome = true := by rw [hget]; rfl
      rcases hres with ⟨B', hput, rfl, hb6, e6⟩ | ⟨hput, _⟩
      · skip
        exact Or.inl ⟨T.setBk a B', by
          unfold replF
          rcases hr with ⟨rfl, rfl⟩ | ⟨rfl, rfl⟩
          · rw [if_pos hs, hput]; rfl
          · rw [if_neg (hg1 (by omega)), if_pos hs, hput]; rfl, rfl, TabAt.put (e5'.blk ht id) (hv.ext e5' fun _ _ ↦ id) n1 n2 n3 f1 f2 f3 e6 hb6 rfl List.length_set, e5'.of_no.andThen e6 fun k _ e ↦ by rw [e]; exact f2⟩
      · exfalso
        obtain ⟨B', hB', _⟩ := Bput_isSome (r := ⟨p, v⟩) hs
        rw [hput] at hB'; cases hB'
    · skip
      refine add64 (by omega) (by omega) ?_
      refine again (2 - (i + 1)) (by omega) _ rfl ⟨i + 1, by omega, rfl, rfl, fun _ => ?_, fun _ => ?_, he.trans e5⟩
      · rcases hr with ⟨rfl, rfl⟩ | ⟨rfl, rfl⟩
        · rw [hget]; simp
        · exact hg1 (by omega)
      · rcases hr with ⟨rfl, rfl⟩ | ⟨rfl, rfl⟩
        · omega
        · rw [hget]; simp
  · skip
    refine ldN (cs := p.cells) (rfl) ((he.blk hp3 id).at_) ?_
    refine Ret.mono (hidden_spec t T F p _ (h0.ext e4 fun _ _ _ ↦ id) hok.sorted hn) ?_
    rintro v5 w5 ⟨rfl, e5⟩
    have e5' := e4.trans e5
    have hr : replF T ⟨p, v⟩ = if atLow T.stash p = true then some ⟨T.seed, T.bks, T.stash.set (lowB T.stash p) ⟨p, v⟩⟩ else none := by
      unfold replF
      rw [if_neg (hg1 (by omega)), if_neg (hg2 (by omega))]
    refine ifB (fun hat => ?_) (fun hat => ?_)
    · skip
      obtain ⟨hi, e⟩ := atLow_some hat
      rcases own_cases (hv.ext e5' fun _ _ => id) with ⟨rfl, hl, _⟩ | ⟨g, cap, ys, rfl, hbg, hg, hcap, hmax, hsz, hlen⟩
      · omega
      · skip
        refine fa ?_
        refine ld1 ((e5'.blk ht id).cell 2) ?_
        refine iaS (lowB T.stash p) (rfl) (by omega) ?_
        refine fa ?_
        refine stN (vs := [.int .i64 v]) rfl rfl rfl (hg) (by rw [List.length_append, rcells_length]; show 0 + lowB T.stash p * 4 + 3 + 1 ≤ _; omega) ?_
        intro w6 h6
        have hb6 := h6.blk
        rw [hop_set hi (r := ⟨p, v⟩) e] at hb6
        have e6 : Ext (· = g) w5 w6 := h6.ext fun _ => rfl
        have n2' : t ≠ g := fun e => n2 (by rw [e]; rfl)
        have n3' : b ≠ g := fun e => n3 (by rw [e]; rfl)
        rw [rcells_length] at hsz
        have hv6 : w6.ownsRow 0 45 4 (.slice (some ⟨g, 0, none⟩) T.stash.length cap) (T.stash.set (lowB T.stash p) ⟨p, v⟩).length ((T.stash.set (lowB T.stash p) ⟨p, v⟩).flatMap Rt.cells) := by
          rw [List.length_set]
          exact own_of hbg hb6 hcap hmax (by rw [rcells_length, List.length_set]; exact hsz) (by rw [rcells_length, List.length_set])
        have hT : TabAt w6 t ⟨T.seed, T.bks, T.stash.set (lowB T.stash p) ⟨p, v⟩⟩ F := ⟨b, _, e6.blk (e5'.blk ht id) n2', e6.blk (e5'.blk hb id) n3', hv6, n1, n2, n3, f1, f2, f3⟩
        have hE : Ext F w w6 := e5'.of_no.andThen e6 fun k _ e => by rw [e]; exact f3 g rfl
        rw [if_pos hat] at hr
        exact Or.inl ⟨_, hr, congrArg Value.bool hat, hT, hE⟩
    · skip
      rw [if_neg (by rw [hat]; simp)] at hr
      exact Or.inr ⟨hr, congrArg Value.bool hat, e5'⟩

theorem bcont_take (bks : List (List Pl)) (i : Nat) (h : i < bks.length) : bcont (bks.take (i + 1)) = bcont (bks.take i) ++ Ball (bkAt bks i) := by
  have e : bkAt bks i = bks[i] := by unfold bkAt; rw [List.getD_eq_getElem?_getD, List.getElem?_eq_getElem h]; rfl
  unfold bcont
  rw [List.take_succ_eq_append_getElem h, List.flatMap_append, e]; simp
theorem bcont_le (bks : List (List Pl)) (i : Nat) : (bcont (bks.take i)).length ≤ (bcont bks).length := by
  have := congrArg (fun l => (bcont l).length) (List.take_append_drop i bks)
  simp only [bcont, List.flatMap_append, List.length_append] at this ⊢
  omega

theorem keys_spec (t : Nat) (T : Tab) (F : Nat → Prop) (w : World) (h : TabAt w t T F) (h4 : ∀ (i : Nat) (B : List Pl), T.bks[i]? = some B → B.length = 4) (hn2 : T.n ≤ 65536) (hn : T.cont.length < 1000000) :
    Ret Try.prog 62 #[.pointer (some ⟨t, 0, none⟩)] w fun v w' => w'.ownsRow w.heap.size 45 4 v T.cont.length (T.cont.flatMap Rt.cells) ∧ Ext No w w' := by
  obtain ⟨b, sv, ht, hb, hv, _⟩ := h
  refine calls_ev (args := [_]) mixed Try.func62 ok_62 rfl ?_
  refine fa ?_
  refine ld1 (ht.cell 1) ?_
  refine lenS ?_
  refine loop [0, 3, 9, 10] (fun k vs w' => ∃ (i : Nat) (v : Value), i ≤ T.n ∧ k = T.n - i ∧ vs = [.pointer (some ⟨t, 0, none⟩), v, .int .i64 T.n, .int .i64 i] ∧
    w'.ownsRow w.heap.size 45 4 v (bcont (T.bks.take i)).length ((bcont (T.bks.take i)).flatMap Rt.cells) ∧ Ext No w w') T.n _ rfl ⟨0, _, by omega, rfl, rfl, World.ownsRow_nil _ _ _ _, Ext.refl _ _⟩ ?_
  rintro k vs w2 ⟨i, v, hi, rfl, rfl, hown, he⟩
  have hcl : T.cont.length = (bcont T.bks).length + T.stash.length := List.length_append
  refine TestK.mk (fun hlt => ?_) (fun hlt => ?_)
  · skip
    have hi' : i < T.bks.length := show i < T.n by omega
    have hle := bcont_le T.bks (i + 1)
    rw [bcont_take _ _ hi', List.length_append] at hle
    refine fa ?_
    refine ld1 ((he.blk ht id).cell 1) ?_
    refine iaS i rfl hi' ?_
    refine Ret.mono (bAllAt h4 hi' (he.blk hb id)) ?_
    rintro x w3 ⟨hx, e3⟩
    refine apR (hown.ext e3 fun _ _ => id) hx (rcells_one _) (by omega) (by decide) (Nat.le_trans he.size e3.size) ?_
    intro v' w4 hown4 e4
    refine add64 (by omega) (by omega) ?_
    refine again (T.n - (i + 1)) (by omega) _ rfl ⟨i + 1, v', by omega, rfl, rfl, ?_, (he.trans e3).andThen e4 fun k hk e => by have := (hown.lt k e).1; omega⟩
    rw [bcont_take _ _ hi', List.length_append, List.flatMap_append]; exact hown4
  · skip
    have hT : T.bks.take i = T.bks := List.take_of_length_le (show T.n ≤ i by omega)
    rw [hT] at hown
    refine fa ?_
    refine ld1 ((he.blk ht id).cell 2) ?_
    refine apR hown (hv.ext he fun _ _ => id) (rcells_one _) (by omega) (by decide) he.size ?_
    intro v' w4 hown4 e4
    refine And.intro ?_ (he.andThen e4 fun k hk e => by have := (hown.lt k e).1; omega)
    rw [hcl, Tab.cont, List.flatMap_append]; exact hown4

theorem Len_spec (t : Nat) (T : Tab) (F : Nat → Prop) (w : World) (h : TabAt w t T F) (h4 : ∀ (i : Nat) (B : List Pl), T.bks[i]? = some B → B.length = 4) (hn2 : T.n ≤ 65536) (hn : T.cont.length < 1000000) :
    Ret Try.prog 17 #[.pointer (some ⟨t, 0, none⟩)] w fun v w' => v = .int .i64 T.cont.length ∧ Ext No w w' := by
  refine calls_ev (args := [_]) mixed Try.func17 ok_17 rfl ?_
  refine eqNil ?_
  refine Ret.mono (keys_spec t T F _ h h4 hn2 hn) ?_
  rintro v2 w2 ⟨hown, e2⟩
  obtain ⟨a, c, rfl, _⟩ := own_SlR hown
  refine lenS ?_
  exact And.intro rfl e2

theorem Size_spec (t : Nat) (T : Tab) (F : Nat → Prop) (w : World) (h : TabAt w t T F) :
    Ret Try.prog 15 #[.pointer (some ⟨t, 0, none⟩)] w fun v w' => v = .tuple #[U T.seed, .int .i64 T.n, .int .i64 T.stash.length] ∧ Ext No w w' := by
  obtain ⟨b, sv, ht, hb, hv, _⟩ := h
  obtain ⟨a, c, rfl, _⟩ := own_SlR hv
  refine calls_ev (args := [_]) mixed Try.func15 ok_15 rfl ?_
  refine eqNil ?_
  refine fa ?_
  refine ld1 (ht.cell 0) ?_
  refine fa ?_
  refine ld1 (ht.cell 1) ?_
  refine lenS ?_
  refine fa ?_
  refine ld1 (ht.cell 2) ?_
  refine lenS ?_
  exact And.intro rfl (Ext.refl _ _)

theorem bsInts1 {a : Int} (w : World) : (Instr.buildSlice 23 1 #[(0, .int .i64 a)]).run Try.prog w =
    .ok (.slice (some ⟨w.heap.size, 0, none⟩) 1 1) (w.alloc (.cells ([.int .i64 a] : List Value).toArray 3)) := by kernel_rfl

theorem iaSe {P : Program} {T E : TypeId} {len cap size b o : Nat} {a : Option Addr} {z : Int} {K : Value → Prop} [h : Sl P T E size] (i : Nat) (ha : a = some ⟨b, o, none⟩) (hz : z = i) (hi : i < len) (hK : K (.pointer (some ⟨b, o + i * size, none⟩))) :
    PureSem P (Instr.indexAt T (.slice a len cap) (.int .i64 z)) K := by
  subst ha; exact iaS i hz hi hK
/-- What Get yields: the hop, is it there, and the buckets it has looked into. -/
def getSeen (T : Tab) (p : Pfx) : List Nat := if (Bget (bkAt T.bks (ix1 T.seed T.n p)) p).isSome = true then [ix1 T.seed T.n p] else [ix1 T.seed T.n p, ix2 T.seed T.n p]
attribute [irreducible] getSeen
theorem Get_spec (t : Nat) (T : Tab) (F : Nat → Prop) (p : Pfx) (w : World) (h : TabAt w t T F) (hok : Ok T) (hn : T.stash.length < 1000000) :
    Ret Try.prog 16 #[.pointer (some ⟨t, 0, none⟩), p.val] w fun v w' =>
      ∃ g, v = .tuple #[.int .i64 ((getF T p).getD 0), .bool (getF T p).isSome, .slice (some ⟨g, 0, none⟩) (getSeen T p).length (getSeen T p).length] ∧ w.heap.size ≤ g ∧ Blk w'.heap g ((getSeen T p).map fun i : Nat => Value.int .i64 i) 3 ∧ Ext No w w' := by
  have h0 := h
  obtain ⟨b, sv, ht, hb, hv, n1, n2, n3, f1, f2, f3⟩ := h
  have h4 := hok.b.four
  obtain ⟨sa, sc, rfl, hsl⟩ := own_SlR hv
  refine calls_ev (args := [_, _]) mixed Try.func16 ok_16 rfl ?_
  refine bx (cs := _) rfl ?_
  intro w1 h1
  refine eqNil ?_
  refine ldN (cs := p.cells) (rfl) (h1.blk.at_) ?_
  refine Ret.mono (two_spec t T F p _ (h0.ext (h1.ext No) fun _ _ _ ↦ id) hok.b.n1 hok.b.n2) ?_
  rintro v2 w2 ⟨rfl, e2⟩
  have e2' : Ext No w w2 := (h1.ext No).trans e2
  have hp2 : Blk w2.heap w.heap.size p.cells 35 := e2.blk h1.blk id
  refine fa ?_
  refine ld1 ((e2'.blk ht id).cell 1) ?_
  refine iaS (ix1 T.seed T.n p) rfl (hok.i1 p) ?_
  refine ldN (cs := p.cells) (rfl) (hp2.at_) ?_
  refine Ret.mono (bGetAt (w := w2.drew) h4 (hok.i1 p) (e2'.blk hb id) p) ?_
  rintro v3 w3 ⟨hres, e3⟩
  have e3' := e2'.trans e3
  have hs3 := e3'.size
  rcases hres with ⟨hop, hget, rfl⟩ | ⟨hget, rfl⟩
  · skip
    refine bs (cs := _) bsInts1 ?_
    intro w4 h4'
    have hs : getSeen T p = [ix1 T.seed T.n p] := by unfold getSeen; rw [hget]; rfl
    have hg : getF T p = some hop := by unfold getF; rw [hget]
    refine ⟨w3.heap.size, ?_, hs3, ?_, e3'.trans (h4'.ext No)⟩
    · rw [hs, hg]; rfl
    · rw [hs]; exact h4'.blk
  · skip
    refine bs (cs := _) bsInts2 ?_
    intro w4 h4'
    have hs : getSeen T p = [ix1 T.seed T.n p, ix2 T.seed T.n p] := by unfold getSeen; rw [hget]; rfl
    have e4 := e3'.trans (h4'.ext No)
    have hp4 : Blk w4.heap w.heap.size p.cells 35 := (e3.trans (h4'.ext No)).blk hp2 id
    have hb4 : Blk w4.heap w3.heap.size ((getSeen T p).map fun i : Nat => Value.int .i64 i) 3 := by rw [hs]; exact h4'.blk
    refine fa ?_
    refine ld1 ((e4.blk ht id).cell 1) ?_
    refine iaS (ix2 T.seed T.n p) rfl (hok.i2 p) ?_
    refine ldN (cs := p.cells) (rfl) (hp4.at_) ?_
    refine Ret.mono (bGetAt (w := w4.drew) h4 (hok.i2 p) (e4.blk hb id) p) ?_
    rintro v5 w5 ⟨hres, e5⟩
    have e5' := e4.trans e5
    have hl : (getSeen T p).length = 2 := by rw [hs]; rfl
    rcases hres with ⟨hop, hget2, rfl⟩ | ⟨hget2, rfl⟩
    · skip
      have hg : getF T p = some hop := by unfold getF; rw [hget]; simp only; rw [hget2]
      refine ⟨w3.heap.size, ?_, hs3, e5.blk hb4 id, e5'⟩
      rw [hg, hl]; rfl
    · skip
      refine ldN (cs := p.cells) (rfl) ((e5.blk hp4 id).at_) ?_
      refine Ret.mono (hidden_spec t T F p _ (h0.ext e5' fun _ _ _ ↦ id) hok.sorted hn) ?_
      rintro v6 w6 ⟨rfl, e6⟩
      have e6' := e5'.trans e6
      have hg : getF T p = if atLow T.stash p = true then (T.stash[lowB T.stash p]?).map (·.hop) else none := by unfold getF; rw [hget]; simp only; rw [hget2]
      refine ifB (fun hat => ?_) (fun hat => ?_)
      · skip
        refine Exists.elim (atLow_some hat) fun hi _ => ?_
        refine Or.elim (hsl.ext e6' fun _ _ _ => id) (fun e => absurd hi (by rw [e]; exact Nat.not_lt_zero _)) fun q => ?_
        refine Exists.elim q fun b' q => ?_
        refine Exists.elim q fun o' q => ?_
        refine fa ?_
        refine ld1 ((e6'.blk ht id).cell 2) ?_
        refine iaSe (lowB T.stash p) q.1 rfl hi ?_
        refine fa ?_
        refine ld1 (v := .int .i64 T.stash[lowB T.stash p].hop) ((q.2.sub (rcells_part T.stash _ hi)).cell (k := 3) rfl) ?_
        refine ⟨w3.heap.size, ?_, hs3, (e5.trans e6).blk hb4 id, e6'⟩
        rw [hg, hl, if_pos hat, List.getElem?_eq_getElem hi]; rfl
      · skip
        refine ⟨w3.heap.size, ?_, hs3, (e5.trans e6).blk hb4 id, e6'⟩
        rw [hg, hl, if_neg (by rw [hat]; simp)]; rfl
end Go.Fl
