/-
  Chapter 11: the given program's buckets: what 'find' answers.
-/
import Derived.Test.YtoenjjlicglceaaB0
import Derived.Test.YtoenjjlicglceaaB1
namespace Go.Fl
open Go.Proofs
set_option maxHeartbeats 400000
set_option maxRecDepth 100000

theorem natU (a b : BitVec 64) : ((a.toNat : Int) = b.toNat) = (a = b) := by
  refine propext ⟨fun h => BitVec.eq_of_toNat_eq (by omega), fun h => by rw [h]⟩
theorem eqPfx_run (p q : Pfx) (x y : Operand) (w : World) : (do eqGuard .eql 35 x y p.val q.val; binOp .eql 35 p.val q.val : Sem Value).run Try.prog w = .ok (.bool (decide (p = q))) w := by
  have h1 : Try.prog.eqGuardType Try.prog.depth 35 = false := by kernel_rfl
  have h2 : Try.prog.stoodInHeld 35 = false := by kernel_rfl
  have h3 : Try.prog.stoodInHeld 33 = false := by kernel_rfl
  simp [go_sem, h1, h2, h3]
  rcases p with ⟨a, b, c⟩
  rcases q with ⟨a', b', c'⟩
  by_cases e1 : a = a' <;> by_cases e2 : b = b' <;> by_cases e3 : c = c' <;> simp [e1, e2, e3, natU]
theorem eqPfx {p q : Pfx} {x y : Operand} {K : Value → Prop} (ht : p = q → K (.bool true)) (hf : ¬ p = q → K (.bool false)) :
    PureSem Try.prog (do eqGuard .eql 35 x y p.val q.val; binOp .eql 35 p.val q.val) K := by
  refine PureSem.of _ (eqPfx_run p q x y) ?_
  by_cases h : p = q
  · rw [decide_eq_true h]; exact ht h
  · rw [decide_eq_false h]; exact hf h

theorem find_spec (b o : Nat) (B : List Pl) (p : Pfx) (w : World) (hB : B.length = 4) (hat : At w.heap b o (bcells B)) :
    Ret Try.prog 99 #[.pointer (some ⟨b, o, none⟩), p.val] w fun v w' => v = .int .i64 (ofFind (Bfind B p)) ∧ Ext No w w' := by
  refine calls_ev (args := [_, _]) mixed Try.func99 ok_99 rfl ?_
  refine bx (cs := _) rfl ?_
  intro w1 h1
  refine eqNil ?_
  refine fa ?_
  refine ldN (cs := bcells B) (by rw [bcells_length, hB]) ((h1.ext No).at_ hat id) ?_
  refine loop [3, 12, 13] (fun k vs w' => ∃ i : Nat, i ≤ 4 ∧ k = 4 - i ∧ vs = [.pointer (some ⟨w.heap.size, 0, none⟩), .agg (bcells B).toArray, .int .i64 i] ∧
    (∀ j (h : j < B.length), j < i → isKey p B[j] = false) ∧ Ext No w w' ∧ At w'.heap w.heap.size 0 p.cells) 4 _ rfl ⟨0, by omega, rfl, rfl, by omega, h1.ext No, h1.blk.at_⟩ ?_
  rintro k vs w2 ⟨i, hi, rfl, rfl, hno, he, hp⟩
  refine TestK.mk (fun hlt => ?_) (fun hlt => ?_)
  · skip
    have hi4 : i < B.length := by omega
    refine ixN (i) (rfl) (by omega) ?_
    rw [bcells_part B i hi4]
    refine al (cs := _) rfl ?_
    intro w3 h3
    refine stN (vs := B[i].cells) rfl rfl rfl (h3.blk) (Nat.le_refl _) ?_
    intro w4 h4
    have hb4 : Blk w4.heap w2.heap.size B[i].cells 95 := h4.blk
    have e4 : Ext No w w4 := he.andThen (h3.ext No) (fun _ _ h => h) |>.andThen (h4.ext (S := (· = w2.heap.size)) fun _ => rfl) fun k hk e => by have := he.size; omega
    have hp4 : At w4.heap w.heap.size 0 p.cells := (h4.ext (S := (· = w2.heap.size)) fun _ => rfl).at_ ((h3.ext No).at_ hp id) fun e => by have := hcell_lt (hp 0 _ rfl); omega
    have hx4 : ∀ k v, B[i].cells[k]? = some v → hcell w4.heap w2.heap.size k = some v := fun k v hk => by rw [hb4.cell]; exact hk
    cases hth : B[i].there with
    | false =>
      refine fa ?_
      refine ld1 (v := .bool false) (hx4 0 _ (by rw [Pl.cells, hth]; rfl)) ?_
      refine add64 (by omega) (by omega) ?_
      refine again (4 - (i + 1)) (by omega) _ rfl ⟨i + 1, by omega, rfl, rfl, ?_, e4, hp4⟩
      intro j hj hji
      rcases Nat.lt_or_ge j i with h | h
      · exact hno j hj h
      · obtain rfl : j = i := by omega
        simp [isKey, hth]
    | true =>
      refine fa ?_
      refine ld1 (v := .bool true) (hx4 0 _ (by rw [Pl.cells, hth]; rfl)) ?_
      refine fa ?_
      refine fa ?_
      refine ldN (cs := B[i].r.p.cells) (rfl) (hb4.part ⟨[.int .i64 B[i].r.hop], rfl⟩) ?_
      refine ldN (cs := p.cells) (rfl) (hp4) ?_
      refine eqPfx (fun heq => ?_) (fun heq => ?_)
      · skip
        have : Bfind B p = some i := firstI_at _ B i hi4 hno (by simp [isKey, hth, heq])
        exact And.intro (by rw [this]; rfl) e4
      · skip
        refine add64 (by omega) (by omega) ?_
        refine again (4 - (i + 1)) (by omega) _ rfl ⟨i + 1, by omega, rfl, rfl, ?_, e4, hp4⟩
        intro j hj hji
        rcases Nat.lt_or_ge j i with h | h
        · exact hno j hj h
        · obtain rfl : j = i := by omega
          simp [isKey, heq]
  · skip
    have hi4 : i = B.length := by omega
    have : Bfind B p = none := firstI_none _ B i hi4 hno
    exact And.intro (by rw [this]; rfl) he

theorem bldRoute {p : Pfx} {v : Int} {K : Value → Prop} (hK : K (Rt.val ⟨p, v⟩)) : PureSem Try.prog (Instr.build 45 #[(0, p.val), (1, .int .i64 v)]) K :=
  PureSem.of _ (fun w => by kernel_rfl) hK
theorem bldPlace {t : Bool} {r : Rt} {K : Value → Prop} (hK : K (.agg (Pl.cells ⟨t, r⟩).toArray)) : PureSem Try.prog (Instr.build 95 #[(0, .bool t), (1, r.val)]) K :=
  PureSem.of _ (fun w => by kernel_rfl) hK

/-- A bucket in the midst of a block. -/
theorem bPut_spec (b : Nat) (a c : List Value) (T : TypeId) (B : List Pl) (p : Pfx) (v : Int) (w : World) (hB : B.length = 4) (hb : Blk w.heap b (a ++ bcells B ++ c) T) :
    Ret Try.prog 55 #[.pointer (some ⟨b, a.length, none⟩), p.val, .int .i64 v] w fun r w' =>
      (∃ B', Bput B ⟨p, v⟩ = some B' ∧ r = .bool true ∧ Blk w'.heap b (a ++ bcells B' ++ c) T ∧ Ext (· = b) w w') ∨ (Bput B ⟨p, v⟩ = none ∧ r = .bool false ∧ Ext No w w') := by
  refine calls_ev (args := [_, _, _]) mixed Try.func55 ok_55 rfl ?_
  refine bx (cs := _) rfl ?_
  intro w1 h1
  refine eqNil ?_
  refine ldN (cs := p.cells) (rfl) (h1.blk.at_) ?_
  refine Ret.mono (find_spec b a.length B p w1 hB ((h1.ext No).at_ hb.mid id)) ?_
  rintro v2 w2 ⟨rfl, he2⟩
  have e2 : Ext No w w2 := (h1.ext No).trans he2
  refine loop [0, 2, 4, 7, 8] (fun n vs w' => ∃ (k : Nat) (z : Int), k ≤ 4 ∧ n = 4 - k ∧ vs = [.pointer (some ⟨b, a.length, none⟩), .int .i64 v, .pointer (some ⟨w.heap.size, 0, none⟩), .int .i64 z, .int .i64 k] ∧
    Ext No w w' ∧ At w'.heap w.heap.size 0 p.cells ∧ ((z = -1 ∧ Bfind B p = none ∧ ∀ j (h : j < B.length), j < k → B[j].there = true) ∨ ∃ j : Nat, z = j ∧ Bspot B p = some j)) 4 _ rfl
    ⟨0, ofFind (Bfind B p), by omega, by omega, rfl, e2, he2.at_ h1.blk.at_ id, by
      cases hf : Bfind B p with
      | none => exact .inl ⟨rfl, rfl, fun j _ hj => by omega⟩
      | some i => exact .inr ⟨i, rfl, by simp [Bspot, hf]⟩⟩ ?_
  rintro n vs w3 ⟨k, z, hk, rfl, rfl, e3, hp3, hz⟩
  have hb3 := e3.blk hb id
  have hbs : (bcells B).length = 20 := by rw [bcells_length, hB]
  rcases hz with ⟨hz1, hnf, hall⟩ | ⟨j, hz1, hj⟩
  · skip
    refine TestK.mk (fun hlt => ?_) (fun hlt => ?_)
    · skip
      refine TestK.mk (fun hz0 => ?_) (fun hz0 => ?_)
      · skip
        have hk4 : k < B.length := by omega
        refine fa ?_
        refine iaA (k) (rfl) (by omega) ?_
        have hat : At w3.heap b (a.length + 0 + k * 5) B[k].cells := hb3.mid.sub ⟨((bcells B).drop (k * 5)).drop 5, by rw [← bcells_part B k hk4]; exact List.take_append_drop _ _⟩
        cases hth : B[k].there with
        | true =>
          refine fa ?_
          refine ld1 (v := .bool true) (hat.cell (k := 0) (by rw [Pl.cells, hth]; rfl)) ?_
          refine add64 (by omega) (by omega) ?_
          refine again (4 - (k + 1)) (by omega) _ rfl ⟨k + 1, z, by omega, rfl, rfl, e3, hp3, .inl ⟨hz1, hnf, ?_⟩⟩
          intro i hi hik
          rcases Nat.lt_or_ge i k with h | h
          · exact hall i hi h
          · obtain rfl : i = k := by omega
            exact hth
        | false =>
          refine fa ?_
          refine ld1 (v := .bool false) (hat.cell (k := 0) (by rw [Pl.cells, hth]; rfl)) ?_
          refine add64 (by omega) (by omega) ?_
          refine again (4 - (k + 1)) (by omega) _ rfl ⟨k + 1, k, by omega, rfl, rfl, e3, hp3, .inr ⟨k, rfl, ?_⟩⟩
          unfold Bspot; rw [hnf]
          exact firstI_at _ B k hk4 (fun i hi hik => by simp [hall i hi hik]) (by simp [hth])
      · skip
        exact absurd hz0 (by omega)
    · skip
      refine TestK.mk (fun hneg => ?_) (fun hneg => ?_)
      · skip
        have hn : Bspot B p = none := by
          unfold Bspot; rw [hnf]
          exact firstI_none _ B k (by omega) (fun i hi hik => by simp [hall i hi hik])
        exact Or.inr ⟨by simp [Bput, hn], rfl, e3⟩
      · skip
        exact absurd hneg (by omega)
  · have hj4 := Bspot_lt hj
    refine TestK.mk (fun hlt => ?_) (fun hlt => ?_)
    · skip
      refine TestK.mk (fun hz0 => ?_) (fun hz0 => ?_)
      · skip
        exact absurd hz0 (by omega)
      · skip
        refine TestK.mk (fun hneg => ?_) (fun hneg => ?_)
        · skip
          exact absurd hneg (by omega)
        · skip
          refine ldN (cs := p.cells) (rfl) (hp3) ?_
          refine bldRoute ?_
          refine bldPlace ?_
          refine fa ?_
          refine iaA (j) (hz1) (by omega) ?_
          refine stN (vs := Pl.cells ⟨true, ⟨p, v⟩⟩) rfl rfl rfl (hb3) (by simp [hbs, Pl.cells]; omega) ?_
          intro w4 h4
          have hb4 : Blk w4.heap b (a ++ bcells (B.set j ⟨true, ⟨p, v⟩⟩) ++ c) T := by
            have := h4.blk
            rw [Nat.add_zero, bcells_set a c B j _ hj4] at this; exact this
          exact Or.inl ⟨_, by simp [Bput, hj], rfl, hb4, e3.of_no.andThen (h4.ext (S := (· = b)) fun _ => rfl) fun _ _ h => h⟩
    · skip
      refine TestK.mk (fun hneg => ?_) (fun hneg => ?_)
      · skip
        exact absurd hneg (by omega)
      · skip
        refine ldN (cs := p.cells) (rfl) (hp3) ?_
        refine bldRoute ?_
        refine bldPlace ?_
        refine fa ?_
        refine iaA (j) (hz1) (by omega) ?_
        refine stN (vs := Pl.cells ⟨true, ⟨p, v⟩⟩) rfl rfl rfl (hb3) (by simp [hbs, Pl.cells]; omega) ?_
        intro w4 h4
        have hb4 : Blk w4.heap b (a ++ bcells (B.set j ⟨true, ⟨p, v⟩⟩) ++ c) T := by
          have := h4.blk
          rw [Nat.add_zero, bcells_set a c B j _ hj4] at this; exact this
        exact Or.inl ⟨_, by simp [Bput, hj], rfl, hb4, e3.of_no.andThen (h4.ext (S := (· = b)) fun _ => rfl) fun _ _ h => h⟩

theorem bGet_spec (b o : Nat) (B : List Pl) (p : Pfx) (w : World) (hB : B.length = 4) (hat : At w.heap b o (bcells B)) :
    Ret Try.prog 61 #[.pointer (some ⟨b, o, none⟩), p.val] w fun v w' =>
      ((∃ h, Bget B p = some h ∧ v = .tuple #[.int .i64 h, .bool true]) ∨ (Bget B p = none ∧ v = .tuple #[.int .i64 0, .bool false])) ∧ Ext No w w' := by
  refine calls_ev (args := [_, _]) mixed Try.func61 ok_61 rfl ?_
  refine bx (cs := _) rfl ?_
  intro w1 h1
  refine ldN (cs := p.cells) (rfl) (h1.blk.at_) ?_
  refine Ret.mono (find_spec b o B p w1 hB ((h1.ext No).at_ hat id)) ?_
  rintro v2 w2 ⟨rfl, he2⟩
  have e2 : Ext No w w2 := (h1.ext No).trans he2
  refine TestK.mk (fun hlt => ?_) (fun hlt => ?_)
  · skip
    have hn : Bfind B p = none := by
      cases hf : Bfind B p with
      | none => rfl
      | some i => rw [hf] at hlt; exact absurd hlt (by simp [ofFind])
    exact And.intro (.inr ⟨by simp [Bget, hn], rfl⟩) e2
  · skip
    obtain ⟨i, hi⟩ : ∃ i, Bfind B p = some i := by
      cases hf : Bfind B p with
      | none => rw [hf] at hlt; exact absurd (by simp [ofFind]) hlt
      | some i => exact ⟨i, rfl⟩
    have hi4 := Bfind_lt hi
    have hat2 : At w2.heap b (o + 0 + i * 5) B[i].cells := (e2.at_ hat id).sub ⟨((bcells B).drop (i * 5)).drop 5, by rw [← bcells_part B i hi4]; exact List.take_append_drop _ _⟩
    refine fa ?_
    refine iaA (i) (by rw [hi]; rfl) (by omega) ?_
    refine fa ?_
    refine fa ?_
    refine ld1 (hat2.cell (k := 4) rfl) ?_
    exact And.intro (.inl ⟨B[i].r.hop, by simp [Bget, hi, hi4], rfl⟩) e2

theorem bldPlace0 {K : Value → Prop} (hK : K (.agg noPl.cells.toArray)) : PureSem Try.prog (Instr.build 95 #[]) K := PureSem.of _ (fun w => by kernel_rfl) hK

theorem bTake_spec (b : Nat) (a c : List Value) (T : TypeId) (B : List Pl) (p : Pfx) (w : World) (hB : B.length = 4) (hb : Blk w.heap b (a ++ bcells B ++ c) T) :
    Ret Try.prog 74 #[.pointer (some ⟨b, a.length, none⟩), p.val] w fun r w' =>
      (∃ B', Btake B p = some B' ∧ r = .bool true ∧ Blk w'.heap b (a ++ bcells B' ++ c) T ∧ Ext (· = b) w w') ∨ (Btake B p = none ∧ r = .bool false ∧ Ext No w w') := by
  have hbs : (bcells B).length = 20 := by rw [bcells_length, hB]
  refine calls_ev (args := [_, _]) mixed Try.func74 ok_74 rfl ?_
  refine bx (cs := _) rfl ?_
  intro w1 h1
  refine ldN (cs := p.cells) (rfl) (h1.blk.at_) ?_
  refine Ret.mono (find_spec b a.length B p w1 hB ((h1.ext No).at_ hb.mid id)) ?_
  rintro v2 w2 ⟨rfl, he2⟩
  have e2 : Ext No w w2 := (h1.ext No).trans he2
  refine TestK.mk (fun hlt => ?_) (fun hlt => ?_)
  · skip
    have hn : Bfind B p = none := by
      cases hf : Bfind B p with
      | none => rfl
      | some i => rw [hf] at hlt; exact absurd hlt (by simp [ofFind])
    exact Or.inr ⟨by simp [Btake, hn], rfl, e2⟩
  · skip
    obtain ⟨i, hi⟩ : ∃ i, Bfind B p = some i := by
      cases hf : Bfind B p with
      | none => rw [hf] at hlt; exact absurd (by simp [ofFind]) hlt
      | some i => exact ⟨i, rfl⟩
    have hi4 := Bfind_lt hi
    refine bldPlace0 ?_
    refine fa ?_
    refine iaA (i) (by rw [hi]; rfl) (by omega) ?_
    refine stN (vs := noPl.cells) rfl rfl rfl (e2.blk hb id) (by simp [hbs, Pl.cells]; omega) ?_
    intro w3 h3
    have hb3 : Blk w3.heap b (a ++ bcells (B.set i noPl) ++ c) T := by
      have := h3.blk
      rw [Nat.add_zero, bcells_set a c B i _ hi4] at this; exact this
    exact Or.inl ⟨_, by simp [Btake, hi], rfl, hb3, e2.of_no.andThen (h3.ext (S := (· = b)) fun _ => rfl) fun _ _ h => h⟩

theorem bcells_setr (a c : List Value) (B : List Pl) (i : Nat) (r : Rt) (h : i < B.length) (ht : B[i].there = true) : splice (a ++ bcells B ++ c) (a.length + i * 5 + 1) r.cells = a ++ bcells (B.set i ⟨true, r⟩) ++ c := by
  rw [← bcells_set a c B i ⟨true, r⟩ h]
  show _ = splice ((a ++ bcells B ++ c).set (a.length + i * 5) (.bool true)) (a.length + i * 5 + 1) r.cells
  congr 1
  have : (a ++ bcells B ++ c)[a.length + i * 5]? = some (.bool true) := by
    rw [List.append_assoc, List.getElem?_append_right (by omega), show a.length + i * 5 - a.length = i * 5 by omega, List.getElem?_append_left (by rw [bcells_length]; omega)]
    have h2 : ((bcells B).drop (i * 5)).take 5 = B[i].cells := bcells_part B i h
    have : (((bcells B).drop (i * 5)).take 5)[0]? = some (.bool true) := by rw [h2, Pl.cells, ht]; rfl
    rw [List.getElem?_take, if_pos (by omega), List.getElem?_drop] at this
    simpa using this
  obtain ⟨hlt, he⟩ := List.getElem?_eq_some_iff.1 this
  rw [← he, List.set_getElem_self]

theorem bSwap_spec (b : Nat) (a c : List Value) (T : TypeId) (B : List Pl) (i : Nat) (p : Pfx) (v : Int) (w : World) (hB : B.length = 4) (hi : i < B.length) (ht : B[i].there = true) (hb : Blk w.heap b (a ++ bcells B ++ c) T) :
    Ret Try.prog 56 #[.pointer (some ⟨b, a.length, none⟩), .int .i64 i, p.val, .int .i64 v] w fun r w' =>
      r = .tuple #[B[i].r.p.val, .int .i64 B[i].r.hop, .bool true] ∧ Blk w'.heap b (a ++ bcells (B.set i ⟨true, ⟨p, v⟩⟩) ++ c) T ∧ Ext (· = b) w w' := by
  have hbs : (bcells B).length = 20 := by rw [bcells_length, hB]
  refine calls_ev (args := [_, _, _, _]) mixed Try.func56 ok_56 rfl ?_
  refine bx (cs := _) rfl ?_
  intro w1 h1
  refine al (cs := _) rfl ?_
  intro w2 h2
  have e2 : Ext No w w2 := (h1.ext No).trans (h2.ext No)
  have hb2 := e2.blk hb id
  have hat2 : At w2.heap b (a.length + 0 + i * 5) B[i].cells := hb2.mid.sub ⟨((bcells B).drop (i * 5)).drop 5, by rw [← bcells_part B i hi]; exact List.take_append_drop _ _⟩
  have hp2 : At w2.heap w.heap.size 0 p.cells := (h2.ext No).at_ h1.blk.at_ id
  have hz2 : Blk w2.heap w1.heap.size [.int .u64 0, .int .u64 0, .int .i64 0] 35 := h2.blk
  refine eqNil ?_
  refine TestK.mk (fun h => ?_) (fun h => ?_)
  · skip
    exact absurd h (by omega)
  · skip
    refine TestK.mk (fun h' => ?_) (fun h' => ?_)
    · skip
      exact absurd h' (by omega)
    · skip
      refine fa ?_
      refine iaA (i) (rfl) (by omega) ?_
      refine fa ?_
      refine ld1 (v := .bool true) (hat2.cell (k := 0) (by rw [Pl.cells, ht]; rfl)) ?_
      refine fa ?_
      refine iaA (i) (rfl) (by omega) ?_
      refine fa ?_
      refine ldN (cs := B[i].r.cells) (rfl) (hat2.sub (k := 1) ⟨[], rfl⟩) ?_
      refine al (cs := _) rfl ?_
      intro w3 h3
      refine stN (vs := _) rfl rfl rfl (h3.blk) (by first | exact Nat.le_refl _ | (simp; done) | (simp; omega)) ?_
      intro w4 h4
      have hr4 : Blk w4.heap w2.heap.size B[i].r.cells 45 := h4.blk
      have e4 : Ext (· = w2.heap.size) w2 w4 := (h3.ext _).andThen (h4.ext (S := (· = w2.heap.size)) fun _ => rfl) fun _ _ h => h
      have l1 := h1.size
      have l2 := h2.size
      have lb := hb.lt
      have e4w : Ext No w w4 := e2.andThen e4 fun k hk e => by omega
      refine ldN (cs := p.cells) (rfl) (e4.at_ hp2 (by omega)) ?_
      refine bldRoute ?_
      refine fa ?_
      refine iaA (i) (rfl) (by omega) ?_
      refine fa ?_
      refine stN (vs := Rt.cells ⟨p, v⟩) rfl rfl rfl (e4w.blk hb id) (by simp [hbs, Rt.cells]; omega) ?_
      intro w5 h5
      have hb5 : Blk w5.heap b (a ++ bcells (B.set i ⟨true, ⟨p, v⟩⟩) ++ c) T := by
        have this : Blk w5.heap b (splice (a ++ bcells B ++ c) (a.length + i * 5 + 1) (Rt.cells ⟨p, v⟩)) T := h5.blk
        rwa [bcells_setr a c B i _ hi ht] at this
      have e5 : Ext (· = b) w4 w5 := h5.ext fun _ => rfl
      have hr5 := e5.blk hr4 (by omega)
      have hz5 := e5.blk (e4.blk hz2 (by omega)) (by omega)
      refine draw [(0, []), (1, []), (2, []), (3, []), (4, [3]), (5, []), (6, [])] (by kernel_rfl) ?_
      refine fa ?_
      refine ldN (cs := B[i].r.p.cells) (rfl) (hr5.part ⟨[.int .i64 B[i].r.hop], rfl⟩) ?_
      refine fa ?_
      refine ld1 (hr5.cell 3) ?_
      refine stN (vs := _) rfl rfl rfl (hz5) (by first | exact Nat.le_refl _ | (simp; done) | (simp; omega)) ?_
      intro w6 h6
      have e6 : Ext (· = w1.heap.size) w5 w6 := h6.ext fun _ => rfl
      have hr6 := e6.blk hr5 (by omega)
      refine And.intro (ld1 (hr6.cell 3) rfl) ?_
      refine ldN (cs := B[i].r.p.cells) rfl h6.blk.at_ ?_
      exact And.intro rfl ⟨e6.blk hb5 (by omega), (e4w.of_no.andThen e5 fun _ _ h => h).andThen e6 fun k hk e => by omega⟩

theorem bsRoute {r : Rt} (w : World) : (Instr.buildSlice 42 1 #[(0, r.val)]).run Try.prog w = .ok (.slice (some ⟨w.heap.size, 0, none⟩) 1 1) (w.alloc (.cells r.cells.toArray 45)) := by kernel_rfl

theorem Ball_take (B : List Pl) (i : Nat) (h : i < B.length) : Ball (B.take (i + 1)) = Ball (B.take i) ++ if B[i].there = true then [B[i].r] else [] := by
  unfold Ball
  rw [List.take_succ_eq_append_getElem h, List.filter_append, List.map_append]
  congr 1
  by_cases ht : B[i].there = true <;> simp [ht]

theorem bAll_spec (b o : Nat) (B : List Pl) (w : World) (hB : B.length = 4) (hat : At w.heap b o (bcells B)) :
    Ret Try.prog 103 #[.pointer (some ⟨b, o, none⟩)] w fun v w' => w'.ownsRow w.heap.size 45 4 v (Ball B).length ((Ball B).flatMap Rt.cells) ∧ Ext No w w' := by
  refine calls_ev (args := [_]) mixed Try.func103 ok_103 rfl ?_
  refine eqNil ?_
  refine fa ?_
  refine ldN (cs := bcells B) (by rw [bcells_length, hB]) (hat) ?_
  refine loop [3, 11, 12] (fun k vs w' => ∃ (i : Nat) (v : Value), i ≤ 4 ∧ k = 4 - i ∧ vs = [v, .agg (bcells B).toArray, .int .i64 i] ∧
    w'.ownsRow w.heap.size 45 4 v (Ball (B.take i)).length ((Ball (B.take i)).flatMap Rt.cells) ∧ Ext No w w') 4 _ rfl ⟨0, _, by omega, rfl, rfl, World.ownsRow_nil _ _ _ _, Ext.refl _ _⟩ ?_
  rintro k vs w2 ⟨i, v, hi, rfl, rfl, hown, he⟩
  refine TestK.mk (fun hlt => ?_) (fun hlt => ?_)
  · skip
    have hi4 : i < B.length := by omega
    refine ixN (i) (rfl) (by omega) ?_
    rw [bcells_part B i hi4]
    refine al (cs := _) rfl ?_
    intro w3 h3
    refine stN (vs := B[i].cells) rfl rfl rfl (h3.blk) (Nat.le_refl _) ?_
    intro w4 h4
    have hb4 : Blk w4.heap w2.heap.size B[i].cells 95 := h4.blk
    have s3 := h3.size
    have s4 := h4.size
    have e24 : Ext (· = w2.heap.size) w2 w4 := (h3.ext _).andThen (h4.ext (S := (· = w2.heap.size)) fun _ => rfl) fun _ _ h => h
    have hs := he.size
    have e4 : Ext No w w4 := he.andThen e24 fun k hk e => by omega
    have hown4 := hown.ext e24 fun k hk e => by have := (hown.lt k hk).2; omega
    have hx4 : ∀ k v, B[i].cells[k]? = some v → hcell w4.heap w2.heap.size k = some v := fun k v hk => by rw [hb4.cell]; exact hk
    have htake := Ball_take B i hi4
    cases hth : B[i].there with
    | false =>
      rw [hth, if_neg (by simp), List.append_nil] at htake
      refine fa ?_
      refine ld1 (v := .bool false) (hx4 0 _ (by rw [Pl.cells, hth]; rfl)) ?_
      refine add64 (by omega) (by omega) ?_
      refine again (4 - (i + 1)) (by omega) _ rfl ⟨i + 1, v, by omega, rfl, rfl, by rw [htake]; exact hown4, e4⟩
    | true =>
      rw [hth, if_pos rfl] at htake
      have hlen : (Ball (B.take i)).length ≤ 4 := by
        have : (Ball (B.take i)).length ≤ (B.take i).length := by unfold Ball; rw [List.length_map]; exact List.length_filter_le _ _
        rw [List.length_take] at this; omega
      refine fa ?_
      refine ld1 (v := .bool true) (hx4 0 _ (by rw [Pl.cells, hth]; rfl)) ?_
      refine fa ?_
      refine ldN (cs := B[i].r.cells) (rfl) (hb4.part ⟨[], rfl⟩) ?_
      refine bs (cs := _) bsRoute ?_
      intro w5 h5
      have s5 := h5.size
      have hown5 := hown4.ext (h5.ext No) fun _ _ => id
      refine ap hown5 h5.blk.at_ rfl rfl (by omega) (by decide) (by omega) ?_
      intro v' w6 hown6 he6
      refine add64 (by omega) (by omega) ?_
      refine again (4 - (i + 1)) (by omega) _ rfl ⟨i + 1, v', by omega, rfl, rfl, ?_, ?_⟩
      · rw [htake, List.length_append, List.flatMap_append]; simpa using hown6
      · exact (e4.andThen (h5.ext No) fun _ _ h => h).andThen he6 fun k hk e => by have := (hown5.lt k e).1; omega
  · skip
    have : B.take i = B := List.take_of_length_le (by omega)
    rw [this] at hown
    exact And.intro hown he
end Go.Fl
