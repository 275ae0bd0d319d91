/-
  Chapter 11: the document's bucket: four routes, and behind them which of them are there.
-/
import Derived.Test.YtoenjjlicglceaaFbucket
namespace Go.Fl
open Go.Proofs
set_option maxHeartbeats 4000000
set_option maxRecDepth 100000

def rof (x : Pl) : List Value := x.r.cells
def rbcells (B : List Pl) : List Value := B.flatMap rof ++ B.map fun x => .bool x.there
theorem rof_len (x : Pl) : (rof x).length = 4 := rfl
theorem rb_len (B : List Pl) : (rbcells B).length = B.length * 5 := by
  unfold rbcells; rw [List.length_append, flat_length rof 4 rof_len, List.length_map]; omega
section
variable {B : List Pl} {i : Nat} (hB : B.length = 4) (hi : i < B.length)
include hB hi
theorem rb_route {h : Array Obj} {b o : Nat} (hat : At h b o (rbcells B)) : At h b (o + i * 4) B[i].r.cells := by
  refine hat.sub ?_
  have h1 : (B.flatMap rof).drop (i * 4) <+: (rbcells B).drop (i * 4) := by
    unfold rbcells
    rw [List.drop_append_of_le_length (by rw [flat_length rof 4 rof_len]; omega)]
    exact List.prefix_append _ _
  refine List.IsPrefix.trans ⟨((B.flatMap rof).drop (i * 4)).drop 4, ?_⟩ h1
  show rof B[i] ++ _ = _
  rw [← flat_part rof 4 rof_len B i hi]
  exact List.take_append_drop _ _
theorem rb_there {h : Array Obj} {b o : Nat} (hat : At h b o (rbcells B)) : hcell h b (o + 16 + i * 1) = some (.bool B[i].there) := by
  rw [Nat.mul_one, Nat.add_assoc]
  refine hat.cell ?_
  unfold rbcells
  rw [List.getElem?_append_right (by rw [flat_length rof 4 rof_len]; omega), flat_length rof 4 rof_len, hB, show 16 + i - 4 * 4 = i by omega, List.getElem?_map, List.getElem?_eq_getElem hi]; rfl
theorem rb_setr (a c : List Value) (r : Rt) : splice (a ++ rbcells B ++ c) (a.length + i * 4) r.cells = a ++ rbcells (B.set i ⟨B[i].there, r⟩) ++ c := by
  rw [splice_mid _ _ _ _ _ (by rw [rb_len]; show i * 4 + 4 ≤ _; omega)]
  congr 2
  unfold rbcells
  have h1 := splice_mid [] (B.flatMap rof) (B.map fun x => Value.bool x.there) r.cells (i * 4) (by rw [flat_length rof 4 rof_len]; show i * 4 + 4 ≤ _; omega)
  simp only [List.nil_append, List.length_nil, Nat.zero_add] at h1
  rw [h1]
  have h2 := flat_set rof 4 rof_len B i ⟨B[i].there, r⟩ hi
  have h3 : rof ⟨B[i].there, r⟩ = r.cells := rfl
  rw [h3] at h2
  rw [h2]
  congr 1
  rw [List.map_set]
  have : (B.map fun x => Value.bool x.there)[i]'(by rw [List.length_map]; exact hi) = Value.bool B[i].there := by rw [List.getElem_map]
  exact ((congrArg (fun z => (B.map fun x => Value.bool x.there).set i z) this.symm).trans (List.set_getElem_self _)).symm
theorem rb_sett (a c : List Value) (t : Bool) : splice (a ++ rbcells B ++ c) (a.length + 16 + i) [.bool t] = a ++ rbcells (B.set i ⟨t, B[i].r⟩) ++ c := by
  rw [Nat.add_assoc, splice_mid _ _ _ _ _ (by rw [rb_len]; show 16 + i + 1 ≤ _; omega)]
  congr 2
  unfold rbcells
  have h1 := splice_mid (B.flatMap rof) (B.map fun x => Value.bool x.there) [] [.bool t] i (by rw [List.length_map]; show i + 1 ≤ _; omega)
  rw [flat_length rof 4 rof_len, hB, List.append_nil, List.append_nil] at h1
  rw [h1, List.map_set]
  congr 1
  have h2 := flat_set rof 4 rof_len B i ⟨t, B[i].r⟩ hi
  have h3 := flat_set rof 4 rof_len B i B[i] hi
  rw [List.set_getElem_self] at h3
  exact h3.symm.trans h2
end

/-- A round's look at a place: is it there, and the key's? -/
theorem rKey {x : Pl} {p : Pfx} : isKey p x = (x.there && decide (x.r.p = p)) := rfl

theorem rp_at' {h : Array Obj} {b o : Nat} {r : Rt} (hat : At h b o r.cells) : At h b (o + 0) r.p.cells := hat.sub (k := 0) ⟨[.int .i64 r.hop], rfl⟩
theorem bldRouteZ {K : Value → Prop} (hK : K (Rt.val ⟨⟨0, 0, 0⟩, 0⟩)) : PureSem Try.prog (Instr.build 45 #[]) K := PureSem.of _ (fun w => by kernel_rfl) hK
theorem rbGet_spec (b o : Nat) (B : List Pl) (p : Pfx) (w : World) (hB : B.length = 4) (hat : At w.heap b o (rbcells B)) :
    Ret Try.prog 78 #[.pointer (some ⟨b, o, none⟩), p.val] w fun v w' => ((∃ h, Bget B p = some h ∧ v = .tuple #[.int .i64 h, .bool true]) ∨ (Bget B p = none ∧ v = .tuple #[.int .i64 0, .bool false])) ∧ Ext No w w' := by
  refine calls_ev (args := [_, _]) mixed Try.func78 ok_78 rfl ?_
  refine bx (cs := _) rfl ?_
  intro w1 h1
  have hp1 : Blk w1.heap w.heap.size p.cells 35 := h1.blk
  refine loop [0, 3, 6] (fun k vs w' => ∃ i : Nat, i ≤ 4 ∧ k = 4 - i ∧ vs = [.pointer (some ⟨b, o, none⟩), .pointer (some ⟨w.heap.size, 0, none⟩), .int .i64 i] ∧ (∀ j (h : j < B.length), j < i → isKey p B[j] = false) ∧ Ext No w1 w') 4 _ rfl ⟨0, by omega, rfl, rfl, by omega, Ext.refl _ _⟩ ?_
  rintro k vs w2 ⟨i, hi, rfl, rfl, hno, e2⟩
  have e2' : Ext No w w2 := (h1.ext No).trans e2
  have hp2 := e2.blk hp1 id
  refine TestK.mk (fun hlt => ?_) (fun hlt => ?_)
  · skip
    have hi4 : i < B.length := by omega
    have hthere := rb_there hB hi4 (e2'.at_ hat id)
    have hroute := rb_route hB hi4 (e2'.at_ hat id)
    have hnext : isKey p B[i] = false → ∀ j (h : j < B.length), j < i + 1 → isKey p B[j] = false := fun hk j hj hji => by
      rcases Nat.lt_or_ge j i with h | h
      · exact hno j hj h
      · obtain rfl : j = i := by omega
        exact hk
    refine fa ?_
    refine iaA (i) (rfl) (by omega) ?_
    cases hth : B[i].there with
    | false =>
      rw [hth] at hthere
      refine ld1 (v := .bool false) (hthere) ?_
      refine add64 (by omega) (by omega) ?_
      refine again (4 - (i + 1)) (by omega) _ rfl ⟨i + 1, by omega, rfl, rfl, hnext (by simp [isKey, hth]), e2⟩
    | true =>
      rw [hth] at hthere
      refine ld1 (v := .bool true) (hthere) ?_
      refine fa ?_
      refine iaA (i) (rfl) (by omega) ?_
      refine fa ?_
      refine ldN (cs := B[i].r.p.cells) (rfl) (rp_at' hroute) ?_
      refine ldN (cs := p.cells) (rfl) (hp2.at_) ?_
      refine eqPfx (fun heq => ?_) (fun heq => ?_)
      · skip
        have hf : Bfind B p = some i := firstI_at _ B i hi4 hno (by simp [isKey, hth, heq])
        refine fa ?_
        refine iaA (i) (rfl) (by omega) ?_
        refine fa ?_
        refine ld1 (hroute.cell (k := 3) rfl) ?_
        exact ⟨.inl ⟨B[i].r.hop, by unfold Bget; rw [hf]; simp [List.getElem?_eq_getElem hi4], rfl⟩, e2'⟩
      · skip
        refine add64 (by omega) (by omega) ?_
        refine again (4 - (i + 1)) (by omega) _ rfl ⟨i + 1, by omega, rfl, rfl, hnext (by simp [isKey, heq]), e2⟩
  · skip
    have hf : Bfind B p = none := firstI_none _ B i (by omega) hno
    exact ⟨.inr ⟨by unfold Bget; rw [hf]; rfl, rfl⟩, e2'⟩

theorem rbTake_spec (b : Nat) (a c : List Value) (T : TypeId) (B : List Pl) (p : Pfx) (w : World) (hB : B.length = 4) (hb : Blk w.heap b (a ++ rbcells B ++ c) T) :
    Ret Try.prog 77 #[.pointer (some ⟨b, a.length, none⟩), p.val] w fun r w' =>
      (∃ B', Btake B p = some B' ∧ r = .bool true ∧ Blk w'.heap b (a ++ rbcells B' ++ c) T ∧ Ext (· = b) w w') ∨ (Btake B p = none ∧ r = .bool false ∧ Ext No w w') := by
  refine calls_ev (args := [_, _]) mixed Try.func77 ok_77 rfl ?_
  refine bx (cs := _) rfl ?_
  intro w1 h1
  have hp1 : Blk w1.heap w.heap.size p.cells 35 := h1.blk
  refine loop [0, 3, 5] (fun k vs w' => ∃ i : Nat, i ≤ 4 ∧ k = 4 - i ∧ vs = [.pointer (some ⟨b, a.length, none⟩), .pointer (some ⟨w.heap.size, 0, none⟩), .int .i64 i] ∧ (∀ j (h : j < B.length), j < i → isKey p B[j] = false) ∧ Ext No w1 w') 4 _ rfl ⟨0, by omega, rfl, rfl, by omega, Ext.refl _ _⟩ ?_
  rintro k vs w2 ⟨i, hi, rfl, rfl, hno, e2⟩
  have e2' : Ext No w w2 := (h1.ext No).trans e2
  have hp2 := e2.blk hp1 id
  have hb2 := e2'.blk hb id
  have hbs : (rbcells B).length = 20 := by rw [rb_len, hB]
  refine TestK.mk (fun hlt => ?_) (fun hlt => ?_)
  · skip
    have hi4 : i < B.length := by omega
    have hthere := rb_there hB hi4 hb2.mid
    have hroute := rb_route hB hi4 hb2.mid
    have hnext : isKey p B[i] = false → ∀ j (h : j < B.length), j < i + 1 → isKey p B[j] = false := fun hk j hj hji => by
      rcases Nat.lt_or_ge j i with h | h
      · exact hno j hj h
      · obtain rfl : j = i := by omega
        exact hk
    refine fa ?_
    refine iaA (i) (rfl) (by omega) ?_
    cases hth : B[i].there with
    | false =>
      rw [hth] at hthere
      refine ld1 (v := .bool false) (hthere) ?_
      refine add64 (by omega) (by omega) ?_
      refine again (4 - (i + 1)) (by omega) _ rfl ⟨i + 1, by omega, rfl, rfl, hnext (by simp [isKey, hth]), e2⟩
    | true =>
      rw [hth] at hthere
      refine ld1 (v := .bool true) (hthere) ?_
      refine fa ?_
      refine iaA (i) (rfl) (by omega) ?_
      refine fa ?_
      refine ldN (cs := B[i].r.p.cells) (rfl) (rp_at' hroute) ?_
      refine ldN (cs := p.cells) (rfl) (hp2.at_) ?_
      refine eqPfx (fun heq => ?_) (fun heq => ?_)
      · skip
        have hf : Bfind B p = some i := firstI_at _ B i hi4 hno (by simp [isKey, hth, heq])
        refine bldRouteZ ?_
        refine fa ?_
        refine iaA (i) (rfl) (by omega) ?_
        refine stN (vs := Rt.cells ⟨⟨0, 0, 0⟩, 0⟩) rfl rfl rfl (hb2) (by rw [List.length_append, List.length_append, hbs]; show a.length + 0 + i * 4 + 4 ≤ _; omega) ?_
        intro w3 h3
        have hb3 : Blk w3.heap b (a ++ rbcells (B.set i ⟨B[i].there, ⟨⟨0, 0, 0⟩, 0⟩⟩) ++ c) T := by
          have := h3.blk
          rw [Nat.add_zero, rb_setr hB hi4] at this; exact this
        have hB3 : (B.set i ⟨B[i].there, ⟨⟨0, 0, 0⟩, 0⟩⟩).length = 4 := by rw [List.length_set]; exact hB
        refine fa ?_
        refine iaA (i) (rfl) (by omega) ?_
        refine stN (vs := [.bool false]) rfl rfl rfl (hb3) (by rw [List.length_append, List.length_append, rb_len, hB3]; show a.length + 16 + i * 1 + 1 ≤ _; omega) ?_
        intro w4 h4
        have hb4 : Blk w4.heap b (a ++ rbcells (B.set i noPl) ++ c) T := by
          have := h4.blk
          rw [Nat.mul_one, rb_sett hB3 (by rw [List.length_set]; exact hi4), List.set_set, List.getElem_set_self] at this; exact this
        exact .inl ⟨_, by simp [Btake, hf], rfl, hb4, (e2'.of_no.andThen (h3.ext (S := (· = b)) fun _ ↦ rfl) fun _ _ h ↦ h).andThen (h4.ext (S := (· = b)) fun _ ↦ rfl) fun _ _ h ↦ h⟩
      · skip
        refine add64 (by omega) (by omega) ?_
        refine again (4 - (i + 1)) (by omega) _ rfl ⟨i + 1, by omega, rfl, rfl, hnext (by simp [isKey, heq]), e2⟩
  · skip
    have hf : Bfind B p = none := firstI_none _ B i (by omega) hno
    exact .inr ⟨by simp [Btake, hf], rfl, e2'⟩
end Go.Fl
