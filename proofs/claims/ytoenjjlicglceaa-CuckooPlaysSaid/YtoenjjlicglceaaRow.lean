/-
  What the rows' arguments give the walks: whole numbers, slices of whole numbers.
-/
import Derived.Test.YtoenjjlicglceaaK2
import Derived.Test.YtoenjjlicglceaaK3
import Derived.ProofKit
import Derived.OpenShut
import Derived.ChangeOld
import Derived.Below
import Derived.SizedLaws
namespace Go.Fl
open Go.ChangeShapes Go.WideShapes Go.ChangeAt Go.RowKit

def IsRow (k : IntKind) (w : World) (a : Option Addr) (len cap : Nat) (zs : List Int) : Prop :=
  (a = none ∧ len = 0 ∧ cap = 0 ∧ zs = []) ∨
  ∃ x, a = some x ∧ len ≤ cap ∧ cap ≤ maxLen ∧ zs.length = cap ∧ (∀ i, i < zs.length → w.cell? (x.add i) = some (.int k (zs.getD i 0))) ∧ ∀ n ∈ zs, (Lit.int k n).wf = true

theorem plain_of_cell {w : World} {x : Addr} {v : Value} (h : w.cell? x = some v) : x = ⟨x.block, x.off, none⟩ := by
  rcases x with ⟨b, o, s⟩
  cases s with
  | none => rfl
  | some s => unfold World.cell? at h; split at h <;> simp at h
theorem SlV.of_cells {w : World} {x : Addr} {cs : List Value} (h : ∀ j v, cs[j]? = some v → w.cell? (x.add j) = some v) : SlV w.heap (some x) cs := by
  cases cs with
  | nil => exact .inl rfl
  | cons c cs =>
    have h0 := h 0 c rfl
    have e0 : x.add 0 = x := by simp [Addr.add]
    rw [e0] at h0
    have e := plain_of_cell h0
    refine .inr ⟨x.block, x.off, congrArg some e, fun j v hj => ?_⟩
    have := h j v hj
    rw [e, add_eq, cell_eq] at this
    exact this
theorem IsRow.sl {k : IntKind} {w : World} {a : Option Addr} {len cap : Nat} {zs : List Int} (h : IsRow k w a len cap zs) : len = (zs.take len).length ∧ SlV w.heap a ((zs.take len).map (.int k)) := by
  rcases h with ⟨rfl, rfl, rfl, rfl⟩ | ⟨x, rfl, h1, _, h3, h4, _⟩
  · exact ⟨rfl, .inl rfl⟩
  · refine ⟨by rw [List.length_take]; omega, SlV.of_cells fun j v hj => ?_⟩
    rw [List.getElem?_map] at hj
    cases he : (zs.take len)[j]? with
    | none => rw [he] at hj; cases hj
    | some z =>
      rw [he] at hj
      simp only [Option.map_some, Option.some.injEq] at hj
      subst hj
      have hlt := (List.getElem?_eq_some_iff.1 he).1
      rw [List.length_take] at hlt
      rw [h4 j (by omega)]
      rw [List.getElem?_take, if_pos (by omega)] at he
      rw [List.getD_eq_getElem?_getD, he]; rfl
theorem u64_of {a : Int} (h : (Lit.int .u64 a).wf = true) : ∃ s : BitVec 64, Value.int .u64 a = U s := by
  have h' : 0 ≤ a ∧ a < 18446744073709551616 := by
    have h1 : IntKind.u64.min = 0 := by decide
    have h2 : IntKind.u64.max = 18446744073709551615 := by decide
    simp [Lit.wf, h1, h2] at h
    omega
  refine ⟨BitVec.ofInt 64 a, ?_⟩
  unfold U
  rw [BitVec.toNat_ofInt]
  congr 1
  omega
theorem Ext.below {w w' : World} (h : Ext No w w') : Below w.heap.size w w' := ⟨h.1.1, h.1.2.1, h.1.2.2, h.2.1, fun k hk => h.2.2 k hk id⟩
end Go.Fl
