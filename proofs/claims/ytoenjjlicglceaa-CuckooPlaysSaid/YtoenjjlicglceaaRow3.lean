/-
  What the rows' arguments give the walks: the acts of chapter 12's laws.
-/
import Derived.Test.YtoenjjlicglceaaRow2
import Derived.Test.YtoenjjlicglceaaLkeeps
namespace Go.Fl
open Go.Proofs Go.ChangeShapes Go.WideShapes Go.ChangeAt Go.RowKit
set_option maxRecDepth 100000
theorem cellsAct12 : Try.prog.cellsOf 61 = 5 := by kernel_rfl
section
variable {H : Type} {enc : TypeId × Value → H} {w : World} {base : Nat} {sp : Nat → Bool} {held : Bool} {fuel : Nat} {cs : List Value} {x : DataW H × List MemPlace}
theorem trod3 {t : TypeId} {f0 f1 f2 : Field} (ht : Try.prog.underlying t = some (.struct #[f0, f1, f2])) (h : DataW.trod enc Try.prog w base sp held fuel t cs = some x) :
    ∃ y0 y1 y2 n, cs.length = Try.prog.cellsOf t ∧ DataW.trod enc Try.prog w base sp held n f0.type ((cs.drop f0.offset).take (Try.prog.cellsOf f0.type)) = some y0 ∧
      DataW.trod enc Try.prog w base sp held n f1.type ((cs.drop f1.offset).take (Try.prog.cellsOf f1.type)) = some y1 ∧ DataW.trod enc Try.prog w base sp held n f2.type ((cs.drop f2.offset).take (Try.prog.cellsOf f2.type)) = some y2 := by
  obtain ⟨xs, n, _, rfl, hl, hlen, hf⟩ := DataW.trod_struct ht h
  match xs, hlen with
  | [y0, y1, y2], _ => exact ⟨y0, y1, y2, n, hl, by simpa using hf 0 f0 rfl, by simpa using hf 1 f1 rfl, by simpa using hf 2 f2 rfl⟩
theorem trod_act12 (h : DataW.trod enc Try.prog w base sp held fuel 61 cs = some x) : ∃ y : Act12, cs = y.cells := by
  obtain ⟨y0, y1, y2, n, hl, h0, h1, h2⟩ := trod3 Try.underlying61 h
  rw [cellsAct12] at hl
  match cs, hl with
  | [c0, c1, c2, c3, c4], _ =>
    simp only [cellsInt, cellsPrefix] at h0 h1 h2
    obtain ⟨a, ha, _⟩ := trod_i64 h0
    obtain ⟨b, hb, _⟩ := trod_i64 h1
    obtain ⟨p, hp⟩ := trod_pfx h2
    simp [Pfx.cells] at ha hb hp
    exact ⟨⟨a, b, p⟩, by rw [ha, hb, hp.1, hp.2.1, hp.2.2]; rfl⟩
variable {d : DataW H} {p : List MemPlace} {v : Value} {r : Reach} {b0 : Nat}
theorem open_acts12 (hv : Value.okWide Try.prog w r b0 56 v) (h : DataW.Trod enc Try.prog w base sp held 56 v d p) : ∃ l : List Act12, IsSl Act12.cells w.heap v l :=
  open_sl alen (by decide) Try.underlying56 cellsAct12 (fun h => trod_act12 h) hv h
end
end Go.Fl
