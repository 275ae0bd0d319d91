/-
  What the rows' arguments give the walks: prefixes, addresses, routes, slices of structs.
-/
import Derived.Test.YtoenjjlicglceaaRow
import Derived.Test.YtoenjjlicglceaaFaddr
namespace Go.Fl
open Go.Proofs Go.ChangeShapes Go.WideShapes Go.ChangeAt Go.RowKit
set_option maxRecDepth 100000

section
variable {H : Type} {enc : TypeId × Value → H} {w : World} {base : Nat} {sp : Nat → Bool} {held : Bool} {fuel : Nat} {cs : List Value} {x : DataW H × List MemPlace}
theorem cellsInt : Try.prog.cellsOf 3 = 1 := by kernel_rfl
theorem cellsU64 : Try.prog.cellsOf 22 = 1 := by kernel_rfl
theorem cellsAddr : Try.prog.cellsOf 33 = 2 := by kernel_rfl
theorem cellsPrefix : Try.prog.cellsOf 35 = 3 := by kernel_rfl
theorem cellsRoute : Try.prog.cellsOf 45 = 4 := by kernel_rfl
theorem trod_i64 (h : DataW.trod enc Try.prog w base sp held fuel 3 cs = some x) : ∃ n, cs = [.int .i64 n] ∧ (Lit.int .i64 n).wf = true := by
  obtain ⟨n, h1, _, h2⟩ := DataW.trod_int Try.underlying3 h
  exact ⟨n, h1, h2⟩
theorem trod_u64 (h : DataW.trod enc Try.prog w base sp held fuel 22 cs = some x) : ∃ n, cs = [U n] := by
  obtain ⟨n, h1, _, h2⟩ := DataW.trod_int Try.underlying22 h
  obtain ⟨s, hs⟩ := u64_of h2
  exact ⟨s, by rw [h1, hs]⟩
theorem trod_addr (h : DataW.trod enc Try.prog w base sp held fuel 33 cs = some x) : ∃ a : Adr, cs = a.cells := by
  obtain ⟨y0, y1, n, _, hl, h0, h1⟩ := trod_struct2 Try.underlying33 h
  rw [cellsAddr] at hl
  match cs, hl with
  | [c0, c1], _ =>
    simp only [cellsU64] at h0 h1
    obtain ⟨a, ha⟩ := trod_u64 h0
    obtain ⟨b, hb⟩ := trod_u64 h1
    simp at ha hb
    exact ⟨⟨a, b⟩, by rw [ha, hb]; rfl⟩
theorem trod_pfx (h : DataW.trod enc Try.prog w base sp held fuel 35 cs = some x) : ∃ p : Pfx, cs = p.cells := by
  obtain ⟨y0, y1, n, _, hl, h0, h1⟩ := trod_struct2 Try.underlying35 h
  rw [cellsPrefix] at hl
  match cs, hl with
  | [c0, c1, c2], _ =>
    simp only [cellsAddr, cellsInt] at h0 h1
    obtain ⟨a, ha⟩ := trod_addr h0
    obtain ⟨b, hb, _⟩ := trod_i64 h1
    simp [Adr.cells] at ha hb
    exact ⟨⟨a.hi, a.lo, b⟩, by rw [ha.1, ha.2, hb]; rfl⟩
theorem trod_rt (h : DataW.trod enc Try.prog w base sp held fuel 45 cs = some x) : ∃ r : Rt, cs = r.cells := by
  obtain ⟨y0, y1, n, _, hl, h0, h1⟩ := trod_struct2 Try.underlying45 h
  rw [cellsRoute] at hl
  match cs, hl with
  | [c0, c1, c2, c3], _ =>
    simp only [cellsPrefix, cellsInt] at h0 h1
    obtain ⟨p, hp⟩ := trod_pfx h0
    obtain ⟨b, hb, _⟩ := trod_i64 h1
    simp [Pfx.cells] at hp hb
    exact ⟨⟨p, b⟩, by rw [hp.1, hp.2.1, hp.2.2, hb]; rfl⟩
end
section
variable {H : Type} {enc : TypeId × Value → H} {w : World} {base : Nat} {sp : Nat → Bool} {held : Bool} {d : DataW H} {p : List MemPlace} {v : Value} {r : Reach} {b0 : Nat}
theorem open_pfx (hv : Value.okWide Try.prog w r b0 35 v) (h : DataW.Trod enc Try.prog w base sp held 35 v d p) : ∃ q : Pfx, v = q.val := by
  simp only [Value.okWide, Try.underlying35] at hv
  obtain ⟨cs, rfl, _⟩ := hv
  obtain ⟨f, h⟩ := h
  obtain ⟨q, hq⟩ := trod_pfx h
  exact ⟨q, congrArg Value.agg (Array.ext' hq)⟩
theorem open_addr (hv : Value.okWide Try.prog w r b0 33 v) (h : DataW.Trod enc Try.prog w base sp held 33 v d p) : ∃ q : Adr, v = q.val := by
  simp only [Value.okWide, Try.underlying33] at hv
  obtain ⟨cs, rfl, _⟩ := hv
  obtain ⟨f, h⟩ := h
  obtain ⟨q, hq⟩ := trod_addr h
  exact ⟨q, congrArg Value.agg (Array.ext' hq)⟩
theorem addr_add_add (a : Addr) (i j : Nat) : (a.add i).add j = a.add (i + j) := by
  unfold Addr.add
  by_cases hi : i = 0 <;> by_cases hj : j = 0 <;> simp [hi, hj, Nat.add_assoc]
theorem flat_some {α : Type} {f : α → List Value} {size : Nat} (hf : ∀ x, (f x).length = size) (l : List α) {j : Nat} {u : Value} (hj : (l.flatMap f)[j]? = some u) : ∃ (h : j / size < l.length), (f l[j / size])[j % size]? = some u := by
  have hlt := (List.getElem?_eq_some_iff.1 hj).1
  rw [flat_length f size hf] at hlt
  have hs : 0 < size := by rcases Nat.eq_zero_or_pos size with h | h; · rw [h, Nat.mul_zero] at hlt; omega
                           · exact h
  have hi : j / size < l.length := Nat.div_lt_of_lt_mul (by rw [Nat.mul_comm]; exact hlt)
  refine ⟨hi, ?_⟩
  have h1 := flat_part f size hf l (j / size) hi
  have h2 := congrArg (fun z : List Value => z[j % size]?) h1
  rw [List.getElem?_take, if_pos (Nat.mod_lt _ hs), List.getElem?_drop, Nat.div_add_mod' j size, hj] at h2
  exact h2.symm
theorem choose_list {α : Type} {Q : Nat → α → Prop} : ∀ n, (∀ i, i < n → ∃ x, Q i x) → ∃ l : List α, l.length = n ∧ ∀ i (h : i < l.length), Q i l[i]
  | 0, _ => ⟨[], rfl, fun i h => absurd h (Nat.not_lt_zero i)⟩
  | n + 1, h => by
    obtain ⟨l, hl, hq⟩ := choose_list n fun i hi => h i (by omega)
    obtain ⟨x, hx⟩ := h n (by omega)
    refine ⟨l ++ [x], by simp [hl], fun i hi => ?_⟩
    rw [List.length_append, List.length_singleton, hl] at hi
    rcases Nat.lt_or_ge i l.length with h' | h'
    · rw [List.getElem_append_left h']; exact hq i h'
    · have : i = l.length := by omega
      subst this
      rw [List.getElem_append_right (Nat.le_refl _)]
      simp only [Nat.sub_self, List.getElem_cons_zero]
      rw [hl]; exact hx
/-- A slice of structs, opened. -/
theorem open_sl {α : Type} {f : α → List Value} {size : Nat} (hf : ∀ x, (f x).length = size) (hpos : 0 < size) {T E : TypeId} (hT : Try.prog.underlying T = some (.slice E)) (hE : Try.prog.cellsOf E = size)
    (hop : ∀ {fuel : Nat} {cs : List Value} {x : DataW H × List MemPlace}, DataW.trod enc Try.prog w base sp held fuel E cs = some x → ∃ y : α, cs = f y)
    (hv : Value.okWide Try.prog w r b0 T v) (h : DataW.Trod enc Try.prog w base sp held T v d p) : ∃ l : List α, IsSl f w.heap v l := by
  obtain ⟨a, len, cap, rfl⟩ := okWide_slice hT hv
  obtain ⟨fu, h⟩ := h
  rcases DataW.trod_slice hT h with ⟨h1, _⟩ | ⟨x, l, c, elems, rest, n, _, h1, _, _, hl, _, hlen, hel, _, _⟩
  · simp [Value.cells] at h1
    obtain ⟨rfl, rfl, rfl⟩ := h1
    exact ⟨[], IsSl.nil _⟩
  · simp [Value.cells] at h1
    obtain ⟨rfl, rfl, rfl⟩ := h1
    obtain ⟨ys, hys, hq⟩ := choose_list (Q := fun i (y : α) => ∀ j u, (f y)[j]? = some u → w.cell? (x.add (i * size + j)) = some u) len fun i hi => by
      have h2 := hel i hi
      rw [List.getElem?_eq_getElem (by omega), Option.bind_eq_some_iff] at h2
      obtain ⟨cs, h3, h4⟩ := h2
      obtain ⟨y, rfl⟩ := hop h4
      refine ⟨y, fun j u hj => ?_⟩
      have hjl := (List.getElem?_eq_some_iff.1 hj).1
      rw [hf] at hjl
      rw [hE] at h3
      have h5 := (World.cells?_some h3).2.2 j hjl
      rw [hj] at h5
      have e : (x.add (i * size)).add j = x.add (i * size + j) := addr_add_add x _ _
      rw [e] at h5; exact h5
    refine ⟨ys, some x, cap, by rw [hys], by omega, ?_⟩
    rcases Nat.eq_zero_or_pos ys.length with h0 | h0
    · exact .inl (List.eq_nil_of_length_eq_zero h0)
    have hsl : SlV w.heap (some x) (ys.flatMap f) := SlV.of_cells fun j u hj => by
      obtain ⟨h6, h7⟩ := flat_some hf ys hj
      have h8 := hq _ h6 _ _ h7
      rw [Nat.div_add_mod' j size] at h8
      exact h8
    rcases hsl with h9 | ⟨b, o, h9, h10⟩
    · have := congrArg List.length h9
      rw [flat_length f size hf, List.length_nil] at this
      have := Nat.mul_pos h0 hpos
      omega
    · exact .inr ⟨b, o, h9, h10⟩
theorem open_routes (hv : Value.okWide Try.prog w r b0 42 v) (h : DataW.Trod enc Try.prog w base sp held 42 v d p) : ∃ l : List Rt, IsR w.heap v l :=
  open_sl rlen (by decide) Try.underlying42 cellsRoute (fun h => trod_rt h) hv h
end
end Go.Fl
