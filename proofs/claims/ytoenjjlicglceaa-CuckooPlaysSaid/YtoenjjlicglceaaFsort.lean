/-
  slices.SortFunc over prefixes and over routes: what the kit's contract says, in this claim's words: the same elements, in the order of their prefixes.
-/
import Derived.Test.YtoenjjlicglceaaLaid
import Derived.Test.YtoenjjlicglceaaFlist
import Derived.Shelf.SlSortCmp.NoneTotal
namespace Go.Fl
open Go.Proofs Go.Sort Go.Shelf Go.Lib
set_option maxHeartbeats 1000000
set_option maxRecDepth 100000

theorem bang {l : List Value} {j : Nat} (h : j < l.length) : l.toArray[j]! = l[j] := by
  rw [getElem!_pos l.toArray j (by simpa using h)]; simp
section
variable {α : Type} [Inhabited α] {enc : α → List Value} {k : Nat} (hk : ∀ x, (enc x).length = k)
include hk
omit [Inhabited α] in
theorem flat_get (l : List α) (i j : Nat) (hi : i < l.length) (hj : j < k) : (l.flatMap enc)[i * k + j]? = (enc l[i])[j]? := by
  have h := flat_part enc k hk l i hi
  have h2 := congrArg (fun x : List Value => x[j]?) h
  simp only [List.getElem?_take, List.getElem?_drop] at h2
  rw [if_pos hj] at h2
  exact h2
theorem flatK_list (hpos : 0 < k) (d : Array α) : flatK enc k d = (d.toList.flatMap enc).toArray := by
  have hs : (d.toList.flatMap enc).length = d.size * k := by rw [flat_length enc k hk]; simp
  refine ext_get! (by simp only [size_flatK, List.size_toArray, hs]) fun t ht => ?_
  rw [size_flatK] at ht
  rw [get_flatK enc k d t ht]
  have hi : t / k < d.size := Nat.div_lt_of_lt_mul (by rwa [Nat.mul_comm])
  have hj : t % k < k := Nat.mod_lt _ hpos
  have h := flat_get hk d.toList (t / k) (t % k) (by simpa using hi) hj
  rw [Nat.div_add_mod' t k] at h
  have e1 : (d.toList.flatMap enc).toArray[t]! = ((d.toList.flatMap enc)[t]?).getD default := by
    simp [Array.getElem!_eq_getD, Array.getD_eq_getD_getElem?]
  rw [e1, h, getElem!_pos d _ hi]
  simp [hj, hk]

theorem sort_gen {P : Program} {ρ : Ren} {f E g : Nat} (L : SlLaysF0.n6 P ρ) (hf : ρ.f 6 = f) (ht : HasText P f) (aE : ∀ w, (isAgg (ρ.t 24)).run P w = .ok true w) (zE : ∀ w, (Go.sizeOf (ρ.t 24)).run P w = .ok k w) (hpos : 0 < k) (h1 : ∀ x, (enc x).all oneB = true)
    (cf : α → α → Int) (hO : SWO (ltOf cf)) (eg : ∀ args w, (callFunc g args).run P w = .ok (.enter g args) w) (hcmp : ∀ x y w, Ret P g #[.agg (enc x).toArray, .agg (enc y).toArray] w fun v w' => v = .int .i64 (cf x y) ∧ Quiet w w') (htg : HasText P g)
    (base : Nat) (v : Value) (l : List α) (w : World) (hown : w.ownsRow base E k v l.length (l.flatMap enc)) (hn : l.length ≤ 1000000000) :
    Ret P f #[v, .func (.func g) #[] #[]] w fun r w' => r = .tuple #[] ∧ ∃ l' : List α, l'.Perm l ∧ l'.Pairwise (fun x y => ¬ cf y x < 0) ∧ w'.ownsRow base E k v l'.length (l'.flatMap enc) ∧ Ext (fun j => v.ownBlock = some j) w w' := by
  subst hf
  refine Ret.of_calls ht ?_
  rcases own_cases hown with ⟨rfl, hl0, hx⟩ | ⟨b, cap, ys, rfl, hbb, hb, hc, hm, hsz, hl⟩
  · obtain rfl : l = [] := List.eq_nil_of_length_eq_zero hl0
    refine (AnyF.slices_SortFunc_none L none 0 (.func (.func g) #[] #[]) w).mono fun e w' h => ?_
    obtain ⟨rfl, rfl⟩ := h
    exact ⟨_, rfl, rfl, [], List.Perm.nil, List.Pairwise.nil, hown, Ext.refl _ _⟩
  · have hfl : flatK enc k l.toArray = (l.flatMap enc).toArray := flatK_list hk hpos l.toArray
    have hH : HoldsK enc k w b 0 l.toArray := by
      intro j hj
      rw [size_flatK] at hj
      rw [hfl]
      have hlen : (l.flatMap enc).length = l.length * k := flat_length enc k hk l
      have hj' : j < (l.flatMap enc).length := by rw [hlen]; simpa using hj
      refine ⟨?_, ?_⟩
      · rw [cell_eq, hb.cell, Nat.zero_add, List.getElem?_append_left hj', List.getElem?_eq_getElem hj', bang hj']
        rfl
      · unfold World.frozen?
        rw [show w.heap[b]? = _ from hb]; simp
    have hcl : CmpLays P g #[] enc k cf b 0 l.toArray.size w := by
      intro m os dk hdk x y
      refine Calls.mono ((hcmp x y _).calls htg) fun e w' h => ?_
      obtain ⟨v, rfl, rfl, q, os', hq⟩ := h
      exact ⟨rfl, q, os', hq⟩
    have hcon := AnyQ.slices_SortFunc L k aE zE enc hk (fun x v hv => one_cells (h1 x) v hv) cf hO g #[] b 0 cap l.toArray w eg hcl hH hb.lt (by simp; omega)
    refine hcon.mono fun e w' h => ?_
    obtain ⟨rfl, d', n, os, hp, hs, rfl⟩ := h
    obtain ⟨p1, _, p3⟩ := hp
    have hd' : d'.toList.Perm l := by
      have e1 : (d'.extract 0 l.toArray.size) = d' := by rw [← p1]; simp
      have e2 : (l.toArray.extract 0 l.toArray.size).toList = l := by simp
      rw [e1, e2] at p3
      exact p3
    have hln := hd'.length_eq
    have hfl' : flatK enc k d' = (d'.toList.flatMap enc).toArray := flatK_list hk hpos d'
    have hlen' : (d'.toList.flatMap enc).length = (l.flatMap enc).length := by rw [flat_length enc k hk, flat_length enc k hk, hln]
    have hblk : Blk (sortWorldK enc k w b 0 n d' os).heap b (d'.toList.flatMap enc ++ ys) E := by
      unfold sortWorldK Sort.grow
      show ((putRowK enc k (Sort.ahead w n) b 0 d').heap ++ os)[b]? = _
      have hb0 : (putRowK enc k (Sort.ahead w n) b 0 d').heap[b]? = some (.cells (putCells id 0 (flatK enc k d') (l.flatMap enc ++ ys).toArray) E (0, 0)) := by
        unfold putRowK putRow mapBlock
        show (w.heap.modify b _)[b]? = _
        rw [Array.getElem?_modify, if_pos rfl, show w.heap[b]? = _ from hb]
        rfl
      rw [Array.getElem?_append_left (Array.getElem?_eq_some_iff.1 hb0).1, hb0, hfl']
      congr 2
      unfold putCells
      refine Array.ext (by simp [hlen']) fun j h1 h2 => ?_
      simp only [Array.getElem_mapIdx]
      simp only [List.size_toArray, List.length_append] at h2
      by_cases hj : j < (d'.toList.flatMap enc).length
      · rw [if_pos (by simpa using hj)]
        rw [Nat.sub_zero, bang hj]
        simp only [List.getElem_toArray]
        rw [List.getElem_append_left hj]; rfl
      · rw [if_neg (by simpa using hj)]
        simp only [List.getElem_toArray]
        rw [List.getElem_append_right (by omega), List.getElem_append_right (by omega)]
        congr 1; omega
    refine ⟨_, rfl, rfl, d'.toList, hd', ?_, ?_, ⟨rfl, rfl, rfl⟩, ?_, fun j hj hne => ?_⟩
    · refine List.pairwise_iff_getElem.2 fun i j hi hj hij => ?_
      have := hs i j (Nat.zero_le _) hij (by simp only [List.size_toArray]; rw [← hln]; exact hj)
      simp only [ltOf, decide_eq_false_iff_not] at this
      simp only [Array.length_toList] at hi hj
      rw [getElem!_pos d' i hi, getElem!_pos d' j hj] at this
      exact this
    · rw [hln]
      exact own_of hbb hblk hc hm (by rw [hlen']; exact hsz) (by rw [hlen']; exact hl)
    · unfold sortWorldK Sort.grow putRowK putRow mapBlock
      simp [Sort.ahead]
    · have hne' : b ≠ j := fun e => hne (by rw [e]; rfl)
      unfold sortWorldK Sort.grow
      show ((putRowK enc k (Sort.ahead w n) b 0 d').heap ++ os)[j]? = _
      have h2 : (putRowK enc k (Sort.ahead w n) b 0 d').heap[j]? = w.heap[j]? := by
        unfold putRowK putRow mapBlock
        show (w.heap.modify b _)[j]? = _
        rw [Array.getElem?_modify, if_neg hne']
      have h3 : j < (putRowK enc k (Sort.ahead w n) b 0 d').heap.size := by
        unfold putRowK putRow mapBlock
        simpa [Sort.ahead] using hj
      rw [Array.getElem?_append_left h3, h2]
end

theorem swoP : SWO (ltOf fun x y : Pfx => cmpP x y) where
  irrefl x := by simp only [ltOf, decide_eq_false_iff_not]; rw [cmp_neg]; exact Pfx.lt_irrefl x
  trans x y z h1 h2 := by
    simp only [ltOf, decide_eq_true_eq] at *
    rw [cmp_neg] at *
    exact Pfx.lt_trans h1 h2
  ntrans x y z h1 h2 := by
    simp only [ltOf, decide_eq_false_iff_not] at *
    rw [cmp_neg] at *
    intro h
    rcases Pfx.lt_total x y with h' | h' | h'
    · exact h1 h'
    · subst h'; exact h2 h
    · exact h2 (Pfx.lt_trans h' h)
theorem swoR : SWO (ltOf fun x y : Rt => cmpP x.p y.p) where
  irrefl x := swoP.irrefl x.p
  trans x y z h1 h2 := swoP.trans x.p y.p z.p h1 h2
  ntrans x y z h1 h2 := swoP.ntrans x.p y.p z.p h1 h2
theorem plen (p : Pfx) : p.cells.length = 3 := rfl
theorem pone (p : Pfx) : p.cells.all oneB = true := rfl

theorem SortPfx_spec (base : Nat) (v : Value) (l : List Pfx) (w : World) (hown : w.ownsRow base 35 3 v l.length (l.flatMap Pfx.cells)) (hn : l.length ≤ 1000000000) :
    Ret Try.prog 66 #[v, .func (.func 67) #[] #[]] w fun r w' => r = .tuple #[] ∧ ∃ l' : List Pfx, l'.Perm l ∧ l'.Pairwise (fun x y => ¬ cmpP y x < 0) ∧ w'.ownsRow base 35 3 v l'.length (l'.flatMap Pfx.cells) ∧ Ext (fun j => v.ownBlock = some j) w w' :=
  sort_gen (P := Try.prog) (f := 66) (g := 67) plen Try.sortPfx rfl ⟨_, Try.func66, rfl, rfl⟩ Try.isAgg35 Try.sizeOf35 (by decide) pone (fun x y => cmpP x y) swoP
    (fun args w => callFunc_run ⟨_, Try.func67, rfl, rfl⟩ args w) (fun x y w => Compare_q x y w) ⟨_, Try.func67, rfl, rfl⟩ base v l w hown hn
theorem SortRt_spec (base : Nat) (v : Value) (l : List Rt) (w : World) (hown : OwnR base w v l) (hn : l.length ≤ 1000000000) :
    Ret Try.prog 84 #[v, .func (.func 85) #[] #[]] w fun r w' => r = .tuple #[] ∧ ∃ l' : List Rt, l'.Perm l ∧ l'.Pairwise (fun x y => ¬ cmpP y.p x.p < 0) ∧ OwnR base w' v l' ∧ Ext (fun j => v.ownBlock = some j) w w' :=
  sort_gen (P := Try.prog) (f := 84) (g := 85) rlen Try.sortRt rfl ⟨_, Try.func84, rfl, rfl⟩ Try.isAgg45 Try.sizeOf45 (by decide) rone (fun x y => cmpP x.p y.p) swoR
    (fun args w => callFunc_run ⟨_, Try.func85, rfl, rfl⟩ args w) (fun x y w => Order_q x y w) ⟨_, Try.func85, rfl, rfl⟩ base v l w hown hn
end Go.Fl
