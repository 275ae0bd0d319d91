/-
  Chapter 11, plain: a key deleted.
-/
import Derived.Test.YtoenjjlicglceaaTget
import Derived.Test.YtoenjjlicglceaaTcover
namespace Go.Fl

def delF (T : Tab) (p : Pfx) : Tab × Bool :=
  match Btake (bkAt T.bks (ix1 T.seed T.n p)) p with
  | some B => (T.setBk (ix1 T.seed T.n p) B, true)
  | none => match Btake (bkAt T.bks (ix2 T.seed T.n p)) p with
    | some B => (T.setBk (ix2 T.seed T.n p) B, true)
    | none => if atLow T.stash p = true then (⟨T.seed, T.bks, T.stash.eraseIdx (lowB T.stash p)⟩, true) else (T, false)
theorem Btake_some {B B' : List Pl} {p : Pfx} (h : Btake B p = some B') : ∃ i, ∃ hi : i < B.length, B' = B.set i noPl ∧ B[i].there = true ∧ B[i].r.p = p := by
  unfold Btake at h
  cases hf : Bfind B p with
  | none => rw [hf] at h; cases h
  | some i =>
    rw [hf] at h
    simp only [Option.map_some, Option.some.injEq] at h
    obtain ⟨hi, h1, h2⟩ := Bfind_some hf
    exact ⟨i, hi, h.symm, h1, h2⟩
theorem Btake_none {B : List Pl} {p : Pfx} (h : Btake B p = none) : Bfind B p = none := by
  unfold Btake at h
  cases hf : Bfind B p with
  | none => rfl
  | some i => rw [hf] at h; cases h
theorem OkB.clear {s : BitVec 64} {n : Nat} {bks : List (List Pl)} (h : OkB s n bks) {a : Nat} {B : List Pl} (hB : bks[a]? = some B) (i : Nat) : OkB s n (bks.set a (B.set i noPl)) := by
  obtain ⟨hal, _⟩ := List.getElem?_eq_some_iff.1 hB
  refine ⟨by rw [List.length_set]; exact h.len, h.n1, h.n2, fun j C hj => ?_, fun j C hj x hx => ?_⟩
  · rw [List.getElem?_set] at hj
    by_cases e : a = j
    · subst e
      rw [if_pos rfl, if_pos hal] at hj
      cases hj
      rw [List.length_set]; exact h.four a B hB
    · rw [if_neg e] at hj; exact h.four j C hj
  · rw [List.getElem?_set] at hj
    by_cases e : a = j
    · subst e
      rw [if_pos rfl, if_pos hal] at hj
      cases hj
      obtain ⟨y, hy, ht, rfl⟩ := mem_Ball.1 hx
      rcases List.mem_or_eq_of_mem_set hy with hy | rfl
      · exact h.placed a B hB _ (mem_Ball.2 ⟨y, hy, ht, rfl⟩)
      · cases ht
    · rw [if_neg e] at hj; exact h.placed j C hj x hx
theorem take_ok {T : Tab} (h : Ok T) {a : Nat} {p : Pfx} (hal : a < T.bks.length) {B' : List Pl} (ht : Btake (bkAt T.bks a) p = some B') : Ok (T.setBk a B') ∧ (T.setBk a B').cont = without T.cont p ∧ ∃ x ∈ T.cont, x.p = p := by
  have hB := bkAt_some hal
  obtain ⟨j, hj, rfl, h1, h2⟩ := Btake_some ht
  obtain ⟨L, R, h0, hset⟩ := cont_at T.bks a _ hB j hj
  have hT : T.cont = L ++ [(bkAt T.bks a)[j].r] ++ (R ++ T.stash) := by
    show bcont T.bks ++ T.stash = _
    rw [h0, show pl (bkAt T.bks a)[j] = [(bkAt T.bks a)[j].r] by unfold pl; rw [if_pos h1], List.append_assoc]
  have hc : (T.setBk a ((bkAt T.bks a).set j noPl)).cont = L ++ (R ++ T.stash) := by
    show bcont (T.bks.set a ((bkAt T.bks a).set j noPl)) ++ T.stash = _
    rw [hset, show pl noPl = [] from rfl, List.append_nil, List.append_assoc]
  have hnd := h.nodup
  have hw : without T.cont p = L ++ (R ++ T.stash) := by
    rw [hT] at hnd ⊢
    exact without_mid h2 hnd
  refine ⟨⟨?_, ?_, h.sorted⟩, hc.trans hw.symm, _, by rw [hT]; simp, h2⟩
  · have hn : (T.setBk a ((bkAt T.bks a).set j noPl)).n = T.n := List.length_set
    rw [hn]; exact h.b.clear hB j
  · rw [hc, ← hw]
    exact hnd.sublist ((List.filter_sublist).map _)
theorem del_ok {T : Tab} (h : Ok T) (p : Pfx) : Ok (delF T p).1 ∧ (delF T p).1.cont = without T.cont p ∧ (delF T p).1.seed = T.seed ∧ (delF T p).1.n = T.n ∧ ((delF T p).2 = true ↔ ∃ x ∈ T.cont, x.p = p) := by
  unfold delF
  cases h1 : Btake (bkAt T.bks (ix1 T.seed T.n p)) p with
  | some B =>
    obtain ⟨k1, k2, k3⟩ := take_ok h (h.i1 p) h1
    exact ⟨k1, k2, rfl, List.length_set, fun _ => k3, fun _ => rfl⟩
  | none =>
    cases h2 : Btake (bkAt T.bks (ix2 T.seed T.n p)) p with
    | some B =>
      obtain ⟨k1, k2, k3⟩ := take_ok h (h.i2 p) h2
      exact ⟨k1, k2, rfl, List.length_set, fun _ => k3, fun _ => rfl⟩
    | none =>
      simp only
      split
      · rename_i ha
        obtain ⟨hi, e⟩ := atLow_some ha
        have hsp : T.stash = T.stash.take (lowB T.stash p) ++ [T.stash[lowB T.stash p]] ++ T.stash.drop (lowB T.stash p + 1) := by
          rw [List.append_assoc, List.singleton_append, ← List.drop_eq_getElem_cons hi, List.take_append_drop]
        have hnd := h.nodup
        have hcont : T.cont = bcont T.bks ++ T.stash.take (lowB T.stash p) ++ [T.stash[lowB T.stash p]] ++ T.stash.drop (lowB T.stash p + 1) := by
          show bcont T.bks ++ T.stash = _
          rw [List.append_assoc, List.append_assoc, ← List.append_assoc (T.stash.take _), ← hsp]
        have hc : (⟨T.seed, T.bks, T.stash.eraseIdx (lowB T.stash p)⟩ : Tab).cont = without T.cont p := by
          rw [hcont] at hnd ⊢
          rw [without_mid e hnd]
          show bcont T.bks ++ T.stash.eraseIdx _ = _
          rw [List.eraseIdx_eq_take_drop_succ, List.append_assoc]
        refine ⟨⟨h.b, ?_, ?_⟩, hc, rfl, rfl, fun _ => ⟨_, List.mem_append_right _ (List.getElem_mem hi), e⟩, fun _ => rfl⟩
        · rw [hc]; exact hnd.sublist ((List.filter_sublist).map _)
        · exact h.sorted.sublist (List.eraseIdx_sublist _ _)
      · rename_i ha
        have hab := absent h (Btake_none h1) (Btake_none h2) (by simpa using ha)
        refine ⟨h, (without_none hab).symm, rfl, rfl, fun e => by (simp at e), fun ⟨x, hx, e⟩ => absurd e (hab x hx)⟩

/-! A sorted row beside a table. -/
theorem sorted_nodup {l : List Rt} (h : SortedR l) : l.Nodup := h.imp fun {a b} hab e => by subst e; exact Pfx.lt_irrefl _ hab
theorem without_sorted {l : List Rt} (h : SortedR l) (p : Pfx) : SortedR (without l p) := h.sublist List.filter_sublist
theorem into_perm {l : List Rt} (h : SortedR l) (r : Rt) : (intoF l r).Perm (r :: without l r.p) := by
  refine (List.perm_ext_iff_of_nodup (sorted_nodup (intoF_sorted h)) ?_).2 fun x => ?_
  · rw [List.nodup_cons]
    exact ⟨fun hm => (mem_without.1 hm).2 rfl, sorted_nodup (without_sorted h _)⟩
  · rw [mem_intoF h, List.mem_cons, mem_without]
theorem sorted_perm_eq {a b : List Rt} (ha : SortedR a) (hb : SortedR b) (h : a.Perm b) : a = b := sorted_ext ha hb fun _ => h.mem_iff
end Go.Fl
