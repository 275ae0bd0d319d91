/-
  Chapter 12: what Get finds behind a Put; a Put of a key that is there turns no size.
-/
import Derived.Test.YtoenjjlicglceaaTtab
namespace Go.Fl

theorem mem_without {C : List Rt} {p : Pfx} {x : Rt} : x ∈ without C p ↔ x ∈ C ∧ x.p ≠ p := by unfold without; simp [List.mem_filter]
theorem fuel16 {n : Nat} (h : 1 ≤ n) : 65536 ≤ n * 2 ^ 16 := Nat.le_trans (by decide) (Nat.mul_le_mul_right (2 ^ 16) h)
theorem get_put {f : Nat} {T : Tab} {r : Rt} (hf : 65536 ≤ T.n * 2 ^ f) (h : Ok T) (p : Pfx) : getF (putF f T r) p = if p = r.p then some r.hop else getF T p := by
  obtain ⟨h1, h2, _⟩ := put_ok f T r hf h
  have key : ∀ v, getF (putF f T r) p = some v ↔ (p = r.p ∧ v = r.hop) ∨ (p ≠ r.p ∧ getF T p = some v) := by
    intro v
    rw [get_ok h1, h2.mem_iff, List.mem_cons, mem_without, get_ok h]
    rcases r with ⟨q, x⟩
    simp only [Rt.mk.injEq, ne_eq]
    constructor
    · rintro (⟨rfl, rfl⟩ | ⟨a, b⟩)
      · exact .inl ⟨rfl, rfl⟩
      · exact .inr ⟨b, a⟩
    · rintro (⟨rfl, rfl⟩ | ⟨a, b⟩)
      · exact .inl ⟨rfl, rfl⟩
      · exact .inr ⟨b, a⟩
  refine Option.ext fun v => ?_
  rw [key]
  split
  · rename_i e; simp [e, eq_comm]
  · rename_i e; simp [e]
theorem get_empty (s : BitVec 64) (n : Nat) (h1 : 1 ≤ n) (h2 : n ≤ 65536) (p : Pfx) : getF ⟨s, emptyBks n, []⟩ p = none := by
  obtain ⟨k1, k2, _⟩ := empty_ok s n h1 h2
  refine Option.eq_none_iff_forall_ne_some.2 fun v hv => ?_
  rw [get_ok k1, k2] at hv
  cases hv
theorem get_none {T : Tab} (h : Ok T) {p : Pfx} (hg : getF T p = none) : ∀ x ∈ T.cont, x.p ≠ p := by
  intro x hx e
  subst e
  have := (get_ok h x.p x.hop).2 hx
  rw [hg] at this; cases this
theorem put_len_new {f : Nat} {T : Tab} {r : Rt} (hf : 65536 ≤ T.n * 2 ^ f) (h : Ok T) (hg : getF T r.p = none) : (putF f T r).cont.length = T.cont.length + 1 := by
  obtain ⟨_, h2, _⟩ := put_ok f T r hf h
  rw [h2.length_eq, without_none (get_none h hg), List.length_cons]
theorem put_same {f : Nat} {T : Tab} {r : Rt} {v : Int} (h : Ok T) (hg : getF T r.p = some v) :
    (putF f T r).seed = T.seed ∧ (putF f T r).n = T.n ∧ (putF f T r).stash.length = T.stash.length ∧ (putF f T r).cont.length = T.cont.length := by
  cases hr : replF T r with
  | none => exact ((repl_none h hr).2.2 ⟨r.p, v⟩ ((get_ok h r.p v).1 hg) rfl).elim
  | some T' =>
    rw [put_repl hr f]
    obtain ⟨k1, k2, k3, k4, k5⟩ := repl_some h hr
    refine ⟨k3, k4, k5, ?_⟩
    have hm := (get_ok h r.p v).1 hg
    obtain ⟨L, R, e⟩ := List.append_of_mem hm
    have e2 : T.cont = L ++ [⟨r.p, v⟩] ++ R := by rw [e]; simp
    have hnd := h.nodup
    rw [e2] at hnd
    rw [k2.length_eq, e2, without_mid rfl hnd]
    simp; omega

/-- The example: into a table that holds nothing. -/
theorem bk_empty {n i : Nat} (h : i < n) : bkAt (emptyBks n) i = [noPl, noPl, noPl, noPl] := by
  unfold bkAt emptyBks
  rw [List.getD_eq_getElem?_getD, List.getElem?_replicate, if_pos h]; rfl
theorem seen_one (s : BitVec 64) (n : Nat) (h1 : 1 ≤ n) (h2 : n ≤ 65536) (r : Rt) (f : Nat) : getSeenD (putF f ⟨s, emptyBks n, []⟩ r) r.p = true := by
  have hl : (⟨s, emptyBks n, []⟩ : Tab).n = n := List.length_replicate
  have hb1 := bk_empty (ix1_lt s r.p h1 h2)
  have hb2 := bk_empty (ix2_lt s r.p h1 h2)
  have hr : replF ⟨s, emptyBks n, []⟩ r = none := by
    unfold replF
    simp only [hl, hb1, hb2]
    rfl
  have hp : Bput [noPl, noPl, noPl, noPl] r = some [⟨true, r⟩, noPl, noPl, noPl] := rfl
  have hst : putStep ⟨s, emptyBks n, []⟩ r = ((⟨s, emptyBks n, []⟩ : Tab).setBk (ix1 s n r.p) [⟨true, r⟩, noPl, noPl, noPl], false) := by
    unfold putStep
    simp only [hr, hl, hb1, hp]
  have hput : putF f ⟨s, emptyBks n, []⟩ r = (⟨s, emptyBks n, []⟩ : Tab).setBk (ix1 s n r.p) [⟨true, r⟩, noPl, noPl, noPl] := by
    cases f with
    | zero => rw [putF, hst]
    | succ f => rw [putF, hst]; rfl
  rw [hput]
  unfold getSeenD
  have hn : ((⟨s, emptyBks n, []⟩ : Tab).setBk (ix1 s n r.p) [⟨true, r⟩, noPl, noPl, noPl]).n = n := List.length_set.trans hl
  rw [hn]
  have : bkAt ((⟨s, emptyBks n, []⟩ : Tab).setBk (ix1 s n r.p) [⟨true, r⟩, noPl, noPl, noPl]).bks (ix1 s n r.p) = [⟨true, r⟩, noPl, noPl, noPl] := by
    show bkAt ((emptyBks n).set (ix1 s n r.p) _) (ix1 s n r.p) = _
    unfold bkAt
    rw [List.getD_eq_getElem?_getD, List.getElem?_set_self (by rw [emptyBks, List.length_replicate]; exact ix1_lt s r.p h1 h2)]; rfl
  show (Bget (bkAt ((⟨s, emptyBks n, []⟩ : Tab).setBk (ix1 s n r.p) [⟨true, r⟩, noPl, noPl, noPl]).bks (ix1 s n r.p)) r.p).isSome = true
  rw [this]
  exact Bget_isSome.2 ⟨0, by simp [Bfind, firstI, isKey]⟩
end Go.Fl
