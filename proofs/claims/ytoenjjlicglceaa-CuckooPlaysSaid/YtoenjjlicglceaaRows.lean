/-
  No cell of these rows narrows 'for every input' (looked for: loops, veiled, ifaces, maps, wideKeys, modest, calm, conditions, laid).
  DERIVED. THE GIVEN ROWS OF THIS SEAT. 8 by the template 'for every input the law returns true; each argument reads behind the call as it read before'; 0 by the template 'total and deterministic' (their statements: YtoenjjlicglceaaTotals.lean).
  GIVEN WITH THE SEED: the statements are not yours to turn. If you find one false, say at which input.
  Laid BY PROGRAM, IN A SANDBOX (cutbox-rows.mjs): the forced cells as the released guide's own fill.sh prints them over the translation 0adef42101b3bfe9… (all of the seat's roots in one cut). By AI agents, Wed Nov 11 2026. No macro, syntax, notation, axiom, sorry.
-/
import Derived.Test.YtoenjjlicglceaaChecked
import GoSem.Claim
import GoSem.ClaimJoined
import GoSem.ClaimMapViews
import Derived.JoinedTies
import Derived.KernelRfl
namespace Go.Proofs.Ytoenjjlicglceaa
/- THE CELL 'sum', in the pinned program and in every row, IS THE sha256 OF THE DUMP (.gsa) THAT YtoenjjlicglceaaProg.lean LOADS. Nothing in Lean hashes anything: it is a label: what it is worth is what the hold of that sum in a sandbox is worth. -/
noncomputable def Try.pinned : Pinned := { name := "ytoenjjlicglceaa", sum := "0adef42101b3bfe97fde9d27fa664b878edef13de52035362e7eceb2d0bf65c9", checked := Try.checked }
namespace Rows
def none {H : Type} : Left H := { results := [], args := [] }

/-- 'flocculuslaw12.CuckooReplaces': WHATEVER THE INPUT: true; the input reads as it did. -/
def cuckooReplacesSpec : ChangeSpec := { name := "cuckooReplaces", fn := fun _ => fun
  | [d1, d2, d3, d4] => { results := [.lit (.bool true)], args := [d1, d2, d3, d4] }
  | _ => none }
def cuckooReplacesRow : OpenClaim := { program := "ytoenjjlicglceaa", sum := "0adef42101b3bfe97fde9d27fa664b878edef13de52035362e7eceb2d0bf65c9", func := "flocculus/flocculuslaw12.CuckooReplaces", spec := "cuckooReplaces", inPlace := ["slices.overlaps[flocculus/api.Route]"], unfollowed := true, recurses := true, apart := false }
def CuckooReplacesSaid : Prop := cuckooReplacesRow.holds Try.pinned (OpenSpec.ofChange cuckooReplacesSpec)

/-- ITS FALSE NEIGHBOUR: 'it returns false'. Refute it at one input. -/
def cuckooReplacesWrong : ChangeSpec := { name := "cuckooReplaces", fn := fun _ => fun
  | [d1, d2, d3, d4] => { results := [.lit (.bool false)], args := [d1, d2, d3, d4] }
  | _ => none }
def CuckooReplacesWrongFalsely : Prop := cuckooReplacesRow.holds Try.pinned (OpenSpec.ofChange cuckooReplacesWrong)

/-- 'flocculuslaw18.CoverAll': WHATEVER THE INPUT: true; the input reads as it did. -/
def coverAllSpec : ChangeSpec := { name := "coverAll", fn := fun _ => fun
  | [d1, d2, d3, d4] => { results := [.lit (.bool true)], args := [d1, d2, d3, d4] }
  | _ => none }
def coverAllRow : OpenClaim := { program := "ytoenjjlicglceaa", sum := "0adef42101b3bfe97fde9d27fa664b878edef13de52035362e7eceb2d0bf65c9", func := "flocculus/flocculuslaw18.CoverAll", spec := "coverAll", unfollowed := true, recurses := true, apart := false }
def CoverAllSaid : Prop := coverAllRow.holds Try.pinned (OpenSpec.ofChange coverAllSpec)

/-- ITS FALSE NEIGHBOUR: 'it returns false'. Refute it at one input. -/
def coverAllWrong : ChangeSpec := { name := "coverAll", fn := fun _ => fun
  | [d1, d2, d3, d4] => { results := [.lit (.bool false)], args := [d1, d2, d3, d4] }
  | _ => none }
def CoverAllWrongFalsely : Prop := coverAllRow.holds Try.pinned (OpenSpec.ofChange coverAllWrong)

/-- 'flocculuslaw18.CoverTells': WHATEVER THE INPUT: true; the input reads as it did. -/
def coverTellsSpec : ChangeSpec := { name := "coverTells", fn := fun _ => fun
  | [d1, d2, d3, d4] => { results := [.lit (.bool true)], args := [d1, d2, d3, d4] }
  | _ => none }
def coverTellsRow : OpenClaim := { program := "ytoenjjlicglceaa", sum := "0adef42101b3bfe97fde9d27fa664b878edef13de52035362e7eceb2d0bf65c9", func := "flocculus/flocculuslaw18.CoverTells", spec := "coverTells", unfollowed := true, recurses := true, apart := false }
def CoverTellsSaid : Prop := coverTellsRow.holds Try.pinned (OpenSpec.ofChange coverTellsSpec)

/-- ITS FALSE NEIGHBOUR: 'it returns false'. Refute it at one input. -/
def coverTellsWrong : ChangeSpec := { name := "coverTells", fn := fun _ => fun
  | [d1, d2, d3, d4] => { results := [.lit (.bool false)], args := [d1, d2, d3, d4] }
  | _ => none }
def CoverTellsWrongFalsely : Prop := coverTellsRow.holds Try.pinned (OpenSpec.ofChange coverTellsWrong)

/-- 'flocculuslaw12.CuckooPlays': WHATEVER THE INPUT: true; the input reads as it did. -/
def cuckooPlaysSpec : ChangeSpec := { name := "cuckooPlays", fn := fun _ => fun
  | [d1, d2, d3, d4] => { results := [.lit (.bool true)], args := [d1, d2, d3, d4] }
  | _ => none }
def cuckooPlaysRow : OpenClaim := { program := "ytoenjjlicglceaa", sum := "0adef42101b3bfe97fde9d27fa664b878edef13de52035362e7eceb2d0bf65c9", func := "flocculus/flocculuslaw12.CuckooPlays", spec := "cuckooPlays", inPlace := ["slices.overlaps[flocculus/api.Route]"], unfollowed := true, recurses := true, apart := false }
def CuckooPlaysSaid : Prop := cuckooPlaysRow.holds Try.pinned (OpenSpec.ofChange cuckooPlaysSpec)

/-- ITS FALSE NEIGHBOUR: 'it returns false'. Refute it at one input. -/
def cuckooPlaysWrong : ChangeSpec := { name := "cuckooPlays", fn := fun _ => fun
  | [d1, d2, d3, d4] => { results := [.lit (.bool false)], args := [d1, d2, d3, d4] }
  | _ => none }
def CuckooPlaysWrongFalsely : Prop := cuckooPlaysRow.holds Try.pinned (OpenSpec.ofChange cuckooPlaysWrong)

/-- 'flocculuslaw12.CuckooKeeps': WHATEVER THE INPUT: true; the input reads as it did. -/
def cuckooKeepsSpec : ChangeSpec := { name := "cuckooKeeps", fn := fun _ => fun
  | [d1, d2, d3] => { results := [.lit (.bool true)], args := [d1, d2, d3] }
  | _ => none }
def cuckooKeepsRow : OpenClaim := { program := "ytoenjjlicglceaa", sum := "0adef42101b3bfe97fde9d27fa664b878edef13de52035362e7eceb2d0bf65c9", func := "flocculus/flocculuslaw12.CuckooKeeps", spec := "cuckooKeeps", inPlace := ["slices.overlaps[flocculus/api.Route]"], unfollowed := true, recurses := true, apart := false }
def CuckooKeepsSaid : Prop := cuckooKeepsRow.holds Try.pinned (OpenSpec.ofChange cuckooKeepsSpec)

/-- ITS FALSE NEIGHBOUR: 'it returns false'. Refute it at one input. -/
def cuckooKeepsWrong : ChangeSpec := { name := "cuckooKeeps", fn := fun _ => fun
  | [d1, d2, d3] => { results := [.lit (.bool false)], args := [d1, d2, d3] }
  | _ => none }
def CuckooKeepsWrongFalsely : Prop := cuckooKeepsRow.holds Try.pinned (OpenSpec.ofChange cuckooKeepsWrong)

/-- 'flocculuslaw19.DeltaTells': WHATEVER THE INPUT: true; the input reads as it did. -/
def deltaTellsSpec : ChangeSpec := { name := "deltaTells", fn := fun _ => fun
  | [d1, d2, d3, d4, d5, d6] => { results := [.lit (.bool true)], args := [d1, d2, d3, d4, d5, d6] }
  | _ => none }
def deltaTellsRow : OpenClaim := { program := "ytoenjjlicglceaa", sum := "0adef42101b3bfe97fde9d27fa664b878edef13de52035362e7eceb2d0bf65c9", func := "flocculus/flocculuslaw19.DeltaTells", spec := "deltaTells", unfollowed := true, recurses := true, apart := false }
def DeltaTellsSaid : Prop := deltaTellsRow.holds Try.pinned (OpenSpec.ofChange deltaTellsSpec)

/-- ITS FALSE NEIGHBOUR: 'it returns false'. Refute it at one input. -/
def deltaTellsWrong : ChangeSpec := { name := "deltaTells", fn := fun _ => fun
  | [d1, d2, d3, d4, d5, d6] => { results := [.lit (.bool false)], args := [d1, d2, d3, d4, d5, d6] }
  | _ => none }
def DeltaTellsWrongFalsely : Prop := deltaTellsRow.holds Try.pinned (OpenSpec.ofChange deltaTellsWrong)

/-- 'flocculuslaw19.DeltaFew': WHATEVER THE INPUT: true; the input reads as it did. -/
def deltaFewSpec : ChangeSpec := { name := "deltaFew", fn := fun _ => fun
  | [d1, d2, d3, d4, d5] => { results := [.lit (.bool true)], args := [d1, d2, d3, d4, d5] }
  | _ => none }
def deltaFewRow : OpenClaim := { program := "ytoenjjlicglceaa", sum := "0adef42101b3bfe97fde9d27fa664b878edef13de52035362e7eceb2d0bf65c9", func := "flocculus/flocculuslaw19.DeltaFew", spec := "deltaFew", unfollowed := true, recurses := true, apart := false }
def DeltaFewSaid : Prop := deltaFewRow.holds Try.pinned (OpenSpec.ofChange deltaFewSpec)

/-- ITS FALSE NEIGHBOUR: 'it returns false'. Refute it at one input. -/
def deltaFewWrong : ChangeSpec := { name := "deltaFew", fn := fun _ => fun
  | [d1, d2, d3, d4, d5] => { results := [.lit (.bool false)], args := [d1, d2, d3, d4, d5] }
  | _ => none }
def DeltaFewWrongFalsely : Prop := deltaFewRow.holds Try.pinned (OpenSpec.ofChange deltaFewWrong)

/-- 'flocculuslaw21.LevelSure': WHATEVER THE INPUT: true; the input reads as it did. -/
def levelSureSpec : ChangeSpec := { name := "levelSure", fn := fun _ => fun
  | [d1, d2, d3, d4, d5, d6] => { results := [.lit (.bool true)], args := [d1, d2, d3, d4, d5, d6] }
  | _ => none }
def levelSureRow : OpenClaim := { program := "ytoenjjlicglceaa", sum := "0adef42101b3bfe97fde9d27fa664b878edef13de52035362e7eceb2d0bf65c9", func := "flocculus/flocculuslaw21.LevelSure", spec := "levelSure", inPlace := ["slices.overlaps[flocculus/api.Route]"], unfollowed := true, recurses := true, apart := false }
def LevelSureSaid : Prop := levelSureRow.holds Try.pinned (OpenSpec.ofChange levelSureSpec)

/-- ITS FALSE NEIGHBOUR: 'it returns false'. Refute it at one input. -/
def levelSureWrong : ChangeSpec := { name := "levelSure", fn := fun _ => fun
  | [d1, d2, d3, d4, d5, d6] => { results := [.lit (.bool false)], args := [d1, d2, d3, d4, d5, d6] }
  | _ => none }
def LevelSureWrongFalsely : Prop := levelSureRow.holds Try.pinned (OpenSpec.ofChange levelSureWrong)

/- THE SECOND FORM. 'bulk': how many values and letters a reading holds, each counted each time it is reached (what is shared counts as often as it is met; a slice's spare places count too). A statement '..UptoSaid' is the law's where the arguments, and the package variables that the reading takes, are together of bulk at most 1048576: NARROWER than '..Said'. Prove '..Said' where nothing that the law and all that it calls make is longer than what came in: it says more and counts as full. Else prove '..UptoSaid'. A law counts once. -/
mutual
def uptoBulk {H : Type} : DataW H → Nat
  | .lit (.string bytes) => bytes.length + 1
  | .lit _ => 1
  | .nil => 1
  | .ptr d => uptoBulk d + 1
  | .slice elems spare => uptoBulkAll elems + uptoBulkAll spare + 1
  | .agg parts => uptoBulkAll parts + 1
  | .iface _ d => uptoBulk d + 1
  | .map entries => uptoBulkEntries entries + 1
  | .held _ => 1
def uptoBulkAll {H : Type} : List (DataW H) → Nat
  | [] => 0
  | d :: r => uptoBulk d + uptoBulkAll r
def uptoBulkEntries {H : Type} : List (Lit × DataW H) → Nat
  | [] => 0
  | x :: r => uptoBulkEntry x + uptoBulkEntries r
def uptoBulkEntry {H : Type} : Lit × DataW H → Nat
  | (.string bytes, d) => bytes.length + uptoBulk d + 1
  | (_, d) => uptoBulk d + 1
 end
def uptoSmall : (H : Type) → List (DataW H) → Bool := fun _ ds => decide (uptoBulkAll ds ≤ 1048576)
def OpenSpec.upto (s : _root_.Go.ChangeSpec) : _root_.Go.OpenSpec := { _root_.Go.OpenSpec.ofChange s with cond := some uptoSmall }

/-- 'flocculuslaw12.CuckooReplaces', WHERE WHAT IT READS IS OF BULK AT MOST 1048576: true; the input reads as it did. -/
def cuckooReplacesUptoRow : OpenClaim := { program := "ytoenjjlicglceaa", sum := "0adef42101b3bfe97fde9d27fa664b878edef13de52035362e7eceb2d0bf65c9", func := "flocculus/flocculuslaw12.CuckooReplaces", spec := "cuckooReplaces", inPlace := ["slices.overlaps[flocculus/api.Route]"], unfollowed := true, recurses := true, apart := false, narrowed := true }
def CuckooReplacesUptoSaid : Prop := cuckooReplacesUptoRow.holds Try.pinned (OpenSpec.upto cuckooReplacesSpec)

/-- 'flocculuslaw18.CoverAll', WHERE WHAT IT READS IS OF BULK AT MOST 1048576: true; the input reads as it did. -/
def coverAllUptoRow : OpenClaim := { program := "ytoenjjlicglceaa", sum := "0adef42101b3bfe97fde9d27fa664b878edef13de52035362e7eceb2d0bf65c9", func := "flocculus/flocculuslaw18.CoverAll", spec := "coverAll", unfollowed := true, recurses := true, apart := false, narrowed := true }
def CoverAllUptoSaid : Prop := coverAllUptoRow.holds Try.pinned (OpenSpec.upto coverAllSpec)

/-- 'flocculuslaw18.CoverTells', WHERE WHAT IT READS IS OF BULK AT MOST 1048576: true; the input reads as it did. -/
def coverTellsUptoRow : OpenClaim := { program := "ytoenjjlicglceaa", sum := "0adef42101b3bfe97fde9d27fa664b878edef13de52035362e7eceb2d0bf65c9", func := "flocculus/flocculuslaw18.CoverTells", spec := "coverTells", unfollowed := true, recurses := true, apart := false, narrowed := true }
def CoverTellsUptoSaid : Prop := coverTellsUptoRow.holds Try.pinned (OpenSpec.upto coverTellsSpec)

/-- 'flocculuslaw12.CuckooPlays', WHERE WHAT IT READS IS OF BULK AT MOST 1048576: true; the input reads as it did. -/
def cuckooPlaysUptoRow : OpenClaim := { program := "ytoenjjlicglceaa", sum := "0adef42101b3bfe97fde9d27fa664b878edef13de52035362e7eceb2d0bf65c9", func := "flocculus/flocculuslaw12.CuckooPlays", spec := "cuckooPlays", inPlace := ["slices.overlaps[flocculus/api.Route]"], unfollowed := true, recurses := true, apart := false, narrowed := true }
def CuckooPlaysUptoSaid : Prop := cuckooPlaysUptoRow.holds Try.pinned (OpenSpec.upto cuckooPlaysSpec)

/-- 'flocculuslaw12.CuckooKeeps', WHERE WHAT IT READS IS OF BULK AT MOST 1048576: true; the input reads as it did. -/
def cuckooKeepsUptoRow : OpenClaim := { program := "ytoenjjlicglceaa", sum := "0adef42101b3bfe97fde9d27fa664b878edef13de52035362e7eceb2d0bf65c9", func := "flocculus/flocculuslaw12.CuckooKeeps", spec := "cuckooKeeps", inPlace := ["slices.overlaps[flocculus/api.Route]"], unfollowed := true, recurses := true, apart := false, narrowed := true }
def CuckooKeepsUptoSaid : Prop := cuckooKeepsUptoRow.holds Try.pinned (OpenSpec.upto cuckooKeepsSpec)

/-- 'flocculuslaw19.DeltaTells', WHERE WHAT IT READS IS OF BULK AT MOST 1048576: true; the input reads as it did. -/
def deltaTellsUptoRow : OpenClaim := { program := "ytoenjjlicglceaa", sum := "0adef42101b3bfe97fde9d27fa664b878edef13de52035362e7eceb2d0bf65c9", func := "flocculus/flocculuslaw19.DeltaTells", spec := "deltaTells", unfollowed := true, recurses := true, apart := false, narrowed := true }
def DeltaTellsUptoSaid : Prop := deltaTellsUptoRow.holds Try.pinned (OpenSpec.upto deltaTellsSpec)

/-- 'flocculuslaw19.DeltaFew', WHERE WHAT IT READS IS OF BULK AT MOST 1048576: true; the input reads as it did. -/
def deltaFewUptoRow : OpenClaim := { program := "ytoenjjlicglceaa", sum := "0adef42101b3bfe97fde9d27fa664b878edef13de52035362e7eceb2d0bf65c9", func := "flocculus/flocculuslaw19.DeltaFew", spec := "deltaFew", unfollowed := true, recurses := true, apart := false, narrowed := true }
def DeltaFewUptoSaid : Prop := deltaFewUptoRow.holds Try.pinned (OpenSpec.upto deltaFewSpec)

/-- 'flocculuslaw21.LevelSure', WHERE WHAT IT READS IS OF BULK AT MOST 1048576: true; the input reads as it did. -/
def levelSureUptoRow : OpenClaim := { program := "ytoenjjlicglceaa", sum := "0adef42101b3bfe97fde9d27fa664b878edef13de52035362e7eceb2d0bf65c9", func := "flocculus/flocculuslaw21.LevelSure", spec := "levelSure", inPlace := ["slices.overlaps[flocculus/api.Route]"], unfollowed := true, recurses := true, apart := false, narrowed := true }
def LevelSureUptoSaid : Prop := levelSureUptoRow.holds Try.pinned (OpenSpec.upto levelSureSpec)

end Rows
end Go.Proofs.Ytoenjjlicglceaa
