/-
  No cell of these rows narrows 'for every input' (looked for: loops, veiled, ifaces, maps, wideKeys, modest, calm, conditions, laid).
  DERIVED. THE GIVEN ROWS OF THIS SEAT. 7 by the template 'for every input the law returns true; each argument reads behind the call as it read before'; 0 by the template 'total and deterministic' (their statements: YtpipfaegkgakiaaTotals.lean).
  GIVEN WITH THE SEED: the statements are not yours to turn. If you find one false, say at which input.
  Laid BY PROGRAM, IN A SANDBOX (cutbox-rows.mjs): the forced cells as the released guide's own fill.sh prints them over the translation 95c3ff9be72b3446… (all of the seat's roots in one cut). By AI agents, Wed Nov 11 2026. No macro, syntax, notation, axiom, sorry.
-/
import Derived.Test.YtpipfaegkgakiaaChecked
import GoSem.Claim
import GoSem.ClaimJoined
import GoSem.ClaimMapViews
import Derived.JoinedTies
import Derived.KernelRfl
namespace Go.Proofs.Ytpipfaegkgakiaa
/- THE CELL 'sum', in the pinned program and in every row, IS THE sha256 OF THE DUMP (.gsa) THAT YtpipfaegkgakiaaProg.lean LOADS. Nothing in Lean hashes anything: it is a label: what it is worth is what the hold of that sum in a sandbox is worth. -/
noncomputable def Try.pinned : Pinned := { name := "ytpipfaegkgakiaa", sum := "95c3ff9be72b3446e3451589cff6eb169d8f96da6581b4e6040053b30127081d", checked := Try.checked }
namespace Rows
def none {H : Type} : Left H := { results := [], args := [] }

/-- 'raddlelaw14.SetSorted': WHATEVER THE INPUT: true; the input reads as it did. -/
def setSortedSpec : ChangeSpec := { name := "setSorted", fn := fun _ => fun
  | [d1, d2] => { results := [.lit (.bool true)], args := [d1, d2] }
  | _ => none }
def setSortedRow : OpenClaim := { program := "ytpipfaegkgakiaa", sum := "95c3ff9be72b3446e3451589cff6eb169d8f96da6581b4e6040053b30127081d", func := "raddle/raddlelaw14.SetSorted", spec := "setSorted", unfollowed := true, recurses := true, apart := false }
def SetSortedSaid : Prop := setSortedRow.holds Try.pinned (OpenSpec.ofChange setSortedSpec)

/-- ITS FALSE NEIGHBOUR: 'it returns false'. Refute it at one input. -/
def setSortedWrong : ChangeSpec := { name := "setSorted", fn := fun _ => fun
  | [d1, d2] => { results := [.lit (.bool false)], args := [d1, d2] }
  | _ => none }
def SetSortedWrongFalsely : Prop := setSortedRow.holds Try.pinned (OpenSpec.ofChange setSortedWrong)

/-- 'raddlelaw14.SetMakes': WHATEVER THE INPUT: true; the input reads as it did. -/
def setMakesSpec : ChangeSpec := { name := "setMakes", fn := fun _ => fun
  | [d1, d2, d3] => { results := [.lit (.bool true)], args := [d1, d2, d3] }
  | _ => none }
def setMakesRow : OpenClaim := { program := "ytpipfaegkgakiaa", sum := "95c3ff9be72b3446e3451589cff6eb169d8f96da6581b4e6040053b30127081d", func := "raddle/raddlelaw14.SetMakes", spec := "setMakes", unfollowed := true, recurses := true, apart := false }
def SetMakesSaid : Prop := setMakesRow.holds Try.pinned (OpenSpec.ofChange setMakesSpec)

/-- ITS FALSE NEIGHBOUR: 'it returns false'. Refute it at one input. -/
def setMakesWrong : ChangeSpec := { name := "setMakes", fn := fun _ => fun
  | [d1, d2, d3] => { results := [.lit (.bool false)], args := [d1, d2, d3] }
  | _ => none }
def SetMakesWrongFalsely : Prop := setMakesRow.holds Try.pinned (OpenSpec.ofChange setMakesWrong)

/-- 'raddlelaw14.SetEnds': WHATEVER THE INPUT: true; the input reads as it did. -/
def setEndsSpec : ChangeSpec := { name := "setEnds", fn := fun _ => fun
  | [d1, d2] => { results := [.lit (.bool true)], args := [d1, d2] }
  | _ => none }
def setEndsRow : OpenClaim := { program := "ytpipfaegkgakiaa", sum := "95c3ff9be72b3446e3451589cff6eb169d8f96da6581b4e6040053b30127081d", func := "raddle/raddlelaw14.SetEnds", spec := "setEnds", unfollowed := true, recurses := true, apart := false }
def SetEndsSaid : Prop := setEndsRow.holds Try.pinned (OpenSpec.ofChange setEndsSpec)

/-- ITS FALSE NEIGHBOUR: 'it returns false'. Refute it at one input. -/
def setEndsWrong : ChangeSpec := { name := "setEnds", fn := fun _ => fun
  | [d1, d2] => { results := [.lit (.bool false)], args := [d1, d2] }
  | _ => none }
def SetEndsWrongFalsely : Prop := setEndsRow.holds Try.pinned (OpenSpec.ofChange setEndsWrong)

/-- 'raddlelaw14.SetMany': WHATEVER THE INPUT: true; the input reads as it did. -/
def setManySpec : ChangeSpec := { name := "setMany", fn := fun _ => fun
  | [d1, d2] => { results := [.lit (.bool true)], args := [d1, d2] }
  | _ => none }
def setManyRow : OpenClaim := { program := "ytpipfaegkgakiaa", sum := "95c3ff9be72b3446e3451589cff6eb169d8f96da6581b4e6040053b30127081d", func := "raddle/raddlelaw14.SetMany", spec := "setMany", unfollowed := true, recurses := true, apart := false }
def SetManySaid : Prop := setManyRow.holds Try.pinned (OpenSpec.ofChange setManySpec)

/-- ITS FALSE NEIGHBOUR: 'it returns false'. Refute it at one input. -/
def setManyWrong : ChangeSpec := { name := "setMany", fn := fun _ => fun
  | [d1, d2] => { results := [.lit (.bool false)], args := [d1, d2] }
  | _ => none }
def SetManyWrongFalsely : Prop := setManyRow.holds Try.pinned (OpenSpec.ofChange setManyWrong)

/-- 'raddlelaw14.SetExact': WHATEVER THE INPUT: true; the input reads as it did. -/
def setExactSpec : ChangeSpec := { name := "setExact", fn := fun _ => fun
  | [d1, d2, d3] => { results := [.lit (.bool true)], args := [d1, d2, d3] }
  | _ => none }
def setExactRow : OpenClaim := { program := "ytpipfaegkgakiaa", sum := "95c3ff9be72b3446e3451589cff6eb169d8f96da6581b4e6040053b30127081d", func := "raddle/raddlelaw14.SetExact", spec := "setExact", unfollowed := true, recurses := true, apart := false }
def SetExactSaid : Prop := setExactRow.holds Try.pinned (OpenSpec.ofChange setExactSpec)

/-- ITS FALSE NEIGHBOUR: 'it returns false'. Refute it at one input. -/
def setExactWrong : ChangeSpec := { name := "setExact", fn := fun _ => fun
  | [d1, d2, d3] => { results := [.lit (.bool false)], args := [d1, d2, d3] }
  | _ => none }
def SetExactWrongFalsely : Prop := setExactRow.holds Try.pinned (OpenSpec.ofChange setExactWrong)

/-- 'raddlelaw14.SetGroup': WHATEVER THE INPUT: true; the input reads as it did. -/
def setGroupSpec : ChangeSpec := { name := "setGroup", fn := fun _ => fun
  | [d1, d2, d3] => { results := [.lit (.bool true)], args := [d1, d2, d3] }
  | _ => none }
def setGroupRow : OpenClaim := { program := "ytpipfaegkgakiaa", sum := "95c3ff9be72b3446e3451589cff6eb169d8f96da6581b4e6040053b30127081d", func := "raddle/raddlelaw14.SetGroup", spec := "setGroup", unfollowed := true, recurses := true, apart := false }
def SetGroupSaid : Prop := setGroupRow.holds Try.pinned (OpenSpec.ofChange setGroupSpec)

/-- ITS FALSE NEIGHBOUR: 'it returns false'. Refute it at one input. -/
def setGroupWrong : ChangeSpec := { name := "setGroup", fn := fun _ => fun
  | [d1, d2, d3] => { results := [.lit (.bool false)], args := [d1, d2, d3] }
  | _ => none }
def SetGroupWrongFalsely : Prop := setGroupRow.holds Try.pinned (OpenSpec.ofChange setGroupWrong)

/-- 'raddlelaw14.SetBent': WHATEVER THE INPUT: true; the input reads as it did. -/
def setBentSpec : ChangeSpec := { name := "setBent", fn := fun _ => fun
  | [d1, d2, d3] => { results := [.lit (.bool true)], args := [d1, d2, d3] }
  | _ => none }
def setBentRow : OpenClaim := { program := "ytpipfaegkgakiaa", sum := "95c3ff9be72b3446e3451589cff6eb169d8f96da6581b4e6040053b30127081d", func := "raddle/raddlelaw14.SetBent", spec := "setBent", unfollowed := true, recurses := true, apart := false }
def SetBentSaid : Prop := setBentRow.holds Try.pinned (OpenSpec.ofChange setBentSpec)

/-- ITS FALSE NEIGHBOUR: 'it returns false'. Refute it at one input. -/
def setBentWrong : ChangeSpec := { name := "setBent", fn := fun _ => fun
  | [d1, d2, d3] => { results := [.lit (.bool false)], args := [d1, d2, d3] }
  | _ => none }
def SetBentWrongFalsely : Prop := setBentRow.holds Try.pinned (OpenSpec.ofChange setBentWrong)

/- THE SECOND FORM. 'bulk': how many values and letters a reading holds, each counted each time it is reached (what is shared counts as often as it is met; a slice's spare places count too). A statement '..UptoSaid' is the law's where the arguments, and the package variables that the reading takes, are together of bulk at most 1048576: NARROWER than '..Said'. Prove '..Said' where nothing that the law and all that it calls make is longer than what came in: it says more and counts as full. Else prove '..UptoSaid'. A law counts once. -/
mutual
def uptoBulk {H : Type} : DataW H → Nat
  | .lit (.string bytes) => bytes.length + 1
  | .lit _ => 1
  | .nil => 1
  | .ptr d => uptoBulk d + 1
  | .slice elems spare => uptoBulkAll elems + uptoBulkAll spare + 1
  | .agg parts => uptoBulkAll parts + 1
  | .iface _ d => uptoBulk d + 1
  | .map entries => uptoBulkEntries entries + 1
  | .held _ => 1
def uptoBulkAll {H : Type} : List (DataW H) → Nat
  | [] => 0
  | d :: r => uptoBulk d + uptoBulkAll r
def uptoBulkEntries {H : Type} : List (Lit × DataW H) → Nat
  | [] => 0
  | x :: r => uptoBulkEntry x + uptoBulkEntries r
def uptoBulkEntry {H : Type} : Lit × DataW H → Nat
  | (.string bytes, d) => bytes.length + uptoBulk d + 1
  | (_, d) => uptoBulk d + 1
 end
def uptoSmall : (H : Type) → List (DataW H) → Bool := fun _ ds => decide (uptoBulkAll ds ≤ 1048576)
def OpenSpec.upto (s : _root_.Go.ChangeSpec) : _root_.Go.OpenSpec := { _root_.Go.OpenSpec.ofChange s with cond := some uptoSmall }

/-- 'raddlelaw14.SetSorted', WHERE WHAT IT READS IS OF BULK AT MOST 1048576: true; the input reads as it did. -/
def setSortedUptoRow : OpenClaim := { program := "ytpipfaegkgakiaa", sum := "95c3ff9be72b3446e3451589cff6eb169d8f96da6581b4e6040053b30127081d", func := "raddle/raddlelaw14.SetSorted", spec := "setSorted", unfollowed := true, recurses := true, apart := false, narrowed := true }
def SetSortedUptoSaid : Prop := setSortedUptoRow.holds Try.pinned (OpenSpec.upto setSortedSpec)

/-- 'raddlelaw14.SetMakes', WHERE WHAT IT READS IS OF BULK AT MOST 1048576: true; the input reads as it did. -/
def setMakesUptoRow : OpenClaim := { program := "ytpipfaegkgakiaa", sum := "95c3ff9be72b3446e3451589cff6eb169d8f96da6581b4e6040053b30127081d", func := "raddle/raddlelaw14.SetMakes", spec := "setMakes", unfollowed := true, recurses := true, apart := false, narrowed := true }
def SetMakesUptoSaid : Prop := setMakesUptoRow.holds Try.pinned (OpenSpec.upto setMakesSpec)

/-- 'raddlelaw14.SetEnds', WHERE WHAT IT READS IS OF BULK AT MOST 1048576: true; the input reads as it did. -/
def setEndsUptoRow : OpenClaim := { program := "ytpipfaegkgakiaa", sum := "95c3ff9be72b3446e3451589cff6eb169d8f96da6581b4e6040053b30127081d", func := "raddle/raddlelaw14.SetEnds", spec := "setEnds", unfollowed := true, recurses := true, apart := false, narrowed := true }
def SetEndsUptoSaid : Prop := setEndsUptoRow.holds Try.pinned (OpenSpec.upto setEndsSpec)

/-- 'raddlelaw14.SetMany', WHERE WHAT IT READS IS OF BULK AT MOST 1048576: true; the input reads as it did. -/
def setManyUptoRow : OpenClaim := { program := "ytpipfaegkgakiaa", sum := "95c3ff9be72b3446e3451589cff6eb169d8f96da6581b4e6040053b30127081d", func := "raddle/raddlelaw14.SetMany", spec := "setMany", unfollowed := true, recurses := true, apart := false, narrowed := true }
def SetManyUptoSaid : Prop := setManyUptoRow.holds Try.pinned (OpenSpec.upto setManySpec)

/-- 'raddlelaw14.SetExact', WHERE WHAT IT READS IS OF BULK AT MOST 1048576: true; the input reads as it did. -/
def setExactUptoRow : OpenClaim := { program := "ytpipfaegkgakiaa", sum := "95c3ff9be72b3446e3451589cff6eb169d8f96da6581b4e6040053b30127081d", func := "raddle/raddlelaw14.SetExact", spec := "setExact", unfollowed := true, recurses := true, apart := false, narrowed := true }
def SetExactUptoSaid : Prop := setExactUptoRow.holds Try.pinned (OpenSpec.upto setExactSpec)

/-- 'raddlelaw14.SetGroup', WHERE WHAT IT READS IS OF BULK AT MOST 1048576: true; the input reads as it did. -/
def setGroupUptoRow : OpenClaim := { program := "ytpipfaegkgakiaa", sum := "95c3ff9be72b3446e3451589cff6eb169d8f96da6581b4e6040053b30127081d", func := "raddle/raddlelaw14.SetGroup", spec := "setGroup", unfollowed := true, recurses := true, apart := false, narrowed := true }
def SetGroupUptoSaid : Prop := setGroupUptoRow.holds Try.pinned (OpenSpec.upto setGroupSpec)

/-- 'raddlelaw14.SetBent', WHERE WHAT IT READS IS OF BULK AT MOST 1048576: true; the input reads as it did. -/
def setBentUptoRow : OpenClaim := { program := "ytpipfaegkgakiaa", sum := "95c3ff9be72b3446e3451589cff6eb169d8f96da6581b4e6040053b30127081d", func := "raddle/raddlelaw14.SetBent", spec := "setBent", unfollowed := true, recurses := true, apart := false, narrowed := true }
def SetBentUptoSaid : Prop := setBentUptoRow.holds Try.pinned (OpenSpec.upto setBentSpec)

end Rows
end Go.Proofs.Ytpipfaegkgakiaa
