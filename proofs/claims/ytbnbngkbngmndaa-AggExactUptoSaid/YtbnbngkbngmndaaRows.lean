/-
  No cell of these rows narrows 'for every input' (looked for: loops, veiled, ifaces, maps, wideKeys, modest, calm, conditions, laid).
  DERIVED. THE GIVEN ROWS OF THIS SEAT. 23 by the template 'for every input the law returns true; each argument reads behind the call as it read before'; 0 by the template 'total and deterministic' (their statements: YtbnbngkbngmndaaTotals.lean).
  GIVEN WITH THE SEED: the statements are not yours to turn. If you find one false, say at which input.
  Laid BY PROGRAM, IN A SANDBOX (cutbox-rows.mjs): the forced cells as the released guide's own fill.sh prints them over the translation 69509ce6f64b869a… (all of the seat's roots in one cut). By AI agents, Wed Nov 11 2026. No macro, syntax, notation, axiom, sorry.
-/
import Derived.Test.YtbnbngkbngmndaaChecked
import GoSem.Claim
import GoSem.ClaimJoined
import GoSem.ClaimMapViews
import Derived.JoinedTies
import Derived.KernelRfl
namespace Go.Proofs.Ytbnbngkbngmndaa
/- THE CELL 'sum', in the pinned program and in every row, IS THE sha256 OF THE DUMP (.gsa) THAT YtbnbngkbngmndaaProg.lean LOADS. Nothing in Lean hashes anything: it is a label: what it is worth is what the hold of that sum in a sandbox is worth. -/
noncomputable def Try.pinned : Pinned := { name := "ytbnbngkbngmndaa", sum := "69509ce6f64b869aa5261dae954d8e7436c2fabcfc4d2efbfd727f11a0e10efc", checked := Try.checked }
namespace Rows
def none {H : Type} : Left H := { results := [], args := [] }

/-- 'raddlelaw17.JoinWide': WHATEVER THE INPUT: true; the input reads as it did. -/
def joinWideSpec : ChangeSpec := { name := "joinWide", fn := fun _ => fun
  | [d1, d2, d3] => { results := [.lit (.bool true)], args := [d1, d2, d3] }
  | _ => none }
def joinWideRow : OpenClaim := { program := "ytbnbngkbngmndaa", sum := "69509ce6f64b869aa5261dae954d8e7436c2fabcfc4d2efbfd727f11a0e10efc", func := "raddle/raddlelaw17.JoinWide", spec := "joinWide", unfollowed := true, recurses := true, apart := false }
def JoinWideSaid : Prop := joinWideRow.holds Try.pinned (OpenSpec.ofChange joinWideSpec)

/-- ITS FALSE NEIGHBOUR: 'it returns false'. Refute it at one input. -/
def joinWideWrong : ChangeSpec := { name := "joinWide", fn := fun _ => fun
  | [d1, d2, d3] => { results := [.lit (.bool false)], args := [d1, d2, d3] }
  | _ => none }
def JoinWideWrongFalsely : Prop := joinWideRow.holds Try.pinned (OpenSpec.ofChange joinWideWrong)

/-- 'raddlelaw18.DistExact': WHATEVER THE INPUT: true; the input reads as it did. -/
def distExactSpec : ChangeSpec := { name := "distExact", fn := fun _ => fun
  | [d1, d2] => { results := [.lit (.bool true)], args := [d1, d2] }
  | _ => none }
def distExactRow : OpenClaim := { program := "ytbnbngkbngmndaa", sum := "69509ce6f64b869aa5261dae954d8e7436c2fabcfc4d2efbfd727f11a0e10efc", func := "raddle/raddlelaw18.DistExact", spec := "distExact", unfollowed := true, recurses := true, apart := false }
def DistExactSaid : Prop := distExactRow.holds Try.pinned (OpenSpec.ofChange distExactSpec)

/-- ITS FALSE NEIGHBOUR: 'it returns false'. Refute it at one input. -/
def distExactWrong : ChangeSpec := { name := "distExact", fn := fun _ => fun
  | [d1, d2] => { results := [.lit (.bool false)], args := [d1, d2] }
  | _ => none }
def DistExactWrongFalsely : Prop := distExactRow.holds Try.pinned (OpenSpec.ofChange distExactWrong)

/-- 'raddlelaw18.DistSteps': WHATEVER THE INPUT: true; the input reads as it did. -/
def distStepsSpec : ChangeSpec := { name := "distSteps", fn := fun _ => fun
  | [d1, d2] => { results := [.lit (.bool true)], args := [d1, d2] }
  | _ => none }
def distStepsRow : OpenClaim := { program := "ytbnbngkbngmndaa", sum := "69509ce6f64b869aa5261dae954d8e7436c2fabcfc4d2efbfd727f11a0e10efc", func := "raddle/raddlelaw18.DistSteps", spec := "distSteps", unfollowed := true, recurses := true, apart := false }
def DistStepsSaid : Prop := distStepsRow.holds Try.pinned (OpenSpec.ofChange distStepsSpec)

/-- ITS FALSE NEIGHBOUR: 'it returns false'. Refute it at one input. -/
def distStepsWrong : ChangeSpec := { name := "distSteps", fn := fun _ => fun
  | [d1, d2] => { results := [.lit (.bool false)], args := [d1, d2] }
  | _ => none }
def DistStepsWrongFalsely : Prop := distStepsRow.holds Try.pinned (OpenSpec.ofChange distStepsWrong)

/-- 'raddlelaw17.JoinRows': WHATEVER THE INPUT: true; the input reads as it did. -/
def joinRowsSpec : ChangeSpec := { name := "joinRows", fn := fun _ => fun
  | [d1, d2, d3, d4] => { results := [.lit (.bool true)], args := [d1, d2, d3, d4] }
  | _ => none }
def joinRowsRow : OpenClaim := { program := "ytbnbngkbngmndaa", sum := "69509ce6f64b869aa5261dae954d8e7436c2fabcfc4d2efbfd727f11a0e10efc", func := "raddle/raddlelaw17.JoinRows", spec := "joinRows", unfollowed := true, recurses := true, apart := false }
def JoinRowsSaid : Prop := joinRowsRow.holds Try.pinned (OpenSpec.ofChange joinRowsSpec)

/-- ITS FALSE NEIGHBOUR: 'it returns false'. Refute it at one input. -/
def joinRowsWrong : ChangeSpec := { name := "joinRows", fn := fun _ => fun
  | [d1, d2, d3, d4] => { results := [.lit (.bool false)], args := [d1, d2, d3, d4] }
  | _ => none }
def JoinRowsWrongFalsely : Prop := joinRowsRow.holds Try.pinned (OpenSpec.ofChange joinRowsWrong)

/-- 'raddlelaw18.DistAdds': WHATEVER THE INPUT: true; the input reads as it did. -/
def distAddsSpec : ChangeSpec := { name := "distAdds", fn := fun _ => fun
  | [d] => { results := [.lit (.bool true)], args := [d] }
  | _ => none }
def distAddsRow : OpenClaim := { program := "ytbnbngkbngmndaa", sum := "69509ce6f64b869aa5261dae954d8e7436c2fabcfc4d2efbfd727f11a0e10efc", func := "raddle/raddlelaw18.DistAdds", spec := "distAdds", unfollowed := true, recurses := true, apart := false }
def DistAddsSaid : Prop := distAddsRow.holds Try.pinned (OpenSpec.ofChange distAddsSpec)

/-- ITS FALSE NEIGHBOUR: 'it returns false'. Refute it at one input. -/
def distAddsWrong : ChangeSpec := { name := "distAdds", fn := fun _ => fun
  | [d] => { results := [.lit (.bool false)], args := [d] }
  | _ => none }
def DistAddsWrongFalsely : Prop := distAddsRow.holds Try.pinned (OpenSpec.ofChange distAddsWrong)

/-- 'raddlelaw17.JoinSwaps': WHATEVER THE INPUT: true; the input reads as it did. -/
def joinSwapsSpec : ChangeSpec := { name := "joinSwaps", fn := fun _ => fun
  | [d1, d2, d3, d4] => { results := [.lit (.bool true)], args := [d1, d2, d3, d4] }
  | _ => none }
def joinSwapsRow : OpenClaim := { program := "ytbnbngkbngmndaa", sum := "69509ce6f64b869aa5261dae954d8e7436c2fabcfc4d2efbfd727f11a0e10efc", func := "raddle/raddlelaw17.JoinSwaps", spec := "joinSwaps", unfollowed := true, recurses := true, apart := false }
def JoinSwapsSaid : Prop := joinSwapsRow.holds Try.pinned (OpenSpec.ofChange joinSwapsSpec)

/-- ITS FALSE NEIGHBOUR: 'it returns false'. Refute it at one input. -/
def joinSwapsWrong : ChangeSpec := { name := "joinSwaps", fn := fun _ => fun
  | [d1, d2, d3, d4] => { results := [.lit (.bool false)], args := [d1, d2, d3, d4] }
  | _ => none }
def JoinSwapsWrongFalsely : Prop := joinSwapsRow.holds Try.pinned (OpenSpec.ofChange joinSwapsWrong)

/-- 'raddlelaw18.DistFilters': WHATEVER THE INPUT: true; the input reads as it did. -/
def distFiltersSpec : ChangeSpec := { name := "distFilters", fn := fun _ => fun
  | [d1, d2] => { results := [.lit (.bool true)], args := [d1, d2] }
  | _ => none }
def distFiltersRow : OpenClaim := { program := "ytbnbngkbngmndaa", sum := "69509ce6f64b869aa5261dae954d8e7436c2fabcfc4d2efbfd727f11a0e10efc", func := "raddle/raddlelaw18.DistFilters", spec := "distFilters", unfollowed := true, recurses := true, apart := false }
def DistFiltersSaid : Prop := distFiltersRow.holds Try.pinned (OpenSpec.ofChange distFiltersSpec)

/-- ITS FALSE NEIGHBOUR: 'it returns false'. Refute it at one input. -/
def distFiltersWrong : ChangeSpec := { name := "distFilters", fn := fun _ => fun
  | [d1, d2] => { results := [.lit (.bool false)], args := [d1, d2] }
  | _ => none }
def DistFiltersWrongFalsely : Prop := distFiltersRow.holds Try.pinned (OpenSpec.ofChange distFiltersWrong)

/-- 'raddlelaw16.LinTwice': WHATEVER THE INPUT: true; the input reads as it did. -/
def linTwiceSpec : ChangeSpec := { name := "linTwice", fn := fun _ => fun
  | [d1, d2, d3] => { results := [.lit (.bool true)], args := [d1, d2, d3] }
  | _ => none }
def linTwiceRow : OpenClaim := { program := "ytbnbngkbngmndaa", sum := "69509ce6f64b869aa5261dae954d8e7436c2fabcfc4d2efbfd727f11a0e10efc", func := "raddle/raddlelaw16.LinTwice", spec := "linTwice", unfollowed := true, recurses := true, apart := false }
def LinTwiceSaid : Prop := linTwiceRow.holds Try.pinned (OpenSpec.ofChange linTwiceSpec)

/-- ITS FALSE NEIGHBOUR: 'it returns false'. Refute it at one input. -/
def linTwiceWrong : ChangeSpec := { name := "linTwice", fn := fun _ => fun
  | [d1, d2, d3] => { results := [.lit (.bool false)], args := [d1, d2, d3] }
  | _ => none }
def LinTwiceWrongFalsely : Prop := linTwiceRow.holds Try.pinned (OpenSpec.ofChange linTwiceWrong)

/-- 'raddlelaw16.LinWraps': WHATEVER THE INPUT: true; the input reads as it did. -/
def linWrapsSpec : ChangeSpec := { name := "linWraps", fn := fun _ => fun
  | [d1, d2, d3, d4] => { results := [.lit (.bool true)], args := [d1, d2, d3, d4] }
  | _ => none }
def linWrapsRow : OpenClaim := { program := "ytbnbngkbngmndaa", sum := "69509ce6f64b869aa5261dae954d8e7436c2fabcfc4d2efbfd727f11a0e10efc", func := "raddle/raddlelaw16.LinWraps", spec := "linWraps", unfollowed := true, recurses := true, apart := false }
def LinWrapsSaid : Prop := linWrapsRow.holds Try.pinned (OpenSpec.ofChange linWrapsSpec)

/-- ITS FALSE NEIGHBOUR: 'it returns false'. Refute it at one input. -/
def linWrapsWrong : ChangeSpec := { name := "linWraps", fn := fun _ => fun
  | [d1, d2, d3, d4] => { results := [.lit (.bool false)], args := [d1, d2, d3, d4] }
  | _ => none }
def LinWrapsWrongFalsely : Prop := linWrapsRow.holds Try.pinned (OpenSpec.ofChange linWrapsWrong)

/-- 'raddlelaw16.LinExact': WHATEVER THE INPUT: true; the input reads as it did. -/
def linExactSpec : ChangeSpec := { name := "linExact", fn := fun _ => fun
  | [d1, d2, d3, d4] => { results := [.lit (.bool true)], args := [d1, d2, d3, d4] }
  | _ => none }
def linExactRow : OpenClaim := { program := "ytbnbngkbngmndaa", sum := "69509ce6f64b869aa5261dae954d8e7436c2fabcfc4d2efbfd727f11a0e10efc", func := "raddle/raddlelaw16.LinExact", spec := "linExact", unfollowed := true, recurses := true, apart := false }
def LinExactSaid : Prop := linExactRow.holds Try.pinned (OpenSpec.ofChange linExactSpec)

/-- ITS FALSE NEIGHBOUR: 'it returns false'. Refute it at one input. -/
def linExactWrong : ChangeSpec := { name := "linExact", fn := fun _ => fun
  | [d1, d2, d3, d4] => { results := [.lit (.bool false)], args := [d1, d2, d3, d4] }
  | _ => none }
def LinExactWrongFalsely : Prop := linExactRow.holds Try.pinned (OpenSpec.ofChange linExactWrong)

/-- 'raddlelaw16.LinSums': WHATEVER THE INPUT: true; the input reads as it did. -/
def linSumsSpec : ChangeSpec := { name := "linSums", fn := fun _ => fun
  | [d1, d2, d3, d4] => { results := [.lit (.bool true)], args := [d1, d2, d3, d4] }
  | _ => none }
def linSumsRow : OpenClaim := { program := "ytbnbngkbngmndaa", sum := "69509ce6f64b869aa5261dae954d8e7436c2fabcfc4d2efbfd727f11a0e10efc", func := "raddle/raddlelaw16.LinSums", spec := "linSums", unfollowed := true, recurses := true, apart := false }
def LinSumsSaid : Prop := linSumsRow.holds Try.pinned (OpenSpec.ofChange linSumsSpec)

/-- ITS FALSE NEIGHBOUR: 'it returns false'. Refute it at one input. -/
def linSumsWrong : ChangeSpec := { name := "linSums", fn := fun _ => fun
  | [d1, d2, d3, d4] => { results := [.lit (.bool false)], args := [d1, d2, d3, d4] }
  | _ => none }
def LinSumsWrongFalsely : Prop := linSumsRow.holds Try.pinned (OpenSpec.ofChange linSumsWrong)

/-- 'raddlelaw16.LinOff': WHATEVER THE INPUT: true; the input reads as it did. -/
def linOffSpec : ChangeSpec := { name := "linOff", fn := fun _ => fun
  | [d1, d2] => { results := [.lit (.bool true)], args := [d1, d2] }
  | _ => none }
def linOffRow : OpenClaim := { program := "ytbnbngkbngmndaa", sum := "69509ce6f64b869aa5261dae954d8e7436c2fabcfc4d2efbfd727f11a0e10efc", func := "raddle/raddlelaw16.LinOff", spec := "linOff", unfollowed := true, recurses := true, apart := false }
def LinOffSaid : Prop := linOffRow.holds Try.pinned (OpenSpec.ofChange linOffSpec)

/-- ITS FALSE NEIGHBOUR: 'it returns false'. Refute it at one input. -/
def linOffWrong : ChangeSpec := { name := "linOff", fn := fun _ => fun
  | [d1, d2] => { results := [.lit (.bool false)], args := [d1, d2] }
  | _ => none }
def LinOffWrongFalsely : Prop := linOffRow.holds Try.pinned (OpenSpec.ofChange linOffWrong)

/-- 'raddlelaw16.LinRows': WHATEVER THE INPUT: true; the input reads as it did. -/
def linRowsSpec : ChangeSpec := { name := "linRows", fn := fun _ => fun
  | [d1, d2, d3] => { results := [.lit (.bool true)], args := [d1, d2, d3] }
  | _ => none }
def linRowsRow : OpenClaim := { program := "ytbnbngkbngmndaa", sum := "69509ce6f64b869aa5261dae954d8e7436c2fabcfc4d2efbfd727f11a0e10efc", func := "raddle/raddlelaw16.LinRows", spec := "linRows", unfollowed := true, recurses := true, apart := false }
def LinRowsSaid : Prop := linRowsRow.holds Try.pinned (OpenSpec.ofChange linRowsSpec)

/-- ITS FALSE NEIGHBOUR: 'it returns false'. Refute it at one input. -/
def linRowsWrong : ChangeSpec := { name := "linRows", fn := fun _ => fun
  | [d1, d2, d3] => { results := [.lit (.bool false)], args := [d1, d2, d3] }
  | _ => none }
def LinRowsWrongFalsely : Prop := linRowsRow.holds Try.pinned (OpenSpec.ofChange linRowsWrong)

/-- 'raddlelaw17.JoinFilters': WHATEVER THE INPUT: true; the input reads as it did. -/
def joinFiltersSpec : ChangeSpec := { name := "joinFilters", fn := fun _ => fun
  | [d1, d2, d3, d4] => { results := [.lit (.bool true)], args := [d1, d2, d3, d4] }
  | _ => none }
def joinFiltersRow : OpenClaim := { program := "ytbnbngkbngmndaa", sum := "69509ce6f64b869aa5261dae954d8e7436c2fabcfc4d2efbfd727f11a0e10efc", func := "raddle/raddlelaw17.JoinFilters", spec := "joinFilters", unfollowed := true, recurses := true, apart := false }
def JoinFiltersSaid : Prop := joinFiltersRow.holds Try.pinned (OpenSpec.ofChange joinFiltersSpec)

/-- ITS FALSE NEIGHBOUR: 'it returns false'. Refute it at one input. -/
def joinFiltersWrong : ChangeSpec := { name := "joinFilters", fn := fun _ => fun
  | [d1, d2, d3, d4] => { results := [.lit (.bool false)], args := [d1, d2, d3, d4] }
  | _ => none }
def JoinFiltersWrongFalsely : Prop := joinFiltersRow.holds Try.pinned (OpenSpec.ofChange joinFiltersWrong)

/-- 'raddlelaw17.JoinExact': WHATEVER THE INPUT: true; the input reads as it did. -/
def joinExactSpec : ChangeSpec := { name := "joinExact", fn := fun _ => fun
  | [d1, d2, d3, d4, d5, d6] => { results := [.lit (.bool true)], args := [d1, d2, d3, d4, d5, d6] }
  | _ => none }
def joinExactRow : OpenClaim := { program := "ytbnbngkbngmndaa", sum := "69509ce6f64b869aa5261dae954d8e7436c2fabcfc4d2efbfd727f11a0e10efc", func := "raddle/raddlelaw17.JoinExact", spec := "joinExact", unfollowed := true, recurses := true, apart := false }
def JoinExactSaid : Prop := joinExactRow.holds Try.pinned (OpenSpec.ofChange joinExactSpec)

/-- ITS FALSE NEIGHBOUR: 'it returns false'. Refute it at one input. -/
def joinExactWrong : ChangeSpec := { name := "joinExact", fn := fun _ => fun
  | [d1, d2, d3, d4, d5, d6] => { results := [.lit (.bool false)], args := [d1, d2, d3, d4, d5, d6] }
  | _ => none }
def JoinExactWrongFalsely : Prop := joinExactRow.holds Try.pinned (OpenSpec.ofChange joinExactWrong)

/-- 'raddlelaw17.JoinParts': WHATEVER THE INPUT: true; the input reads as it did. -/
def joinPartsSpec : ChangeSpec := { name := "joinParts", fn := fun _ => fun
  | [d1, d2, d3, d4, d5, d6] => { results := [.lit (.bool true)], args := [d1, d2, d3, d4, d5, d6] }
  | _ => none }
def joinPartsRow : OpenClaim := { program := "ytbnbngkbngmndaa", sum := "69509ce6f64b869aa5261dae954d8e7436c2fabcfc4d2efbfd727f11a0e10efc", func := "raddle/raddlelaw17.JoinParts", spec := "joinParts", unfollowed := true, recurses := true, apart := false }
def JoinPartsSaid : Prop := joinPartsRow.holds Try.pinned (OpenSpec.ofChange joinPartsSpec)

/-- ITS FALSE NEIGHBOUR: 'it returns false'. Refute it at one input. -/
def joinPartsWrong : ChangeSpec := { name := "joinParts", fn := fun _ => fun
  | [d1, d2, d3, d4, d5, d6] => { results := [.lit (.bool false)], args := [d1, d2, d3, d4, d5, d6] }
  | _ => none }
def JoinPartsWrongFalsely : Prop := joinPartsRow.holds Try.pinned (OpenSpec.ofChange joinPartsWrong)

/-- 'raddlelaw19.AggTells': WHATEVER THE INPUT: true; the input reads as it did. -/
def aggTellsSpec : ChangeSpec := { name := "aggTells", fn := fun _ => fun
  | [d1, d2] => { results := [.lit (.bool true)], args := [d1, d2] }
  | _ => none }
def aggTellsRow : OpenClaim := { program := "ytbnbngkbngmndaa", sum := "69509ce6f64b869aa5261dae954d8e7436c2fabcfc4d2efbfd727f11a0e10efc", func := "raddle/raddlelaw19.AggTells", spec := "aggTells", inPlace := ["slices.overlaps[raddle/agg.group]"], unfollowed := true, recurses := true, apart := false }
def AggTellsSaid : Prop := aggTellsRow.holds Try.pinned (OpenSpec.ofChange aggTellsSpec)

/-- ITS FALSE NEIGHBOUR: 'it returns false'. Refute it at one input. -/
def aggTellsWrong : ChangeSpec := { name := "aggTells", fn := fun _ => fun
  | [d1, d2] => { results := [.lit (.bool false)], args := [d1, d2] }
  | _ => none }
def AggTellsWrongFalsely : Prop := aggTellsRow.holds Try.pinned (OpenSpec.ofChange aggTellsWrong)

/-- 'raddlelaw19.AggTotal': WHATEVER THE INPUT: true; the input reads as it did. -/
def aggTotalSpec : ChangeSpec := { name := "aggTotal", fn := fun _ => fun
  | [d1, d2] => { results := [.lit (.bool true)], args := [d1, d2] }
  | _ => none }
def aggTotalRow : OpenClaim := { program := "ytbnbngkbngmndaa", sum := "69509ce6f64b869aa5261dae954d8e7436c2fabcfc4d2efbfd727f11a0e10efc", func := "raddle/raddlelaw19.AggTotal", spec := "aggTotal", inPlace := ["slices.overlaps[raddle/agg.group]"], unfollowed := true, recurses := true, apart := false }
def AggTotalSaid : Prop := aggTotalRow.holds Try.pinned (OpenSpec.ofChange aggTotalSpec)

/-- ITS FALSE NEIGHBOUR: 'it returns false'. Refute it at one input. -/
def aggTotalWrong : ChangeSpec := { name := "aggTotal", fn := fun _ => fun
  | [d1, d2] => { results := [.lit (.bool false)], args := [d1, d2] }
  | _ => none }
def AggTotalWrongFalsely : Prop := aggTotalRow.holds Try.pinned (OpenSpec.ofChange aggTotalWrong)

/-- 'raddlelaw19.AggOver': WHATEVER THE INPUT: true; the input reads as it did. -/
def aggOverSpec : ChangeSpec := { name := "aggOver", fn := fun _ => fun
  | [d1, d2, d3] => { results := [.lit (.bool true)], args := [d1, d2, d3] }
  | _ => none }
def aggOverRow : OpenClaim := { program := "ytbnbngkbngmndaa", sum := "69509ce6f64b869aa5261dae954d8e7436c2fabcfc4d2efbfd727f11a0e10efc", func := "raddle/raddlelaw19.AggOver", spec := "aggOver", inPlace := ["slices.overlaps[raddle/agg.group]"], unfollowed := true, recurses := true, apart := false }
def AggOverSaid : Prop := aggOverRow.holds Try.pinned (OpenSpec.ofChange aggOverSpec)

/-- ITS FALSE NEIGHBOUR: 'it returns false'. Refute it at one input. -/
def aggOverWrong : ChangeSpec := { name := "aggOver", fn := fun _ => fun
  | [d1, d2, d3] => { results := [.lit (.bool false)], args := [d1, d2, d3] }
  | _ => none }
def AggOverWrongFalsely : Prop := aggOverRow.holds Try.pinned (OpenSpec.ofChange aggOverWrong)

/-- 'raddlelaw19.AggSome': WHATEVER THE INPUT: true; the input reads as it did. -/
def aggSomeSpec : ChangeSpec := { name := "aggSome", fn := fun _ => fun
  | [d1, d2, d3, d4] => { results := [.lit (.bool true)], args := [d1, d2, d3, d4] }
  | _ => none }
def aggSomeRow : OpenClaim := { program := "ytbnbngkbngmndaa", sum := "69509ce6f64b869aa5261dae954d8e7436c2fabcfc4d2efbfd727f11a0e10efc", func := "raddle/raddlelaw19.AggSome", spec := "aggSome", inPlace := ["slices.overlaps[raddle/agg.group]"], unfollowed := true, recurses := true, apart := false }
def AggSomeSaid : Prop := aggSomeRow.holds Try.pinned (OpenSpec.ofChange aggSomeSpec)

/-- ITS FALSE NEIGHBOUR: 'it returns false'. Refute it at one input. -/
def aggSomeWrong : ChangeSpec := { name := "aggSome", fn := fun _ => fun
  | [d1, d2, d3, d4] => { results := [.lit (.bool false)], args := [d1, d2, d3, d4] }
  | _ => none }
def AggSomeWrongFalsely : Prop := aggSomeRow.holds Try.pinned (OpenSpec.ofChange aggSomeWrong)

/-- 'raddlelaw19.AggKeys': WHATEVER THE INPUT: true; the input reads as it did. -/
def aggKeysSpec : ChangeSpec := { name := "aggKeys", fn := fun _ => fun
  | [d1, d2, d3, d4] => { results := [.lit (.bool true)], args := [d1, d2, d3, d4] }
  | _ => none }
def aggKeysRow : OpenClaim := { program := "ytbnbngkbngmndaa", sum := "69509ce6f64b869aa5261dae954d8e7436c2fabcfc4d2efbfd727f11a0e10efc", func := "raddle/raddlelaw19.AggKeys", spec := "aggKeys", inPlace := ["slices.overlaps[raddle/agg.group]"], unfollowed := true, recurses := true, apart := false }
def AggKeysSaid : Prop := aggKeysRow.holds Try.pinned (OpenSpec.ofChange aggKeysSpec)

/-- ITS FALSE NEIGHBOUR: 'it returns false'. Refute it at one input. -/
def aggKeysWrong : ChangeSpec := { name := "aggKeys", fn := fun _ => fun
  | [d1, d2, d3, d4] => { results := [.lit (.bool false)], args := [d1, d2, d3, d4] }
  | _ => none }
def AggKeysWrongFalsely : Prop := aggKeysRow.holds Try.pinned (OpenSpec.ofChange aggKeysWrong)

/-- 'raddlelaw19.AggExact': WHATEVER THE INPUT: true; the input reads as it did. -/
def aggExactSpec : ChangeSpec := { name := "aggExact", fn := fun _ => fun
  | [d1, d2, d3, d4, d5] => { results := [.lit (.bool true)], args := [d1, d2, d3, d4, d5] }
  | _ => none }
def aggExactRow : OpenClaim := { program := "ytbnbngkbngmndaa", sum := "69509ce6f64b869aa5261dae954d8e7436c2fabcfc4d2efbfd727f11a0e10efc", func := "raddle/raddlelaw19.AggExact", spec := "aggExact", inPlace := ["slices.overlaps[raddle/agg.group]"], unfollowed := true, recurses := true, apart := false }
def AggExactSaid : Prop := aggExactRow.holds Try.pinned (OpenSpec.ofChange aggExactSpec)

/-- ITS FALSE NEIGHBOUR: 'it returns false'. Refute it at one input. -/
def aggExactWrong : ChangeSpec := { name := "aggExact", fn := fun _ => fun
  | [d1, d2, d3, d4, d5] => { results := [.lit (.bool false)], args := [d1, d2, d3, d4, d5] }
  | _ => none }
def AggExactWrongFalsely : Prop := aggExactRow.holds Try.pinned (OpenSpec.ofChange aggExactWrong)

/-- 'raddlelaw19.AggAdds': WHATEVER THE INPUT: true; the input reads as it did. -/
def aggAddsSpec : ChangeSpec := { name := "aggAdds", fn := fun _ => fun
  | [d1, d2, d3, d4] => { results := [.lit (.bool true)], args := [d1, d2, d3, d4] }
  | _ => none }
def aggAddsRow : OpenClaim := { program := "ytbnbngkbngmndaa", sum := "69509ce6f64b869aa5261dae954d8e7436c2fabcfc4d2efbfd727f11a0e10efc", func := "raddle/raddlelaw19.AggAdds", spec := "aggAdds", inPlace := ["slices.overlaps[raddle/agg.group]"], unfollowed := true, recurses := true, apart := false }
def AggAddsSaid : Prop := aggAddsRow.holds Try.pinned (OpenSpec.ofChange aggAddsSpec)

/-- ITS FALSE NEIGHBOUR: 'it returns false'. Refute it at one input. -/
def aggAddsWrong : ChangeSpec := { name := "aggAdds", fn := fun _ => fun
  | [d1, d2, d3, d4] => { results := [.lit (.bool false)], args := [d1, d2, d3, d4] }
  | _ => none }
def AggAddsWrongFalsely : Prop := aggAddsRow.holds Try.pinned (OpenSpec.ofChange aggAddsWrong)

/- THE SECOND FORM. 'bulk': how many values and letters a reading holds, each counted each time it is reached (what is shared counts as often as it is met; a slice's spare places count too). A statement '..UptoSaid' is the law's where the arguments, and the package variables that the reading takes, are together of bulk at most 1048576: NARROWER than '..Said'. Prove '..Said' where nothing that the law and all that it calls make is longer than what came in: it says more and counts as full. Else prove '..UptoSaid'. A law counts once. -/
mutual
def uptoBulk {H : Type} : DataW H → Nat
  | .lit (.string bytes) => bytes.length + 1
  | .lit _ => 1
  | .nil => 1
  | .ptr d => uptoBulk d + 1
  | .slice elems spare => uptoBulkAll elems + uptoBulkAll spare + 1
  | .agg parts => uptoBulkAll parts + 1
  | .iface _ d => uptoBulk d + 1
  | .map entries => uptoBulkEntries entries + 1
  | .held _ => 1
def uptoBulkAll {H : Type} : List (DataW H) → Nat
  | [] => 0
  | d :: r => uptoBulk d + uptoBulkAll r
def uptoBulkEntries {H : Type} : List (Lit × DataW H) → Nat
  | [] => 0
  | x :: r => uptoBulkEntry x + uptoBulkEntries r
def uptoBulkEntry {H : Type} : Lit × DataW H → Nat
  | (.string bytes, d) => bytes.length + uptoBulk d + 1
  | (_, d) => uptoBulk d + 1
 end
def uptoSmall : (H : Type) → List (DataW H) → Bool := fun _ ds => decide (uptoBulkAll ds ≤ 1048576)
def OpenSpec.upto (s : _root_.Go.ChangeSpec) : _root_.Go.OpenSpec := { _root_.Go.OpenSpec.ofChange s with cond := some uptoSmall }

/-- 'raddlelaw17.JoinWide', WHERE WHAT IT READS IS OF BULK AT MOST 1048576: true; the input reads as it did. -/
def joinWideUptoRow : OpenClaim := { program := "ytbnbngkbngmndaa", sum := "69509ce6f64b869aa5261dae954d8e7436c2fabcfc4d2efbfd727f11a0e10efc", func := "raddle/raddlelaw17.JoinWide", spec := "joinWide", unfollowed := true, recurses := true, apart := false, narrowed := true }
def JoinWideUptoSaid : Prop := joinWideUptoRow.holds Try.pinned (OpenSpec.upto joinWideSpec)

/-- 'raddlelaw18.DistExact', WHERE WHAT IT READS IS OF BULK AT MOST 1048576: true; the input reads as it did. -/
def distExactUptoRow : OpenClaim := { program := "ytbnbngkbngmndaa", sum := "69509ce6f64b869aa5261dae954d8e7436c2fabcfc4d2efbfd727f11a0e10efc", func := "raddle/raddlelaw18.DistExact", spec := "distExact", unfollowed := true, recurses := true, apart := false, narrowed := true }
def DistExactUptoSaid : Prop := distExactUptoRow.holds Try.pinned (OpenSpec.upto distExactSpec)

/-- 'raddlelaw18.DistSteps', WHERE WHAT IT READS IS OF BULK AT MOST 1048576: true; the input reads as it did. -/
def distStepsUptoRow : OpenClaim := { program := "ytbnbngkbngmndaa", sum := "69509ce6f64b869aa5261dae954d8e7436c2fabcfc4d2efbfd727f11a0e10efc", func := "raddle/raddlelaw18.DistSteps", spec := "distSteps", unfollowed := true, recurses := true, apart := false, narrowed := true }
def DistStepsUptoSaid : Prop := distStepsUptoRow.holds Try.pinned (OpenSpec.upto distStepsSpec)

/-- 'raddlelaw17.JoinRows', WHERE WHAT IT READS IS OF BULK AT MOST 1048576: true; the input reads as it did. -/
def joinRowsUptoRow : OpenClaim := { program := "ytbnbngkbngmndaa", sum := "69509ce6f64b869aa5261dae954d8e7436c2fabcfc4d2efbfd727f11a0e10efc", func := "raddle/raddlelaw17.JoinRows", spec := "joinRows", unfollowed := true, recurses := true, apart := false, narrowed := true }
def JoinRowsUptoSaid : Prop := joinRowsUptoRow.holds Try.pinned (OpenSpec.upto joinRowsSpec)

/-- 'raddlelaw18.DistAdds', WHERE WHAT IT READS IS OF BULK AT MOST 1048576: true; the input reads as it did. -/
def distAddsUptoRow : OpenClaim := { program := "ytbnbngkbngmndaa", sum := "69509ce6f64b869aa5261dae954d8e7436c2fabcfc4d2efbfd727f11a0e10efc", func := "raddle/raddlelaw18.DistAdds", spec := "distAdds", unfollowed := true, recurses := true, apart := false, narrowed := true }
def DistAddsUptoSaid : Prop := distAddsUptoRow.holds Try.pinned (OpenSpec.upto distAddsSpec)

/-- 'raddlelaw17.JoinSwaps', WHERE WHAT IT READS IS OF BULK AT MOST 1048576: true; the input reads as it did. -/
def joinSwapsUptoRow : OpenClaim := { program := "ytbnbngkbngmndaa", sum := "69509ce6f64b869aa5261dae954d8e7436c2fabcfc4d2efbfd727f11a0e10efc", func := "raddle/raddlelaw17.JoinSwaps", spec := "joinSwaps", unfollowed := true, recurses := true, apart := false, narrowed := true }
def JoinSwapsUptoSaid : Prop := joinSwapsUptoRow.holds Try.pinned (OpenSpec.upto joinSwapsSpec)

/-- 'raddlelaw18.DistFilters', WHERE WHAT IT READS IS OF BULK AT MOST 1048576: true; the input reads as it did. -/
def distFiltersUptoRow : OpenClaim := { program := "ytbnbngkbngmndaa", sum := "69509ce6f64b869aa5261dae954d8e7436c2fabcfc4d2efbfd727f11a0e10efc", func := "raddle/raddlelaw18.DistFilters", spec := "distFilters", unfollowed := true, recurses := true, apart := false, narrowed := true }
def DistFiltersUptoSaid : Prop := distFiltersUptoRow.holds Try.pinned (OpenSpec.upto distFiltersSpec)

/-- 'raddlelaw16.LinTwice', WHERE WHAT IT READS IS OF BULK AT MOST 1048576: true; the input reads as it did. -/
def linTwiceUptoRow : OpenClaim := { program := "ytbnbngkbngmndaa", sum := "69509ce6f64b869aa5261dae954d8e7436c2fabcfc4d2efbfd727f11a0e10efc", func := "raddle/raddlelaw16.LinTwice", spec := "linTwice", unfollowed := true, recurses := true, apart := false, narrowed := true }
def LinTwiceUptoSaid : Prop := linTwiceUptoRow.holds Try.pinned (OpenSpec.upto linTwiceSpec)

/-- 'raddlelaw16.LinWraps', WHERE WHAT IT READS IS OF BULK AT MOST 1048576: true; the input reads as it did. -/
def linWrapsUptoRow : OpenClaim := { program := "ytbnbngkbngmndaa", sum := "69509ce6f64b869aa5261dae954d8e7436c2fabcfc4d2efbfd727f11a0e10efc", func := "raddle/raddlelaw16.LinWraps", spec := "linWraps", unfollowed := true, recurses := true, apart := false, narrowed := true }
def LinWrapsUptoSaid : Prop := linWrapsUptoRow.holds Try.pinned (OpenSpec.upto linWrapsSpec)

/-- 'raddlelaw16.LinExact', WHERE WHAT IT READS IS OF BULK AT MOST 1048576: true; the input reads as it did. -/
def linExactUptoRow : OpenClaim := { program := "ytbnbngkbngmndaa", sum := "69509ce6f64b869aa5261dae954d8e7436c2fabcfc4d2efbfd727f11a0e10efc", func := "raddle/raddlelaw16.LinExact", spec := "linExact", unfollowed := true, recurses := true, apart := false, narrowed := true }
def LinExactUptoSaid : Prop := linExactUptoRow.holds Try.pinned (OpenSpec.upto linExactSpec)

/-- 'raddlelaw16.LinSums', WHERE WHAT IT READS IS OF BULK AT MOST 1048576: true; the input reads as it did. -/
def linSumsUptoRow : OpenClaim := { program := "ytbnbngkbngmndaa", sum := "69509ce6f64b869aa5261dae954d8e7436c2fabcfc4d2efbfd727f11a0e10efc", func := "raddle/raddlelaw16.LinSums", spec := "linSums", unfollowed := true, recurses := true, apart := false, narrowed := true }
def LinSumsUptoSaid : Prop := linSumsUptoRow.holds Try.pinned (OpenSpec.upto linSumsSpec)

/-- 'raddlelaw16.LinOff', WHERE WHAT IT READS IS OF BULK AT MOST 1048576: true; the input reads as it did. -/
def linOffUptoRow : OpenClaim := { program := "ytbnbngkbngmndaa", sum := "69509ce6f64b869aa5261dae954d8e7436c2fabcfc4d2efbfd727f11a0e10efc", func := "raddle/raddlelaw16.LinOff", spec := "linOff", unfollowed := true, recurses := true, apart := false, narrowed := true }
def LinOffUptoSaid : Prop := linOffUptoRow.holds Try.pinned (OpenSpec.upto linOffSpec)

/-- 'raddlelaw16.LinRows', WHERE WHAT IT READS IS OF BULK AT MOST 1048576: true; the input reads as it did. -/
def linRowsUptoRow : OpenClaim := { program := "ytbnbngkbngmndaa", sum := "69509ce6f64b869aa5261dae954d8e7436c2fabcfc4d2efbfd727f11a0e10efc", func := "raddle/raddlelaw16.LinRows", spec := "linRows", unfollowed := true, recurses := true, apart := false, narrowed := true }
def LinRowsUptoSaid : Prop := linRowsUptoRow.holds Try.pinned (OpenSpec.upto linRowsSpec)

/-- 'raddlelaw17.JoinFilters', WHERE WHAT IT READS IS OF BULK AT MOST 1048576: true; the input reads as it did. -/
def joinFiltersUptoRow : OpenClaim := { program := "ytbnbngkbngmndaa", sum := "69509ce6f64b869aa5261dae954d8e7436c2fabcfc4d2efbfd727f11a0e10efc", func := "raddle/raddlelaw17.JoinFilters", spec := "joinFilters", unfollowed := true, recurses := true, apart := false, narrowed := true }
def JoinFiltersUptoSaid : Prop := joinFiltersUptoRow.holds Try.pinned (OpenSpec.upto joinFiltersSpec)

/-- 'raddlelaw17.JoinExact', WHERE WHAT IT READS IS OF BULK AT MOST 1048576: true; the input reads as it did. -/
def joinExactUptoRow : OpenClaim := { program := "ytbnbngkbngmndaa", sum := "69509ce6f64b869aa5261dae954d8e7436c2fabcfc4d2efbfd727f11a0e10efc", func := "raddle/raddlelaw17.JoinExact", spec := "joinExact", unfollowed := true, recurses := true, apart := false, narrowed := true }
def JoinExactUptoSaid : Prop := joinExactUptoRow.holds Try.pinned (OpenSpec.upto joinExactSpec)

/-- 'raddlelaw17.JoinParts', WHERE WHAT IT READS IS OF BULK AT MOST 1048576: true; the input reads as it did. -/
def joinPartsUptoRow : OpenClaim := { program := "ytbnbngkbngmndaa", sum := "69509ce6f64b869aa5261dae954d8e7436c2fabcfc4d2efbfd727f11a0e10efc", func := "raddle/raddlelaw17.JoinParts", spec := "joinParts", unfollowed := true, recurses := true, apart := false, narrowed := true }
def JoinPartsUptoSaid : Prop := joinPartsUptoRow.holds Try.pinned (OpenSpec.upto joinPartsSpec)

/-- 'raddlelaw19.AggTells', WHERE WHAT IT READS IS OF BULK AT MOST 1048576: true; the input reads as it did. -/
def aggTellsUptoRow : OpenClaim := { program := "ytbnbngkbngmndaa", sum := "69509ce6f64b869aa5261dae954d8e7436c2fabcfc4d2efbfd727f11a0e10efc", func := "raddle/raddlelaw19.AggTells", spec := "aggTells", inPlace := ["slices.overlaps[raddle/agg.group]"], unfollowed := true, recurses := true, apart := false, narrowed := true }
def AggTellsUptoSaid : Prop := aggTellsUptoRow.holds Try.pinned (OpenSpec.upto aggTellsSpec)

/-- 'raddlelaw19.AggTotal', WHERE WHAT IT READS IS OF BULK AT MOST 1048576: true; the input reads as it did. -/
def aggTotalUptoRow : OpenClaim := { program := "ytbnbngkbngmndaa", sum := "69509ce6f64b869aa5261dae954d8e7436c2fabcfc4d2efbfd727f11a0e10efc", func := "raddle/raddlelaw19.AggTotal", spec := "aggTotal", inPlace := ["slices.overlaps[raddle/agg.group]"], unfollowed := true, recurses := true, apart := false, narrowed := true }
def AggTotalUptoSaid : Prop := aggTotalUptoRow.holds Try.pinned (OpenSpec.upto aggTotalSpec)

/-- 'raddlelaw19.AggOver', WHERE WHAT IT READS IS OF BULK AT MOST 1048576: true; the input reads as it did. -/
def aggOverUptoRow : OpenClaim := { program := "ytbnbngkbngmndaa", sum := "69509ce6f64b869aa5261dae954d8e7436c2fabcfc4d2efbfd727f11a0e10efc", func := "raddle/raddlelaw19.AggOver", spec := "aggOver", inPlace := ["slices.overlaps[raddle/agg.group]"], unfollowed := true, recurses := true, apart := false, narrowed := true }
def AggOverUptoSaid : Prop := aggOverUptoRow.holds Try.pinned (OpenSpec.upto aggOverSpec)

/-- 'raddlelaw19.AggSome', WHERE WHAT IT READS IS OF BULK AT MOST 1048576: true; the input reads as it did. -/
def aggSomeUptoRow : OpenClaim := { program := "ytbnbngkbngmndaa", sum := "69509ce6f64b869aa5261dae954d8e7436c2fabcfc4d2efbfd727f11a0e10efc", func := "raddle/raddlelaw19.AggSome", spec := "aggSome", inPlace := ["slices.overlaps[raddle/agg.group]"], unfollowed := true, recurses := true, apart := false, narrowed := true }
def AggSomeUptoSaid : Prop := aggSomeUptoRow.holds Try.pinned (OpenSpec.upto aggSomeSpec)

/-- 'raddlelaw19.AggKeys', WHERE WHAT IT READS IS OF BULK AT MOST 1048576: true; the input reads as it did. -/
def aggKeysUptoRow : OpenClaim := { program := "ytbnbngkbngmndaa", sum := "69509ce6f64b869aa5261dae954d8e7436c2fabcfc4d2efbfd727f11a0e10efc", func := "raddle/raddlelaw19.AggKeys", spec := "aggKeys", inPlace := ["slices.overlaps[raddle/agg.group]"], unfollowed := true, recurses := true, apart := false, narrowed := true }
def AggKeysUptoSaid : Prop := aggKeysUptoRow.holds Try.pinned (OpenSpec.upto aggKeysSpec)

/-- 'raddlelaw19.AggExact', WHERE WHAT IT READS IS OF BULK AT MOST 1048576: true; the input reads as it did. -/
def aggExactUptoRow : OpenClaim := { program := "ytbnbngkbngmndaa", sum := "69509ce6f64b869aa5261dae954d8e7436c2fabcfc4d2efbfd727f11a0e10efc", func := "raddle/raddlelaw19.AggExact", spec := "aggExact", inPlace := ["slices.overlaps[raddle/agg.group]"], unfollowed := true, recurses := true, apart := false, narrowed := true }
def AggExactUptoSaid : Prop := aggExactUptoRow.holds Try.pinned (OpenSpec.upto aggExactSpec)

/-- 'raddlelaw19.AggAdds', WHERE WHAT IT READS IS OF BULK AT MOST 1048576: true; the input reads as it did. -/
def aggAddsUptoRow : OpenClaim := { program := "ytbnbngkbngmndaa", sum := "69509ce6f64b869aa5261dae954d8e7436c2fabcfc4d2efbfd727f11a0e10efc", func := "raddle/raddlelaw19.AggAdds", spec := "aggAdds", inPlace := ["slices.overlaps[raddle/agg.group]"], unfollowed := true, recurses := true, apart := false, narrowed := true }
def AggAddsUptoSaid : Prop := aggAddsUptoRow.holds Try.pinned (OpenSpec.upto aggAddsSpec)

end Rows
end Go.Proofs.Ytbnbngkbngmndaa
