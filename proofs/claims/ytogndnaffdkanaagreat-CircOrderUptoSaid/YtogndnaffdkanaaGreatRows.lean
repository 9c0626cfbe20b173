/-
  No cell of these rows narrows 'for every input' (looked for: loops, veiled, ifaces, maps, wideKeys, modest, calm, conditions, laid).
  DERIVED. THE GIVEN ROWS OF THIS SEAT. 16 by the template 'for every input the law returns true; each argument reads behind the call as it read before'; 0 by the template 'total and deterministic' (their statements: YtogndnaffdkanaaGreatTotals.lean).
  GIVEN WITH THE SEED: the statements are not yours to turn. If you find one false, say at which input.
  Laid BY PROGRAM, IN A SANDBOX (cutbox-rows.mjs): the forced cells as the released guide's own fill.sh prints them over the translation e3c24b0f679219d2… (all of the seat's roots in one cut). By AI agents, Wed Nov 11 2026. No macro, syntax, notation, axiom, sorry.
-/
import Derived.Test.YtogndnaffdkanaaGreatChecked
import GoSem.Claim
import GoSem.ClaimJoined
import GoSem.ClaimMapViews
import Derived.JoinedTies
import Derived.KernelRfl
namespace Go.Proofs.YtogndnaffdkanaaGreat
/- THE CELL 'sum', in the pinned program and in every row, IS THE sha256 OF THE DUMP (.gsa) THAT YtogndnaffdkanaaGreatProg.lean LOADS. Nothing in Lean hashes anything: it is a label: what it is worth is what the hold of that sum in a sandbox is worth. -/
noncomputable def Tryz.pinned : Pinned := { name := "ytogndnaffdkanaagreat", sum := "e3c24b0f679219d2ed4fed7b1817e0b2016552c1727b8a91dc479b1386d0bd88", checked := Tryz.checked }
namespace Rows
def none {H : Type} : Left H := { results := [], args := [] }

/-- 'raddlelaw21.EvalExact': WHATEVER THE INPUT: true; the input reads as it did. -/
def evalExactSpec : ChangeSpec := { name := "evalExact", fn := fun _ => fun
  | [d1, d2, d3] => { results := [.lit (.bool true)], args := [d1, d2, d3] }
  | _ => none }
def evalExactRow : OpenClaim := { program := "ytogndnaffdkanaagreat", sum := "e3c24b0f679219d2ed4fed7b1817e0b2016552c1727b8a91dc479b1386d0bd88", func := "raddle/raddlelaw21.EvalExact", spec := "evalExact", inPlace := ["slices.overlaps[raddle/agg.group]"], unfollowed := true, recurses := true, apart := false }
def EvalExactSaid : Prop := evalExactRow.holds Tryz.pinned (OpenSpec.ofChange evalExactSpec)

/-- ITS FALSE NEIGHBOUR: 'it returns false'. Refute it at one input. -/
def evalExactWrong : ChangeSpec := { name := "evalExact", fn := fun _ => fun
  | [d1, d2, d3] => { results := [.lit (.bool false)], args := [d1, d2, d3] }
  | _ => none }
def EvalExactWrongFalsely : Prop := evalExactRow.holds Tryz.pinned (OpenSpec.ofChange evalExactWrong)

/-- 'raddlelaw21.EvalLinear': WHATEVER THE INPUT: true; the input reads as it did. -/
def evalLinearSpec : ChangeSpec := { name := "evalLinear", fn := fun _ => fun
  | [d1, d2, d3, d4] => { results := [.lit (.bool true)], args := [d1, d2, d3, d4] }
  | _ => none }
def evalLinearRow : OpenClaim := { program := "ytogndnaffdkanaagreat", sum := "e3c24b0f679219d2ed4fed7b1817e0b2016552c1727b8a91dc479b1386d0bd88", func := "raddle/raddlelaw21.EvalLinear", spec := "evalLinear", inPlace := ["slices.overlaps[raddle/agg.group]"], unfollowed := true, recurses := true, apart := false }
def EvalLinearSaid : Prop := evalLinearRow.holds Tryz.pinned (OpenSpec.ofChange evalLinearSpec)

/-- ITS FALSE NEIGHBOUR: 'it returns false'. Refute it at one input. -/
def evalLinearWrong : ChangeSpec := { name := "evalLinear", fn := fun _ => fun
  | [d1, d2, d3, d4] => { results := [.lit (.bool false)], args := [d1, d2, d3, d4] }
  | _ => none }
def EvalLinearWrongFalsely : Prop := evalLinearRow.holds Tryz.pinned (OpenSpec.ofChange evalLinearWrong)

/-- 'raddlelaw21.EvalTable': WHATEVER THE INPUT: true; the input reads as it did. -/
def evalTableSpec : ChangeSpec := { name := "evalTable", fn := fun _ => fun
  | [d1, d2, d3, d4] => { results := [.lit (.bool true)], args := [d1, d2, d3, d4] }
  | _ => none }
def evalTableRow : OpenClaim := { program := "ytogndnaffdkanaagreat", sum := "e3c24b0f679219d2ed4fed7b1817e0b2016552c1727b8a91dc479b1386d0bd88", func := "raddle/raddlelaw21.EvalTable", spec := "evalTable", inPlace := ["slices.overlaps[raddle/agg.group]"], unfollowed := true, recurses := true, apart := false }
def EvalTableSaid : Prop := evalTableRow.holds Tryz.pinned (OpenSpec.ofChange evalTableSpec)

/-- ITS FALSE NEIGHBOUR: 'it returns false'. Refute it at one input. -/
def evalTableWrong : ChangeSpec := { name := "evalTable", fn := fun _ => fun
  | [d1, d2, d3, d4] => { results := [.lit (.bool false)], args := [d1, d2, d3, d4] }
  | _ => none }
def EvalTableWrongFalsely : Prop := evalTableRow.holds Tryz.pinned (OpenSpec.ofChange evalTableWrong)

/-- 'raddlelaw21.EvalNodes': WHATEVER THE INPUT: true; the input reads as it did. -/
def evalNodesSpec : ChangeSpec := { name := "evalNodes", fn := fun _ => fun
  | [d1, d2, d3] => { results := [.lit (.bool true)], args := [d1, d2, d3] }
  | _ => none }
def evalNodesRow : OpenClaim := { program := "ytogndnaffdkanaagreat", sum := "e3c24b0f679219d2ed4fed7b1817e0b2016552c1727b8a91dc479b1386d0bd88", func := "raddle/raddlelaw21.EvalNodes", spec := "evalNodes", inPlace := ["slices.overlaps[raddle/agg.group]"], unfollowed := true, recurses := true, apart := false }
def EvalNodesSaid : Prop := evalNodesRow.holds Tryz.pinned (OpenSpec.ofChange evalNodesSpec)

/-- ITS FALSE NEIGHBOUR: 'it returns false'. Refute it at one input. -/
def evalNodesWrong : ChangeSpec := { name := "evalNodes", fn := fun _ => fun
  | [d1, d2, d3] => { results := [.lit (.bool false)], args := [d1, d2, d3] }
  | _ => none }
def EvalNodesWrongFalsely : Prop := evalNodesRow.holds Tryz.pinned (OpenSpec.ofChange evalNodesWrong)

/-- 'raddlelaw21.EvalEmpty': WHATEVER THE INPUT: true; the input reads as it did. -/
def evalEmptySpec : ChangeSpec := { name := "evalEmpty", fn := fun _ => fun
  | [d1, d2] => { results := [.lit (.bool true)], args := [d1, d2] }
  | _ => none }
def evalEmptyRow : OpenClaim := { program := "ytogndnaffdkanaagreat", sum := "e3c24b0f679219d2ed4fed7b1817e0b2016552c1727b8a91dc479b1386d0bd88", func := "raddle/raddlelaw21.EvalEmpty", spec := "evalEmpty", inPlace := ["slices.overlaps[raddle/agg.group]"], unfollowed := true, recurses := true, apart := false }
def EvalEmptySaid : Prop := evalEmptyRow.holds Tryz.pinned (OpenSpec.ofChange evalEmptySpec)

/-- ITS FALSE NEIGHBOUR: 'it returns false'. Refute it at one input. -/
def evalEmptyWrong : ChangeSpec := { name := "evalEmpty", fn := fun _ => fun
  | [d1, d2] => { results := [.lit (.bool false)], args := [d1, d2] }
  | _ => none }
def EvalEmptyWrongFalsely : Prop := evalEmptyRow.holds Tryz.pinned (OpenSpec.ofChange evalEmptyWrong)

/-- 'raddlelaw21.EvalUnused': WHATEVER THE INPUT: true; the input reads as it did. -/
def evalUnusedSpec : ChangeSpec := { name := "evalUnused", fn := fun _ => fun
  | [d1, d2, d3, d4, d5] => { results := [.lit (.bool true)], args := [d1, d2, d3, d4, d5] }
  | _ => none }
def evalUnusedRow : OpenClaim := { program := "ytogndnaffdkanaagreat", sum := "e3c24b0f679219d2ed4fed7b1817e0b2016552c1727b8a91dc479b1386d0bd88", func := "raddle/raddlelaw21.EvalUnused", spec := "evalUnused", inPlace := ["slices.overlaps[raddle/agg.group]"], unfollowed := true, recurses := true, apart := false }
def EvalUnusedSaid : Prop := evalUnusedRow.holds Tryz.pinned (OpenSpec.ofChange evalUnusedSpec)

/-- ITS FALSE NEIGHBOUR: 'it returns false'. Refute it at one input. -/
def evalUnusedWrong : ChangeSpec := { name := "evalUnused", fn := fun _ => fun
  | [d1, d2, d3, d4, d5] => { results := [.lit (.bool false)], args := [d1, d2, d3, d4, d5] }
  | _ => none }
def EvalUnusedWrongFalsely : Prop := evalUnusedRow.holds Tryz.pinned (OpenSpec.ofChange evalUnusedWrong)

/-- 'raddlelaw21.EvalLast': WHATEVER THE INPUT: true; the input reads as it did. -/
def evalLastSpec : ChangeSpec := { name := "evalLast", fn := fun _ => fun
  | [d1, d2, d3, d4] => { results := [.lit (.bool true)], args := [d1, d2, d3, d4] }
  | _ => none }
def evalLastRow : OpenClaim := { program := "ytogndnaffdkanaagreat", sum := "e3c24b0f679219d2ed4fed7b1817e0b2016552c1727b8a91dc479b1386d0bd88", func := "raddle/raddlelaw21.EvalLast", spec := "evalLast", inPlace := ["slices.overlaps[raddle/agg.group]"], unfollowed := true, recurses := true, apart := false }
def EvalLastSaid : Prop := evalLastRow.holds Tryz.pinned (OpenSpec.ofChange evalLastSpec)

/-- ITS FALSE NEIGHBOUR: 'it returns false'. Refute it at one input. -/
def evalLastWrong : ChangeSpec := { name := "evalLast", fn := fun _ => fun
  | [d1, d2, d3, d4] => { results := [.lit (.bool false)], args := [d1, d2, d3, d4] }
  | _ => none }
def EvalLastWrongFalsely : Prop := evalLastRow.holds Tryz.pinned (OpenSpec.ofChange evalLastWrong)

/-- 'raddlelaw21.EvalCounts': WHATEVER THE INPUT: true; the input reads as it did. -/
def evalCountsSpec : ChangeSpec := { name := "evalCounts", fn := fun _ => fun
  | [d1, d2, d3] => { results := [.lit (.bool true)], args := [d1, d2, d3] }
  | _ => none }
def evalCountsRow : OpenClaim := { program := "ytogndnaffdkanaagreat", sum := "e3c24b0f679219d2ed4fed7b1817e0b2016552c1727b8a91dc479b1386d0bd88", func := "raddle/raddlelaw21.EvalCounts", spec := "evalCounts", inPlace := ["slices.overlaps[raddle/agg.group]"], unfollowed := true, recurses := true, apart := false }
def EvalCountsSaid : Prop := evalCountsRow.holds Tryz.pinned (OpenSpec.ofChange evalCountsSpec)

/-- ITS FALSE NEIGHBOUR: 'it returns false'. Refute it at one input. -/
def evalCountsWrong : ChangeSpec := { name := "evalCounts", fn := fun _ => fun
  | [d1, d2, d3] => { results := [.lit (.bool false)], args := [d1, d2, d3] }
  | _ => none }
def EvalCountsWrongFalsely : Prop := evalCountsRow.holds Tryz.pinned (OpenSpec.ofChange evalCountsWrong)

/-- 'raddlelaw21.EvalFits': WHATEVER THE INPUT: true; the input reads as it did. -/
def evalFitsSpec : ChangeSpec := { name := "evalFits", fn := fun _ => fun
  | [d1, d2, d3] => { results := [.lit (.bool true)], args := [d1, d2, d3] }
  | _ => none }
def evalFitsRow : OpenClaim := { program := "ytogndnaffdkanaagreat", sum := "e3c24b0f679219d2ed4fed7b1817e0b2016552c1727b8a91dc479b1386d0bd88", func := "raddle/raddlelaw21.EvalFits", spec := "evalFits", inPlace := ["slices.overlaps[raddle/agg.group]"], unfollowed := true, recurses := true, apart := false }
def EvalFitsSaid : Prop := evalFitsRow.holds Tryz.pinned (OpenSpec.ofChange evalFitsSpec)

/-- ITS FALSE NEIGHBOUR: 'it returns false'. Refute it at one input. -/
def evalFitsWrong : ChangeSpec := { name := "evalFits", fn := fun _ => fun
  | [d1, d2, d3] => { results := [.lit (.bool false)], args := [d1, d2, d3] }
  | _ => none }
def EvalFitsWrongFalsely : Prop := evalFitsRow.holds Tryz.pinned (OpenSpec.ofChange evalFitsWrong)

/-- 'raddlelaw22.CircSums': WHATEVER THE INPUT: true; the input reads as it did. -/
def circSumsSpec : ChangeSpec := { name := "circSums", fn := fun _ => fun
  | [d1, d2, d3] => { results := [.lit (.bool true)], args := [d1, d2, d3] }
  | _ => none }
def circSumsRow : OpenClaim := { program := "ytogndnaffdkanaagreat", sum := "e3c24b0f679219d2ed4fed7b1817e0b2016552c1727b8a91dc479b1386d0bd88", func := "raddle/raddlelaw22.CircSums", spec := "circSums", inPlace := ["sync/atomic.LoadUint32", "(*internal/sync.Mutex).Lock", "internal/race.Disable", "sync/atomic.CompareAndSwapInt32", "internal/race.Enable", "internal/race.Acquire", "(*internal/sync.Mutex).lockSlow", "internal/sync.runtime_canSpin", "internal/sync.runtime_doSpin", "internal/sync.throw", "internal/sync.runtime_nanotime", "internal/sync.runtime_SemacquireMutex", "sync/atomic.AddInt32", "(*internal/sync.Mutex).Unlock", "internal/race.ReleaseMerge", "(*internal/sync.Mutex).unlockSlow", "internal/sync.fatal", "internal/sync.runtime_Semrelease", "sync/atomic.StoreUint32", "slices.overlaps[raddle/agg.group]"], unfollowed := true, recurses := true, apart := false }
def CircSumsSaid : Prop := circSumsRow.holds Tryz.pinned (OpenSpec.ofChange circSumsSpec)

/-- ITS FALSE NEIGHBOUR: 'it returns false'. Refute it at one input. -/
def circSumsWrong : ChangeSpec := { name := "circSums", fn := fun _ => fun
  | [d1, d2, d3] => { results := [.lit (.bool false)], args := [d1, d2, d3] }
  | _ => none }
def CircSumsWrongFalsely : Prop := circSumsRow.holds Tryz.pinned (OpenSpec.ofChange circSumsWrong)

/-- 'raddlelaw22.CircLater': WHATEVER THE INPUT: true; the input reads as it did. -/
def circLaterSpec : ChangeSpec := { name := "circLater", fn := fun _ => fun
  | [d1, d2, d3, d4] => { results := [.lit (.bool true)], args := [d1, d2, d3, d4] }
  | _ => none }
def circLaterRow : OpenClaim := { program := "ytogndnaffdkanaagreat", sum := "e3c24b0f679219d2ed4fed7b1817e0b2016552c1727b8a91dc479b1386d0bd88", func := "raddle/raddlelaw22.CircLater", spec := "circLater", inPlace := ["sync/atomic.LoadUint32", "(*internal/sync.Mutex).Lock", "internal/race.Disable", "sync/atomic.CompareAndSwapInt32", "internal/race.Enable", "internal/race.Acquire", "(*internal/sync.Mutex).lockSlow", "internal/sync.runtime_canSpin", "internal/sync.runtime_doSpin", "internal/sync.throw", "internal/sync.runtime_nanotime", "internal/sync.runtime_SemacquireMutex", "sync/atomic.AddInt32", "(*internal/sync.Mutex).Unlock", "internal/race.ReleaseMerge", "(*internal/sync.Mutex).unlockSlow", "internal/sync.fatal", "internal/sync.runtime_Semrelease", "sync/atomic.StoreUint32", "slices.overlaps[raddle/agg.group]"], unfollowed := true, recurses := true, apart := false }
def CircLaterSaid : Prop := circLaterRow.holds Tryz.pinned (OpenSpec.ofChange circLaterSpec)

/-- ITS FALSE NEIGHBOUR: 'it returns false'. Refute it at one input. -/
def circLaterWrong : ChangeSpec := { name := "circLater", fn := fun _ => fun
  | [d1, d2, d3, d4] => { results := [.lit (.bool false)], args := [d1, d2, d3, d4] }
  | _ => none }
def CircLaterWrongFalsely : Prop := circLaterRow.holds Tryz.pinned (OpenSpec.ofChange circLaterWrong)

/-- 'raddlelaw22.CircBack': WHATEVER THE INPUT: true; the input reads as it did. -/
def circBackSpec : ChangeSpec := { name := "circBack", fn := fun _ => fun
  | [d1, d2, d3] => { results := [.lit (.bool true)], args := [d1, d2, d3] }
  | _ => none }
def circBackRow : OpenClaim := { program := "ytogndnaffdkanaagreat", sum := "e3c24b0f679219d2ed4fed7b1817e0b2016552c1727b8a91dc479b1386d0bd88", func := "raddle/raddlelaw22.CircBack", spec := "circBack", inPlace := ["sync/atomic.LoadUint32", "(*internal/sync.Mutex).Lock", "internal/race.Disable", "sync/atomic.CompareAndSwapInt32", "internal/race.Enable", "internal/race.Acquire", "(*internal/sync.Mutex).lockSlow", "internal/sync.runtime_canSpin", "internal/sync.runtime_doSpin", "internal/sync.throw", "internal/sync.runtime_nanotime", "internal/sync.runtime_SemacquireMutex", "sync/atomic.AddInt32", "(*internal/sync.Mutex).Unlock", "internal/race.ReleaseMerge", "(*internal/sync.Mutex).unlockSlow", "internal/sync.fatal", "internal/sync.runtime_Semrelease", "sync/atomic.StoreUint32", "slices.overlaps[raddle/agg.group]"], unfollowed := true, recurses := true, apart := false }
def CircBackSaid : Prop := circBackRow.holds Tryz.pinned (OpenSpec.ofChange circBackSpec)

/-- ITS FALSE NEIGHBOUR: 'it returns false'. Refute it at one input. -/
def circBackWrong : ChangeSpec := { name := "circBack", fn := fun _ => fun
  | [d1, d2, d3] => { results := [.lit (.bool false)], args := [d1, d2, d3] }
  | _ => none }
def CircBackWrongFalsely : Prop := circBackRow.holds Tryz.pinned (OpenSpec.ofChange circBackWrong)

/-- 'raddlelaw22.CircExact': WHATEVER THE INPUT: true; the input reads as it did. -/
def circExactSpec : ChangeSpec := { name := "circExact", fn := fun _ => fun
  | [d1, d2, d3] => { results := [.lit (.bool true)], args := [d1, d2, d3] }
  | _ => none }
def circExactRow : OpenClaim := { program := "ytogndnaffdkanaagreat", sum := "e3c24b0f679219d2ed4fed7b1817e0b2016552c1727b8a91dc479b1386d0bd88", func := "raddle/raddlelaw22.CircExact", spec := "circExact", inPlace := ["sync/atomic.LoadUint32", "(*internal/sync.Mutex).Lock", "internal/race.Disable", "sync/atomic.CompareAndSwapInt32", "internal/race.Enable", "internal/race.Acquire", "(*internal/sync.Mutex).lockSlow", "internal/sync.runtime_canSpin", "internal/sync.runtime_doSpin", "internal/sync.throw", "internal/sync.runtime_nanotime", "internal/sync.runtime_SemacquireMutex", "sync/atomic.AddInt32", "(*internal/sync.Mutex).Unlock", "internal/race.ReleaseMerge", "(*internal/sync.Mutex).unlockSlow", "internal/sync.fatal", "internal/sync.runtime_Semrelease", "sync/atomic.StoreUint32", "slices.overlaps[raddle/agg.group]"], unfollowed := true, recurses := true, apart := false }
def CircExactSaid : Prop := circExactRow.holds Tryz.pinned (OpenSpec.ofChange circExactSpec)

/-- ITS FALSE NEIGHBOUR: 'it returns false'. Refute it at one input. -/
def circExactWrong : ChangeSpec := { name := "circExact", fn := fun _ => fun
  | [d1, d2, d3] => { results := [.lit (.bool false)], args := [d1, d2, d3] }
  | _ => none }
def CircExactWrongFalsely : Prop := circExactRow.holds Tryz.pinned (OpenSpec.ofChange circExactWrong)

/-- 'raddlelaw22.CircTwo': WHATEVER THE INPUT: true; the input reads as it did. -/
def circTwoSpec : ChangeSpec := { name := "circTwo", fn := fun _ => fun
  | [d1, d2, d3] => { results := [.lit (.bool true)], args := [d1, d2, d3] }
  | _ => none }
def circTwoRow : OpenClaim := { program := "ytogndnaffdkanaagreat", sum := "e3c24b0f679219d2ed4fed7b1817e0b2016552c1727b8a91dc479b1386d0bd88", func := "raddle/raddlelaw22.CircTwo", spec := "circTwo", inPlace := ["sync/atomic.LoadUint32", "(*internal/sync.Mutex).Lock", "internal/race.Disable", "sync/atomic.CompareAndSwapInt32", "internal/race.Enable", "internal/race.Acquire", "(*internal/sync.Mutex).lockSlow", "internal/sync.runtime_canSpin", "internal/sync.runtime_doSpin", "internal/sync.throw", "internal/sync.runtime_nanotime", "internal/sync.runtime_SemacquireMutex", "sync/atomic.AddInt32", "(*internal/sync.Mutex).Unlock", "internal/race.ReleaseMerge", "(*internal/sync.Mutex).unlockSlow", "internal/sync.fatal", "internal/sync.runtime_Semrelease", "sync/atomic.StoreUint32", "slices.overlaps[raddle/agg.group]"], unfollowed := true, recurses := true, apart := false }
def CircTwoSaid : Prop := circTwoRow.holds Tryz.pinned (OpenSpec.ofChange circTwoSpec)

/-- ITS FALSE NEIGHBOUR: 'it returns false'. Refute it at one input. -/
def circTwoWrong : ChangeSpec := { name := "circTwo", fn := fun _ => fun
  | [d1, d2, d3] => { results := [.lit (.bool false)], args := [d1, d2, d3] }
  | _ => none }
def CircTwoWrongFalsely : Prop := circTwoRow.holds Tryz.pinned (OpenSpec.ofChange circTwoWrong)

/-- 'raddlelaw22.CircOrder': WHATEVER THE INPUT: true; the input reads as it did. -/
def circOrderSpec : ChangeSpec := { name := "circOrder", fn := fun _ => fun
  | [d1, d2, d3, d4] => { results := [.lit (.bool true)], args := [d1, d2, d3, d4] }
  | _ => none }
def circOrderRow : OpenClaim := { program := "ytogndnaffdkanaagreat", sum := "e3c24b0f679219d2ed4fed7b1817e0b2016552c1727b8a91dc479b1386d0bd88", func := "raddle/raddlelaw22.CircOrder", spec := "circOrder", inPlace := ["sync/atomic.LoadUint32", "(*internal/sync.Mutex).Lock", "internal/race.Disable", "sync/atomic.CompareAndSwapInt32", "internal/race.Enable", "internal/race.Acquire", "(*internal/sync.Mutex).lockSlow", "internal/sync.runtime_canSpin", "internal/sync.runtime_doSpin", "internal/sync.throw", "internal/sync.runtime_nanotime", "internal/sync.runtime_SemacquireMutex", "sync/atomic.AddInt32", "(*internal/sync.Mutex).Unlock", "internal/race.ReleaseMerge", "(*internal/sync.Mutex).unlockSlow", "internal/sync.fatal", "internal/sync.runtime_Semrelease", "sync/atomic.StoreUint32", "slices.overlaps[raddle/agg.group]"], unfollowed := true, recurses := true, apart := false }
def CircOrderSaid : Prop := circOrderRow.holds Tryz.pinned (OpenSpec.ofChange circOrderSpec)

/-- ITS FALSE NEIGHBOUR: 'it returns false'. Refute it at one input. -/
def circOrderWrong : ChangeSpec := { name := "circOrder", fn := fun _ => fun
  | [d1, d2, d3, d4] => { results := [.lit (.bool false)], args := [d1, d2, d3, d4] }
  | _ => none }
def CircOrderWrongFalsely : Prop := circOrderRow.holds Tryz.pinned (OpenSpec.ofChange circOrderWrong)

/-- 'raddlelaw22.CircRefuses': WHATEVER THE INPUT: true; the input reads as it did. -/
def circRefusesSpec : ChangeSpec := { name := "circRefuses", fn := fun _ => fun
  | [d1, d2, d3, d4] => { results := [.lit (.bool true)], args := [d1, d2, d3, d4] }
  | _ => none }
def circRefusesRow : OpenClaim := { program := "ytogndnaffdkanaagreat", sum := "e3c24b0f679219d2ed4fed7b1817e0b2016552c1727b8a91dc479b1386d0bd88", func := "raddle/raddlelaw22.CircRefuses", spec := "circRefuses", inPlace := ["sync/atomic.LoadUint32", "(*internal/sync.Mutex).Lock", "internal/race.Disable", "sync/atomic.CompareAndSwapInt32", "internal/race.Enable", "internal/race.Acquire", "(*internal/sync.Mutex).lockSlow", "internal/sync.runtime_canSpin", "internal/sync.runtime_doSpin", "internal/sync.throw", "internal/sync.runtime_nanotime", "internal/sync.runtime_SemacquireMutex", "sync/atomic.AddInt32", "(*internal/sync.Mutex).Unlock", "internal/race.ReleaseMerge", "(*internal/sync.Mutex).unlockSlow", "internal/sync.fatal", "internal/sync.runtime_Semrelease", "sync/atomic.StoreUint32", "slices.overlaps[raddle/agg.group]"], unfollowed := true, recurses := true, apart := false }
def CircRefusesSaid : Prop := circRefusesRow.holds Tryz.pinned (OpenSpec.ofChange circRefusesSpec)

/-- ITS FALSE NEIGHBOUR: 'it returns false'. Refute it at one input. -/
def circRefusesWrong : ChangeSpec := { name := "circRefuses", fn := fun _ => fun
  | [d1, d2, d3, d4] => { results := [.lit (.bool false)], args := [d1, d2, d3, d4] }
  | _ => none }
def CircRefusesWrongFalsely : Prop := circRefusesRow.holds Tryz.pinned (OpenSpec.ofChange circRefusesWrong)

/- THE SECOND FORM. 'bulk': how many values and letters a reading holds, each counted each time it is reached (what is shared counts as often as it is met; a slice's spare places count too). A statement '..UptoSaid' is the law's where the arguments, and the package variables that the reading takes, are together of bulk at most 1048576: NARROWER than '..Said'. Prove '..Said' where nothing that the law and all that it calls make is longer than what came in: it says more and counts as full. Else prove '..UptoSaid'. A law counts once. -/
mutual
def uptoBulk {H : Type} : DataW H → Nat
  | .lit (.string bytes) => bytes.length + 1
  | .lit _ => 1
  | .nil => 1
  | .ptr d => uptoBulk d + 1
  | .slice elems spare => uptoBulkAll elems + uptoBulkAll spare + 1
  | .agg parts => uptoBulkAll parts + 1
  | .iface _ d => uptoBulk d + 1
  | .map entries => uptoBulkEntries entries + 1
  | .held _ => 1
def uptoBulkAll {H : Type} : List (DataW H) → Nat
  | [] => 0
  | d :: r => uptoBulk d + uptoBulkAll r
def uptoBulkEntries {H : Type} : List (Lit × DataW H) → Nat
  | [] => 0
  | x :: r => uptoBulkEntry x + uptoBulkEntries r
def uptoBulkEntry {H : Type} : Lit × DataW H → Nat
  | (.string bytes, d) => bytes.length + uptoBulk d + 1
  | (_, d) => uptoBulk d + 1
 end
def uptoSmall : (H : Type) → List (DataW H) → Bool := fun _ ds => decide (uptoBulkAll ds ≤ 1048576)
def OpenSpec.upto (s : _root_.Go.ChangeSpec) : _root_.Go.OpenSpec := { _root_.Go.OpenSpec.ofChange s with cond := some uptoSmall }

/-- 'raddlelaw21.EvalExact', WHERE WHAT IT READS IS OF BULK AT MOST 1048576: true; the input reads as it did. -/
def evalExactUptoRow : OpenClaim := { program := "ytogndnaffdkanaagreat", sum := "e3c24b0f679219d2ed4fed7b1817e0b2016552c1727b8a91dc479b1386d0bd88", func := "raddle/raddlelaw21.EvalExact", spec := "evalExact", inPlace := ["slices.overlaps[raddle/agg.group]"], unfollowed := true, recurses := true, apart := false, narrowed := true }
def EvalExactUptoSaid : Prop := evalExactUptoRow.holds Tryz.pinned (OpenSpec.upto evalExactSpec)

/-- 'raddlelaw21.EvalLinear', WHERE WHAT IT READS IS OF BULK AT MOST 1048576: true; the input reads as it did. -/
def evalLinearUptoRow : OpenClaim := { program := "ytogndnaffdkanaagreat", sum := "e3c24b0f679219d2ed4fed7b1817e0b2016552c1727b8a91dc479b1386d0bd88", func := "raddle/raddlelaw21.EvalLinear", spec := "evalLinear", inPlace := ["slices.overlaps[raddle/agg.group]"], unfollowed := true, recurses := true, apart := false, narrowed := true }
def EvalLinearUptoSaid : Prop := evalLinearUptoRow.holds Tryz.pinned (OpenSpec.upto evalLinearSpec)

/-- 'raddlelaw21.EvalTable', WHERE WHAT IT READS IS OF BULK AT MOST 1048576: true; the input reads as it did. -/
def evalTableUptoRow : OpenClaim := { program := "ytogndnaffdkanaagreat", sum := "e3c24b0f679219d2ed4fed7b1817e0b2016552c1727b8a91dc479b1386d0bd88", func := "raddle/raddlelaw21.EvalTable", spec := "evalTable", inPlace := ["slices.overlaps[raddle/agg.group]"], unfollowed := true, recurses := true, apart := false, narrowed := true }
def EvalTableUptoSaid : Prop := evalTableUptoRow.holds Tryz.pinned (OpenSpec.upto evalTableSpec)

/-- 'raddlelaw21.EvalNodes', WHERE WHAT IT READS IS OF BULK AT MOST 1048576: true; the input reads as it did. -/
def evalNodesUptoRow : OpenClaim := { program := "ytogndnaffdkanaagreat", sum := "e3c24b0f679219d2ed4fed7b1817e0b2016552c1727b8a91dc479b1386d0bd88", func := "raddle/raddlelaw21.EvalNodes", spec := "evalNodes", inPlace := ["slices.overlaps[raddle/agg.group]"], unfollowed := true, recurses := true, apart := false, narrowed := true }
def EvalNodesUptoSaid : Prop := evalNodesUptoRow.holds Tryz.pinned (OpenSpec.upto evalNodesSpec)

/-- 'raddlelaw21.EvalEmpty', WHERE WHAT IT READS IS OF BULK AT MOST 1048576: true; the input reads as it did. -/
def evalEmptyUptoRow : OpenClaim := { program := "ytogndnaffdkanaagreat", sum := "e3c24b0f679219d2ed4fed7b1817e0b2016552c1727b8a91dc479b1386d0bd88", func := "raddle/raddlelaw21.EvalEmpty", spec := "evalEmpty", inPlace := ["slices.overlaps[raddle/agg.group]"], unfollowed := true, recurses := true, apart := false, narrowed := true }
def EvalEmptyUptoSaid : Prop := evalEmptyUptoRow.holds Tryz.pinned (OpenSpec.upto evalEmptySpec)

/-- 'raddlelaw21.EvalUnused', WHERE WHAT IT READS IS OF BULK AT MOST 1048576: true; the input reads as it did. -/
def evalUnusedUptoRow : OpenClaim := { program := "ytogndnaffdkanaagreat", sum := "e3c24b0f679219d2ed4fed7b1817e0b2016552c1727b8a91dc479b1386d0bd88", func := "raddle/raddlelaw21.EvalUnused", spec := "evalUnused", inPlace := ["slices.overlaps[raddle/agg.group]"], unfollowed := true, recurses := true, apart := false, narrowed := true }
def EvalUnusedUptoSaid : Prop := evalUnusedUptoRow.holds Tryz.pinned (OpenSpec.upto evalUnusedSpec)

/-- 'raddlelaw21.EvalLast', WHERE WHAT IT READS IS OF BULK AT MOST 1048576: true; the input reads as it did. -/
def evalLastUptoRow : OpenClaim := { program := "ytogndnaffdkanaagreat", sum := "e3c24b0f679219d2ed4fed7b1817e0b2016552c1727b8a91dc479b1386d0bd88", func := "raddle/raddlelaw21.EvalLast", spec := "evalLast", inPlace := ["slices.overlaps[raddle/agg.group]"], unfollowed := true, recurses := true, apart := false, narrowed := true }
def EvalLastUptoSaid : Prop := evalLastUptoRow.holds Tryz.pinned (OpenSpec.upto evalLastSpec)

/-- 'raddlelaw21.EvalCounts', WHERE WHAT IT READS IS OF BULK AT MOST 1048576: true; the input reads as it did. -/
def evalCountsUptoRow : OpenClaim := { program := "ytogndnaffdkanaagreat", sum := "e3c24b0f679219d2ed4fed7b1817e0b2016552c1727b8a91dc479b1386d0bd88", func := "raddle/raddlelaw21.EvalCounts", spec := "evalCounts", inPlace := ["slices.overlaps[raddle/agg.group]"], unfollowed := true, recurses := true, apart := false, narrowed := true }
def EvalCountsUptoSaid : Prop := evalCountsUptoRow.holds Tryz.pinned (OpenSpec.upto evalCountsSpec)

/-- 'raddlelaw21.EvalFits', WHERE WHAT IT READS IS OF BULK AT MOST 1048576: true; the input reads as it did. -/
def evalFitsUptoRow : OpenClaim := { program := "ytogndnaffdkanaagreat", sum := "e3c24b0f679219d2ed4fed7b1817e0b2016552c1727b8a91dc479b1386d0bd88", func := "raddle/raddlelaw21.EvalFits", spec := "evalFits", inPlace := ["slices.overlaps[raddle/agg.group]"], unfollowed := true, recurses := true, apart := false, narrowed := true }
def EvalFitsUptoSaid : Prop := evalFitsUptoRow.holds Tryz.pinned (OpenSpec.upto evalFitsSpec)

/-- 'raddlelaw22.CircSums', WHERE WHAT IT READS IS OF BULK AT MOST 1048576: true; the input reads as it did. -/
def circSumsUptoRow : OpenClaim := { program := "ytogndnaffdkanaagreat", sum := "e3c24b0f679219d2ed4fed7b1817e0b2016552c1727b8a91dc479b1386d0bd88", func := "raddle/raddlelaw22.CircSums", spec := "circSums", inPlace := ["sync/atomic.LoadUint32", "(*internal/sync.Mutex).Lock", "internal/race.Disable", "sync/atomic.CompareAndSwapInt32", "internal/race.Enable", "internal/race.Acquire", "(*internal/sync.Mutex).lockSlow", "internal/sync.runtime_canSpin", "internal/sync.runtime_doSpin", "internal/sync.throw", "internal/sync.runtime_nanotime", "internal/sync.runtime_SemacquireMutex", "sync/atomic.AddInt32", "(*internal/sync.Mutex).Unlock", "internal/race.ReleaseMerge", "(*internal/sync.Mutex).unlockSlow", "internal/sync.fatal", "internal/sync.runtime_Semrelease", "sync/atomic.StoreUint32", "slices.overlaps[raddle/agg.group]"], unfollowed := true, recurses := true, apart := false, narrowed := true }
def CircSumsUptoSaid : Prop := circSumsUptoRow.holds Tryz.pinned (OpenSpec.upto circSumsSpec)

/-- 'raddlelaw22.CircLater', WHERE WHAT IT READS IS OF BULK AT MOST 1048576: true; the input reads as it did. -/
def circLaterUptoRow : OpenClaim := { program := "ytogndnaffdkanaagreat", sum := "e3c24b0f679219d2ed4fed7b1817e0b2016552c1727b8a91dc479b1386d0bd88", func := "raddle/raddlelaw22.CircLater", spec := "circLater", inPlace := ["sync/atomic.LoadUint32", "(*internal/sync.Mutex).Lock", "internal/race.Disable", "sync/atomic.CompareAndSwapInt32", "internal/race.Enable", "internal/race.Acquire", "(*internal/sync.Mutex).lockSlow", "internal/sync.runtime_canSpin", "internal/sync.runtime_doSpin", "internal/sync.throw", "internal/sync.runtime_nanotime", "internal/sync.runtime_SemacquireMutex", "sync/atomic.AddInt32", "(*internal/sync.Mutex).Unlock", "internal/race.ReleaseMerge", "(*internal/sync.Mutex).unlockSlow", "internal/sync.fatal", "internal/sync.runtime_Semrelease", "sync/atomic.StoreUint32", "slices.overlaps[raddle/agg.group]"], unfollowed := true, recurses := true, apart := false, narrowed := true }
def CircLaterUptoSaid : Prop := circLaterUptoRow.holds Tryz.pinned (OpenSpec.upto circLaterSpec)

/-- 'raddlelaw22.CircBack', WHERE WHAT IT READS IS OF BULK AT MOST 1048576: true; the input reads as it did. -/
def circBackUptoRow : OpenClaim := { program := "ytogndnaffdkanaagreat", sum := "e3c24b0f679219d2ed4fed7b1817e0b2016552c1727b8a91dc479b1386d0bd88", func := "raddle/raddlelaw22.CircBack", spec := "circBack", inPlace := ["sync/atomic.LoadUint32", "(*internal/sync.Mutex).Lock", "internal/race.Disable", "sync/atomic.CompareAndSwapInt32", "internal/race.Enable", "internal/race.Acquire", "(*internal/sync.Mutex).lockSlow", "internal/sync.runtime_canSpin", "internal/sync.runtime_doSpin", "internal/sync.throw", "internal/sync.runtime_nanotime", "internal/sync.runtime_SemacquireMutex", "sync/atomic.AddInt32", "(*internal/sync.Mutex).Unlock", "internal/race.ReleaseMerge", "(*internal/sync.Mutex).unlockSlow", "internal/sync.fatal", "internal/sync.runtime_Semrelease", "sync/atomic.StoreUint32", "slices.overlaps[raddle/agg.group]"], unfollowed := true, recurses := true, apart := false, narrowed := true }
def CircBackUptoSaid : Prop := circBackUptoRow.holds Tryz.pinned (OpenSpec.upto circBackSpec)

/-- 'raddlelaw22.CircExact', WHERE WHAT IT READS IS OF BULK AT MOST 1048576: true; the input reads as it did. -/
def circExactUptoRow : OpenClaim := { program := "ytogndnaffdkanaagreat", sum := "e3c24b0f679219d2ed4fed7b1817e0b2016552c1727b8a91dc479b1386d0bd88", func := "raddle/raddlelaw22.CircExact", spec := "circExact", inPlace := ["sync/atomic.LoadUint32", "(*internal/sync.Mutex).Lock", "internal/race.Disable", "sync/atomic.CompareAndSwapInt32", "internal/race.Enable", "internal/race.Acquire", "(*internal/sync.Mutex).lockSlow", "internal/sync.runtime_canSpin", "internal/sync.runtime_doSpin", "internal/sync.throw", "internal/sync.runtime_nanotime", "internal/sync.runtime_SemacquireMutex", "sync/atomic.AddInt32", "(*internal/sync.Mutex).Unlock", "internal/race.ReleaseMerge", "(*internal/sync.Mutex).unlockSlow", "internal/sync.fatal", "internal/sync.runtime_Semrelease", "sync/atomic.StoreUint32", "slices.overlaps[raddle/agg.group]"], unfollowed := true, recurses := true, apart := false, narrowed := true }
def CircExactUptoSaid : Prop := circExactUptoRow.holds Tryz.pinned (OpenSpec.upto circExactSpec)

/-- 'raddlelaw22.CircTwo', WHERE WHAT IT READS IS OF BULK AT MOST 1048576: true; the input reads as it did. -/
def circTwoUptoRow : OpenClaim := { program := "ytogndnaffdkanaagreat", sum := "e3c24b0f679219d2ed4fed7b1817e0b2016552c1727b8a91dc479b1386d0bd88", func := "raddle/raddlelaw22.CircTwo", spec := "circTwo", inPlace := ["sync/atomic.LoadUint32", "(*internal/sync.Mutex).Lock", "internal/race.Disable", "sync/atomic.CompareAndSwapInt32", "internal/race.Enable", "internal/race.Acquire", "(*internal/sync.Mutex).lockSlow", "internal/sync.runtime_canSpin", "internal/sync.runtime_doSpin", "internal/sync.throw", "internal/sync.runtime_nanotime", "internal/sync.runtime_SemacquireMutex", "sync/atomic.AddInt32", "(*internal/sync.Mutex).Unlock", "internal/race.ReleaseMerge", "(*internal/sync.Mutex).unlockSlow", "internal/sync.fatal", "internal/sync.runtime_Semrelease", "sync/atomic.StoreUint32", "slices.overlaps[raddle/agg.group]"], unfollowed := true, recurses := true, apart := false, narrowed := true }
def CircTwoUptoSaid : Prop := circTwoUptoRow.holds Tryz.pinned (OpenSpec.upto circTwoSpec)

/-- 'raddlelaw22.CircOrder', WHERE WHAT IT READS IS OF BULK AT MOST 1048576: true; the input reads as it did. -/
def circOrderUptoRow : OpenClaim := { program := "ytogndnaffdkanaagreat", sum := "e3c24b0f679219d2ed4fed7b1817e0b2016552c1727b8a91dc479b1386d0bd88", func := "raddle/raddlelaw22.CircOrder", spec := "circOrder", inPlace := ["sync/atomic.LoadUint32", "(*internal/sync.Mutex).Lock", "internal/race.Disable", "sync/atomic.CompareAndSwapInt32", "internal/race.Enable", "internal/race.Acquire", "(*internal/sync.Mutex).lockSlow", "internal/sync.runtime_canSpin", "internal/sync.runtime_doSpin", "internal/sync.throw", "internal/sync.runtime_nanotime", "internal/sync.runtime_SemacquireMutex", "sync/atomic.AddInt32", "(*internal/sync.Mutex).Unlock", "internal/race.ReleaseMerge", "(*internal/sync.Mutex).unlockSlow", "internal/sync.fatal", "internal/sync.runtime_Semrelease", "sync/atomic.StoreUint32", "slices.overlaps[raddle/agg.group]"], unfollowed := true, recurses := true, apart := false, narrowed := true }
def CircOrderUptoSaid : Prop := circOrderUptoRow.holds Tryz.pinned (OpenSpec.upto circOrderSpec)

/-- 'raddlelaw22.CircRefuses', WHERE WHAT IT READS IS OF BULK AT MOST 1048576: true; the input reads as it did. -/
def circRefusesUptoRow : OpenClaim := { program := "ytogndnaffdkanaagreat", sum := "e3c24b0f679219d2ed4fed7b1817e0b2016552c1727b8a91dc479b1386d0bd88", func := "raddle/raddlelaw22.CircRefuses", spec := "circRefuses", inPlace := ["sync/atomic.LoadUint32", "(*internal/sync.Mutex).Lock", "internal/race.Disable", "sync/atomic.CompareAndSwapInt32", "internal/race.Enable", "internal/race.Acquire", "(*internal/sync.Mutex).lockSlow", "internal/sync.runtime_canSpin", "internal/sync.runtime_doSpin", "internal/sync.throw", "internal/sync.runtime_nanotime", "internal/sync.runtime_SemacquireMutex", "sync/atomic.AddInt32", "(*internal/sync.Mutex).Unlock", "internal/race.ReleaseMerge", "(*internal/sync.Mutex).unlockSlow", "internal/sync.fatal", "internal/sync.runtime_Semrelease", "sync/atomic.StoreUint32", "slices.overlaps[raddle/agg.group]"], unfollowed := true, recurses := true, apart := false, narrowed := true }
def CircRefusesUptoSaid : Prop := circRefusesUptoRow.holds Tryz.pinned (OpenSpec.upto circRefusesSpec)

end Rows
end Go.Proofs.YtogndnaffdkanaaGreat
