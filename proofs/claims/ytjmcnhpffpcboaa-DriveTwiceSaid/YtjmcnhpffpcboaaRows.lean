/-
  No cell of these rows narrows 'for every input' (looked for: loops, veiled, ifaces, maps, wideKeys, modest, calm, conditions, laid).
  DERIVED. THE GIVEN ROWS OF THIS SEAT. 15 by the template 'for every input the law returns true; each argument reads behind the call as it read before'; 0 by the template 'total and deterministic' (their statements: YtjmcnhpffpcboaaTotals.lean).
  GIVEN WITH THE SEED: the statements are not yours to turn. If you find one false, say at which input.
  Laid BY PROGRAM, IN A SANDBOX (cutbox-rows.mjs): the forced cells as the released guide's own fill.sh prints them over the translation c9408f7eb4fbb6cf… (all of the seat's roots in one cut). By AI agents, Wed Nov 11 2026. No macro, syntax, notation, axiom, sorry.
-/
import Derived.Test.YtjmcnhpffpcboaaChecked
import GoSem.Claim
import GoSem.ClaimJoined
import GoSem.ClaimMapViews
import Derived.JoinedTies
import Derived.KernelRfl
namespace Go.Proofs.Ytjmcnhpffpcboaa
/- THE CELL 'sum', in the pinned program and in every row, IS THE sha256 OF THE DUMP (.gsa) THAT YtjmcnhpffpcboaaProg.lean LOADS. Nothing in Lean hashes anything: it is a label: what it is worth is what the hold of that sum in a sandbox is worth. -/
noncomputable def Try.pinned : Pinned := { name := "ytjmcnhpffpcboaa", sum := "c9408f7eb4fbb6cf9055c4405c429cfaef475543ca143c11483f6310f22943aa", checked := Try.checked }
namespace Rows
def none {H : Type} : Left H := { results := [], args := [] }

/-- 'pantilelaw07.TextNumbers': WHATEVER THE INPUT: true; the input reads as it did. -/
def textNumbersSpec : ChangeSpec := { name := "textNumbers", fn := fun _ => fun
  | [d1, d2] => { results := [.lit (.bool true)], args := [d1, d2] }
  | _ => none }
def textNumbersRow : OpenClaim := { program := "ytjmcnhpffpcboaa", sum := "c9408f7eb4fbb6cf9055c4405c429cfaef475543ca143c11483f6310f22943aa", func := "pantile/pantilelaw07.TextNumbers", spec := "textNumbers", inPlace := ["internal/abi.NoEscape", "internal/bytealg.MakeNoZero"], recurses := true, plainKeys := false, apart := false }
def TextNumbersSaid : Prop := textNumbersRow.holds Try.pinned (OpenSpec.ofChange textNumbersSpec)

/-- ITS FALSE NEIGHBOUR: 'it returns false'. Refute it at one input. -/
def textNumbersWrong : ChangeSpec := { name := "textNumbers", fn := fun _ => fun
  | [d1, d2] => { results := [.lit (.bool false)], args := [d1, d2] }
  | _ => none }
def TextNumbersWrongFalsely : Prop := textNumbersRow.holds Try.pinned (OpenSpec.ofChange textNumbersWrong)

/-- 'pantilelaw07.TextApart': WHATEVER THE INPUT: true; the input reads as it did. -/
def textApartSpec : ChangeSpec := { name := "textApart", fn := fun _ => fun
  | [d1, d2] => { results := [.lit (.bool true)], args := [d1, d2] }
  | _ => none }
def textApartRow : OpenClaim := { program := "ytjmcnhpffpcboaa", sum := "c9408f7eb4fbb6cf9055c4405c429cfaef475543ca143c11483f6310f22943aa", func := "pantile/pantilelaw07.TextApart", spec := "textApart", inPlace := ["internal/abi.NoEscape", "internal/bytealg.MakeNoZero"], plainKeys := false, apart := false }
def TextApartSaid : Prop := textApartRow.holds Try.pinned (OpenSpec.ofChange textApartSpec)

/-- ITS FALSE NEIGHBOUR: 'it returns false'. Refute it at one input. -/
def textApartWrong : ChangeSpec := { name := "textApart", fn := fun _ => fun
  | [d1, d2] => { results := [.lit (.bool false)], args := [d1, d2] }
  | _ => none }
def TextApartWrongFalsely : Prop := textApartRow.holds Try.pinned (OpenSpec.ofChange textApartWrong)

/-- 'pantilelaw07.TextGets': WHATEVER THE INPUT: true; the input reads as it did. -/
def textGetsSpec : ChangeSpec := { name := "textGets", fn := fun _ => fun
  | [d1, d2] => { results := [.lit (.bool true)], args := [d1, d2] }
  | _ => none }
def textGetsRow : OpenClaim := { program := "ytjmcnhpffpcboaa", sum := "c9408f7eb4fbb6cf9055c4405c429cfaef475543ca143c11483f6310f22943aa", func := "pantile/pantilelaw07.TextGets", spec := "textGets", inPlace := ["internal/abi.NoEscape", "internal/bytealg.MakeNoZero"], unfollowed := true, recurses := true, plainKeys := false, apart := false }
def TextGetsSaid : Prop := textGetsRow.holds Try.pinned (OpenSpec.ofChange textGetsSpec)

/-- ITS FALSE NEIGHBOUR: 'it returns false'. Refute it at one input. -/
def textGetsWrong : ChangeSpec := { name := "textGets", fn := fun _ => fun
  | [d1, d2] => { results := [.lit (.bool false)], args := [d1, d2] }
  | _ => none }
def TextGetsWrongFalsely : Prop := textGetsRow.holds Try.pinned (OpenSpec.ofChange textGetsWrong)

/-- 'pantilelaw19.StagesMay': WHATEVER THE INPUT: true; the input reads as it did. -/
def stagesMaySpec : ChangeSpec := { name := "stagesMay", fn := fun _ => fun
  | [d1, d2] => { results := [.lit (.bool true)], args := [d1, d2] }
  | _ => none }
def stagesMayRow : OpenClaim := { program := "ytjmcnhpffpcboaa", sum := "c9408f7eb4fbb6cf9055c4405c429cfaef475543ca143c11483f6310f22943aa", func := "pantile/pantilelaw19.StagesMay", spec := "stagesMay", inPlace := ["internal/bytealg.IndexByteString"], unfollowed := true, recurses := true, plainKeys := false, apart := false }
def StagesMaySaid : Prop := stagesMayRow.holds Try.pinned (OpenSpec.ofChange stagesMaySpec)

/-- ITS FALSE NEIGHBOUR: 'it returns false'. Refute it at one input. -/
def stagesMayWrong : ChangeSpec := { name := "stagesMay", fn := fun _ => fun
  | [d1, d2] => { results := [.lit (.bool false)], args := [d1, d2] }
  | _ => none }
def StagesMayWrongFalsely : Prop := stagesMayRow.holds Try.pinned (OpenSpec.ofChange stagesMayWrong)

/-- 'pantilelaw19.StagesFile': WHATEVER THE INPUT: true; the input reads as it did. -/
def stagesFileSpec : ChangeSpec := { name := "stagesFile", fn := fun _ => fun
  | [d] => { results := [.lit (.bool true)], args := [d] }
  | _ => none }
def stagesFileRow : OpenClaim := { program := "ytjmcnhpffpcboaa", sum := "c9408f7eb4fbb6cf9055c4405c429cfaef475543ca143c11483f6310f22943aa", func := "pantile/pantilelaw19.StagesFile", spec := "stagesFile", inPlace := ["internal/bytealg.IndexByteString"], unfollowed := true, recurses := true, plainKeys := false, apart := false }
def StagesFileSaid : Prop := stagesFileRow.holds Try.pinned (OpenSpec.ofChange stagesFileSpec)

/-- ITS FALSE NEIGHBOUR: 'it returns false'. Refute it at one input. -/
def stagesFileWrong : ChangeSpec := { name := "stagesFile", fn := fun _ => fun
  | [d] => { results := [.lit (.bool false)], args := [d] }
  | _ => none }
def StagesFileWrongFalsely : Prop := stagesFileRow.holds Try.pinned (OpenSpec.ofChange stagesFileWrong)

/-- 'pantilelaw19.StagesFull': WHATEVER THE INPUT: true; the input reads as it did. -/
def stagesFullSpec : ChangeSpec := { name := "stagesFull", fn := fun _ => fun
  | [d1, d2] => { results := [.lit (.bool true)], args := [d1, d2] }
  | _ => none }
def stagesFullRow : OpenClaim := { program := "ytjmcnhpffpcboaa", sum := "c9408f7eb4fbb6cf9055c4405c429cfaef475543ca143c11483f6310f22943aa", func := "pantile/pantilelaw19.StagesFull", spec := "stagesFull", inPlace := ["internal/bytealg.IndexByteString"], unfollowed := true, recurses := true, plainKeys := false, apart := false }
def StagesFullSaid : Prop := stagesFullRow.holds Try.pinned (OpenSpec.ofChange stagesFullSpec)

/-- ITS FALSE NEIGHBOUR: 'it returns false'. Refute it at one input. -/
def stagesFullWrong : ChangeSpec := { name := "stagesFull", fn := fun _ => fun
  | [d1, d2] => { results := [.lit (.bool false)], args := [d1, d2] }
  | _ => none }
def StagesFullWrongFalsely : Prop := stagesFullRow.holds Try.pinned (OpenSpec.ofChange stagesFullWrong)

/-- 'pantilelaw19.StagesWay': WHATEVER THE INPUT: true; the input reads as it did. -/
def stagesWaySpec : ChangeSpec := { name := "stagesWay", fn := fun _ => fun
  | [d] => { results := [.lit (.bool true)], args := [d] }
  | _ => none }
def stagesWayRow : OpenClaim := { program := "ytjmcnhpffpcboaa", sum := "c9408f7eb4fbb6cf9055c4405c429cfaef475543ca143c11483f6310f22943aa", func := "pantile/pantilelaw19.StagesWay", spec := "stagesWay", inPlace := ["internal/bytealg.IndexByteString"], unfollowed := true, recurses := true, plainKeys := false, apart := false }
def StagesWaySaid : Prop := stagesWayRow.holds Try.pinned (OpenSpec.ofChange stagesWaySpec)

/-- ITS FALSE NEIGHBOUR: 'it returns false'. Refute it at one input. -/
def stagesWayWrong : ChangeSpec := { name := "stagesWay", fn := fun _ => fun
  | [d] => { results := [.lit (.bool false)], args := [d] }
  | _ => none }
def StagesWayWrongFalsely : Prop := stagesWayRow.holds Try.pinned (OpenSpec.ofChange stagesWayWrong)

/-- 'pantilelaw13.DriveOwns': WHATEVER THE INPUT: true; the input reads as it did. -/
def driveOwnsSpec : ChangeSpec := { name := "driveOwns", fn := fun _ => fun
  | [d] => { results := [.lit (.bool true)], args := [d] }
  | _ => none }
def driveOwnsRow : OpenClaim := { program := "ytjmcnhpffpcboaa", sum := "c9408f7eb4fbb6cf9055c4405c429cfaef475543ca143c11483f6310f22943aa", func := "pantile/pantilelaw13.DriveOwns", spec := "driveOwns", inPlace := ["internal/bytealg.IndexByteString"], unfollowed := true, recurses := true, plainKeys := false, apart := false }
def DriveOwnsSaid : Prop := driveOwnsRow.holds Try.pinned (OpenSpec.ofChange driveOwnsSpec)

/-- ITS FALSE NEIGHBOUR: 'it returns false'. Refute it at one input. -/
def driveOwnsWrong : ChangeSpec := { name := "driveOwns", fn := fun _ => fun
  | [d] => { results := [.lit (.bool false)], args := [d] }
  | _ => none }
def DriveOwnsWrongFalsely : Prop := driveOwnsRow.holds Try.pinned (OpenSpec.ofChange driveOwnsWrong)

/-- 'pantilelaw13.DriveKeeps': WHATEVER THE INPUT: true; the input reads as it did. -/
def driveKeepsSpec : ChangeSpec := { name := "driveKeeps", fn := fun _ => fun
  | [d1, d2, d3, d4] => { results := [.lit (.bool true)], args := [d1, d2, d3, d4] }
  | _ => none }
def driveKeepsRow : OpenClaim := { program := "ytjmcnhpffpcboaa", sum := "c9408f7eb4fbb6cf9055c4405c429cfaef475543ca143c11483f6310f22943aa", func := "pantile/pantilelaw13.DriveKeeps", spec := "driveKeeps", inPlace := ["internal/bytealg.IndexByteString"], unfollowed := true, recurses := true, plainKeys := false, apart := false }
def DriveKeepsSaid : Prop := driveKeepsRow.holds Try.pinned (OpenSpec.ofChange driveKeepsSpec)

/-- ITS FALSE NEIGHBOUR: 'it returns false'. Refute it at one input. -/
def driveKeepsWrong : ChangeSpec := { name := "driveKeeps", fn := fun _ => fun
  | [d1, d2, d3, d4] => { results := [.lit (.bool false)], args := [d1, d2, d3, d4] }
  | _ => none }
def DriveKeepsWrongFalsely : Prop := driveKeepsRow.holds Try.pinned (OpenSpec.ofChange driveKeepsWrong)

/-- 'pantilelaw13.DriveFull': WHATEVER THE INPUT: true; the input reads as it did. -/
def driveFullSpec : ChangeSpec := { name := "driveFull", fn := fun _ => fun
  | [d1, d2] => { results := [.lit (.bool true)], args := [d1, d2] }
  | _ => none }
def driveFullRow : OpenClaim := { program := "ytjmcnhpffpcboaa", sum := "c9408f7eb4fbb6cf9055c4405c429cfaef475543ca143c11483f6310f22943aa", func := "pantile/pantilelaw13.DriveFull", spec := "driveFull", inPlace := ["internal/bytealg.IndexByteString"], unfollowed := true, recurses := true, plainKeys := false, apart := false }
def DriveFullSaid : Prop := driveFullRow.holds Try.pinned (OpenSpec.ofChange driveFullSpec)

/-- ITS FALSE NEIGHBOUR: 'it returns false'. Refute it at one input. -/
def driveFullWrong : ChangeSpec := { name := "driveFull", fn := fun _ => fun
  | [d1, d2] => { results := [.lit (.bool false)], args := [d1, d2] }
  | _ => none }
def DriveFullWrongFalsely : Prop := driveFullRow.holds Try.pinned (OpenSpec.ofChange driveFullWrong)

/-- 'pantilelaw13.DriveNames': WHATEVER THE INPUT: true; the input reads as it did. -/
def driveNamesSpec : ChangeSpec := { name := "driveNames", fn := fun _ => fun
  | [d] => { results := [.lit (.bool true)], args := [d] }
  | _ => none }
def driveNamesRow : OpenClaim := { program := "ytjmcnhpffpcboaa", sum := "c9408f7eb4fbb6cf9055c4405c429cfaef475543ca143c11483f6310f22943aa", func := "pantile/pantilelaw13.DriveNames", spec := "driveNames", inPlace := ["internal/bytealg.IndexByteString"], unfollowed := true, recurses := true, plainKeys := false, apart := false }
def DriveNamesSaid : Prop := driveNamesRow.holds Try.pinned (OpenSpec.ofChange driveNamesSpec)

/-- ITS FALSE NEIGHBOUR: 'it returns false'. Refute it at one input. -/
def driveNamesWrong : ChangeSpec := { name := "driveNames", fn := fun _ => fun
  | [d] => { results := [.lit (.bool false)], args := [d] }
  | _ => none }
def DriveNamesWrongFalsely : Prop := driveNamesRow.holds Try.pinned (OpenSpec.ofChange driveNamesWrong)

/-- 'pantilelaw13.DriveUsed': WHATEVER THE INPUT: true; the input reads as it did. -/
def driveUsedSpec : ChangeSpec := { name := "driveUsed", fn := fun _ => fun
  | [d] => { results := [.lit (.bool true)], args := [d] }
  | _ => none }
def driveUsedRow : OpenClaim := { program := "ytjmcnhpffpcboaa", sum := "c9408f7eb4fbb6cf9055c4405c429cfaef475543ca143c11483f6310f22943aa", func := "pantile/pantilelaw13.DriveUsed", spec := "driveUsed", inPlace := ["internal/bytealg.IndexByteString"], unfollowed := true, recurses := true, plainKeys := false, apart := false }
def DriveUsedSaid : Prop := driveUsedRow.holds Try.pinned (OpenSpec.ofChange driveUsedSpec)

/-- ITS FALSE NEIGHBOUR: 'it returns false'. Refute it at one input. -/
def driveUsedWrong : ChangeSpec := { name := "driveUsed", fn := fun _ => fun
  | [d] => { results := [.lit (.bool false)], args := [d] }
  | _ => none }
def DriveUsedWrongFalsely : Prop := driveUsedRow.holds Try.pinned (OpenSpec.ofChange driveUsedWrong)

/-- 'pantilelaw13.DrivePlays': WHATEVER THE INPUT: true; the input reads as it did. -/
def drivePlaysSpec : ChangeSpec := { name := "drivePlays", fn := fun _ => fun
  | [d1, d2] => { results := [.lit (.bool true)], args := [d1, d2] }
  | _ => none }
def drivePlaysRow : OpenClaim := { program := "ytjmcnhpffpcboaa", sum := "c9408f7eb4fbb6cf9055c4405c429cfaef475543ca143c11483f6310f22943aa", func := "pantile/pantilelaw13.DrivePlays", spec := "drivePlays", inPlace := ["internal/bytealg.IndexByteString"], unfollowed := true, recurses := true, plainKeys := false, apart := false }
def DrivePlaysSaid : Prop := drivePlaysRow.holds Try.pinned (OpenSpec.ofChange drivePlaysSpec)

/-- ITS FALSE NEIGHBOUR: 'it returns false'. Refute it at one input. -/
def drivePlaysWrong : ChangeSpec := { name := "drivePlays", fn := fun _ => fun
  | [d1, d2] => { results := [.lit (.bool false)], args := [d1, d2] }
  | _ => none }
def DrivePlaysWrongFalsely : Prop := drivePlaysRow.holds Try.pinned (OpenSpec.ofChange drivePlaysWrong)

/-- 'pantilelaw13.DriveTwice': WHATEVER THE INPUT: true; the input reads as it did. -/
def driveTwiceSpec : ChangeSpec := { name := "driveTwice", fn := fun _ => fun
  | [d1, d2] => { results := [.lit (.bool true)], args := [d1, d2] }
  | _ => none }
def driveTwiceRow : OpenClaim := { program := "ytjmcnhpffpcboaa", sum := "c9408f7eb4fbb6cf9055c4405c429cfaef475543ca143c11483f6310f22943aa", func := "pantile/pantilelaw13.DriveTwice", spec := "driveTwice", inPlace := ["internal/bytealg.IndexByteString"], unfollowed := true, recurses := true, plainKeys := false, apart := false }
def DriveTwiceSaid : Prop := driveTwiceRow.holds Try.pinned (OpenSpec.ofChange driveTwiceSpec)

/-- ITS FALSE NEIGHBOUR: 'it returns false'. Refute it at one input. -/
def driveTwiceWrong : ChangeSpec := { name := "driveTwice", fn := fun _ => fun
  | [d1, d2] => { results := [.lit (.bool false)], args := [d1, d2] }
  | _ => none }
def DriveTwiceWrongFalsely : Prop := driveTwiceRow.holds Try.pinned (OpenSpec.ofChange driveTwiceWrong)

/-- 'pantilelaw19.StagesPlay': WHATEVER THE INPUT: true; the input reads as it did. -/
def stagesPlaySpec : ChangeSpec := { name := "stagesPlay", fn := fun _ => fun
  | [d] => { results := [.lit (.bool true)], args := [d] }
  | _ => none }
def stagesPlayRow : OpenClaim := { program := "ytjmcnhpffpcboaa", sum := "c9408f7eb4fbb6cf9055c4405c429cfaef475543ca143c11483f6310f22943aa", func := "pantile/pantilelaw19.StagesPlay", spec := "stagesPlay", inPlace := ["internal/bytealg.IndexByteString"], unfollowed := true, recurses := true, plainKeys := false, apart := false }
def StagesPlaySaid : Prop := stagesPlayRow.holds Try.pinned (OpenSpec.ofChange stagesPlaySpec)

/-- ITS FALSE NEIGHBOUR: 'it returns false'. Refute it at one input. -/
def stagesPlayWrong : ChangeSpec := { name := "stagesPlay", fn := fun _ => fun
  | [d] => { results := [.lit (.bool false)], args := [d] }
  | _ => none }
def StagesPlayWrongFalsely : Prop := stagesPlayRow.holds Try.pinned (OpenSpec.ofChange stagesPlayWrong)

/- THE SECOND FORM. 'bulk': how many values and letters a reading holds, each counted each time it is reached (what is shared counts as often as it is met; a slice's spare places count too). A statement '..UptoSaid' is the law's where the arguments, and the package variables that the reading takes, are together of bulk at most 1048576: NARROWER than '..Said'. Prove '..Said' where nothing that the law and all that it calls make is longer than what came in: it says more and counts as full. Else prove '..UptoSaid'. A law counts once. -/
mutual
def uptoBulk {H : Type} : DataW H → Nat
  | .lit (.string bytes) => bytes.length + 1
  | .lit _ => 1
  | .nil => 1
  | .ptr d => uptoBulk d + 1
  | .slice elems spare => uptoBulkAll elems + uptoBulkAll spare + 1
  | .agg parts => uptoBulkAll parts + 1
  | .iface _ d => uptoBulk d + 1
  | .map entries => uptoBulkEntries entries + 1
  | .held _ => 1
def uptoBulkAll {H : Type} : List (DataW H) → Nat
  | [] => 0
  | d :: r => uptoBulk d + uptoBulkAll r
def uptoBulkEntries {H : Type} : List (Lit × DataW H) → Nat
  | [] => 0
  | x :: r => uptoBulkEntry x + uptoBulkEntries r
def uptoBulkEntry {H : Type} : Lit × DataW H → Nat
  | (.string bytes, d) => bytes.length + uptoBulk d + 1
  | (_, d) => uptoBulk d + 1
 end
def uptoSmall : (H : Type) → List (DataW H) → Bool := fun _ ds => decide (uptoBulkAll ds ≤ 1048576)
def OpenSpec.upto (s : _root_.Go.ChangeSpec) : _root_.Go.OpenSpec := { _root_.Go.OpenSpec.ofChange s with cond := some uptoSmall }

/-- 'pantilelaw07.TextNumbers', WHERE WHAT IT READS IS OF BULK AT MOST 1048576: true; the input reads as it did. -/
def textNumbersUptoRow : OpenClaim := { program := "ytjmcnhpffpcboaa", sum := "c9408f7eb4fbb6cf9055c4405c429cfaef475543ca143c11483f6310f22943aa", func := "pantile/pantilelaw07.TextNumbers", spec := "textNumbers", inPlace := ["internal/abi.NoEscape", "internal/bytealg.MakeNoZero"], recurses := true, plainKeys := false, apart := false, narrowed := true }
def TextNumbersUptoSaid : Prop := textNumbersUptoRow.holds Try.pinned (OpenSpec.upto textNumbersSpec)

/-- 'pantilelaw07.TextApart', WHERE WHAT IT READS IS OF BULK AT MOST 1048576: true; the input reads as it did. -/
def textApartUptoRow : OpenClaim := { program := "ytjmcnhpffpcboaa", sum := "c9408f7eb4fbb6cf9055c4405c429cfaef475543ca143c11483f6310f22943aa", func := "pantile/pantilelaw07.TextApart", spec := "textApart", inPlace := ["internal/abi.NoEscape", "internal/bytealg.MakeNoZero"], plainKeys := false, apart := false, narrowed := true }
def TextApartUptoSaid : Prop := textApartUptoRow.holds Try.pinned (OpenSpec.upto textApartSpec)

/-- 'pantilelaw07.TextGets', WHERE WHAT IT READS IS OF BULK AT MOST 1048576: true; the input reads as it did. -/
def textGetsUptoRow : OpenClaim := { program := "ytjmcnhpffpcboaa", sum := "c9408f7eb4fbb6cf9055c4405c429cfaef475543ca143c11483f6310f22943aa", func := "pantile/pantilelaw07.TextGets", spec := "textGets", inPlace := ["internal/abi.NoEscape", "internal/bytealg.MakeNoZero"], unfollowed := true, recurses := true, plainKeys := false, apart := false, narrowed := true }
def TextGetsUptoSaid : Prop := textGetsUptoRow.holds Try.pinned (OpenSpec.upto textGetsSpec)

/-- 'pantilelaw19.StagesMay', WHERE WHAT IT READS IS OF BULK AT MOST 1048576: true; the input reads as it did. -/
def stagesMayUptoRow : OpenClaim := { program := "ytjmcnhpffpcboaa", sum := "c9408f7eb4fbb6cf9055c4405c429cfaef475543ca143c11483f6310f22943aa", func := "pantile/pantilelaw19.StagesMay", spec := "stagesMay", inPlace := ["internal/bytealg.IndexByteString"], unfollowed := true, recurses := true, plainKeys := false, apart := false, narrowed := true }
def StagesMayUptoSaid : Prop := stagesMayUptoRow.holds Try.pinned (OpenSpec.upto stagesMaySpec)

/-- 'pantilelaw19.StagesFile', WHERE WHAT IT READS IS OF BULK AT MOST 1048576: true; the input reads as it did. -/
def stagesFileUptoRow : OpenClaim := { program := "ytjmcnhpffpcboaa", sum := "c9408f7eb4fbb6cf9055c4405c429cfaef475543ca143c11483f6310f22943aa", func := "pantile/pantilelaw19.StagesFile", spec := "stagesFile", inPlace := ["internal/bytealg.IndexByteString"], unfollowed := true, recurses := true, plainKeys := false, apart := false, narrowed := true }
def StagesFileUptoSaid : Prop := stagesFileUptoRow.holds Try.pinned (OpenSpec.upto stagesFileSpec)

/-- 'pantilelaw19.StagesFull', WHERE WHAT IT READS IS OF BULK AT MOST 1048576: true; the input reads as it did. -/
def stagesFullUptoRow : OpenClaim := { program := "ytjmcnhpffpcboaa", sum := "c9408f7eb4fbb6cf9055c4405c429cfaef475543ca143c11483f6310f22943aa", func := "pantile/pantilelaw19.StagesFull", spec := "stagesFull", inPlace := ["internal/bytealg.IndexByteString"], unfollowed := true, recurses := true, plainKeys := false, apart := false, narrowed := true }
def StagesFullUptoSaid : Prop := stagesFullUptoRow.holds Try.pinned (OpenSpec.upto stagesFullSpec)

/-- 'pantilelaw19.StagesWay', WHERE WHAT IT READS IS OF BULK AT MOST 1048576: true; the input reads as it did. -/
def stagesWayUptoRow : OpenClaim := { program := "ytjmcnhpffpcboaa", sum := "c9408f7eb4fbb6cf9055c4405c429cfaef475543ca143c11483f6310f22943aa", func := "pantile/pantilelaw19.StagesWay", spec := "stagesWay", inPlace := ["internal/bytealg.IndexByteString"], unfollowed := true, recurses := true, plainKeys := false, apart := false, narrowed := true }
def StagesWayUptoSaid : Prop := stagesWayUptoRow.holds Try.pinned (OpenSpec.upto stagesWaySpec)

/-- 'pantilelaw13.DriveOwns', WHERE WHAT IT READS IS OF BULK AT MOST 1048576: true; the input reads as it did. -/
def driveOwnsUptoRow : OpenClaim := { program := "ytjmcnhpffpcboaa", sum := "c9408f7eb4fbb6cf9055c4405c429cfaef475543ca143c11483f6310f22943aa", func := "pantile/pantilelaw13.DriveOwns", spec := "driveOwns", inPlace := ["internal/bytealg.IndexByteString"], unfollowed := true, recurses := true, plainKeys := false, apart := false, narrowed := true }
def DriveOwnsUptoSaid : Prop := driveOwnsUptoRow.holds Try.pinned (OpenSpec.upto driveOwnsSpec)

/-- 'pantilelaw13.DriveKeeps', WHERE WHAT IT READS IS OF BULK AT MOST 1048576: true; the input reads as it did. -/
def driveKeepsUptoRow : OpenClaim := { program := "ytjmcnhpffpcboaa", sum := "c9408f7eb4fbb6cf9055c4405c429cfaef475543ca143c11483f6310f22943aa", func := "pantile/pantilelaw13.DriveKeeps", spec := "driveKeeps", inPlace := ["internal/bytealg.IndexByteString"], unfollowed := true, recurses := true, plainKeys := false, apart := false, narrowed := true }
def DriveKeepsUptoSaid : Prop := driveKeepsUptoRow.holds Try.pinned (OpenSpec.upto driveKeepsSpec)

/-- 'pantilelaw13.DriveFull', WHERE WHAT IT READS IS OF BULK AT MOST 1048576: true; the input reads as it did. -/
def driveFullUptoRow : OpenClaim := { program := "ytjmcnhpffpcboaa", sum := "c9408f7eb4fbb6cf9055c4405c429cfaef475543ca143c11483f6310f22943aa", func := "pantile/pantilelaw13.DriveFull", spec := "driveFull", inPlace := ["internal/bytealg.IndexByteString"], unfollowed := true, recurses := true, plainKeys := false, apart := false, narrowed := true }
def DriveFullUptoSaid : Prop := driveFullUptoRow.holds Try.pinned (OpenSpec.upto driveFullSpec)

/-- 'pantilelaw13.DriveNames', WHERE WHAT IT READS IS OF BULK AT MOST 1048576: true; the input reads as it did. -/
def driveNamesUptoRow : OpenClaim := { program := "ytjmcnhpffpcboaa", sum := "c9408f7eb4fbb6cf9055c4405c429cfaef475543ca143c11483f6310f22943aa", func := "pantile/pantilelaw13.DriveNames", spec := "driveNames", inPlace := ["internal/bytealg.IndexByteString"], unfollowed := true, recurses := true, plainKeys := false, apart := false, narrowed := true }
def DriveNamesUptoSaid : Prop := driveNamesUptoRow.holds Try.pinned (OpenSpec.upto driveNamesSpec)

/-- 'pantilelaw13.DriveUsed', WHERE WHAT IT READS IS OF BULK AT MOST 1048576: true; the input reads as it did. -/
def driveUsedUptoRow : OpenClaim := { program := "ytjmcnhpffpcboaa", sum := "c9408f7eb4fbb6cf9055c4405c429cfaef475543ca143c11483f6310f22943aa", func := "pantile/pantilelaw13.DriveUsed", spec := "driveUsed", inPlace := ["internal/bytealg.IndexByteString"], unfollowed := true, recurses := true, plainKeys := false, apart := false, narrowed := true }
def DriveUsedUptoSaid : Prop := driveUsedUptoRow.holds Try.pinned (OpenSpec.upto driveUsedSpec)

/-- 'pantilelaw13.DrivePlays', WHERE WHAT IT READS IS OF BULK AT MOST 1048576: true; the input reads as it did. -/
def drivePlaysUptoRow : OpenClaim := { program := "ytjmcnhpffpcboaa", sum := "c9408f7eb4fbb6cf9055c4405c429cfaef475543ca143c11483f6310f22943aa", func := "pantile/pantilelaw13.DrivePlays", spec := "drivePlays", inPlace := ["internal/bytealg.IndexByteString"], unfollowed := true, recurses := true, plainKeys := false, apart := false, narrowed := true }
def DrivePlaysUptoSaid : Prop := drivePlaysUptoRow.holds Try.pinned (OpenSpec.upto drivePlaysSpec)

/-- 'pantilelaw13.DriveTwice', WHERE WHAT IT READS IS OF BULK AT MOST 1048576: true; the input reads as it did. -/
def driveTwiceUptoRow : OpenClaim := { program := "ytjmcnhpffpcboaa", sum := "c9408f7eb4fbb6cf9055c4405c429cfaef475543ca143c11483f6310f22943aa", func := "pantile/pantilelaw13.DriveTwice", spec := "driveTwice", inPlace := ["internal/bytealg.IndexByteString"], unfollowed := true, recurses := true, plainKeys := false, apart := false, narrowed := true }
def DriveTwiceUptoSaid : Prop := driveTwiceUptoRow.holds Try.pinned (OpenSpec.upto driveTwiceSpec)

/-- 'pantilelaw19.StagesPlay', WHERE WHAT IT READS IS OF BULK AT MOST 1048576: true; the input reads as it did. -/
def stagesPlayUptoRow : OpenClaim := { program := "ytjmcnhpffpcboaa", sum := "c9408f7eb4fbb6cf9055c4405c429cfaef475543ca143c11483f6310f22943aa", func := "pantile/pantilelaw19.StagesPlay", spec := "stagesPlay", inPlace := ["internal/bytealg.IndexByteString"], unfollowed := true, recurses := true, plainKeys := false, apart := false, narrowed := true }
def StagesPlayUptoSaid : Prop := stagesPlayUptoRow.holds Try.pinned (OpenSpec.upto stagesPlaySpec)

end Rows
end Go.Proofs.Ytjmcnhpffpcboaa
