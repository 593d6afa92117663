/-
  No cell of these rows narrows 'for every input' (looked for: loops, veiled, ifaces, maps, wideKeys, modest, calm, conditions, laid).
  DERIVED. THE GIVEN ROWS OF THIS SEAT. 4 by the template 'for every input the law returns true; each argument reads behind the call as it read before'; 0 by the template 'total and deterministic' (their statements: YtioillenlgpcgaaTotals.lean).
  GIVEN WITH THE SEED: the statements are not yours to turn. If you find one false, say at which input.
  Laid BY PROGRAM, IN A SANDBOX (cutbox-rows.mjs): the forced cells as the released guide's own fill.sh prints them over the translation 4329940fda86a7e4… (all of the seat's roots in one cut). By AI agents, Wed Nov 11 2026. No macro, syntax, notation, axiom, sorry.
-/
import Derived.Test.YtioillenlgpcgaaChecked
import GoSem.Claim
import GoSem.ClaimJoined
import GoSem.ClaimMapViews
import Derived.JoinedTies
import Derived.KernelRfl
namespace Go.Proofs.Ytioillenlgpcgaa
/- THE CELL 'sum', in the pinned program and in every row, IS THE sha256 OF THE DUMP (.gsa) THAT YtioillenlgpcgaaProg.lean LOADS. Nothing in Lean hashes anything: it is a label: what it is worth is what the hold of that sum in a sandbox is worth. -/
noncomputable def Try.pinned : Pinned := { name := "ytioillenlgpcgaa", sum := "4329940fda86a7e4ba30357f373e3fb24f3ae574c3b0bf4eda4bfe9b020ad4ab", checked := Try.checked }
namespace Rows
def none {H : Type} : Left H := { results := [], args := [] }

/-- 'pantilelaw13.DriveKeeps': WHATEVER THE INPUT: true; the input reads as it did. -/
def driveKeepsSpec : ChangeSpec := { name := "driveKeeps", fn := fun _ => fun
  | [d1, d2, d3, d4] => { results := [.lit (.bool true)], args := [d1, d2, d3, d4] }
  | _ => none }
def driveKeepsRow : OpenClaim := { program := "ytioillenlgpcgaa", sum := "4329940fda86a7e4ba30357f373e3fb24f3ae574c3b0bf4eda4bfe9b020ad4ab", func := "pantile/pantilelaw13.DriveKeeps", spec := "driveKeeps", inPlace := ["internal/bytealg.IndexByteString"], unfollowed := true, recurses := true, plainKeys := false, apart := false }
def DriveKeepsSaid : Prop := driveKeepsRow.holds Try.pinned (OpenSpec.ofChange driveKeepsSpec)

/-- ITS FALSE NEIGHBOUR: 'it returns false'. Refute it at one input. -/
def driveKeepsWrong : ChangeSpec := { name := "driveKeeps", fn := fun _ => fun
  | [d1, d2, d3, d4] => { results := [.lit (.bool false)], args := [d1, d2, d3, d4] }
  | _ => none }
def DriveKeepsWrongFalsely : Prop := driveKeepsRow.holds Try.pinned (OpenSpec.ofChange driveKeepsWrong)

/-- 'pantilelaw13.DriveNames': WHATEVER THE INPUT: true; the input reads as it did. -/
def driveNamesSpec : ChangeSpec := { name := "driveNames", fn := fun _ => fun
  | [d] => { results := [.lit (.bool true)], args := [d] }
  | _ => none }
def driveNamesRow : OpenClaim := { program := "ytioillenlgpcgaa", sum := "4329940fda86a7e4ba30357f373e3fb24f3ae574c3b0bf4eda4bfe9b020ad4ab", func := "pantile/pantilelaw13.DriveNames", spec := "driveNames", inPlace := ["internal/bytealg.IndexByteString"], unfollowed := true, recurses := true, plainKeys := false, apart := false }
def DriveNamesSaid : Prop := driveNamesRow.holds Try.pinned (OpenSpec.ofChange driveNamesSpec)

/-- ITS FALSE NEIGHBOUR: 'it returns false'. Refute it at one input. -/
def driveNamesWrong : ChangeSpec := { name := "driveNames", fn := fun _ => fun
  | [d] => { results := [.lit (.bool false)], args := [d] }
  | _ => none }
def DriveNamesWrongFalsely : Prop := driveNamesRow.holds Try.pinned (OpenSpec.ofChange driveNamesWrong)

/-- 'pantilelaw13.DrivePlays': WHATEVER THE INPUT: true; the input reads as it did. -/
def drivePlaysSpec : ChangeSpec := { name := "drivePlays", fn := fun _ => fun
  | [d1, d2] => { results := [.lit (.bool true)], args := [d1, d2] }
  | _ => none }
def drivePlaysRow : OpenClaim := { program := "ytioillenlgpcgaa", sum := "4329940fda86a7e4ba30357f373e3fb24f3ae574c3b0bf4eda4bfe9b020ad4ab", func := "pantile/pantilelaw13.DrivePlays", spec := "drivePlays", inPlace := ["internal/bytealg.IndexByteString"], unfollowed := true, recurses := true, plainKeys := false, apart := false }
def DrivePlaysSaid : Prop := drivePlaysRow.holds Try.pinned (OpenSpec.ofChange drivePlaysSpec)

/-- ITS FALSE NEIGHBOUR: 'it returns false'. Refute it at one input. -/
def drivePlaysWrong : ChangeSpec := { name := "drivePlays", fn := fun _ => fun
  | [d1, d2] => { results := [.lit (.bool false)], args := [d1, d2] }
  | _ => none }
def DrivePlaysWrongFalsely : Prop := drivePlaysRow.holds Try.pinned (OpenSpec.ofChange drivePlaysWrong)

/-- 'pantilelaw19.StagesPlay': WHATEVER THE INPUT: true; the input reads as it did. -/
def stagesPlaySpec : ChangeSpec := { name := "stagesPlay", fn := fun _ => fun
  | [d] => { results := [.lit (.bool true)], args := [d] }
  | _ => none }
def stagesPlayRow : OpenClaim := { program := "ytioillenlgpcgaa", sum := "4329940fda86a7e4ba30357f373e3fb24f3ae574c3b0bf4eda4bfe9b020ad4ab", func := "pantile/pantilelaw19.StagesPlay", spec := "stagesPlay", inPlace := ["internal/bytealg.IndexByteString"], unfollowed := true, recurses := true, plainKeys := false, apart := false }
def StagesPlaySaid : Prop := stagesPlayRow.holds Try.pinned (OpenSpec.ofChange stagesPlaySpec)

/-- ITS FALSE NEIGHBOUR: 'it returns false'. Refute it at one input. -/
def stagesPlayWrong : ChangeSpec := { name := "stagesPlay", fn := fun _ => fun
  | [d] => { results := [.lit (.bool false)], args := [d] }
  | _ => none }
def StagesPlayWrongFalsely : Prop := stagesPlayRow.holds Try.pinned (OpenSpec.ofChange stagesPlayWrong)

/- THE SECOND FORM. 'bulk': how many values and letters a reading holds, each counted each time it is reached (what is shared counts as often as it is met; a slice's spare places count too). A statement '..UptoSaid' is the law's where the arguments, and the package variables that the reading takes, are together of bulk at most 1048576: NARROWER than '..Said'. Prove '..Said' where nothing that the law and all that it calls make is longer than what came in: it says more and counts as full. Else prove '..UptoSaid'. A law counts once. -/
mutual
def uptoBulk {H : Type} : DataW H → Nat
  | .lit (.string bytes) => bytes.length + 1
  | .lit _ => 1
  | .nil => 1
  | .ptr d => uptoBulk d + 1
  | .slice elems spare => uptoBulkAll elems + uptoBulkAll spare + 1
  | .agg parts => uptoBulkAll parts + 1
  | .iface _ d => uptoBulk d + 1
  | .map entries => uptoBulkEntries entries + 1
  | .held _ => 1
def uptoBulkAll {H : Type} : List (DataW H) → Nat
  | [] => 0
  | d :: r => uptoBulk d + uptoBulkAll r
def uptoBulkEntries {H : Type} : List (Lit × DataW H) → Nat
  | [] => 0
  | x :: r => uptoBulkEntry x + uptoBulkEntries r
def uptoBulkEntry {H : Type} : Lit × DataW H → Nat
  | (.string bytes, d) => bytes.length + uptoBulk d + 1
  | (_, d) => uptoBulk d + 1
 end
def uptoSmall : (H : Type) → List (DataW H) → Bool := fun _ ds => decide (uptoBulkAll ds ≤ 1048576)
def OpenSpec.upto (s : _root_.Go.ChangeSpec) : _root_.Go.OpenSpec := { _root_.Go.OpenSpec.ofChange s with cond := some uptoSmall }

/-- 'pantilelaw13.DriveKeeps', WHERE WHAT IT READS IS OF BULK AT MOST 1048576: true; the input reads as it did. -/
def driveKeepsUptoRow : OpenClaim := { program := "ytioillenlgpcgaa", sum := "4329940fda86a7e4ba30357f373e3fb24f3ae574c3b0bf4eda4bfe9b020ad4ab", func := "pantile/pantilelaw13.DriveKeeps", spec := "driveKeeps", inPlace := ["internal/bytealg.IndexByteString"], unfollowed := true, recurses := true, plainKeys := false, apart := false, narrowed := true }
def DriveKeepsUptoSaid : Prop := driveKeepsUptoRow.holds Try.pinned (OpenSpec.upto driveKeepsSpec)

/-- 'pantilelaw13.DriveNames', WHERE WHAT IT READS IS OF BULK AT MOST 1048576: true; the input reads as it did. -/
def driveNamesUptoRow : OpenClaim := { program := "ytioillenlgpcgaa", sum := "4329940fda86a7e4ba30357f373e3fb24f3ae574c3b0bf4eda4bfe9b020ad4ab", func := "pantile/pantilelaw13.DriveNames", spec := "driveNames", inPlace := ["internal/bytealg.IndexByteString"], unfollowed := true, recurses := true, plainKeys := false, apart := false, narrowed := true }
def DriveNamesUptoSaid : Prop := driveNamesUptoRow.holds Try.pinned (OpenSpec.upto driveNamesSpec)

/-- 'pantilelaw13.DrivePlays', WHERE WHAT IT READS IS OF BULK AT MOST 1048576: true; the input reads as it did. -/
def drivePlaysUptoRow : OpenClaim := { program := "ytioillenlgpcgaa", sum := "4329940fda86a7e4ba30357f373e3fb24f3ae574c3b0bf4eda4bfe9b020ad4ab", func := "pantile/pantilelaw13.DrivePlays", spec := "drivePlays", inPlace := ["internal/bytealg.IndexByteString"], unfollowed := true, recurses := true, plainKeys := false, apart := false, narrowed := true }
def DrivePlaysUptoSaid : Prop := drivePlaysUptoRow.holds Try.pinned (OpenSpec.upto drivePlaysSpec)

/-- 'pantilelaw19.StagesPlay', WHERE WHAT IT READS IS OF BULK AT MOST 1048576: true; the input reads as it did. -/
def stagesPlayUptoRow : OpenClaim := { program := "ytioillenlgpcgaa", sum := "4329940fda86a7e4ba30357f373e3fb24f3ae574c3b0bf4eda4bfe9b020ad4ab", func := "pantile/pantilelaw19.StagesPlay", spec := "stagesPlay", inPlace := ["internal/bytealg.IndexByteString"], unfollowed := true, recurses := true, plainKeys := false, apart := false, narrowed := true }
def StagesPlayUptoSaid : Prop := stagesPlayUptoRow.holds Try.pinned (OpenSpec.upto stagesPlaySpec)

end Rows
end Go.Proofs.Ytioillenlgpcgaa
