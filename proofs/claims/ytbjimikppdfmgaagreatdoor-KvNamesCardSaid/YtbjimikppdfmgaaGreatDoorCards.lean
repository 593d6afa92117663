/-
  DERIVED. GIVEN WITH THE SEED: THE CARDS: each row of YtbjimikppdfmgaaGreatDoorRows.lean that lists a variable, with what it lists TIED to the program's text (the seventh form; the later family's looks); each row that meets fmt, with fmt's text TOLD by the authors' own Lean function (tested against real Go, not proved from fmt's source: count such statements apart). THE CARD IS WHAT COUNTS. Prove the row's statement (the work); the ties are given (YtbjimikppdfmgaaGreatDoorTie.lean); close each card by the builder's one call (the guide's Derived/Test/ToyasCard.lean, 'card_holds'). Laid BY PROGRAM, IN A SANDBOX (cutbox-door.mjs). By AI agents, Wed Nov 11 2026. No macro, syntax, notation, axiom, sorry.
-/
import Derived.Test.YtbjimikppdfmgaaGreatDoorRows
import GoSem.ClaimSeven
namespace Go.Proofs.YtbjimikppdfmgaaGreatDoor
namespace Rows

/-- THE TIED CARD OF 'pantilelaw14.KvNames'. -/
def kvNamesCard : Claim7 := { stood := { row := kvNamesRow, standIns := [], harness := (true, "77fca64fc46319a65fabeab2b9e92cde55d7762d9cf7d10abaa971bbd69062d3"), looks := true }, kinds := [], alts := [], laidByText := true, laidKinds := [.data, .pinned], laidTests := true, laidLooks := .later }
def KvNamesCardSaid : Prop := Claim7.holds Tryz.pinned (.plain (OpenSpec.ofChange kvNamesSpec)) kvNamesCard

/-- THE TIED CARD OF 'pantilelaw14.KvSplit'. -/
def kvSplitCard : Claim7 := { stood := { row := kvSplitRow, standIns := [], harness := (true, "77fca64fc46319a65fabeab2b9e92cde55d7762d9cf7d10abaa971bbd69062d3"), looks := true }, kinds := [], alts := [], laidByText := true, laidKinds := [.data, .pinned], laidTests := true, laidLooks := .later }
def KvSplitCardSaid : Prop := Claim7.holds Tryz.pinned (.plain (OpenSpec.ofChange kvSplitSpec)) kvSplitCard

/-- THE TIED CARD OF 'pantilelaw14.KvRoom'. -/
def kvRoomCard : Claim7 := { stood := { row := kvRoomRow, standIns := [], harness := (true, "77fca64fc46319a65fabeab2b9e92cde55d7762d9cf7d10abaa971bbd69062d3"), looks := true }, kinds := [], alts := [], laidByText := true, laidKinds := [.data, .pinned], laidTests := true, laidLooks := .later }
def KvRoomCardSaid : Prop := Claim7.holds Tryz.pinned (.plain (OpenSpec.ofChange kvRoomSpec)) kvRoomCard

/-- THE SECOND FORM's CARD OF 'pantilelaw14.KvNames'. -/
def kvNamesUptoCard : Claim7 := { stood := { row := kvNamesUptoRow, standIns := [], harness := (true, "77fca64fc46319a65fabeab2b9e92cde55d7762d9cf7d10abaa971bbd69062d3"), looks := true }, kinds := [], alts := [], laidByText := true, laidKinds := [.data, .pinned], laidTests := true, laidLooks := .later }
def KvNamesUptoCardSaid : Prop := Claim7.holds Tryz.pinned (.plain (OpenSpec.upto kvNamesSpec)) kvNamesUptoCard

/-- THE SECOND FORM's CARD OF 'pantilelaw14.KvSplit'. -/
def kvSplitUptoCard : Claim7 := { stood := { row := kvSplitUptoRow, standIns := [], harness := (true, "77fca64fc46319a65fabeab2b9e92cde55d7762d9cf7d10abaa971bbd69062d3"), looks := true }, kinds := [], alts := [], laidByText := true, laidKinds := [.data, .pinned], laidTests := true, laidLooks := .later }
def KvSplitUptoCardSaid : Prop := Claim7.holds Tryz.pinned (.plain (OpenSpec.upto kvSplitSpec)) kvSplitUptoCard

/-- THE SECOND FORM's CARD OF 'pantilelaw14.KvRoom'. -/
def kvRoomUptoCard : Claim7 := { stood := { row := kvRoomUptoRow, standIns := [], harness := (true, "77fca64fc46319a65fabeab2b9e92cde55d7762d9cf7d10abaa971bbd69062d3"), looks := true }, kinds := [], alts := [], laidByText := true, laidKinds := [.data, .pinned], laidTests := true, laidLooks := .later }
def KvRoomUptoCardSaid : Prop := Claim7.holds Tryz.pinned (.plain (OpenSpec.upto kvRoomSpec)) kvRoomUptoCard
end Rows
end Go.Proofs.YtbjimikppdfmgaaGreatDoor
