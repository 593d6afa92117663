/-
  DERIVED. GIVEN WITH THE SEED: THE CARDS: each row of YtiabfngiibabcaaGreatDoorRows.lean that lists a variable, with what it lists TIED to the program's text (the seventh form; the later family's looks); each row that meets fmt, with fmt's text TOLD by the authors' own Lean function (tested against real Go, not proved from fmt's source: count such statements apart). THE CARD IS WHAT COUNTS. Prove the row's statement (the work); the ties are given (YtiabfngiibabcaaGreatDoorTie.lean); close each card by the builder's one call (the guide's Derived/Test/ToyasCard.lean, 'card_holds'). Laid BY PROGRAM, IN A SANDBOX (cutbox-door.mjs). By AI agents, Wed Nov 11 2026. No macro, syntax, notation, axiom, sorry.
-/
import Derived.Test.YtiabfngiibabcaaGreatDoorRows
import GoSem.ClaimSeven
namespace Go.Proofs.YtiabfngiibabcaaGreatDoor
namespace Rows

/-- THE TIED CARD OF 'pantilelaw16.LegacyOnce'. -/
def legacyOnceCard : Claim7 := { stood := { row := legacyOnceRow, standIns := [], harness := (true, "e43d6b24266c2450118f221e9c9f190a5d9ef377027354594f3b4787adc4ec8e"), looks := true }, kinds := [], alts := [], laidByText := true, laidKinds := [.data, .data, .data, .data, .data, .data, .sentinel, .sentinel, .pinned], laidTests := true, laidLooks := .later }
def LegacyOnceCardSaid : Prop := Claim7.holds Tryz.pinned (.plain (OpenSpec.ofChange legacyOnceSpec)) legacyOnceCard

/-- THE TIED CARD OF 'pantilelaw16.LegacyNodes'. -/
def legacyNodesCard : Claim7 := { stood := { row := legacyNodesRow, standIns := [], harness := (true, "e43d6b24266c2450118f221e9c9f190a5d9ef377027354594f3b4787adc4ec8e"), looks := true }, kinds := [], alts := [], laidByText := true, laidKinds := [.data, .data, .data, .data, .data, .data, .sentinel, .sentinel, .pinned], laidTests := true, laidLooks := .later }
def LegacyNodesCardSaid : Prop := Claim7.holds Tryz.pinned (.plain (OpenSpec.ofChange legacyNodesSpec)) legacyNodesCard

/-- THE TIED CARD OF 'pantilelaw16.LegacyProofs'. -/
def legacyProofsCard : Claim7 := { stood := { row := legacyProofsRow, standIns := [], harness := (true, "e43d6b24266c2450118f221e9c9f190a5d9ef377027354594f3b4787adc4ec8e"), looks := true }, kinds := [], alts := [], laidByText := true, laidKinds := [.data, .data, .data, .data, .data, .data, .sentinel, .sentinel, .pinned], laidTests := true, laidLooks := .later }
def LegacyProofsCardSaid : Prop := Claim7.holds Tryz.pinned (.plain (OpenSpec.ofChange legacyProofsSpec)) legacyProofsCard

/-- THE TIED CARD OF 'pantilelaw16.LegacyPlays'. -/
def legacyPlaysCard : Claim7 := { stood := { row := legacyPlaysRow, standIns := [], harness := (true, "e43d6b24266c2450118f221e9c9f190a5d9ef377027354594f3b4787adc4ec8e"), looks := true }, kinds := [], alts := [], laidByText := true, laidKinds := [.data, .data, .data, .data, .data, .data, .sentinel, .sentinel, .pinned], laidTests := true, laidLooks := .later }
def LegacyPlaysCardSaid : Prop := Claim7.holds Tryz.pinned (.plain (OpenSpec.ofChange legacyPlaysSpec)) legacyPlaysCard

/-- THE SECOND FORM's CARD OF 'pantilelaw16.LegacyOnce'. -/
def legacyOnceUptoCard : Claim7 := { stood := { row := legacyOnceUptoRow, standIns := [], harness := (true, "e43d6b24266c2450118f221e9c9f190a5d9ef377027354594f3b4787adc4ec8e"), looks := true }, kinds := [], alts := [], laidByText := true, laidKinds := [.data, .data, .data, .data, .data, .data, .sentinel, .sentinel, .pinned], laidTests := true, laidLooks := .later }
def LegacyOnceUptoCardSaid : Prop := Claim7.holds Tryz.pinned (.plain (OpenSpec.upto legacyOnceSpec)) legacyOnceUptoCard

/-- THE SECOND FORM's CARD OF 'pantilelaw16.LegacyNodes'. -/
def legacyNodesUptoCard : Claim7 := { stood := { row := legacyNodesUptoRow, standIns := [], harness := (true, "e43d6b24266c2450118f221e9c9f190a5d9ef377027354594f3b4787adc4ec8e"), looks := true }, kinds := [], alts := [], laidByText := true, laidKinds := [.data, .data, .data, .data, .data, .data, .sentinel, .sentinel, .pinned], laidTests := true, laidLooks := .later }
def LegacyNodesUptoCardSaid : Prop := Claim7.holds Tryz.pinned (.plain (OpenSpec.upto legacyNodesSpec)) legacyNodesUptoCard

/-- THE SECOND FORM's CARD OF 'pantilelaw16.LegacyProofs'. -/
def legacyProofsUptoCard : Claim7 := { stood := { row := legacyProofsUptoRow, standIns := [], harness := (true, "e43d6b24266c2450118f221e9c9f190a5d9ef377027354594f3b4787adc4ec8e"), looks := true }, kinds := [], alts := [], laidByText := true, laidKinds := [.data, .data, .data, .data, .data, .data, .sentinel, .sentinel, .pinned], laidTests := true, laidLooks := .later }
def LegacyProofsUptoCardSaid : Prop := Claim7.holds Tryz.pinned (.plain (OpenSpec.upto legacyProofsSpec)) legacyProofsUptoCard

/-- THE SECOND FORM's CARD OF 'pantilelaw16.LegacyPlays'. -/
def legacyPlaysUptoCard : Claim7 := { stood := { row := legacyPlaysUptoRow, standIns := [], harness := (true, "e43d6b24266c2450118f221e9c9f190a5d9ef377027354594f3b4787adc4ec8e"), looks := true }, kinds := [], alts := [], laidByText := true, laidKinds := [.data, .data, .data, .data, .data, .data, .sentinel, .sentinel, .pinned], laidTests := true, laidLooks := .later }
def LegacyPlaysUptoCardSaid : Prop := Claim7.holds Tryz.pinned (.plain (OpenSpec.upto legacyPlaysSpec)) legacyPlaysUptoCard
end Rows
end Go.Proofs.YtiabfngiibabcaaGreatDoor
