/-
  DERIVED. GIVEN WITH THE SEED: THE CARDS: each row of YtecekflooihkoaaDoorRows.lean that lists a variable, with what it lists TIED to the program's text (the seventh form; the later family's looks); each row that meets fmt, with fmt's text TOLD by the authors' own Lean function (tested against real Go, not proved from fmt's source: count such statements apart). THE CARD IS WHAT COUNTS. Prove the row's statement (the work); the ties are given (YtecekflooihkoaaDoorTie.lean); close each card by the builder's one call (the guide's Derived/Test/ToyasCard.lean, 'card_holds'). Laid BY PROGRAM, IN A SANDBOX (cutbox-door.mjs). By AI agents, Wed Nov 11 2026. No macro, syntax, notation, axiom, sorry.
-/
import Derived.Test.YtecekflooihkoaaDoorRows
import GoSem.ClaimSeven
namespace Go.Proofs.YtecekflooihkoaaDoor
namespace Rows

/-- THE TIED CARD OF 'pantilelaw07.TextQueries'. -/
def textQueriesCard : Claim7 := { stood := { row := textQueriesRow, standIns := [], harness := (true, "aa69264fbea5e0eb2568b56c0f953499dd6c86c7517249a47d19ff4ab054e83a"), looks := true }, kinds := [], alts := [], laidByText := true, laidKinds := [.data, .pinned], laidTests := true, laidLooks := .later }
def TextQueriesCardSaid : Prop := Claim7.holds Tryd.pinned (.plain (OpenSpec.ofChange textQueriesSpec)) textQueriesCard

/-- THE TIED CARD OF 'pantilelaw07.TextMakes'. -/
def textMakesCard : Claim7 := { stood := { row := textMakesRow, standIns := [], harness := (true, "aa69264fbea5e0eb2568b56c0f953499dd6c86c7517249a47d19ff4ab054e83a"), looks := true }, kinds := [], alts := [], laidByText := true, laidKinds := [.data, .pinned], laidTests := true, laidLooks := .later }
def TextMakesCardSaid : Prop := Claim7.holds Tryd.pinned (.plain (OpenSpec.ofChange textMakesSpec)) textMakesCard

/-- THE TIED CARD OF 'pantilelaw14.KvKeys'. -/
def kvKeysCard : Claim7 := { stood := { row := kvKeysRow, standIns := [], harness := (true, "aa69264fbea5e0eb2568b56c0f953499dd6c86c7517249a47d19ff4ab054e83a"), looks := true }, kinds := [], alts := [], laidByText := true, laidKinds := [.data, .pinned], laidTests := true, laidLooks := .later }
def KvKeysCardSaid : Prop := Claim7.holds Tryd.pinned (.plain (OpenSpec.ofChange kvKeysSpec)) kvKeysCard

/-- THE TIED CARD OF 'pantilelaw06.JsonWrites'. -/
def jsonWritesCard : Claim7 := { stood := { row := jsonWritesRow, standIns := [], harness := (true, "aa69264fbea5e0eb2568b56c0f953499dd6c86c7517249a47d19ff4ab054e83a"), looks := true }, kinds := [], alts := [], laidByText := true, laidKinds := [.data, .data, .data, .data, .sentinel, .sentinel, .pinned], laidTests := true, laidLooks := .later }
def JsonWritesCardSaid : Prop := Claim7.holds Tryd.pinned (.plain (OpenSpec.ofChange jsonWritesSpec)) jsonWritesCard

/-- THE TIED CARD OF 'pantilelaw06.JsonLong'. -/
def jsonLongCard : Claim7 := { stood := { row := jsonLongRow, standIns := [], harness := (true, "aa69264fbea5e0eb2568b56c0f953499dd6c86c7517249a47d19ff4ab054e83a"), looks := true }, kinds := [], alts := [], laidByText := true, laidKinds := [.data, .data, .data, .data, .sentinel, .sentinel, .pinned], laidTests := true, laidLooks := .later }
def JsonLongCardSaid : Prop := Claim7.holds Tryd.pinned (.plain (OpenSpec.ofChange jsonLongSpec)) jsonLongCard

/-- THE TIED CARD OF 'pantilelaw06.JsonBlanks'. -/
def jsonBlanksCard : Claim7 := { stood := { row := jsonBlanksRow, standIns := [], harness := (true, "aa69264fbea5e0eb2568b56c0f953499dd6c86c7517249a47d19ff4ab054e83a"), looks := true }, kinds := [], alts := [], laidByText := true, laidKinds := [.data, .data, .data, .data, .sentinel, .sentinel, .pinned], laidTests := true, laidLooks := .later }
def JsonBlanksCardSaid : Prop := Claim7.holds Tryd.pinned (.plain (OpenSpec.ofChange jsonBlanksSpec)) jsonBlanksCard

/-- THE TIED CARD OF 'pantilelaw06.JsonMakes'. -/
def jsonMakesCard : Claim7 := { stood := { row := jsonMakesRow, standIns := [], harness := (true, "aa69264fbea5e0eb2568b56c0f953499dd6c86c7517249a47d19ff4ab054e83a"), looks := true }, kinds := [], alts := [], laidByText := true, laidKinds := [.data, .data, .data, .data, .sentinel, .sentinel, .pinned], laidTests := true, laidLooks := .later }
def JsonMakesCardSaid : Prop := Claim7.holds Tryd.pinned (.plain (OpenSpec.ofChange jsonMakesSpec)) jsonMakesCard

/-- THE SECOND FORM's CARD OF 'pantilelaw07.TextQueries'. -/
def textQueriesUptoCard : Claim7 := { stood := { row := textQueriesUptoRow, standIns := [], harness := (true, "aa69264fbea5e0eb2568b56c0f953499dd6c86c7517249a47d19ff4ab054e83a"), looks := true }, kinds := [], alts := [], laidByText := true, laidKinds := [.data, .pinned], laidTests := true, laidLooks := .later }
def TextQueriesUptoCardSaid : Prop := Claim7.holds Tryd.pinned (.plain (OpenSpec.upto textQueriesSpec)) textQueriesUptoCard

/-- THE SECOND FORM's CARD OF 'pantilelaw07.TextMakes'. -/
def textMakesUptoCard : Claim7 := { stood := { row := textMakesUptoRow, standIns := [], harness := (true, "aa69264fbea5e0eb2568b56c0f953499dd6c86c7517249a47d19ff4ab054e83a"), looks := true }, kinds := [], alts := [], laidByText := true, laidKinds := [.data, .pinned], laidTests := true, laidLooks := .later }
def TextMakesUptoCardSaid : Prop := Claim7.holds Tryd.pinned (.plain (OpenSpec.upto textMakesSpec)) textMakesUptoCard

/-- THE SECOND FORM's CARD OF 'pantilelaw14.KvKeys'. -/
def kvKeysUptoCard : Claim7 := { stood := { row := kvKeysUptoRow, standIns := [], harness := (true, "aa69264fbea5e0eb2568b56c0f953499dd6c86c7517249a47d19ff4ab054e83a"), looks := true }, kinds := [], alts := [], laidByText := true, laidKinds := [.data, .pinned], laidTests := true, laidLooks := .later }
def KvKeysUptoCardSaid : Prop := Claim7.holds Tryd.pinned (.plain (OpenSpec.upto kvKeysSpec)) kvKeysUptoCard

/-- THE SECOND FORM's CARD OF 'pantilelaw06.JsonWrites'. -/
def jsonWritesUptoCard : Claim7 := { stood := { row := jsonWritesUptoRow, standIns := [], harness := (true, "aa69264fbea5e0eb2568b56c0f953499dd6c86c7517249a47d19ff4ab054e83a"), looks := true }, kinds := [], alts := [], laidByText := true, laidKinds := [.data, .data, .data, .data, .sentinel, .sentinel, .pinned], laidTests := true, laidLooks := .later }
def JsonWritesUptoCardSaid : Prop := Claim7.holds Tryd.pinned (.plain (OpenSpec.upto jsonWritesSpec)) jsonWritesUptoCard

/-- THE SECOND FORM's CARD OF 'pantilelaw06.JsonLong'. -/
def jsonLongUptoCard : Claim7 := { stood := { row := jsonLongUptoRow, standIns := [], harness := (true, "aa69264fbea5e0eb2568b56c0f953499dd6c86c7517249a47d19ff4ab054e83a"), looks := true }, kinds := [], alts := [], laidByText := true, laidKinds := [.data, .data, .data, .data, .sentinel, .sentinel, .pinned], laidTests := true, laidLooks := .later }
def JsonLongUptoCardSaid : Prop := Claim7.holds Tryd.pinned (.plain (OpenSpec.upto jsonLongSpec)) jsonLongUptoCard

/-- THE SECOND FORM's CARD OF 'pantilelaw06.JsonBlanks'. -/
def jsonBlanksUptoCard : Claim7 := { stood := { row := jsonBlanksUptoRow, standIns := [], harness := (true, "aa69264fbea5e0eb2568b56c0f953499dd6c86c7517249a47d19ff4ab054e83a"), looks := true }, kinds := [], alts := [], laidByText := true, laidKinds := [.data, .data, .data, .data, .sentinel, .sentinel, .pinned], laidTests := true, laidLooks := .later }
def JsonBlanksUptoCardSaid : Prop := Claim7.holds Tryd.pinned (.plain (OpenSpec.upto jsonBlanksSpec)) jsonBlanksUptoCard

/-- THE SECOND FORM's CARD OF 'pantilelaw06.JsonMakes'. -/
def jsonMakesUptoCard : Claim7 := { stood := { row := jsonMakesUptoRow, standIns := [], harness := (true, "aa69264fbea5e0eb2568b56c0f953499dd6c86c7517249a47d19ff4ab054e83a"), looks := true }, kinds := [], alts := [], laidByText := true, laidKinds := [.data, .data, .data, .data, .sentinel, .sentinel, .pinned], laidTests := true, laidLooks := .later }
def JsonMakesUptoCardSaid : Prop := Claim7.holds Tryd.pinned (.plain (OpenSpec.upto jsonMakesSpec)) jsonMakesUptoCard
end Rows
end Go.Proofs.YtecekflooihkoaaDoor
