/-
  DERIVED. GIVEN WITH THE SEED: THE CARDS: each row of YtbjimikppdfmgaaDoorRows.lean that lists a variable, with what it lists TIED to the program's text (the seventh form; the later family's looks); each row that meets fmt, with fmt's text TOLD by the authors' own Lean function (tested against real Go, not proved from fmt's source: count such statements apart). THE CARD IS WHAT COUNTS. Prove the row's statement (the work); the ties are given (YtbjimikppdfmgaaDoorTie.lean); close each card by the builder's one call (the guide's Derived/Test/ToyasCard.lean, 'card_holds'). Laid BY PROGRAM, IN A SANDBOX (cutbox-door.mjs). By AI agents, Wed Nov 11 2026. No macro, syntax, notation, axiom, sorry.
-/
import Derived.Test.YtbjimikppdfmgaaDoorRows
import GoSem.ClaimSeven
namespace Go.Proofs.YtbjimikppdfmgaaDoor
namespace Rows

/-- THE TIED CARD OF 'pantilelaw14.KvKeys'. -/
def kvKeysCard : Claim7 := { stood := { row := kvKeysRow, standIns := [], harness := (true, "2914fe61aaf64a802243cad0b564c2482d10a341e9ede910f17479eafec4c96f"), looks := true }, kinds := [], alts := [], laidByText := true, laidKinds := [.data, .pinned], laidTests := true, laidLooks := .later }
def KvKeysCardSaid : Prop := Claim7.holds Tryd.pinned (.plain (OpenSpec.ofChange kvKeysSpec)) kvKeysCard

/-- THE TIED CARD OF 'pantilelaw06.JsonWrites'. -/
def jsonWritesCard : Claim7 := { stood := { row := jsonWritesRow, standIns := [], harness := (true, "2914fe61aaf64a802243cad0b564c2482d10a341e9ede910f17479eafec4c96f"), looks := true }, kinds := [], alts := [], laidByText := true, laidKinds := [.data, .data, .data, .data, .sentinel, .sentinel, .pinned], laidTests := true, laidLooks := .later }
def JsonWritesCardSaid : Prop := Claim7.holds Tryd.pinned (.plain (OpenSpec.ofChange jsonWritesSpec)) jsonWritesCard

/-- THE TIED CARD OF 'pantilelaw06.JsonLong'. -/
def jsonLongCard : Claim7 := { stood := { row := jsonLongRow, standIns := [], harness := (true, "2914fe61aaf64a802243cad0b564c2482d10a341e9ede910f17479eafec4c96f"), looks := true }, kinds := [], alts := [], laidByText := true, laidKinds := [.data, .data, .data, .data, .sentinel, .sentinel, .pinned], laidTests := true, laidLooks := .later }
def JsonLongCardSaid : Prop := Claim7.holds Tryd.pinned (.plain (OpenSpec.ofChange jsonLongSpec)) jsonLongCard

/-- THE TIED CARD OF 'pantilelaw06.JsonBlanks'. -/
def jsonBlanksCard : Claim7 := { stood := { row := jsonBlanksRow, standIns := [], harness := (true, "2914fe61aaf64a802243cad0b564c2482d10a341e9ede910f17479eafec4c96f"), looks := true }, kinds := [], alts := [], laidByText := true, laidKinds := [.data, .data, .data, .data, .sentinel, .sentinel, .pinned], laidTests := true, laidLooks := .later }
def JsonBlanksCardSaid : Prop := Claim7.holds Tryd.pinned (.plain (OpenSpec.ofChange jsonBlanksSpec)) jsonBlanksCard

/-- THE TIED CARD OF 'pantilelaw06.JsonMakes'. -/
def jsonMakesCard : Claim7 := { stood := { row := jsonMakesRow, standIns := [], harness := (true, "2914fe61aaf64a802243cad0b564c2482d10a341e9ede910f17479eafec4c96f"), looks := true }, kinds := [], alts := [], laidByText := true, laidKinds := [.data, .data, .data, .data, .sentinel, .sentinel, .pinned], laidTests := true, laidLooks := .later }
def JsonMakesCardSaid : Prop := Claim7.holds Tryd.pinned (.plain (OpenSpec.ofChange jsonMakesSpec)) jsonMakesCard

/-- THE SECOND FORM's CARD OF 'pantilelaw14.KvKeys'. -/
def kvKeysUptoCard : Claim7 := { stood := { row := kvKeysUptoRow, standIns := [], harness := (true, "2914fe61aaf64a802243cad0b564c2482d10a341e9ede910f17479eafec4c96f"), looks := true }, kinds := [], alts := [], laidByText := true, laidKinds := [.data, .pinned], laidTests := true, laidLooks := .later }
def KvKeysUptoCardSaid : Prop := Claim7.holds Tryd.pinned (.plain (OpenSpec.upto kvKeysSpec)) kvKeysUptoCard

/-- THE SECOND FORM's CARD OF 'pantilelaw06.JsonWrites'. -/
def jsonWritesUptoCard : Claim7 := { stood := { row := jsonWritesUptoRow, standIns := [], harness := (true, "2914fe61aaf64a802243cad0b564c2482d10a341e9ede910f17479eafec4c96f"), looks := true }, kinds := [], alts := [], laidByText := true, laidKinds := [.data, .data, .data, .data, .sentinel, .sentinel, .pinned], laidTests := true, laidLooks := .later }
def JsonWritesUptoCardSaid : Prop := Claim7.holds Tryd.pinned (.plain (OpenSpec.upto jsonWritesSpec)) jsonWritesUptoCard

/-- THE SECOND FORM's CARD OF 'pantilelaw06.JsonLong'. -/
def jsonLongUptoCard : Claim7 := { stood := { row := jsonLongUptoRow, standIns := [], harness := (true, "2914fe61aaf64a802243cad0b564c2482d10a341e9ede910f17479eafec4c96f"), looks := true }, kinds := [], alts := [], laidByText := true, laidKinds := [.data, .data, .data, .data, .sentinel, .sentinel, .pinned], laidTests := true, laidLooks := .later }
def JsonLongUptoCardSaid : Prop := Claim7.holds Tryd.pinned (.plain (OpenSpec.upto jsonLongSpec)) jsonLongUptoCard

/-- THE SECOND FORM's CARD OF 'pantilelaw06.JsonBlanks'. -/
def jsonBlanksUptoCard : Claim7 := { stood := { row := jsonBlanksUptoRow, standIns := [], harness := (true, "2914fe61aaf64a802243cad0b564c2482d10a341e9ede910f17479eafec4c96f"), looks := true }, kinds := [], alts := [], laidByText := true, laidKinds := [.data, .data, .data, .data, .sentinel, .sentinel, .pinned], laidTests := true, laidLooks := .later }
def JsonBlanksUptoCardSaid : Prop := Claim7.holds Tryd.pinned (.plain (OpenSpec.upto jsonBlanksSpec)) jsonBlanksUptoCard

/-- THE SECOND FORM's CARD OF 'pantilelaw06.JsonMakes'. -/
def jsonMakesUptoCard : Claim7 := { stood := { row := jsonMakesUptoRow, standIns := [], harness := (true, "2914fe61aaf64a802243cad0b564c2482d10a341e9ede910f17479eafec4c96f"), looks := true }, kinds := [], alts := [], laidByText := true, laidKinds := [.data, .data, .data, .data, .sentinel, .sentinel, .pinned], laidTests := true, laidLooks := .later }
def JsonMakesUptoCardSaid : Prop := Claim7.holds Tryd.pinned (.plain (OpenSpec.upto jsonMakesSpec)) jsonMakesUptoCard
end Rows
end Go.Proofs.YtbjimikppdfmgaaDoor
