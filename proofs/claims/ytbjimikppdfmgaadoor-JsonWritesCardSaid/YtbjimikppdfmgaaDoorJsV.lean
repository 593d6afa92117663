/- The document's examples, plainly. -/
import Derived.Test.YtbjimikppdfmgaaDoorJs13
import Derived.Test.YtbjimikppdfmgaaDoorJsW
set_option linter.unusedVariables false
set_option linter.unusedSimpArgs false
set_option maxRecDepth 100000
namespace Go.Proofs.YtbjimikppdfmgaaDoor
open Go.RowKit

def lit1 : List UInt8 := [32, 123, 32, 34, 97, 34, 32, 58, 32, 91, 49, 44, 34, 98, 34, 93, 32, 125]
def litV : Jv := .mk 4 [] 0 [[97]] [.mk 3 [] 0 [] [.mk 2 [] 1 [] [], .mk 1 [98] 0 [] []]]
theorem lit_read : readP lit1 = some litV := by kernel_rfl
theorem lit_bad : readP [48, 49] = none := by kernel_rfl
theorem lit_text : textJ 5 litV = [123, 34, 97, 34, 58, 91, 49, 44, 34, 98, 34, 93, 125] := by kernel_rfl
theorem lit_right : rightP 5 litV = true := by kernel_rfl
end Go.Proofs.YtbjimikppdfmgaaDoor
