/- Texts of bytes and back. -/
import Derived.Test.YtioillenlgpcgaaBy
import Derived.Lib.ConvBytes
import Derived.Lib.AtoiErrMem
set_option linter.unusedVariables false
set_option linter.unusedSimpArgs false
set_option maxHeartbeats 1600000
set_option maxRecDepth 100000
namespace Go.Proofs.Ytioillenlgpcgaa
open Go.RowKit

end Go.Proofs.Ytioillenlgpcgaa
