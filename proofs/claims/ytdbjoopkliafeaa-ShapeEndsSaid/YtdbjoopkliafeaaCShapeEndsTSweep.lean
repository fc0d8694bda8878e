/- Sweep of solids, in the program and in the reference. -/
import Derived.Test.YtdbjoopkliafeaaCShapeEndsV4
import Derived.Test.YtdbjoopkliafeaaCShapeEndsTLogs
import Derived.Test.YtdbjoopkliafeaaCShapeEndsTShape
set_option linter.unusedVariables false
set_option linter.unusedSimpArgs false
namespace Go.Proofs.Ytdbjoopkliafeaa.P
open Go Go.RowKit Go.Proofs.YtdbjoopkliafeaaW.PrintWords Go.Proofs.YtdbjoopkliafeaaW.PrintLast Go.Proofs.YtdbjoopkliafeaaW.PrintMore
section
variable {l : List Slc} (ok : SolOk l) (h3 : 3 ≤ l.length)
include ok h3
end
end Go.Proofs.Ytdbjoopkliafeaa.P
