/- What build makes of rows, and the common part of two sections. -/
import Derived.Test.YtdbjoopkliafeaaCShapeEndsV4
import Derived.Test.YtdbjoopkliafeaaCShapeEndsTSol
set_option linter.unusedVariables false
set_option linter.unusedSimpArgs false
namespace Go.Proofs.Ytdbjoopkliafeaa.P
open Go Go.RowKit Go.Proofs.YtdbjoopkliafeaaW.PrintWords Go.Proofs.YtdbjoopkliafeaaW.PrintLast Go.Proofs.YtdbjoopkliafeaaW.PrintMore
end Go.Proofs.Ytdbjoopkliafeaa.P
