/- Sections that are mirrored, flipped and shifted. -/
import Derived.Test.YtdbjoopkliafeaaCShapeEndsV4
import Derived.Test.YtdbjoopkliafeaaCShapeEndsTShape
import Derived.Test.YtdbjoopkliafeaaCShapeEndsTBld
set_option linter.unusedVariables false
set_option linter.unusedSimpArgs false
namespace Go.Proofs.Ytdbjoopkliafeaa.P
open Go Go.RowKit Go.Proofs.YtdbjoopkliafeaaW.PrintWords Go.Proofs.YtdbjoopkliafeaaW.PrintLast Go.Proofs.YtdbjoopkliafeaaW.PrintMore
end Go.Proofs.Ytdbjoopkliafeaa.P
