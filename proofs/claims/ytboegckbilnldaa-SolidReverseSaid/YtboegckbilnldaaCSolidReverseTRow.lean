/- Sections as rows at places: what build makes, what the common part of two sections is. -/
import Derived.Test.YtboegckbilnldaaCSolidReverseV5
import Derived.Test.YtboegckbilnldaaCSolidReverseTBld
set_option linter.unusedVariables false
set_option linter.unusedSimpArgs false
namespace Go.Proofs.Ytboegckbilnldaa.P
open Go Go.RowKit Go.Proofs.YtboegckbilnldaaW.PrintWords Go.Proofs.YtboegckbilnldaaW.PrintLast Go.Proofs.YtboegckbilnldaaW.PrintMore
end Go.Proofs.Ytboegckbilnldaa.P
