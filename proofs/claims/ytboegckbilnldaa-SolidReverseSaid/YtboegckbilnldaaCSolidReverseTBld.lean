/- What build makes of rows, and the common part of two sections. -/
import Derived.Test.YtboegckbilnldaaCSolidReverseV5
import Derived.Test.YtboegckbilnldaaCSolidReverseTSol
set_option linter.unusedVariables false
set_option linter.unusedSimpArgs false
namespace Go.Proofs.Ytboegckbilnldaa.P
open Go Go.RowKit Go.Proofs.YtboegckbilnldaaW.PrintWords Go.Proofs.YtboegckbilnldaaW.PrintLast Go.Proofs.YtboegckbilnldaaW.PrintMore
end Go.Proofs.Ytboegckbilnldaa.P
