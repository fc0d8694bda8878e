/- The volume in a box: what Within of sections and of solids come to, in the program and in the reference. -/
import Derived.Test.YtboegckbilnldaaCSolidTurnsV5
import Derived.Test.YtboegckbilnldaaCSolidTurnsTVol
set_option linter.unusedVariables false
set_option linter.unusedSimpArgs false
namespace Go.Proofs.Ytboegckbilnldaa.P
open Go Go.RowKit Go.Proofs.YtboegckbilnldaaW.PrintWords Go.Proofs.YtboegckbilnldaaW.PrintLast Go.Proofs.YtboegckbilnldaaW.PrintMore
end Go.Proofs.Ytboegckbilnldaa.P
