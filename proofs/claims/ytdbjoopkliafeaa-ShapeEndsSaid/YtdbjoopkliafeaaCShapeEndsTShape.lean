/- The measures of sections, in the program and in the reference; the examples. -/
import Derived.Test.YtdbjoopkliafeaaCShapeEndsV4
import Derived.Test.YtdbjoopkliafeaaCShapeEndsTDia
set_option linter.unusedVariables false
set_option linter.unusedSimpArgs false
namespace Go.Proofs.Ytdbjoopkliafeaa.P
open Go Go.RowKit Go.Proofs.YtdbjoopkliafeaaW.PrintWords Go.Proofs.YtdbjoopkliafeaaW.PrintLast Go.Proofs.YtdbjoopkliafeaaW.PrintMore
theorem awake14_ev : Ev (fun k => sawmilllaw14_awake.f k) true := Ev.of (fun k => sawmilllaw14_awake.mono k) (k := 60) (by kernel_rfl)
end Go.Proofs.Ytdbjoopkliafeaa.P
