/- Defects: what Check and Count come to, in the program and in the reference. -/
import Derived.Test.YtdgbecllbldcaaaCClassChecksV5
import Derived.Test.YtdgbecllbldcaaaCClassChecksTBase
set_option linter.unusedVariables false
set_option linter.unusedSimpArgs false
namespace Go.Proofs.Ytdgbecllbldcaaa.P
open Go Go.RowKit Go.Proofs.YtdgbecllbldcaaaW.PrintWords Go.Proofs.YtdgbecllbldcaaaW.PrintLast Go.Proofs.YtdgbecllbldcaaaW.PrintMore
end Go.Proofs.Ytdgbecllbldcaaa.P
