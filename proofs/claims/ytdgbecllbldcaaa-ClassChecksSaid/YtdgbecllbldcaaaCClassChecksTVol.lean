/- The volume of solids, in the program and in the reference; the examples of chapter 11. -/
import Derived.Test.YtdgbecllbldcaaaCClassChecksV5
import Derived.Test.YtdgbecllbldcaaaCClassChecksTSol
set_option linter.unusedVariables false
set_option linter.unusedSimpArgs false
namespace Go.Proofs.Ytdgbecllbldcaaa.P
open Go Go.RowKit Go.Proofs.YtdgbecllbldcaaaW.PrintWords Go.Proofs.YtdgbecllbldcaaaW.PrintLast Go.Proofs.YtdgbecllbldcaaaW.PrintMore
end Go.Proofs.Ytdgbecllbldcaaa.P
