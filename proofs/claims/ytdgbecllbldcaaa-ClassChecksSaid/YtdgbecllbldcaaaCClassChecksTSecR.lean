/- Cross-sections: what the reference's Check comes to; what a valid section is; areas and bounds of both. -/
import Derived.Test.YtdgbecllbldcaaaCClassChecksV5
import Derived.Test.YtdgbecllbldcaaaCClassChecksTSec
set_option linter.unusedVariables false
set_option linter.unusedSimpArgs false
namespace Go.Proofs.Ytdgbecllbldcaaa.P
open Go Go.RowKit Go.Proofs.YtdgbecllbldcaaaW.PrintWords Go.Proofs.YtdgbecllbldcaaaW.PrintLast Go.Proofs.YtdgbecllbldcaaaW.PrintMore
end Go.Proofs.Ytdgbecllbldcaaa.P
