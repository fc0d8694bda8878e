/- Names: what IsName comes to, in the program and in the reference. -/
import Derived.Test.YtdgbecllbldcaaaCClassDefectsV4
import Derived.Test.YtdgbecllbldcaaaCClassDefectsTBase
set_option linter.unusedVariables false
set_option linter.unusedSimpArgs false
namespace Go.Proofs.Ytdgbecllbldcaaa.P
open Go Go.RowKit Go.Proofs.YtdgbecllbldcaaaW.PrintWords Go.Proofs.YtdgbecllbldcaaaW.PrintLast Go.Proofs.YtdgbecllbldcaaaW.PrintMore
end Go.Proofs.Ytdgbecllbldcaaa.P
