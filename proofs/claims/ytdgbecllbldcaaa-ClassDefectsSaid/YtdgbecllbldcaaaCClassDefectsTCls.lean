/- Lists of classes: what Check comes to, in the program and in the reference. -/
import Derived.Test.YtdgbecllbldcaaaCClassDefectsV4
import Derived.Test.YtdgbecllbldcaaaCClassDefectsTNam
set_option linter.unusedVariables false
set_option linter.unusedSimpArgs false
namespace Go.Proofs.Ytdgbecllbldcaaa.P
open Go Go.RowKit Go.Proofs.YtdgbecllbldcaaaW.PrintWords Go.Proofs.YtdgbecllbldcaaaW.PrintLast Go.Proofs.YtdgbecllbldcaaaW.PrintMore
abbrev Cls := S28
end Go.Proofs.Ytdgbecllbldcaaa.P
