/- The examples of layer 16 hold; the length of a list of classes. -/
import Derived.Test.YtdgbecllbldcaaaCClassChecksV5
import Derived.Test.YtdgbecllbldcaaaCClassChecksTFit
set_option linter.unusedVariables false
namespace Go.Proofs.Ytdgbecllbldcaaa.P
open Go Go.RowKit Go.Proofs.YtdgbecllbldcaaaW.PrintWords Go.Proofs.YtdgbecllbldcaaaW.PrintLast Go.Proofs.YtdgbecllbldcaaaW.PrintMore
theorem awake16_ev : Ev (fun k => sawmilllaw16_awake.f k) true := Ev.of (fun k => sawmilllaw16_awake.mono k) (k := 60) (by kernel_rfl)
theorem aw16 : Ev (fun k => (sawmilllaw16_awake.f k).bind fun t => some t) true := Ev.bind awake16_ev (Ev.now _)
theorem len_ok {n : Nat} (h : n ≤ maxLen) : n ≤ 9223372036854775807 := by unfold maxLen at h; omega
end Go.Proofs.Ytdgbecllbldcaaa.P
