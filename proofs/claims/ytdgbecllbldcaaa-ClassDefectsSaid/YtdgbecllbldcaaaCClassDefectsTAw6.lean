/- The examples of layer 16 hold; the length of a list of classes. -/
import Derived.Test.YtdgbecllbldcaaaCClassDefectsV4
import Derived.Test.YtdgbecllbldcaaaCClassDefectsTFit
set_option linter.unusedVariables false
namespace Go.Proofs.Ytdgbecllbldcaaa.P
open Go Go.RowKit Go.Proofs.YtdgbecllbldcaaaW.PrintWords Go.Proofs.YtdgbecllbldcaaaW.PrintLast Go.Proofs.YtdgbecllbldcaaaW.PrintMore
theorem awake16_ev : Ev (fun k => sawmilllaw16_awake.f k) true := Ev.of (fun k => sawmilllaw16_awake.mono k) (k := 60) (by kernel_rfl)
theorem aw16 : Ev (fun k => (sawmilllaw16_awake.f k).bind fun t => some t) true := Ev.bind awake16_ev (Ev.now _)
theorem fitB_iff (m : Int × Int × Int × Int × Int × Int) (x : Cls) : fitB m x = true ↔ ((¬ m.1 < x.f1 ∧ ¬ m.2.1 < x.f2) ∧ ¬ m.2.1 > x.f3) ∧ ((m.2.2.1 ≤ x.f4 ∧ m.2.2.2.1 ≤ x.f5) ∧ m.2.2.2.2.1 ≤ x.f6) ∧ m.2.2.2.2.2 ≤ x.f7 := by
  unfold fitB
  simp only [Bool.and_eq_true, Bool.not_eq_true', Bool.or_eq_false_iff, decide_eq_true_eq, decide_eq_false_iff_not]
end Go.Proofs.Ytdgbecllbldcaaa.P
