/- The pure statement of ClassFits. -/
import Derived.Test.YtdgbecllbldcaaaCClassFitsV6
import Derived.Test.YtdgbecllbldcaaaCClassFitsTAw6
import Derived.Test.YtdgbecllbldcaaaCClassFitsStmClassFits
set_option linter.unusedVariables false
namespace Go.Proofs.Ytdgbecllbldcaaa.Pure
open Go Go.RowKit Go.Proofs.Ytdgbecllbldcaaa.P Go.Proofs.YtdgbecllbldcaaaW.PrintWords Go.Proofs.YtdgbecllbldcaaaW.PrintLast Go.Proofs.YtdgbecllbldcaaaW.PrintMore
theorem ClassFits : sawmilllaw16_ClassFits.Pure := by
  intro c0 c1 c2 c3 c4 c5 c6 c7 c8 l d
  intros
  refine Ev.rounds ?_
  unfold sawmilllaw16_ClassFits.f
  obtain ⟨b, hb⟩ := few_ev l d
  refine Ev.bind hb ?_
  cases b
  · simp only [Bool.false_eq_true, if_false]
    exact aw16
  · simp only [if_true]
    refine Ev.bind (class_Fits_ev ⟨c0, c1, c2, c3, c4, c5, c6, c7, c8⟩ l d) (Ev.bind (r16_Fits_ev ⟨c0, c1, c2, c3, c4, c5, c6, c7, c8⟩ l d) ?_)
    simp only [beq_self_eq_true, if_true]
    exact aw16
end Go.Proofs.Ytdgbecllbldcaaa.Pure
