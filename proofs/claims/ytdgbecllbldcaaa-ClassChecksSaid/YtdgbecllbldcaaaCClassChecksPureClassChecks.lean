/- The pure statement of ClassChecks. -/
import Derived.Test.YtdgbecllbldcaaaCClassChecksV5
import Derived.Test.YtdgbecllbldcaaaCClassChecksTAw6
import Derived.Test.YtdgbecllbldcaaaCClassChecksStmClassChecks
set_option linter.unusedVariables false
namespace Go.Proofs.Ytdgbecllbldcaaa.Pure
open Go Go.RowKit Go.Proofs.Ytdgbecllbldcaaa.P Go.Proofs.YtdgbecllbldcaaaW.PrintWords Go.Proofs.YtdgbecllbldcaaaW.PrintLast Go.Proofs.YtdgbecllbldcaaaW.PrintMore
theorem ClassChecks : sawmilllaw16_ClassChecks.Pure := by
  intro l h
  refine Ev.rounds ?_
  unfold sawmilllaw16_ClassChecks.f
  obtain ⟨b, hb⟩ := short_ev l (len_ok h.2)
  refine Ev.bind hb ?_
  cases b
  · simp only [Bool.false_eq_true, if_false]
    exact aw16
  · simp only [if_true]
    refine Ev.bind (class_Check_ev l) (Ev.bind (r16_Check_ev l) ?_)
    simp only [if_true]
    exact aw16
end Go.Proofs.Ytdgbecllbldcaaa.Pure
