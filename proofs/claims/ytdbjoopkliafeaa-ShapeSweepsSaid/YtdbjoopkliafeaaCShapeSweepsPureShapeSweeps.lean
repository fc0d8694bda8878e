/- The pure statement of ShapeSweeps. -/
import Derived.Test.YtdbjoopkliafeaaCShapeSweepsV7
import Derived.Test.YtdbjoopkliafeaaCShapeSweepsTShape
import Derived.Test.YtdbjoopkliafeaaCShapeSweepsTSweep
import Derived.Test.YtdbjoopkliafeaaCShapeSweepsStmShapeSweeps
set_option linter.unusedVariables false
namespace Go.Proofs.Ytdbjoopkliafeaa.Pure
open Go Go.RowKit Go.Proofs.Ytdbjoopkliafeaa.P Go.Proofs.YtdbjoopkliafeaaW.PrintWords Go.Proofs.YtdbjoopkliafeaaW.PrintLast Go.Proofs.YtdbjoopkliafeaaW.PrintMore
theorem ShapeSweeps : sawmilllaw14_ShapeSweeps.Pure := by
  intro l _
  refine Ev.rounds ?_
  unfold sawmilllaw14_ShapeSweeps.f
  obtain ⟨b, hb⟩ := small_ev l
  refine Ev.bind hb ?_
  cases b
  · simp only [Bool.false_eq_true, if_false]
    exact Ev.bind awake14_ev (Ev.now _)
  · simp only [if_true]
    refine Ev.bind (shape_Sweep_ev l) (Ev.bind (r14_Sweep_ev l) ?_)
    simp only [if_true]
    exact Ev.bind awake14_ev (Ev.now _)
end Go.Proofs.Ytdbjoopkliafeaa.Pure
