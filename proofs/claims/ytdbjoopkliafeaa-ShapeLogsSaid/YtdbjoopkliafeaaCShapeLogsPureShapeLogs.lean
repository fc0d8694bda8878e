/- The pure statement of ShapeLogs. -/
import Derived.Test.YtdbjoopkliafeaaCShapeLogsV7
import Derived.Test.YtdbjoopkliafeaaCShapeLogsTShape
import Derived.Test.YtdbjoopkliafeaaCShapeLogsTLogs
import Derived.Test.YtdbjoopkliafeaaCShapeLogsStmShapeLogs
set_option linter.unusedVariables false
namespace Go.Proofs.Ytdbjoopkliafeaa.Pure
open Go Go.RowKit Go.Proofs.Ytdbjoopkliafeaa.P Go.Proofs.YtdbjoopkliafeaaW.PrintWords Go.Proofs.YtdbjoopkliafeaaW.PrintLast Go.Proofs.YtdbjoopkliafeaaW.PrintMore
theorem ShapeLogs : sawmilllaw14_ShapeLogs.Pure := by
  intro l _
  refine Ev.rounds ?_
  unfold sawmilllaw14_ShapeLogs.f
  obtain ⟨b, hb⟩ := small_ev l
  refine Ev.bind hb ?_
  cases b
  · simp only [Bool.false_eq_true, if_false]
    exact Ev.bind awake14_ev (Ev.now _)
  · simp only [if_true]
    refine Ev.bind (shape_Top_ev l) (Ev.bind (r14_Top_ev l) ?_)
    simp only [if_true]
    refine Ev.bind (shape_Taper_ev l) (Ev.bind (r14_Taper_ev l) ?_)
    simp only [if_true]
    exact Ev.bind awake14_ev (Ev.now _)
end Go.Proofs.Ytdbjoopkliafeaa.Pure
