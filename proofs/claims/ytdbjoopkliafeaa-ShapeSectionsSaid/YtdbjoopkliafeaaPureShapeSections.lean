/- The pure statement of ShapeSections. -/
import Derived.Test.YtdbjoopkliafeaaV7
import Derived.Test.YtdbjoopkliafeaaTShape
import Derived.Test.YtdbjoopkliafeaaStmShapeSections
set_option linter.unusedVariables false
namespace Go.Proofs.Ytdbjoopkliafeaa.Pure
open Go Go.RowKit Go.Proofs.Ytdbjoopkliafeaa.P Go.Proofs.YtdbjoopkliafeaaW.PrintWords Go.Proofs.YtdbjoopkliafeaaW.PrintLast Go.Proofs.YtdbjoopkliafeaaW.PrintMore
theorem ShapeSections : sawmilllaw14_ShapeSections.Pure := by
  intro low rows _
  refine Ev.rounds ?_
  unfold sawmilllaw14_ShapeSections.f
  by_cases h : (rows.length : Int) > 130
  · simp only [if_pos h]
    exact Ev.bind awake14_ev (Ev.now _)
  · simp only [if_neg h]
    refine Ev.bind (shape_Diameter_ev low rows) (Ev.bind (r14_Diameter_ev low rows) ?_)
    simp only [if_true]
    refine Ev.bind (shape_Center2_ev low rows) (Ev.bind (r14_Center2_ev low rows) ?_)
    simp only [beq_self_eq_true, Bool.and_self, if_true]
    refine Ev.bind (shape_Oval_ev low rows) (Ev.bind (r14_Oval_ev low rows) ?_)
    simp only [if_true]
    exact Ev.bind awake14_ev (Ev.now _)
end Go.Proofs.Ytdbjoopkliafeaa.Pure
