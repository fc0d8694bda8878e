/- The pure statement of SolidWithin. -/
import Derived.Test.YtboegckbilnldaaCSolidWithinV5
import Derived.Test.YtboegckbilnldaaCSolidWithinTWit
import Derived.Test.YtboegckbilnldaaCSolidWithinStmSolidWithin
set_option linter.unusedVariables false
namespace Go.Proofs.Ytboegckbilnldaa.Pure
open Go Go.RowKit Go.Proofs.Ytboegckbilnldaa.P Go.Proofs.YtboegckbilnldaaW.PrintWords Go.Proofs.YtboegckbilnldaaW.PrintLast Go.Proofs.YtboegckbilnldaaW.PrintMore
theorem SolidWithin : sawmilllaw11_SolidWithin.Pure := by
  intro l x0 x1 y0 y1 z0 z1
  intros
  refine Ev.rounds ?_
  unfold sawmilllaw11_SolidWithin.f
  obtain ⟨b, hb⟩ := small11_ev l
  refine Ev.bind hb ?_
  cases b
  · simp only [Bool.false_eq_true, if_false]
    exact Ev.bind awake11_ev (Ev.now _)
  · simp only [if_true]
    refine Ev.bind (solid_Within_ev l x0 x1 y0 y1 z0 z1) (Ev.bind (r11_Within_ev l x0 x1 y0 y1 z0 z1) ?_)
    simp only [if_true]
    exact Ev.bind awake11_ev (Ev.now _)
end Go.Proofs.Ytboegckbilnldaa.Pure
