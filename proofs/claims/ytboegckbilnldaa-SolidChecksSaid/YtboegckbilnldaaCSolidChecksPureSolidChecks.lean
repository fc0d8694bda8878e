/- The pure statement of SolidChecks. -/
import Derived.Test.YtboegckbilnldaaCSolidChecksV5
import Derived.Test.YtboegckbilnldaaCSolidChecksTVol
import Derived.Test.YtboegckbilnldaaCSolidChecksStmSolidChecks
set_option linter.unusedVariables false
namespace Go.Proofs.Ytboegckbilnldaa.Pure
open Go Go.RowKit Go.Proofs.Ytboegckbilnldaa.P Go.Proofs.YtboegckbilnldaaW.PrintWords Go.Proofs.YtboegckbilnldaaW.PrintLast Go.Proofs.YtboegckbilnldaaW.PrintMore
theorem SolidChecks : sawmilllaw11_SolidChecks.Pure := by
  intro l _
  refine Ev.rounds ?_
  unfold sawmilllaw11_SolidChecks.f
  obtain ⟨b, hb⟩ := small11_ev l
  refine Ev.bind hb ?_
  cases b
  · simp only [Bool.false_eq_true, if_false]
    exact Ev.bind awake11_ev (Ev.now _)
  · simp only [if_true]
    refine Ev.bind (solid_Check_ev l) (Ev.bind (r11_Check_ev l) ?_)
    simp only [if_true]
    refine Ev.bind (solid_Length_ev l) (Ev.bind (r11_Length_ev l) ?_)
    simp only [if_true]
    refine Ev.bind (solid_Volume_ev l) (Ev.bind (r11_Volume_ev l) ?_)
    simp only [volS_eq, if_true]
    exact Ev.bind awake11_ev (Ev.now _)
end Go.Proofs.Ytboegckbilnldaa.Pure
