/- The pure statement of SolidTurns. -/
import Derived.Test.YtboegckbilnldaaCSolidTurnsV5
import Derived.Test.YtboegckbilnldaaCSolidTurnsTRvA
import Derived.Test.YtboegckbilnldaaCSolidTurnsStmSolidTurns
set_option linter.unusedVariables false
namespace Go.Proofs.Ytboegckbilnldaa.Pure
open Go Go.RowKit Go.Proofs.Ytboegckbilnldaa.P Go.Proofs.YtboegckbilnldaaW.PrintWords Go.Proofs.YtboegckbilnldaaW.PrintLast Go.Proofs.YtboegckbilnldaaW.PrintMore
theorem SolidTurns : sawmilllaw11_SolidTurns.Pure := by
  intro l
  intros
  refine Ev.rounds ?_
  unfold sawmilllaw11_SolidTurns.f
  obtain ⟨b, hb⟩ := small11_ev l
  refine Ev.bind hb ?_
  cases b
  · simp only [Bool.false_eq_true, if_false]
    exact Ev.bind awake11_ev (Ev.now _)
  · simp only [if_true]
    refine Ev.bind (solid_Reverse_ev l) (Ev.bind (r11_Reverse_ev l) (Ev.bind (same_list (revL_rows l).1 (revL_rows l).2) ?_))
    simp only [if_true]
    refine Ev.bind (solid_Bounds_ev l) (Ev.bind (r11_Bounds_ev l) ?_)
    simp only [beq_self_eq_true, Bool.and_self, if_true]
    exact Ev.bind awake11_ev (Ev.now _)
end Go.Proofs.Ytboegckbilnldaa.Pure
