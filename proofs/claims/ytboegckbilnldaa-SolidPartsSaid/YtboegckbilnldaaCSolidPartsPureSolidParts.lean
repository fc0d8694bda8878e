/- The pure statement of SolidParts. -/
import Derived.Test.YtboegckbilnldaaCSolidPartsV7
import Derived.Test.YtboegckbilnldaaCSolidPartsTPar
import Derived.Test.YtboegckbilnldaaCSolidPartsStmSolidParts
set_option linter.unusedVariables false
namespace Go.Proofs.Ytboegckbilnldaa.Pure
open Go Go.RowKit Go.Proofs.Ytboegckbilnldaa.P Go.Proofs.YtboegckbilnldaaW.PrintWords Go.Proofs.YtboegckbilnldaaW.PrintLast Go.Proofs.YtboegckbilnldaaW.PrintMore
theorem SolidParts : sawmilllaw11_SolidParts.Pure := by
  intro l at_ z0 z1
  intros
  refine Ev.rounds ?_
  unfold sawmilllaw11_SolidParts.f
  obtain ⟨b, hb⟩ := small11_ev l
  refine Ev.bind hb ?_
  cases b
  · simp only [Bool.false_eq_true, if_false]
    exact Ev.bind awake11_ev (Ev.now _)
  · simp only [if_true]
    refine Ev.bind (solid_At_ev l at_) (Ev.bind (r11_At_ev l at_) ?_)
    rw [atS_eq]
    refine Ev.bind (same_self _ _ (atS_rows l at_)) ?_
    simp only [if_true, beq_self_eq_true]
    refine Ev.bind (solid_Cut_ev l z0 z1) (Ev.bind (r11_Cut_ev l z0 z1) (Ev.bind (same_list (cutS_rows l z0 z1).1 (cutS_rows l z0 z1).2) ?_))
    simp only [if_true]
    refine Ev.bind (solid_Common_ev l z0 z1) (Ev.bind (r11_Common_ev l z0 z1) (Ev.bind (same_self _ _ (comP_rows l z0 z1)) ?_))
    simp only [if_true]
    exact Ev.bind awake11_ev (Ev.now _)
end Go.Proofs.Ytboegckbilnldaa.Pure
