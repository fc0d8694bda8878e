/- The common part of a span of a solid, and the section at a position. -/
import Derived.Test.YtboegckbilnldaaCSolidReverseV5
import Derived.Test.YtboegckbilnldaaCSolidReverseTCut
import Derived.Test.YtboegckbilnldaaCSolidReverseTRow
set_option linter.unusedVariables false
set_option linter.unusedSimpArgs false
namespace Go.Proofs.Ytboegckbilnldaa.P
open Go Go.RowKit Go.Proofs.YtboegckbilnldaaW.PrintWords Go.Proofs.YtboegckbilnldaaW.PrintLast Go.Proofs.YtboegckbilnldaaW.PrintMore
/-! ### a section is the same as itself -/
theorem same_self (low : Int) (rows : List Sp) (h : rows.length ≤ 1000) : Ev (fun k => sawmillref11_SameSection.f k low rows low rows) true := by
  unfold sawmillref11_SameSection.f
  simp only [if_true, bne_self_eq_false]
  refine Ev.step (f := fun k => sawmillref11_SameSection.l0 k 0 low rows low rows) (fun k => by rw [sawmillref11_SameSection.j0, if_neg (by decide)]) ?_
  refine (Ev.list0 (σ := Unit) rows (fun k i _ => sawmillref11_SameSection.l0 k i low rows low rows) (fun _ _ => true) (fun _ _ => True) ?_ ?_ () trivial)
  · intro s _
    exact Ev.step (f := fun _ => some true) (fun k => by rw [sawmillref11_SameSection.l0, if_neg (by omega)]) (Ev.now _)
  · intro i x suf s _ hi hx ih
    refine Ev.step (fun k => ?_) (ih () trivial)
    rw [sawmillref11_SameSection.l0, if_pos (by omega), if_pos (by omega), if_pos (by omega), if_neg (by simp), wsucc hi (by omega)]
end Go.Proofs.Ytboegckbilnldaa.P
