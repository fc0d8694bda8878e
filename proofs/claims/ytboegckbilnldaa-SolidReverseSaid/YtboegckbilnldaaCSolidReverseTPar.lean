/- The reference's parts of solids: At, Cut and Common come to what the program's do. -/
import Derived.Test.YtboegckbilnldaaCSolidReverseV5
import Derived.Test.YtboegckbilnldaaCSolidReverseTCom
set_option linter.unusedVariables false
set_option linter.unusedSimpArgs false
namespace Go.Proofs.Ytboegckbilnldaa.P
open Go Go.RowKit Go.Proofs.YtboegckbilnldaaW.PrintWords Go.Proofs.YtboegckbilnldaaW.PrintLast Go.Proofs.YtboegckbilnldaaW.PrintMore
theorem same_list {l : List Slc} (hn : l.length ≤ 1000) (h : ∀ s ∈ l, s.f1.f1.length ≤ 1000) : Ev (fun k => sawmillref11_Same.f k l l) true := by
  unfold sawmillref11_Same.f
  simp only [if_true]
  refine (Ev.list0 (σ := Unit) l (fun k i _ => sawmillref11_Same.l0 k l l i) (fun _ _ => true) (fun _ _ => True) ?_ ?_ () trivial)
  · intro s _
    exact Ev.step (f := fun _ => some true) (fun k => by rw [sawmillref11_Same.l0, if_neg (by omega)]) (Ev.now _)
  · intro i x suf s _ hi hx ih
    have hr := rdL_at hx
    refine Ev.step (fun k => by rw [sawmillref11_Same.l0, if_pos (by omega), if_pos (by omega), if_pos (by omega), hr, if_pos rfl]) ?_
    refine Ev.bind (same_self _ _ (h x (List.mem_of_getElem? hx))) ?_
    simp only [if_true]
    rw [wsucc hi (by omega)]
    exact ih () trivial
end Go.Proofs.Ytboegckbilnldaa.P
