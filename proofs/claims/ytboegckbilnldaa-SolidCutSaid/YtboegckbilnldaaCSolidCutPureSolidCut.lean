/- The pure statement of SolidCut. -/
import Derived.Test.YtboegckbilnldaaCSolidCutV6
import Derived.Test.YtboegckbilnldaaCSolidCutTCut
import Derived.Test.YtboegckbilnldaaCSolidCutStmSolidCut
set_option linter.unusedVariables false
namespace Go.Proofs.Ytboegckbilnldaa.Pure
open Go Go.RowKit Go.Proofs.Ytboegckbilnldaa.P Go.Proofs.YtboegckbilnldaaW.PrintWords Go.Proofs.YtboegckbilnldaaW.PrintLast Go.Proofs.YtboegckbilnldaaW.PrintMore
theorem wsum (l m : List Slc) (x0 x1 y0 y1 z0 z1 a0 a1 b0 b1 c0 c1 : Int) : wrap64 (witB l x0 x1 y0 y1 z0 z1 + witB m a0 a1 b0 b1 c0 c1) = witB l x0 x1 y0 y1 z0 z1 + witB m a0 a1 b0 b1 c0 c1 := by
  have h1 := witB_range l x0 x1 y0 y1 z0 z1
  have h2 := witB_range m a0 a1 b0 b1 c0 c1
  exact w64 (by omega) (by omega)
theorem cut_none (l : List Slc) (at_ x0 x1 y0 y1 z0 z1 : Int) : Ev (fun k => sawmilllaw11_SolidCut.j0 k l at_ true x0 x1 y0 y1 z0 z1) true :=
  Ev.step (fun k => by rw [sawmilllaw11_SolidCut.j0, if_pos rfl]) (Ev.bind awake11_ev (Ev.now _))
theorem cut_end (l : List Slc) (at_ : Int) {x0 x1 y0 y1 z0 z1 : Int} (hx : x0 < x1) (hy : y0 < y1) (hz : z0 < z1) : Ev (fun k => sawmilllaw11_SolidCut.j1 k l at_ (witB l x0 x1 y0 y1 z0 z1) false x0 x1 y0 y1 z0 z1) true := by
  refine Ev.step (fun k => by rw [sawmilllaw11_SolidCut.j1, if_neg (by decide)]) ?_
  refine Ev.bind (solid_Bounds_ev l) (Ev.bind (solid_Cut_ev l z0 z1) (Ev.bind (solid_Volume_ev _) (Ev.bind (solid_Within_ev l _ _ _ _ _ _) ?_)))
  simp only [volS_eq, volS_cut, if_true]
  unfold sawmilllaw11_split.f
  simp only [Option.bind_some, mx_eq, mn_eq]
  refine Ev.bind (solid_Within_ev l _ _ _ _ _ _) (Ev.bind (solid_Within_ev l _ _ _ _ _ _) ?_)
  simp only [wsum]
  simp only [witB_addx l y0 y1 z0 z1 (show x0 ≤ min (max at_ x0) x1 by omega) (show min (max at_ x0) x1 ≤ x1 by omega), if_true]
  refine Ev.bind (solid_Within_ev l _ _ _ _ _ _) (Ev.bind (solid_Within_ev l _ _ _ _ _ _) ?_)
  simp only [wsum]
  simp only [witB_addy l x0 x1 z0 z1 (show y0 ≤ min (max at_ y0) y1 by omega) (show min (max at_ y0) y1 ≤ y1 by omega), if_true]
  exact Ev.bind awake11_ev (Ev.now _)
theorem cut_run (l : List Slc) (at_ : Int) {x0 x1 y0 y1 z0 z1 : Int} (hx : x0 < x1) (hy : y0 < y1) (hz : z0 < z1) : Ev (fun k => sawmilllaw11_SolidCut.j0 k l at_ false x0 x1 y0 y1 z0 z1) true := by
  refine Ev.step (fun k => by rw [sawmilllaw11_SolidCut.j0, if_neg (by decide)]) ?_
  refine Ev.bind (solid_Within_ev l _ _ _ _ _ _) ?_
  unfold sawmilllaw11_split.f
  simp only [Option.bind_some, mx_eq, mn_eq]
  refine Ev.bind (solid_Within_ev l _ _ _ _ _ _) (Ev.bind (solid_Within_ev l _ _ _ _ _ _) ?_)
  simp only [wsum]
  simp only [witB_addz l x0 x1 y0 y1 (show z0 ≤ min (max at_ z0) z1 by omega) (show min (max at_ z0) z1 ≤ z1 by omega), if_true]
  refine Ev.bind (solid_Cut_ev l _ _) (Ev.bind (solid_Volume_ev _) (Ev.bind (solid_Cut_ev l _ _) (Ev.bind (solid_Volume_ev _) (Ev.bind (solid_Cut_ev l _ _) (Ev.bind (solid_Volume_ev _) ?_)))))
  simp only [volS_eq, volS_cut]
  simp only [wsum]
  simp only [witB_addz l _ _ _ _ (show z0 ≤ min (max at_ z0) z1 by omega) (show min (max at_ z0) z1 ≤ z1 by omega), bne_self_eq_false]
  exact cut_end l at_ hx hy hz
theorem SolidCut : sawmilllaw11_SolidCut.Pure := by
  intro l x0 x1 y0 y1 z0 z1 at_
  intros
  refine Ev.rounds ?_
  unfold sawmilllaw11_SolidCut.f
  obtain ⟨b, hb⟩ := small11_ev l
  refine Ev.bind hb ?_
  cases b
  · simp only [Bool.false_eq_true, if_false]
    exact cut_none l at_ x0 x1 y0 y1 z0 z1
  · simp only [if_true]
    by_cases h0 : x0 ≥ x1
    · simp only [if_pos h0]; exact cut_none l at_ x0 x1 y0 y1 z0 z1
    · simp only [if_neg h0]
      by_cases h1 : y0 ≥ y1
      · simp only [if_pos h1]; exact cut_none l at_ x0 x1 y0 y1 z0 z1
      · simp only [if_neg h1]
        by_cases h2 : z0 ≥ z1
        · simp only [decide_eq_true h2]; exact cut_none l at_ x0 x1 y0 y1 z0 z1
        · simp only [decide_eq_false h2]
          exact cut_run l at_ (by omega) (by omega) (by omega)
end Go.Proofs.Ytboegckbilnldaa.Pure
