/- The pure statement of SolidReverse. -/
import Derived.Test.YtboegckbilnldaaCSolidReverseV5
import Derived.Test.YtboegckbilnldaaCSolidReverseTRvA
import Derived.Test.YtboegckbilnldaaCSolidReverseStmSolidReverse
set_option linter.unusedVariables false
namespace Go.Proofs.Ytboegckbilnldaa.Pure
open Go Go.RowKit Go.Proofs.Ytboegckbilnldaa.P Go.Proofs.YtboegckbilnldaaW.PrintWords Go.Proofs.YtboegckbilnldaaW.PrintLast Go.Proofs.YtboegckbilnldaaW.PrintMore
theorem rev_none (l : List Slc) (x0 x1 y0 y1 z0 z1 : Int) : Ev (fun k => sawmilllaw11_SolidReverse.j0 k l true x0 x1 y0 y1 z0 z1) true :=
  Ev.step (fun k => by rw [sawmilllaw11_SolidReverse.j0, if_pos rfl]) (Ev.bind awake11_ev (Ev.now _))
theorem rev_run {l : List Slc} (ok : SolOk l) (x0 x1 y0 y1 : Int) {z0 z1 : Int} (h0 : -20000 ≤ z0) (h1 : z1 ≤ 40000) (h2 : z0 < z1) : Ev (fun k => sawmilllaw11_SolidReverse.j0 k l false x0 x1 y0 y1 z0 z1) true := by
  have hc := (solOk_iff l).2 ok
  have ok2 := rev_ok ok
  have hc2 := (solOk_iff _).2 ok2
  have e1 : revL l = l.reverse := by unfold revL; rw [if_pos hc]
  have e2 : revL l.reverse = l := by unfold revL; rw [if_pos hc2, List.reverse_reverse]
  have l1 : lenZ l = sumZ l := by unfold lenZ; rw [if_pos hc]
  have l2 : lenZ l.reverse = sumZ l := by unfold lenZ; rw [if_pos hc2, sumZ_rev]
  have v1 : volS l.reverse = volS l := by unfold volS; rw [if_pos hc, if_pos hc2, volL_rev]
  have hs := ok.sum
  have hp := sumZ_nonneg ok.pos
  refine Ev.step (fun k => by rw [sawmilllaw11_SolidReverse.j0, if_neg (by decide)]) ?_
  refine Ev.bind (solid_Reverse_ev l) ?_
  rw [e1]
  refine Ev.bind (solid_Length_ev l) (Ev.bind (solid_Length_ev l.reverse) ?_)
  rw [l1, l2]
  simp only [if_true]
  refine Ev.bind (solid_Volume_ev l.reverse) (Ev.bind (solid_Volume_ev l) ?_)
  simp only [volS_eq, v1, if_true]
  refine Ev.bind (solid_Reverse_ev l.reverse) ?_
  rw [e2]
  refine Ev.bind (same_list (l := l) (by have := ok.len; omega) (fun s hs => by have := (secOk_of (ok.sec s hs)).len; omega)) ?_
  have w1 : wrap64 (sumZ l - z1) = sumZ l - z1 := w64 (by omega) (by omega)
  have w2 : wrap64 (sumZ l - z0) = sumZ l - z0 := w64 (by omega) (by omega)
  simp only [if_true, w1, w2]
  refine Ev.bind (solid_Within_ev _ _ _ _ _ _ _) (Ev.bind (solid_Within_ev _ _ _ _ _ _ _) ?_)
  have e3 : witB l.reverse x0 x1 y0 y1 (sumZ l - z1) (sumZ l - z0) = witB l x0 x1 y0 y1 z0 z1 := by
    unfold witB
    rw [if_pos hc, if_pos hc2]
    have := witZ_rev x0 x1 y0 y1 z0 z1 (sumZ l) l 0 ok.pos
    rwa [show sumZ l - 0 - sumZ l = 0 by omega] at this
  simp only [e3, if_true]
  exact Ev.bind awake11_ev (Ev.now _)
theorem SolidReverse : sawmilllaw11_SolidReverse.Pure := by
  intro l x0 x1 y0 y1 z0 z1
  intros
  refine Ev.rounds ?_
  unfold sawmilllaw11_SolidReverse.f
  obtain ⟨b, hb⟩ := small11_ev l
  refine Ev.bind hb ?_
  cases b
  · simp only [Bool.false_eq_true, if_false]; exact rev_none l x0 x1 y0 y1 z0 z1
  · simp only [if_true]
    refine Ev.bind (solid_Check_ev l) ?_
    by_cases h : solChk l = 0
    · simp only [if_pos h]
      by_cases h1 : z0 < -20000
      · simp only [if_pos h1]; exact rev_none l x0 x1 y0 y1 z0 z1
      · simp only [if_neg h1]
        by_cases h2 : z1 > 40000
        · simp only [if_pos h2]; exact rev_none l x0 x1 y0 y1 z0 z1
        · simp only [if_neg h2]
          by_cases h3 : z0 ≥ z1
          · simp only [decide_eq_true h3]; exact rev_none l x0 x1 y0 y1 z0 z1
          · simp only [decide_eq_false h3]
            exact rev_run ((solOk_iff l).1 h) x0 x1 y0 y1 (by omega) (by omega) (by omega)
    · simp only [if_neg h]; exact rev_none l x0 x1 y0 y1 z0 z1
end Go.Proofs.Ytboegckbilnldaa.Pure
