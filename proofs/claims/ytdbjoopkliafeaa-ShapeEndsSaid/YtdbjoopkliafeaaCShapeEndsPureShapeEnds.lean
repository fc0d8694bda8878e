/- The pure statement of ShapeEnds. -/
import Derived.Test.YtdbjoopkliafeaaCShapeEndsV4
import Derived.Test.YtdbjoopkliafeaaCShapeEndsTRvB
import Derived.Test.YtdbjoopkliafeaaCShapeEndsStmShapeEnds
set_option linter.unusedVariables false
namespace Go.Proofs.Ytdbjoopkliafeaa.Pure
open Go Go.RowKit Go.Proofs.Ytdbjoopkliafeaa.P Go.Proofs.YtdbjoopkliafeaaW.PrintWords Go.Proofs.YtdbjoopkliafeaaW.PrintLast Go.Proofs.YtdbjoopkliafeaaW.PrintMore
theorem tap_eq {l : List Slc} (ok : SolOk l) : tapS l = max 0 (diaS (fstL l).f1.f0 (fstL l).f1.f1 - diaS (lstL l).f1.f0 (lstL l).f1.f1) * 10000 / sumZ l := by
  unfold tapS topS
  rw [if_pos ((solOk_iff l).2 ok), if_pos ((solOk_iff l).2 ok)]
theorem tap_nonneg {l : List Slc} (ok : SolOk l) : 0 ≤ tapS l := by
  rw [tap_eq ok]
  exact Int.ediv_nonneg (by omega) (by have := sumZ_pos ok; omega)
theorem tap_pos {l : List Slc} (ok : SolOk l) (h : tapS l ≠ 0) : diaS (lstL l).f1.f0 (lstL l).f1.f1 < diaS (fstL l).f1.f0 (fstL l).f1.f1 := by
  by_cases c : diaS (lstL l).f1.f0 (lstL l).f1.f1 < diaS (fstL l).f1.f0 (fstL l).f1.f1
  · exact c
  · rw [tap_eq ok, show max 0 (diaS (fstL l).f1.f0 (fstL l).f1.f1 - diaS (lstL l).f1.f0 (lstL l).f1.f1) = 0 by omega] at h
    simp at h
theorem ends_none (l : List Slc) : Ev (fun k => sawmilllaw14_ShapeEnds.j0 k l true) true :=
  Ev.step (fun k => by rw [sawmilllaw14_ShapeEnds.j0, if_pos rfl]) (Ev.bind awake14_ev (Ev.now _))
theorem ends_j1 {l : List Slc} (ok : SolOk l) : Ev (fun k => sawmilllaw14_ShapeEnds.j1 k l l.reverse (tapS l) false) true := by
  have h0 := ok.len0
  have ok2 := rev_ok ok
  have e1 : topS l.reverse = diaS (fstL l).f1.f0 (fstL l).f1.f1 := by unfold topS; rw [if_pos ((solOk_iff _).2 ok2), lst_rev h0]
  have e2 : topS l = diaS (lstL l).f1.f0 (lstL l).f1.f1 := by unfold topS; rw [if_pos ((solOk_iff _).2 ok)]
  refine Ev.step (fun k => by rw [sawmilllaw14_ShapeEnds.j1, if_neg (by decide)]) ?_
  refine Ev.bind (shape_Top_ev _) ?_
  simp only [if_pos (show 0 < (l.length : Int) by omega), rdL_first]
  refine Ev.bind (shape_Diameter_ev _ _) ?_
  have e3 : topS l.reverse = diaS (l.getD 0 z36).f1.f0 (l.getD 0 z36).f1.f1 := e1
  simp only [if_pos e3]
  by_cases h : tapS l = 0
  · simp only [if_pos h]; exact Ev.bind awake14_ev (Ev.now _)
  · simp only [if_neg h]
    refine Ev.bind (shape_Top_ev _) (Ev.bind (shape_Top_ev _) ?_)
    have := tap_pos ok h
    simp only [if_pos (show topS l.reverse > topS l by rw [e1, e2]; exact this)]
    exact Ev.bind awake14_ev (Ev.now _)
theorem ends_j0 {l : List Slc} (ok : SolOk l) : Ev (fun k => sawmilllaw14_ShapeEnds.j0 k l false) true := by
  have h0 := ok.len0
  have ok2 := rev_ok ok
  have e : revL l = l.reverse := by unfold revL; rw [if_pos ((solOk_iff l).2 ok)]
  refine Ev.step (fun k => by rw [sawmilllaw14_ShapeEnds.j0, if_neg (by decide)]) ?_
  refine Ev.bind (solid_Reverse_ev l) ?_
  rw [e]
  refine Ev.bind (shape_Taper_ev l) (Ev.bind (shape_Taper_ev l.reverse) ?_)
  have t1 := tap_nonneg ok
  have t2 := tap_nonneg ok2
  simp only [if_neg (show ¬ tapS l < 0 by omega), if_neg (show ¬ tapS l.reverse < 0 by omega)]
  by_cases h1 : tapS l > 0
  · simp only [if_pos h1]
    have c : ¬ tapS l.reverse > 0 := by
      intro h2
      have p1 := tap_pos ok (by omega)
      have p2 := tap_pos ok2 (by omega)
      rw [lst_rev h0, fst_rev h0] at p2
      omega
    simp only [decide_eq_false c]
    exact ends_j1 ok
  · simp only [if_neg h1]
    exact ends_j1 ok
theorem ShapeEnds : sawmilllaw14_ShapeEnds.Pure := by
  intro l
  intros
  refine Ev.rounds ?_
  unfold sawmilllaw14_ShapeEnds.f
  obtain ⟨b, hb⟩ := small_ev l
  refine Ev.bind hb ?_
  cases b
  · simp only [Bool.false_eq_true, if_false]; exact ends_none l
  · simp only [if_true]
    by_cases h1 : (l.length : Int) = 0
    · simp only [if_pos h1]; exact ends_none l
    · simp only [if_neg h1]
      refine Ev.bind (solid_Check_ev l) ?_
      by_cases h : solChk l = 0
      · simp only [h, bne_self_eq_false]
        exact ends_j0 ((solOk_iff l).1 h)
      · have : (solChk l != 0) = true := bne_iff_ne.2 h
        rw [this]; exact ends_none l
end Go.Proofs.Ytdbjoopkliafeaa.Pure
