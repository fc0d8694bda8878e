/- The pure statement of ShapeAreas. -/
import Derived.Test.YtdbjoopkliafeaaCShapeAreasV7
import Derived.Test.YtdbjoopkliafeaaCShapeAreasTShape
import Derived.Test.YtdbjoopkliafeaaCShapeAreasTBld
import Derived.Test.YtdbjoopkliafeaaCShapeAreasStmShapeAreas
set_option linter.unusedVariables false
set_option linter.unusedSimpArgs false
namespace Go.Proofs.Ytdbjoopkliafeaa.Pure
open Go Go.RowKit Go.Proofs.Ytdbjoopkliafeaa.P Go.Proofs.YtdbjoopkliafeaaW.PrintWords Go.Proofs.YtdbjoopkliafeaaW.PrintLast Go.Proofs.YtdbjoopkliafeaaW.PrintMore
theorem root_mono {n m d e : Int} (h : IsRoot n d) (g : IsRoot m e) (hnm : n ≤ m) : d ≤ e := by
  have h1 : d * d < (e + 1) * (e + 1) := Int.lt_of_le_of_lt (Int.le_trans h.2.1 hnm) g.2.2
  have := sq_lt_of h.1 (by have := g.1; omega) h1
  omega
theorem dia_mono {al bl : Int} {ar br : List Sp} (h : areaS al ar ≤ areaS bl br) : diaS al ar ≤ diaS bl br := root_mono (diaS_root al ar) (diaS_root bl br) (by omega)
theorem areas_end (al : Int) (ar : List Sp) (bl : Int) (br : List Sp) : Ev (fun k => sawmilllaw14_ShapeAreas.j1 k (diaS al ar) false al ar bl br) true := by
  refine Ev.step (fun k => by rw [sawmilllaw14_ShapeAreas.j1, if_neg (by simp)]) ?_
  refine Ev.bind (section_Meet_ev al ar bl br) (Ev.bind (shape_Diameter_ev _ _) ?_)
  have h := meetV_area al ar bl br
  have h1 := dia_mono h.1
  have h2 := dia_mono h.2
  simp only [if_pos h1]
  refine Ev.bind (shape_Diameter_ev _ _) ?_
  simp only [if_pos h2]
  exact Ev.bind awake14_ev (Ev.now _)
theorem ShapeAreas : sawmilllaw14_ShapeAreas.Pure := by
  intro al ar bl br _ _
  refine Ev.rounds ?_
  unfold sawmilllaw14_ShapeAreas.f
  by_cases h : (ar.length : Int) > 130
  · simp only [if_pos h]
    exact Ev.step (fun k => by rw [sawmilllaw14_ShapeAreas.j0, if_pos rfl]) (Ev.bind awake14_ev (Ev.now _))
  · simp only [if_neg h]
    by_cases h2 : (br.length : Int) > 130
    · exact Ev.step (fun k => by rw [sawmilllaw14_ShapeAreas.j0, if_pos (by simpa using h2)]) (Ev.bind awake14_ev (Ev.now _))
    · refine Ev.step (fun k => by rw [sawmilllaw14_ShapeAreas.j0, if_neg (by simpa using h2)]) ?_
      refine Ev.bind (shape_Diameter_ev al ar) (Ev.bind (section_Area_ev al ar) ?_)
      have r := diaS_root al ar
      have a := areaS_range al ar
      have r0 := r.1
      have r1 := r.2.1
      have r2 := r.2.2
      have h3 : diaS al ar < 1356 := sq_lt_of r0 (by omega) (Int.lt_of_le_of_lt r1 (by omega))
      have c1 : ¬ diaS al ar < 0 := by omega
      have c2 : ¬ diaS al ar > 2000 := by omega
      have e1 : 355 * diaS al ar * diaS al ar = 355 * (diaS al ar * diaS al ar) := Int.mul_assoc _ _ _
      have e2 : 355 * (diaS al ar + 1) * (diaS al ar + 1) = 355 * ((diaS al ar + 1) * (diaS al ar + 1)) := Int.mul_assoc _ _ _
      have b1 : 0 ≤ diaS al ar * diaS al ar := Int.mul_nonneg r0 r0
      have b3 : 0 ≤ (diaS al ar + 1) * (diaS al ar + 1) := Int.mul_nonneg (by omega) (by omega)
      have b2 : (diaS al ar + 1) * (diaS al ar + 1) ≤ 1356 * 1356 := Int.mul_le_mul (by omega) (by omega) (by omega) (by omega)
      have w1 : wrap64 (wrap64 (355 * diaS al ar) * diaS al ar) = 355 * (diaS al ar * diaS al ar) := by rw [w64 (n := 355 * diaS al ar) (by omega) (by omega), e1, w64 (by omega) (by omega)]
      have w2 : wrap64 (wrap64 (355 * wrap64 (diaS al ar + 1)) * wrap64 (diaS al ar + 1)) = 355 * ((diaS al ar + 1) * (diaS al ar + 1)) := by
        rw [w64 (n := diaS al ar + 1) (by omega) (by omega), w64 (n := 355 * (diaS al ar + 1)) (by omega) (by omega), e2, w64 (by omega) (by omega)]
      have w3 : wrap64 (452 * areaS al ar) = 452 * areaS al ar := w64 (by omega) (by omega)
      simp only [w1, w2, w3]
      have c3 : ¬ 355 * (diaS al ar * diaS al ar) > 452 * areaS al ar := by omega
      have c4 : decide (355 * ((diaS al ar + 1) * (diaS al ar + 1)) ≤ 452 * areaS al ar) = false := decide_eq_false (by omega)
      simp only [if_neg c1, if_neg c2, if_neg c3, c4]
      exact areas_end al ar bl br
end Go.Proofs.Ytdbjoopkliafeaa.Pure
