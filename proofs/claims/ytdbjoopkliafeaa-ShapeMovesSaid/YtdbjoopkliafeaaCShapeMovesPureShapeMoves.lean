/- The pure statement of ShapeMoves. -/
import Derived.Test.YtdbjoopkliafeaaCShapeMovesV6
import Derived.Test.YtdbjoopkliafeaaCShapeMovesTMov
import Derived.Test.YtdbjoopkliafeaaCShapeMovesStmShapeMoves
set_option linter.unusedVariables false
set_option linter.unusedSimpArgs false
namespace Go.Proofs.Ytdbjoopkliafeaa.Pure
open Go Go.RowKit Go.Proofs.Ytdbjoopkliafeaa.P Go.Proofs.YtdbjoopkliafeaaW.PrintWords Go.Proofs.YtdbjoopkliafeaaW.PrintLast Go.Proofs.YtdbjoopkliafeaaW.PrintMore
theorem dia_same {al bl : Int} {ar br : List Sp} (h : areaS al ar = areaS bl br) : diaS al ar = diaS bl br := by unfold diaS; rw [h]
theorem moves_none (s : Int) (rows : List Sp) (d k : Int) : Ev (fun j => sawmilllaw14_ShapeMoves.j0 j d k true s rows) true :=
  Ev.step (fun j => by rw [sawmilllaw14_ShapeMoves.j0, if_pos rfl]) (Ev.bind awake14_ev (Ev.now _))
theorem moves_j2n (d k s x y t : Int) (rows trs : List Sp) : Ev (fun j => sawmilllaw14_ShapeMoves.j2 j d k true s rows x y t trs) true :=
  Ev.step (fun j => by rw [sawmilllaw14_ShapeMoves.j2, if_pos rfl]) (Ev.bind awake14_ev (Ev.now _))
theorem moves_j1 {low : Int} {rows : List Sp} (ok : SecOk low rows) (h0 : rows ≠ []) {d k : Int} (hd : -1200 ≤ d ∧ d ≤ 1200) (hk : -120 ≤ k ∧ k ≤ 120) :
    Ev (fun j => sawmilllaw14_ShapeMoves.j1 j d k false low rows (cenS low rows).1 (cenS low rows).2) true := by
  refine Ev.step (fun j => by rw [sawmilllaw14_ShapeMoves.j1, if_neg (by decide)]) ?_
  refine Ev.bind (section_Shift_ev ok h0 hd hk) ?_
  by_cases c : secChk (shfV d k (low, rows)).1 (shfV d k (low, rows)).2 = 0
  · have ok2 := secOk_of c
    rw [validS_self ok2]
    refine Ev.bind (section_Check_ev _ _) ?_
    have hne : ¬ (((shfV d k (low, rows)).2.length : Int) = 0) := by unfold shfV; have := List.length_pos_iff.2 h0; simp; exact h0
    simp only [if_pos c, show (((shfV d k (low, rows)).2.length : Int) == 0) = false from beq_eq_false_iff_ne.2 hne]
    refine Ev.step (fun j => by rw [sawmilllaw14_ShapeMoves.j2, if_neg (by decide)]) ?_
    refine Ev.bind (shape_Center2_ev _ _) ?_
    have hb := bndS_shf (v := (low, rows)) ok h0 ok2
    have r := bndS_range low rows
    have e1 : (cenS (shfV d k (low, rows)).1 (shfV d k (low, rows)).2).1 = wrap64 ((cenS low rows).1 + wrap64 (2 * d)) := by
      unfold cenS
      rw [hb, w64 (n := 2 * d) (by omega) (by omega), w64 (by omega) (by omega)]
      simp only
      omega
    have e2 : (cenS (shfV d k (low, rows)).1 (shfV d k (low, rows)).2).2 = wrap64 ((cenS low rows).2 + wrap64 (20 * k)) := by
      unfold cenS
      rw [hb, w64 (n := 20 * k) (by omega) (by omega), w64 (by omega) (by omega)]
      simp only
      omega
    simp only [e1, e2, beq_self_eq_true, Bool.and_self, if_true]
    refine Ev.bind (shape_Diameter_ev _ _) (Ev.bind (shape_Diameter_ev _ _) ?_)
    simp only [if_pos (dia_same (shf_area (v := (low, rows)) ok ok2))]
    refine Ev.bind (shape_Oval_ev _ _) (Ev.bind (shape_Oval_ev _ _) ?_)
    have e3 : ovalS (shfV d k (low, rows)).1 (shfV d k (low, rows)).2 = ovalS low rows := by
      unfold ovalS
      rw [hb]
      simp only
      omega
    simp only [if_pos e3]
    exact Ev.bind awake14_ev (Ev.now _)
  · have e : validS (shfV d k (low, rows)).1 (shfV d k (low, rows)).2 = (0, []) := validS_bad c
    rw [e]
    refine Ev.bind (section_Check_ev _ _) ?_
    simp only [if_pos (secChk_ok secOk_nil)]
    exact moves_j2n d k low _ _ 0 rows []
theorem moves_j0 {low : Int} {rows : List Sp} (ok : SecOk low rows) (h0 : rows ≠ []) {d k : Int} (hd : -1200 ≤ d ∧ d ≤ 1200) (hk : -120 ≤ k ∧ k ≤ 120) :
    Ev (fun j => sawmilllaw14_ShapeMoves.j0 j d k false low rows) true := by
  refine Ev.step (fun j => by rw [sawmilllaw14_ShapeMoves.j0, if_neg (by decide)]) ?_
  refine Ev.bind (shape_Center2_ev _ _) (Ev.bind (section_Mirror_ev _ _) (Ev.bind (section_Flip_ev _ _) ?_))
  rw [validS_self ok]
  have r := bndS_range low rows
  have hm := bndS_mir (v := (low, rows)) ok h0
  have hf := bndS_flip (v := (low, rows)) ok h0
  refine Ev.bind (shape_Center2_ev _ _) ?_
  have m1 : (cenS (mirV (low, rows)).1 (mirV (low, rows)).2).1 = wrap64 (-(cenS low rows).1) := by
    unfold cenS
    rw [hm, w64 (by omega) (by omega)]
    simp only
    omega
  have m2 : (cenS (mirV (low, rows)).1 (mirV (low, rows)).2).2 = (cenS low rows).2 := by
    unfold cenS
    rw [hm]
  simp only [m1, m2, beq_self_eq_true, Bool.not_true, Bool.or_self, Bool.false_eq_true, if_false]
  refine Ev.bind (shape_Center2_ev _ _) ?_
  have f1 : (cenS (flipV (low, rows)).1 (flipV (low, rows)).2).1 = (cenS low rows).1 := by
    unfold cenS
    rw [hf]
  have f2 : (cenS (flipV (low, rows)).1 (flipV (low, rows)).2).2 = wrap64 (-(cenS low rows).2) := by
    unfold cenS
    rw [hf, w64 (by omega) (by omega)]
    simp only
    omega
  simp only [f1, f2, beq_self_eq_true, Bool.not_true, Bool.or_self, Bool.false_eq_true, if_false]
  refine Ev.bind (shape_Diameter_ev _ _) (Ev.bind (shape_Diameter_ev _ _) ?_)
  simp only [if_pos (dia_same (mir_area (v := (low, rows)) ok))]
  refine Ev.bind (shape_Oval_ev _ _) (Ev.bind (shape_Oval_ev _ _) ?_)
  have e3 : ovalS (flipV (low, rows)).1 (flipV (low, rows)).2 = ovalS low rows := by
    unfold ovalS
    rw [hf]
    simp only
    omega
  simp only [e3, bne_self_eq_false]
  exact moves_j1 ok h0 hd hk
theorem ShapeMoves : sawmilllaw14_ShapeMoves.Pure := by
  intro low rows d k
  intros
  refine Ev.rounds ?_
  unfold sawmilllaw14_ShapeMoves.f
  by_cases h1 : (rows.length : Int) > 130
  · simp only [if_pos h1]; exact moves_none low rows d k
  · simp only [if_neg h1]
    by_cases h2 : d < -1200
    · simp only [if_pos h2]; exact moves_none low rows d k
    · simp only [if_neg h2]
      by_cases h3 : d > 1200
      · simp only [if_pos h3]; exact moves_none low rows d k
      · simp only [if_neg h3]
        by_cases h4 : k < -120
        · simp only [if_pos h4]; exact moves_none low rows d k
        · simp only [if_neg h4]
          by_cases h5 : k > 120
          · simp only [if_pos h5]; exact moves_none low rows d k
          · simp only [if_neg h5]
            refine Ev.bind (section_Check_ev low rows) ?_
            by_cases h6 : secChk low rows = 0
            · simp only [if_pos h6]
              by_cases h7 : rows = []
              · rw [show ((rows.length : Int) == 0) = true by rw [h7]; rfl]; exact moves_none low rows d k
              · have : ¬ ((rows.length : Int) = 0) := by have := List.length_pos_iff.2 h7; omega
                rw [show ((rows.length : Int) == 0) = false from beq_eq_false_iff_ne.2 this]
                exact moves_j0 (secOk_of h6) h7 ⟨by omega, by omega⟩ ⟨by omega, by omega⟩
            · simp only [if_neg h6]; exact moves_none low rows d k
end Go.Proofs.Ytdbjoopkliafeaa.Pure
