/- The pure statement of SolidCommon. -/
import Derived.Test.YtboegckbilnldaaCSolidCommonV6
import Derived.Test.YtboegckbilnldaaCSolidCommonTCom
import Derived.Test.YtboegckbilnldaaCSolidCommonStmSolidCommon
set_option linter.unusedVariables false
namespace Go.Proofs.Ytboegckbilnldaa.Pure
open Go Go.RowKit Go.Proofs.Ytboegckbilnldaa.P Go.Proofs.YtboegckbilnldaaW.PrintWords Go.Proofs.YtboegckbilnldaaW.PrintLast Go.Proofs.YtboegckbilnldaaW.PrintMore
theorem common_none (l : List Slc) (at_ z0 z1 x0 x1 y0 y1 : Int) : Ev (fun k => sawmilllaw11_SolidCommon.j0 k l at_ true z0 z1 x0 x1 y0 y1) true :=
  Ev.step (fun k => by rw [sawmilllaw11_SolidCommon.j0, if_pos rfl]) (Ev.bind awake11_ev (Ev.now _))
theorem common_j3n (l : List Slc) (z0 z1 x0 x1 y0 y1 : Int) (v : Int × List Sp) : Ev (fun k => sawmilllaw11_SolidCommon.j3 k l true z0 z1 x0 x1 y0 y1 v.1 v.2) true :=
  Ev.step (fun k => by rw [sawmilllaw11_SolidCommon.j3, if_pos rfl]) (Ev.bind awake11_ev (Ev.now _))
theorem common_j3 {l : List Slc} (ok : SolOk l) {z0 z1 x0 x1 y0 y1 : Int} (hx : -600 ≤ x0 ∧ x0 < x1 ∧ x1 ≤ 600) (hy : -600 ≤ y0 ∧ y0 < y1 ∧ y1 ≤ 600) (hz : 0 ≤ z0 ∧ z0 < z1 ∧ z1 ≤ sumZ l) {v : Int × List Sp}
    (hv : SecOk v.1 v.2) (hin : ∀ p ∈ partsL z0 z1 l 0, InV v (secP p)) : Ev (fun k => sawmilllaw11_SolidCommon.j3 k l false z0 z1 x0 x1 y0 y1 v.1 v.2) true := by
  refine Ev.step (fun k => by rw [sawmilllaw11_SolidCommon.j3, if_neg (by decide)]) ?_
  refine Ev.bind (section_Within_ev _ _ _ _ _ _) ?_
  have hs := ok.sum
  have b1 : 0 ≤ (x1 - x0) * (y1 - y0) ∧ (x1 - x0) * (y1 - y0) ≤ 1200 * 1200 := prod_range ⟨by omega, by omega⟩ ⟨by omega, by omega⟩
  have b2 : 0 ≤ (x1 - x0) * (y1 - y0) * (z1 - z0) ∧ (x1 - x0) * (y1 - y0) * (z1 - z0) ≤ 1200 * 1200 * 20000 := prod_range b1 ⟨by omega, by omega⟩
  have w1 : wrap64 (x1 - x0) = x1 - x0 := w64 (by omega) (by omega)
  have w2 : wrap64 (y1 - y0) = y1 - y0 := w64 (by omega) (by omega)
  have w3 : wrap64 (z1 - z0) = z1 - z0 := w64 (by omega) (by omega)
  have w4 : wrap64 ((x1 - x0) * (y1 - y0)) = (x1 - x0) * (y1 - y0) := w64 (by omega) (by omega)
  have w5 : wrap64 ((x1 - x0) * (y1 - y0) * (z1 - z0)) = (x1 - x0) * (y1 - y0) * (z1 - z0) := w64 (by omega) (by omega)
  simp only [w1, w2, w3, w4, w5]
  by_cases c : witS v.1 v.2 x0 x1 y0 y1 < (x1 - x0) * (y1 - y0)
  · simp only [if_pos c]; exact Ev.bind awake11_ev (Ev.now _)
  · simp only [if_neg c]
    refine Ev.bind (solid_Within_ev l _ _ _ _ _ _) ?_
    have each : ∀ q ∈ partsL z0 z1 l 0, witS q.f1.f0 q.f1.f1 x0 x1 y0 y1 = (x1 - x0) * (y1 - y0) := by
      intro q hq
      have bx := witS_box q.f1.f0 q.f1.f1 x0 x1 y0 y1
      rw [show max 0 (x1 - x0) = x1 - x0 by omega, show max 0 (y1 - y0) = y1 - y0 by omega] at bx
      obtain ⟨⟨s, hs, e⟩, _⟩ := partsL_sec l 0 q hq
      have hq2 : SecOk q.f1.f0 q.f1.f1 := by rw [e]; exact secOk_of (ok.sec s hs)
      have := witS_le (b := secP q) hv hq2 (hin q hq) x0 x1 y0 y1
      simp only [secP] at this
      omega
    have e : witB l x0 x1 y0 y1 z0 z1 = (x1 - x0) * (y1 - y0) * (z1 - z0) := by
      unfold witB
      rw [if_pos ((solOk_iff l).2 ok), witZ_full l 0 ok.pos each, show ov 0 (0 + sumZ l) z0 z1 = z1 - z0 by unfold ov; omega]
    simp only [e, if_true]
    exact Ev.bind awake11_ev (Ev.now _)
theorem common_j2 {l : List Slc} (ok : SolOk l) {z0 z1 : Int} (x0 x1 y0 y1 : Int) (hz : 0 ≤ z0 ∧ z0 < z1 ∧ z1 ≤ sumZ l) {v : Int × List Sp}
    (hv : SecOk v.1 v.2) (hin : ∀ p ∈ partsL z0 z1 l 0, InV v (secP p)) : Ev (fun k => sawmilllaw11_SolidCommon.j2 k l z0 z1 x0 x1 y0 y1 v.1 v.2) true := by
  refine Ev.step (fun k => by rw [sawmilllaw11_SolidCommon.j2]) ?_
  by_cases h1 : x0 < -600
  · simp only [if_pos h1]; exact common_j3n l z0 z1 x0 x1 y0 y1 v
  · simp only [if_neg h1]
    by_cases h2 : x1 > 600
    · simp only [if_pos h2]; exact common_j3n l z0 z1 x0 x1 y0 y1 v
    · simp only [if_neg h2]
      by_cases h3 : y0 < -600
      · simp only [if_pos h3]; exact common_j3n l z0 z1 x0 x1 y0 y1 v
      · simp only [if_neg h3]
        by_cases h4 : y1 > 600
        · simp only [if_pos h4]; exact common_j3n l z0 z1 x0 x1 y0 y1 v
        · simp only [if_neg h4]
          by_cases h5 : x0 ≥ x1
          · simp only [if_pos h5]; exact common_j3n l z0 z1 x0 x1 y0 y1 v
          · simp only [if_neg h5]
            by_cases h6 : y0 ≥ y1
            · simp only [decide_eq_true h6]; exact common_j3n l z0 z1 x0 x1 y0 y1 v
            · simp only [decide_eq_false h6]
              exact common_j3 ok ⟨by omega, by omega, by omega⟩ ⟨by omega, by omega, by omega⟩ hz hv hin
theorem common_j0 {l : List Slc} (ok : SolOk l) (at_ : Int) {z0 z1 : Int} (x0 x1 y0 y1 : Int) (hz : 0 ≤ z0 ∧ z0 < z1 ∧ z1 ≤ sumZ l) : Ev (fun k => sawmilllaw11_SolidCommon.j0 k l at_ false z0 z1 x0 x1 y0 y1) true := by
  refine Ev.step (fun k => by rw [sawmilllaw11_SolidCommon.j0, if_neg (by decide)]) ?_
  refine Ev.bind (solid_Common_ev l z0 z1) ?_
  have hok := (solOk_iff l).2 ok
  have ep : partsS l z0 z1 = partsL z0 z1 l 0 := by unfold partsS; rw [if_pos hok]
  rw [ep]
  have hsec : ∀ p ∈ partsL z0 z1 l 0, SecOk p.f1.f0 p.f1.f1 := by
    intro p hp
    obtain ⟨⟨s, hs, e⟩, _⟩ := partsL_sec l 0 p hp
    rw [e]; exact secOk_of (ok.sec s hs)
  have k := comP_in (partsL z0 z1 l 0) true (0, []) secOk_nil hsec
  generalize comP (partsL z0 z1 l 0) true (0, []) = v at k ⊢
  have off : Ev (fun k => sawmilllaw11_SolidCommon.j1 k l at_ false z0 z1 x0 x1 y0 y1 v.1 v.2) true :=
    Ev.step (fun k => by rw [sawmilllaw11_SolidCommon.j1, if_neg (by decide)]) (common_j2 ok x0 x1 y0 y1 hz k.1 k.2.2)
  by_cases h1 : at_ ≥ z0
  · simp only [if_pos h1]
    by_cases h2 : at_ < z1
    · simp only [decide_eq_true h2]
      refine Ev.step (fun k => by rw [sawmilllaw11_SolidCommon.j1, if_pos rfl]) ?_
      refine Ev.bind (solid_At_ev l at_) ?_
      obtain ⟨q, hq, e⟩ := atL_in (z0 := z0) (z1 := z1) (a := at_) h1 h2 l 0 ok.pos (by omega) (by omega)
      rw [partsS_whole ok, atP_all, e]
      simp only [if_true]
      refine Ev.bind (section_Meet_ev _ _ _ _) ?_
      have hq2 := hsec q hq
      rw [validS_of k.1, validS_of hq2, meetV_of_in (a := (v.1, v.2)) (b := (q.f1.f0, q.f1.f1)) k.1 hq2 (k.2.2 q hq)]
      refine Ev.bind (same_self v.1 v.2 (by have := k.1.len; omega)) ?_
      simp only [if_true]
      exact common_j2 ok x0 x1 y0 y1 hz k.1 k.2.2
    · simp only [decide_eq_false h2]; exact off
  · simp only [if_neg h1]; exact off
theorem SolidCommon : sawmilllaw11_SolidCommon.Pure := by
  intro l z0 z1 at_ x0 x1 y0 y1
  intros
  refine Ev.rounds ?_
  unfold sawmilllaw11_SolidCommon.f
  obtain ⟨b, hb⟩ := small11_ev l
  refine Ev.bind hb ?_
  cases b
  · simp only [Bool.false_eq_true, if_false]
    exact common_none l at_ z0 z1 x0 x1 y0 y1
  · simp only [if_true]
    refine Ev.bind (solid_Check_ev l) ?_
    by_cases h : solChk l = 0
    · have ok := (solOk_iff l).1 h
      simp only [if_pos h]
      by_cases h0 : z0 < 0
      · simp only [if_pos h0]; exact common_none l at_ z0 z1 x0 x1 y0 y1
      · simp only [if_neg h0]
        refine Ev.bind (solid_Length_ev l) ?_
        have el : lenZ l = sumZ l := by unfold lenZ; rw [if_pos h]
        rw [el]
        by_cases h1 : z1 > sumZ l
        · simp only [if_pos h1]; exact common_none l at_ z0 z1 x0 x1 y0 y1
        · simp only [if_neg h1]
          by_cases h2 : z0 ≥ z1
          · simp only [decide_eq_true h2]; exact common_none l at_ z0 z1 x0 x1 y0 y1
          · simp only [decide_eq_false h2]
            exact common_j0 ok at_ x0 x1 y0 y1 ⟨by omega, by omega, by omega⟩
    · simp only [if_neg h]; exact common_none l at_ z0 z1 x0 x1 y0 y1
end Go.Proofs.Ytboegckbilnldaa.Pure
