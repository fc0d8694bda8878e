/- The measures of sections, in the program and in the reference; the examples. -/
import Derived.Test.YtdgbecllbldcaaaCClassLongerV4
import Derived.Test.YtdgbecllbldcaaaCClassLongerTDia
set_option linter.unusedVariables false
set_option linter.unusedSimpArgs false
namespace Go.Proofs.Ytdgbecllbldcaaa.P
open Go Go.RowKit Go.Proofs.YtdgbecllbldcaaaW.PrintWords Go.Proofs.YtdgbecllbldcaaaW.PrintLast Go.Proofs.YtdgbecllbldcaaaW.PrintMore
theorem validS_bad {low : Int} {rows : List Sp} (h : secChk low rows ≠ 0) : validS low rows = (0, []) := by
  unfold validS
  rw [if_neg h]
theorem bndS_bad {low : Int} {rows : List Sp} (h : secChk low rows ≠ 0) : bndS low rows = (0, 0, 0, 0) := by
  unfold bndS
  rw [validS_bad h]
  rfl
theorem shape_bounds_ev (low : Int) (rows : List Sp) : Ev (fun k => shape_bounds.f k low rows) (bndS low rows) := by
  unfold shape_bounds.f
  refine Ev.bind (section_Check_ev low rows) ?_
  by_cases hc : secChk low rows = 0
  · simp only [if_pos hc]
    exact Ev.bind (section_Bounds_ev low rows) (Ev.now _)
  · simp only [if_neg hc]
    exact evEq (Ev.now _) (bndS_bad hc).symm
theorem bndX_range : ∀ (rs : List Sp) (a b : Int), (∀ r ∈ rs, -600 ≤ r.f0 ∧ r.f0 ≤ 600 ∧ -600 ≤ r.f1 ∧ r.f1 ≤ 600) → -600 ≤ a → a ≤ 600 → -600 ≤ b → b ≤ 600 →
    -600 ≤ (bndX rs a b).1 ∧ (bndX rs a b).1 ≤ 600 ∧ -600 ≤ (bndX rs a b).2 ∧ (bndX rs a b).2 ≤ 600
  | [], a, b, _, h1, h2, h3, h4 => ⟨h1, h2, h3, h4⟩
  | r :: rs, a, b, h, h1, h2, h3, h4 => by
    have hr := h r (by simp)
    have ht : ∀ x ∈ rs, -600 ≤ x.f0 ∧ x.f0 ≤ 600 ∧ -600 ≤ x.f1 ∧ x.f1 ≤ 600 := fun x hx => h x (by simp [hx])
    unfold bndX
    split
    · exact bndX_range rs a b ht h1 h2 h3 h4
    · have e1 := mn_eq a r.f0
      have e2 := mx_eq b r.f1
      exact bndX_range rs _ _ ht (by omega) (by omega) (by omega) (by omega)
theorem getD_mem {rs : List Sp} (h : rs ≠ []) : rs.getD 0 z44 ∈ rs := by
  cases rs with
  | nil => exact absurd rfl h
  | cons a l => simp
/-- The bounds are small. -/
theorem bndS_range (low : Int) (rows : List Sp) : -600 ≤ (bndS low rows).1 ∧ (bndS low rows).1 ≤ 600 ∧ -600 ≤ (bndS low rows).2.1 ∧ (bndS low rows).2.1 ≤ 600 ∧ -600 ≤ (bndS low rows).2.2.1 ∧ (bndS low rows).2.2.1 ≤ 600 ∧ -600 ≤ (bndS low rows).2.2.2 ∧ (bndS low rows).2.2.2 ≤ 600 := by
  have ok := validS_ok low rows
  unfold bndS
  generalize validS low rows = v at ok ⊢
  obtain ⟨lo, rs⟩ := v
  simp only at ok ⊢
  unfold bndV
  by_cases h0 : rs = []
  · simp [h0]
  · rw [if_neg h0]
    have hm := ok.inr _ (getD_mem h0)
    have hb := bndX_range rs _ _ ok.inr hm.1 hm.2.1 hm.2.2.1 hm.2.2.2
    have h1 := ok.lo
    have h2 := ok.hi
    have h3 : 0 < rs.length := List.length_pos_iff.2 h0
    refine ⟨hb.1, hb.2.1, hb.2.2.1, hb.2.2.2, by simp only; omega, by simp only; omega, by simp only; omega, by simp only; omega⟩
def cenS (low : Int) (rows : List Sp) : Int × Int := ((bndS low rows).1 + (bndS low rows).2.1, (bndS low rows).2.2.1 + (bndS low rows).2.2.2)
theorem shape_Center2_ev (low : Int) (rows : List Sp) : Ev (fun k => shape_Center2.f k low rows) (cenS low rows) := by
  have h := bndS_range low rows
  unfold shape_Center2.f
  refine Ev.bind (shape_bounds_ev low rows) ?_
  rw [w64 (by omega) (by omega), w64 (by omega) (by omega)]
  exact Ev.now _
end Go.Proofs.Ytdgbecllbldcaaa.P
