/- The volume of solids, in the program and in the reference; the examples of chapter 11. -/
import Derived.Test.YtdgbecllbldcaaaCClassPricesV7
import Derived.Test.YtdgbecllbldcaaaCClassPricesTSol
set_option linter.unusedVariables false
set_option linter.unusedSimpArgs false
namespace Go.Proofs.Ytdgbecllbldcaaa.P
open Go Go.RowKit Go.Proofs.YtdgbecllbldcaaaW.PrintWords Go.Proofs.YtdgbecllbldcaaaW.PrintLast Go.Proofs.YtdgbecllbldcaaaW.PrintMore
/-- The volumes of slices together. -/
def volL : List Slc → Int
  | [] => 0
  | s :: r => s.f0 * areaS s.f1.f0 s.f1.f1 + volL r
/-- The volumes of parts together. -/
def volP : List Prt → Int
  | [] => 0
  | p :: r => (p.f0.f1 - p.f0.f0) * areaS p.f1.f0 p.f1.f1 + volP r
theorem rdP_at {xs : List Prt} {i : Nat} {x : Prt} (h : xs[i]? = some x) : rd_T68 xs (i : Int) = x := by
  unfold rd_T68
  rw [Int.toNat_natCast, List.getD_eq_getElem?_getD, h]
  rfl
theorem mul_area {n a : Int} (h1 : 0 ≤ n) (h2 : 0 ≤ a ∧ a ≤ 1440000) : 0 ≤ n * a ∧ n * a ≤ 1440000 * n := by
  refine ⟨Int.mul_nonneg h1 h2.1, ?_⟩
  have := Int.mul_le_mul_of_nonneg_left h2.2 h1
  omega
/-- Parts that are not empty and not longer than a solid. -/
structure PartsOk (ps : List Prt) : Prop where
  len : ps.length ≤ 24
  each : ∀ p ∈ ps, 0 ≤ p.f0.f0 ∧ p.f0.f0 ≤ p.f0.f1 ∧ p.f0.f1 ≤ 20000
theorem solid_Volume_l0 {ps : List Prt} (ok : PartsOk ps) : Ev (fun k => solid_Volume.l0 k 0 ps (ps.length : Int) 0) (volP ps) := by
  have hn := ok.len
  refine evEq (Ev.list0 (σ := Int) ps (fun k i s => solid_Volume.l0 k s ps (ps.length : Int) i) (fun suf s => s + volP suf) (fun i s => 0 ≤ s ∧ s ≤ 28800000000 * i) ?_ ?_ 0 (by simp)) (by omega)
  · intro s _
    exact Ev.step (f := fun _ => some s) (fun k => by rw [solid_Volume.l0, if_neg (by omega)]) (evEq (Ev.now _) (by simp [volP]))
  · intro i x suf s hs hi hx ih
    have hr := rdP_at hx
    have hp := ok.each x (List.mem_of_getElem? hx)
    have a := areaS_range x.f1.f0 x.f1.f1
    have m := mul_area (n := x.f0.f1 - x.f0.f0) (by omega) a
    refine Ev.step (fun k => by rw [solid_Volume.l0, if_pos (by omega), if_pos (by omega), if_pos (by omega), hr]) ?_
    refine Ev.bind (section_Area_ev _ _) ?_
    have w1 : wrap64 (x.f0.f1 - x.f0.f0) = x.f0.f1 - x.f0.f0 := w64 (by omega) (by omega)
    have w2 : wrap64 ((x.f0.f1 - x.f0.f0) * areaS x.f1.f0 x.f1.f1) = (x.f0.f1 - x.f0.f0) * areaS x.f1.f0 x.f1.f1 := w64 (by omega) (by omega)
    have w3 : wrap64 (s + (x.f0.f1 - x.f0.f0) * areaS x.f1.f0 x.f1.f1) = s + (x.f0.f1 - x.f0.f0) * areaS x.f1.f0 x.f1.f1 := w64 (by omega) (by omega)
    simp only [w1, w2, w3]
    rw [wsucc hi (by omega)]
    exact evEq (ih _ ⟨by omega, by omega⟩) (by simp only [volP]; omega)
theorem partsL_ok {za zb : Int} : ∀ (l : List Slc) (p : Int), 0 ≤ p → (∀ s ∈ l, 1 ≤ s.f0) → p + sumZ l ≤ 20000 → ∀ q ∈ partsL za zb l p, 0 ≤ q.f0.f0 ∧ q.f0.f0 ≤ q.f0.f1 ∧ q.f0.f1 ≤ 20000
  | [], p, _, _, _ => by intro q hq; cases hq
  | s :: r, p, h0, h1, h2 => by
    have hs := h1 s (by simp)
    have hr : ∀ x ∈ r, 1 ≤ x.f0 := fun x hx => h1 x (by simp [hx])
    have := sumZ_nonneg hr
    simp only [sumZ] at h2
    have ih := partsL_ok (za := za) (zb := zb) r (p + s.f0) (by omega) hr (by omega)
    intro q hq
    simp only [partsL] at hq
    split at hq
    · rcases List.mem_cons.1 hq with e | hq
      · subst e; simp only; omega
      · exact ih q hq
    · exact ih q hq
theorem partsL_len {za zb : Int} : ∀ (l : List Slc) (p : Int), (partsL za zb l p).length ≤ l.length
  | [], p => by simp [partsL]
  | s :: r, p => by
    have := partsL_len (za := za) (zb := zb) r (p + s.f0)
    simp only [partsL]
    split <;> simp <;> omega
theorem partsS_ok (l : List Slc) (za zb : Int) : PartsOk (partsS l za zb) := by
  unfold partsS
  by_cases h : solChk l = 0
  · have ok := (solOk_iff l).1 h
    rw [if_pos h]
    exact ⟨Nat.le_trans (partsL_len l 0) ok.len, partsL_ok l 0 (by omega) ok.pos (by have := ok.sum; omega)⟩
  · rw [if_neg h]
    exact ⟨by simp, fun p hp => by cases hp⟩
theorem solid_Volume_ev (l : List Slc) : Ev (fun k => solid_Volume.f k l) (volP (partsS l 0 20000)) := by
  unfold solid_Volume.f solid_whole.f
  simp only [Option.bind_some]
  exact Ev.bind (solid_parts_ev l 0 20000) (solid_Volume_l0 (partsS_ok l 0 20000))
theorem volP_all : ∀ (l : List Slc) (p : Int), volP (allP l p) = volL l
  | [], _ => rfl
  | s :: r, p => by
    simp only [allP, volP, volL, volP_all r]
    rw [show p + s.f0 - p = s.f0 by omega]
def volS (l : List Slc) : Int := if solChk l = 0 then volL l else 0
theorem volS_eq (l : List Slc) : volP (partsS l 0 20000) = volS l := by
  unfold volS
  by_cases h : solChk l = 0
  · rw [if_pos h, partsS_whole ((solOk_iff l).1 h), volP_all]
  · unfold partsS
    rw [if_neg h, if_neg h]
    rfl
theorem r11_Volume_ev (l : List Slc) : Ev (fun k => sawmillref11_Volume.f k l) (volS l) := by
  unfold sawmillref11_Volume.f volS
  refine Ev.bind (r11_Check_ev l) ?_
  by_cases h : solChk l = 0
  · have ok := (solOk_iff l).1 h
    have hn := ok.len
    simp only [if_pos h]
    refine evEq (Ev.list0 (σ := Int) l (fun k i s => sawmillref11_Volume.l0 k l s i) (fun suf s => s + volL suf) (fun i s => 0 ≤ s ∧ s ≤ 28800000000 * i) ?_ ?_ 0 (by simp)) (by omega)
    · intro s _
      exact Ev.step (f := fun _ => some s) (fun k => by rw [sawmillref11_Volume.l0, if_neg (by omega)]) (evEq (Ev.now _) (by simp [volL]))
    · intro i x suf s hs hi hx ih
      have hr := rdL_at hx
      have hm := List.mem_of_getElem? hx
      have hp := ok.pos x hm
      have e1 := sumZ_take_succ hx
      have r1 := sumZ_take ok.pos (i + 1)
      have r0 := sumZ_take ok.pos i
      have := ok.sum
      have m := mul_area (n := x.f0) (by omega) (areaS_range x.f1.f0 x.f1.f1)
      refine Ev.step (fun k => by rw [sawmillref11_Volume.l0, if_pos (by omega), if_pos (by omega), hr]) ?_
      refine Ev.bind (r10_Area_ev _ _) ?_
      have w2 : wrap64 (x.f0 * areaS x.f1.f0 x.f1.f1) = x.f0 * areaS x.f1.f0 x.f1.f1 := w64 (by omega) (by omega)
      have w3 : wrap64 (s + x.f0 * areaS x.f1.f0 x.f1.f1) = s + x.f0 * areaS x.f1.f0 x.f1.f1 := w64 (by omega) (by omega)
      simp only [w2, w3]
      rw [wsucc hi (by omega)]
      exact evEq (ih _ ⟨by omega, by omega⟩) (by simp only [volL]; omega)
  · simp only [if_neg h]; exact Ev.now _
end Go.Proofs.Ytdgbecllbldcaaa.P
