/- Solids that are reversed, in the program and in the reference. -/
import Derived.Test.YtboegckbilnldaaCSolidTurnsV5
import Derived.Test.YtboegckbilnldaaCSolidTurnsTPar
set_option linter.unusedVariables false
set_option linter.unusedSimpArgs false
namespace Go.Proofs.Ytboegckbilnldaa.P
open Go Go.RowKit Go.Proofs.YtboegckbilnldaaW.PrintWords Go.Proofs.YtboegckbilnldaaW.PrintLast Go.Proofs.YtboegckbilnldaaW.PrintMore
theorem cut_all : ∀ (l : List Slc) (p : Int), cutP (allP l p) = l
  | [], _ => rfl
  | s :: r, p => by
    have := cut_all r (p + s.f0)
    simp only [allP, cutP, List.map_cons] at this ⊢
    rw [this, show p + s.f0 - p = s.f0 by omega]
/-- The solid reversed, if it is one. -/
def revL (l : List Slc) : List Slc := if solChk l = 0 then l.reverse else []
theorem solid_Reverse_ev (l : List Slc) : Ev (fun k => solid_Reverse.f k l) (revL l) := by
  unfold solid_Reverse.f solid_whole.f
  simp only [Option.bind_some]
  refine Ev.bind (solid_Cut_ev l 0 20000) (evEq (Ev.now _) ?_)
  unfold revL cutS
  by_cases h : solChk l = 0
  · rw [if_pos h, partsS_whole ((solOk_iff l).1 h), cut_all]
  · unfold partsS
    rw [if_neg h, if_neg h]; rfl
/-! ### the reference -/
theorem r11_Reverse_l0 {l : List Slc} (hn : l.length ≤ 1000) : ∀ (i : Nat) (acc : List Slc), i ≤ l.length → acc.length + i ≤ 2000 → Ev (fun k => sawmillref11_Reverse.l0 k l acc ((i : Int) - 1)) (acc ++ (l.take i).reverse)
  | 0, acc, _, _ => Ev.step (f := fun _ => some acc) (fun k => by rw [sawmillref11_Reverse.l0, if_neg (by omega)]) (evEq (Ev.now _) (by simp))
  | i + 1, acc, h, ha => by
    have hi : i < l.length := by omega
    have ih := r11_Reverse_l0 hn i (acc ++ [l[i]]) (by omega) (by simp; omega)
    have hr := rdL_at (List.getElem?_eq_getElem hi)
    refine Ev.step (f := fun k => sawmillref11_Reverse.l0 k l (acc ++ [l[i]]) ((i : Int) - 1)) (fun k => ?_) (evEq ih ?_)
    · rw [show (((i + 1 : Nat) : Int) - 1) = (i : Int) by omega, sawmillref11_Reverse.l0, if_pos (by omega), if_pos (by omega), if_pos (by omega), if_pos (by omega), hr, w64 (by omega) (by omega)]
    · rw [List.take_add_one, List.getElem?_eq_getElem hi, Option.toList_some, List.reverse_append, List.reverse_singleton, List.append_assoc]
theorem r11_Reverse_ev (l : List Slc) : Ev (fun k => sawmillref11_Reverse.f k l) (revL l) := by
  unfold sawmillref11_Reverse.f revL
  refine Ev.bind (r11_Check_ev l) ?_
  by_cases h : solChk l = 0
  · have ok := (solOk_iff l).1 h
    have hn := ok.len
    simp only [if_pos h]
    rw [w64 (n := (l.length : Int) - 1) (by omega) (by omega)]
    exact evEq (r11_Reverse_l0 (by omega) l.length [] (Nat.le_refl _) (by simp; omega)) (by simp)
  · simp only [if_neg h]; exact Ev.now _
theorem revL_rows (l : List Slc) : (revL l).length ≤ 1000 ∧ ∀ s ∈ revL l, s.f1.f1.length ≤ 1000 := by
  unfold revL
  by_cases h : solChk l = 0
  · have ok := (solOk_iff l).1 h
    have := ok.len
    rw [if_pos h]
    refine ⟨by simp; omega, fun s hs => ?_⟩
    have := (secOk_of (ok.sec s (by simpa using hs))).len
    omega
  · rw [if_neg h]; exact ⟨by simp, fun s hs => by cases hs⟩
def bndC : List Slc → Int × Int × Int × Int → Int × Int × Int × Int
  | [], a => a
  | s :: r, a => bndC r (joinB a (bndS s.f1.f0 s.f1.f1))
theorem bndC_eq : ∀ (l : List Slc) (p : Int) (a : Int × Int × Int × Int), bndP (allP l p) false a = bndC l a
  | [], _, _ => rfl
  | s :: r, p, a => by
    simp only [allP, bndP, bndC, Bool.false_eq_true, if_false]
    exact bndC_eq r (p + s.f0) _
theorem r11_Bounds_ev (l : List Slc) : Ev (fun k => sawmillref11_Bounds.f k l) (bndA l) := by
  unfold sawmillref11_Bounds.f bndA
  refine Ev.bind (r11_Check_ev l) ?_
  by_cases h : solChk l = 0
  · have ok := (solOk_iff l).1 h
    have hn := ok.len
    have h0 := ok.len0
    simp only [if_pos h, if_pos (show 0 < (l.length : Int) by omega)]
    refine Ev.bind (r10_Bounds_ev _ _) ?_
    rw [partsS_whole ok]
    cases l with
    | nil => simp at h0
    | cons s r =>
      have e0 : rd_T60 (s :: r) 0 = s := rfl
      rw [e0]
      have key := Ev.list (σ := Int × Int × Int × Int) (s :: r) (fun k i t => sawmillref11_Bounds.l0 k (s :: r) i t.1 t.2.1 t.2.2.1 t.2.2.2) bndC (fun _ _ => True) ?_ ?_ _ 1 (bndS s.f1.f0 s.f1.f1) rfl (by simp) trivial
      · refine evEq key ?_
        simp only [allP, bndP, if_true]
        exact (bndC_eq r _ _).symm
      · rintro ⟨a, b, c, d⟩ _
        exact Ev.step (f := fun _ => some (a, b, c, d)) (fun k => by rw [sawmillref11_Bounds.l0, if_neg (by omega)]) (Ev.now _)
      · rintro i x suf ⟨a, b, c, d⟩ _ hi hx ih
        have hr := rdL_at hx
        refine Ev.step (fun k => by rw [sawmillref11_Bounds.l0, if_pos (by omega), if_pos (by omega), hr]) ?_
        refine Ev.bind (r10_Bounds_ev _ _) ?_
        rw [wsucc hi (by omega)]
        exact ih (joinB (a, b, c, d) (bndS x.f1.f0 x.f1.f1)) trivial
  · simp only [if_neg h]
    unfold partsS
    rw [if_neg h]
    exact Ev.now _
end Go.Proofs.Ytboegckbilnldaa.P
