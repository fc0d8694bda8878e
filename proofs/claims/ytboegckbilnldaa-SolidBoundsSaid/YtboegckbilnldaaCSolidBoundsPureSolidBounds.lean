/- The pure statement of SolidBounds. -/
import Derived.Test.YtboegckbilnldaaCSolidBoundsV6
import Derived.Test.YtboegckbilnldaaCSolidBoundsTCut
import Derived.Test.YtboegckbilnldaaCSolidBoundsStmSolidBounds
set_option linter.unusedVariables false
namespace Go.Proofs.Ytboegckbilnldaa.Pure
open Go Go.RowKit Go.Proofs.Ytboegckbilnldaa.P Go.Proofs.YtboegckbilnldaaW.PrintWords Go.Proofs.YtboegckbilnldaaW.PrintLast Go.Proofs.YtboegckbilnldaaW.PrintMore
theorem bounds_end (l : List Slc) : Ev (fun k => sawmilllaw11_SolidBounds.j1 k l false) true := by
  refine Ev.step (fun k => by rw [sawmilllaw11_SolidBounds.j1, if_neg (by decide)]) ?_
  refine Ev.bind (solid_Bounds_ev l) (Ev.bind (solid_Length_ev l) (Ev.bind (solid_Within_ev _ _ _ _ _ _ _) (Ev.bind (solid_Volume_ev l) ?_)))
  simp only [volS_eq, witB_whole, if_true]
  exact Ev.bind awake11_ev (Ev.now _)
theorem rdI_at {xs : List Int} {i : Nat} {x : Int} (h : xs[i]? = some x) : rd xs (i : Int) = x := by
  unfold rd
  rw [Int.toNat_natCast, List.getD_eq_getElem?_getD, h]
  rfl
theorem SolidBounds : sawmilllaw11_SolidBounds.Pure := by
  intro l x0 x1 y0 y1 z0 z1 a0 a1 b0 b1 c0 c1
  intros
  refine Ev.rounds ?_
  unfold sawmilllaw11_SolidBounds.f
  simp only [Option.bind_some]
  have fin : (∀ n ∈ [x0, x1, y0, y1, z0, z1], -1000 ≤ n ∧ n ≤ 30000) → Ev (fun k => sawmilllaw11_SolidBounds.l0 k l [x0, x1, y0, y1, z0, z1] (6 : Nat) (6 : Nat) x0 x1 y0 y1 z0 z1 a0 a1 b0 b1 c0 c1) true := by
    intro hb
    simp only [List.mem_cons, forall_eq_or_imp, List.not_mem_nil, false_implies, implies_true, and_true] at hb
    refine Ev.step (fun k => by rw [sawmilllaw11_SolidBounds.l0, if_neg (by omega)]) ?_
    obtain ⟨b, hs⟩ := small11_ev l
    refine Ev.bind hs ?_
    cases b
    · simp only [Bool.false_eq_true, if_false]
      exact Ev.bind awake11_ev (Ev.now _)
    · simp only [if_true]
      refine Ev.bind (solid_Within_ev l x0 x1 y0 y1 z0 z1) ?_
      unfold sawmilllaw11_inner.f
      simp only [Option.bind_some, mx_eq, mn_eq]
      have h0 := witB_range l x0 x1 y0 y1 z0 z1
      have h1 := witB_box l x0 x1 y0 y1 z0 z1
      have h2 := witB_mono l x0 x1 y0 y1 z0 z1 a0 a1 b0 b1 c0 c1
      have p1 : 0 ≤ max 0 (x1 - x0) * max 0 (y1 - y0) ∧ max 0 (x1 - x0) * max 0 (y1 - y0) ≤ 31000 * 31000 := prod_range ⟨by omega, by omega⟩ ⟨by omega, by omega⟩
      have p2 : 0 ≤ max 0 (x1 - x0) * max 0 (y1 - y0) * max 0 (z1 - z0) ∧ max 0 (x1 - x0) * max 0 (y1 - y0) * max 0 (z1 - z0) ≤ 31000 * 31000 * 31000 := prod_range p1 ⟨by omega, by omega⟩
      have w1 : wrap64 (x1 - x0) = x1 - x0 := w64 (by omega) (by omega)
      have w2 : wrap64 (y1 - y0) = y1 - y0 := w64 (by omega) (by omega)
      have w3 : wrap64 (z1 - z0) = z1 - z0 := w64 (by omega) (by omega)
      have w4 : wrap64 (max 0 (x1 - x0) * max 0 (y1 - y0)) = max 0 (x1 - x0) * max 0 (y1 - y0) := w64 (by omega) (by omega)
      have w5 : wrap64 (max 0 (x1 - x0) * max 0 (y1 - y0) * max 0 (z1 - z0)) = max 0 (x1 - x0) * max 0 (y1 - y0) * max 0 (z1 - z0) := w64 (by omega) (by omega)
      simp only [w1, w2, w3, w4, w5]
      simp only [if_neg (show ¬ witB l x0 x1 y0 y1 z0 z1 < 0 by omega), if_neg (show ¬ witB l x0 x1 y0 y1 z0 z1 > max 0 (x1 - x0) * max 0 (y1 - y0) * max 0 (z1 - z0) by omega)]
      refine Ev.bind (solid_Within_ev l _ _ _ _ _ _) ?_
      simp only [decide_eq_false (show ¬ witB l (max x0 a0) (min x1 a1) (max y0 b0) (min y1 b1) (max z0 c0) (min z1 c1) > witB l x0 x1 y0 y1 z0 z1 by omega)]
      exact bounds_end l
  have go : ∀ (d i : Nat), 6 - i = d → i ≤ 6 → (∀ j, j < i → -1000 ≤ [x0, x1, y0, y1, z0, z1].getD j 0 ∧ [x0, x1, y0, y1, z0, z1].getD j 0 ≤ 30000) → Ev (fun k => sawmilllaw11_SolidBounds.l0 k l [x0, x1, y0, y1, z0, z1] (6 : Nat) (i : Int) x0 x1 y0 y1 z0 z1 a0 a1 b0 b1 c0 c1) true := by
    intro d
    induction d with
    | zero =>
      intro i hd hi hp
      have : i = 6 := by omega
      subst this
      refine fin (fun n hn => ?_)
      obtain ⟨j, hj, e⟩ := List.getElem_of_mem hn
      have := hp j (by simpa using hj)
      rw [List.getD_eq_getElem?_getD, List.getElem?_eq_getElem hj, e] at this
      exact this
    | succ d ih =>
      intro i hd hi hp
      have hlt : i < 6 := by omega
      have hg : [x0, x1, y0, y1, z0, z1][i]? = some ([x0, x1, y0, y1, z0, z1].getD i 0) := by
        rw [List.getD_eq_getElem?_getD, List.getElem?_eq_getElem (by simpa using hlt)]; rfl
      have hr := rdI_at hg
      have ws : wrap64 ((i : Int) + 1) = ((i + 1 : Nat) : Int) := wsucc hlt (by omega)
      refine Ev.step (fun k => by rw [sawmilllaw11_SolidBounds.l0, if_pos (by omega), if_pos (by omega), if_pos (by simp; omega), hr, ws]) ?_
      by_cases h1 : [x0, x1, y0, y1, z0, z1].getD i 0 < -1000
      · simp only [if_pos h1]; exact Ev.bind awake11_ev (Ev.now _)
      · simp only [if_neg h1]
        by_cases h2 : [x0, x1, y0, y1, z0, z1].getD i 0 > 30000
        · simp only [if_pos h2]; exact Ev.bind awake11_ev (Ev.now _)
        · simp only [if_neg h2]
          refine ih (i + 1) (by omega) (by omega) (fun j hj => ?_)
          by_cases e : j = i
          · subst e; omega
          · exact hp j (by omega)
  exact go 6 0 rfl (by omega) (fun j hj => by omega)
end Go.Proofs.Ytboegckbilnldaa.Pure
