/- Solids that are reversed, in the program and in the reference. -/
import Derived.Test.YtboegckbilnldaaCSolidReverseV5
import Derived.Test.YtboegckbilnldaaCSolidReverseTPar
set_option linter.unusedVariables false
set_option linter.unusedSimpArgs false
namespace Go.Proofs.Ytboegckbilnldaa.P
open Go Go.RowKit Go.Proofs.YtboegckbilnldaaW.PrintWords Go.Proofs.YtboegckbilnldaaW.PrintLast Go.Proofs.YtboegckbilnldaaW.PrintMore
theorem cut_all : ∀ (l : List Slc) (p : Int), cutP (allP l p) = l
  | [], _ => rfl
  | s :: r, p => by
    have := cut_all r (p + s.f0)
    simp only [allP, cutP, List.map_cons] at this ⊢
    rw [this, show p + s.f0 - p = s.f0 by omega]
/-- The solid reversed, if it is one. -/
def revL (l : List Slc) : List Slc := if solChk l = 0 then l.reverse else []
theorem solid_Reverse_ev (l : List Slc) : Ev (fun k => solid_Reverse.f k l) (revL l) := by
  unfold solid_Reverse.f solid_whole.f
  simp only [Option.bind_some]
  refine Ev.bind (solid_Cut_ev l 0 20000) (evEq (Ev.now _) ?_)
  unfold revL cutS
  by_cases h : solChk l = 0
  · rw [if_pos h, partsS_whole ((solOk_iff l).1 h), cut_all]
  · unfold partsS
    rw [if_neg h, if_neg h]; rfl
theorem sumZ_rev : ∀ (l : List Slc), sumZ l.reverse = sumZ l
  | [] => rfl
  | s :: r => by rw [List.reverse_cons, sumZ_append, sumZ_rev r]; simp only [sumZ]; omega
theorem rev_ok {l : List Slc} (ok : SolOk l) : SolOk l.reverse :=
  ⟨by simpa using ok.len0, by simpa using ok.len, fun s hs => ok.sec s (by simpa using hs), fun s hs => ok.rows s (by simpa using hs), fun s hs => ok.pos s (by simpa using hs), by rw [sumZ_rev]; exact ok.sum⟩
/-! ### mirrored boxes -/
theorem witZ_append (x0 x1 y0 y1 z0 z1 : Int) : ∀ (a b : List Slc) (p : Int), witZ x0 x1 y0 y1 z0 z1 (a ++ b) p = witZ x0 x1 y0 y1 z0 z1 a p + witZ x0 x1 y0 y1 z0 z1 b (p + sumZ a)
  | [], b, p => by simp [witZ, sumZ]
  | s :: r, b, p => by
    simp only [List.cons_append, witZ, sumZ]
    rw [witZ_append x0 x1 y0 y1 z0 z1 r b (p + s.f0), show p + s.f0 + sumZ r = p + (s.f0 + sumZ r) by omega]
    omega
theorem witZ_rev (x0 x1 y0 y1 z0 z1 M : Int) : ∀ (l : List Slc) (p : Int), (∀ s ∈ l, 1 ≤ s.f0) → witZ x0 x1 y0 y1 (M - z1) (M - z0) l.reverse (M - p - sumZ l) = witZ x0 x1 y0 y1 z0 z1 l p
  | [], p, _ => rfl
  | s :: r, p, h => by
    have hs := h s (by simp)
    have ih := witZ_rev x0 x1 y0 y1 z0 z1 M r (p + s.f0) (fun x hx => h x (by simp [hx]))
    rw [List.reverse_cons, witZ_append, sumZ_rev]
    simp only [sumZ, witZ]
    rw [show M - p - (s.f0 + sumZ r) = M - (p + s.f0) - sumZ r by omega, ih, show M - (p + s.f0) - sumZ r + sumZ r = M - p - s.f0 by omega]
    rw [show ov (M - p - s.f0) (M - p - s.f0 + s.f0) (M - z1) (M - z0) = ov p (p + s.f0) z0 z1 by unfold ov; omega]
    omega
theorem volL_append : ∀ (a b : List Slc), volL (a ++ b) = volL a + volL b
  | [], b => by simp [volL]
  | s :: r, b => by simp only [List.cons_append, volL, volL_append r b]; omega
theorem volL_rev : ∀ (l : List Slc), volL l.reverse = volL l
  | [] => rfl
  | s :: r => by rw [List.reverse_cons, volL_append, volL_rev r]; simp only [volL]; omega
end Go.Proofs.Ytboegckbilnldaa.P
