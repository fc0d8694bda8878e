/- Solids that are reversed. -/
import Derived.Test.YtdbjoopkliafeaaCShapeEndsV4
import Derived.Test.YtdbjoopkliafeaaCShapeEndsTAlo
set_option linter.unusedVariables false
set_option linter.unusedSimpArgs false
namespace Go.Proofs.Ytdbjoopkliafeaa.P
open Go Go.RowKit Go.Proofs.YtdbjoopkliafeaaW.PrintWords Go.Proofs.YtdbjoopkliafeaaW.PrintLast Go.Proofs.YtdbjoopkliafeaaW.PrintMore
theorem cut_all : ∀ (l : List Slc) (p : Int), cutP (allP l p) = l
  | [], _ => rfl
  | s :: r, p => by
    have := cut_all r (p + s.f0)
    simp only [allP, cutP, List.map_cons] at this ⊢
    rw [this, show p + s.f0 - p = s.f0 by omega]
/-- The solid reversed, if it is one. -/
def revL (l : List Slc) : List Slc := if solChk l = 0 then l.reverse else []
theorem solid_Reverse_ev (l : List Slc) : Ev (fun k => solid_Reverse.f k l) (revL l) := by
  unfold solid_Reverse.f solid_whole.f
  simp only [Option.bind_some]
  refine Ev.bind (solid_Cut_ev l 0 20000) (evEq (Ev.now _) ?_)
  unfold revL cutS
  by_cases h : solChk l = 0
  · rw [if_pos h, partsS_whole ((solOk_iff l).1 h), cut_all]
  · unfold partsS
    rw [if_neg h, if_neg h]; rfl
theorem sumZ_rev : ∀ (l : List Slc), sumZ l.reverse = sumZ l
  | [] => rfl
  | s :: r => by rw [List.reverse_cons, sumZ_append, sumZ_rev r]; simp only [sumZ]; omega
theorem rev_ok {l : List Slc} (ok : SolOk l) : SolOk l.reverse :=
  ⟨by simpa using ok.len0, by simpa using ok.len, fun s hs => ok.sec s (by simpa using hs), fun s hs => ok.rows s (by simpa using hs), fun s hs => ok.pos s (by simpa using hs), by rw [sumZ_rev]; exact ok.sum⟩
theorem lst_rev {l : List Slc} (h : 0 < l.length) : lstL l.reverse = fstL l := by
  unfold lstL fstL
  rw [List.getD_eq_getElem?_getD, List.getD_eq_getElem?_getD, List.length_reverse, List.getElem?_reverse (by omega), show l.length - 1 - (l.length - 1) = 0 by omega]
theorem fst_rev {l : List Slc} (h : 0 < l.length) : fstL l.reverse = lstL l := by
  unfold lstL fstL
  rw [List.getD_eq_getElem?_getD, List.getD_eq_getElem?_getD, List.getElem?_reverse h, Nat.sub_zero]
end Go.Proofs.Ytdbjoopkliafeaa.P
