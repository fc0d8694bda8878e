/- Top and Taper of solids, in the program and in the reference. -/
import Derived.Test.YtdgbecllbldcaaaCClassLongerV4
import Derived.Test.YtdgbecllbldcaaaCClassLongerTSol
import Derived.Test.YtdgbecllbldcaaaCClassLongerTDia
import Derived.Test.YtdgbecllbldcaaaCClassLongerTFlo
set_option linter.unusedVariables false
set_option linter.unusedSimpArgs false
namespace Go.Proofs.Ytdgbecllbldcaaa.P
open Go Go.RowKit Go.Proofs.YtdgbecllbldcaaaW.PrintWords Go.Proofs.YtdgbecllbldcaaaW.PrintLast Go.Proofs.YtdgbecllbldcaaaW.PrintMore
theorem rdL_last {l : List Slc} (h : 0 < l.length) : rd_T58 l ((l.length : Int) - 1) = l.getD (l.length - 1) z58 := by
  unfold rd_T58
  rw [show ((l.length : Int) - 1).toNat = l.length - 1 by omega]
theorem rdL_first (l : List Slc) : rd_T58 l 0 = l.getD 0 z58 := rfl
def fstL (l : List Slc) : Slc := l.getD 0 z58
def lstL (l : List Slc) : Slc := l.getD (l.length - 1) z58
noncomputable def topS (l : List Slc) : Int := if solChk l = 0 then diaS (lstL l).f1.f0 (lstL l).f1.f1 else 0
theorem shape_Top_ev (l : List Slc) : Ev (fun k => shape_Top.f k l) (topS l) := by
  unfold shape_Top.f topS
  refine Ev.bind (solid_Check_ev l) ?_
  by_cases h : solChk l = 0
  · have ok := (solOk_iff l).1 h
    have h1 := ok.len0
    have h2 := ok.len
    have hw : wrap64 ((l.length : Int) - 1) = (l.length : Int) - 1 := w64 (by omega) (by omega)
    have c1 : (0 : Int) ≤ (l.length : Int) - 1 := by omega
    have c2 : (l.length : Int) - 1 < (l.length : Int) := by omega
    simp only [if_pos h, hw, if_pos c1, if_pos c2, rdL_last h1]
    exact Ev.bind (shape_Diameter_ev _ _) (Ev.now _)
  · simp only [if_neg h]; exact Ev.now _
theorem diaS_range (low : Int) (rows : List Sp) : 0 ≤ diaS low rows ∧ diaS low rows ≤ 1354 := by
  have r := diaS_root low rows
  have a := areaS_range low rows
  have := r.1
  refine ⟨r.1, ?_⟩
  have h2 : diaS low rows * diaS low rows < 1355 * 1355 := Int.lt_of_le_of_lt r.2.1 (by omega)
  have := sq_lt_of r.1 (by omega) h2
  omega
theorem topS_range (l : List Slc) : 0 ≤ topS l ∧ topS l ≤ 1354 := by
  unfold topS
  split
  · exact diaS_range _ _
  · omega
noncomputable def tapS (l : List Slc) : Int := if solChk l = 0 then max 0 (diaS (fstL l).f1.f0 (fstL l).f1.f1 - topS l) * 10000 / sumZ l else 0
theorem sumZ_pos {l : List Slc} (ok : SolOk l) : 1 ≤ sumZ l := by
  cases l with
  | nil => have := ok.len0; simp at this
  | cons a t =>
    have := ok.pos a (by simp)
    have := sumZ_nonneg (l := t) (fun s hs => ok.pos s (by simp [hs]))
    simp only [sumZ]; omega
theorem shape_Taper_ev (l : List Slc) : Ev (fun k => shape_Taper.f k l) (tapS l) := by
  unfold shape_Taper.f tapS
  refine Ev.bind (solid_Check_ev l) ?_
  by_cases h : solChk l = 0
  · have ok := (solOk_iff l).1 h
    have h1 := ok.len0
    have p := sumZ_pos ok
    have p2 := ok.sum
    have d := diaS_range (fstL l).f1.f0 (fstL l).f1.f1
    have t := topS_range l
    have e0 : lenZ l = sumZ l := by unfold lenZ; rw [if_pos h]
    have c0 : (0 : Int) < (l.length : Int) := by omega
    simp only [if_pos h, if_pos c0, rdL_first]
    refine Ev.bind (shape_Diameter_ev _ _) (Ev.bind (shape_Top_ev l) (Ev.bind (solid_Length_ev l) ?_))
    change Ev (fun k => if lenZ l = 0 then none else some (wrap64 (Int.tdiv (wrap64 (mx 0 (wrap64 (diaS (fstL l).f1.f0 (fstL l).f1.f1 - topS l)) * 10000)) (lenZ l)))) _
    rw [e0, if_neg (by omega), w64 (n := diaS (fstL l).f1.f0 (fstL l).f1.f1 - topS l) (by omega) (by omega), mx_eq, w64 (n := max 0 (diaS (fstL l).f1.f0 (fstL l).f1.f1 - topS l) * 10000) (by omega) (by omega)]
    rw [Int.tdiv_eq_ediv_of_nonneg (by omega)]
    obtain ⟨⟨q1, q2⟩, _⟩ := quot (a := max 0 (diaS (fstL l).f1.f0 (fstL l).f1.f1 - topS l) * 10000) (b := sumZ l) (by omega) (by omega) (by omega) (by omega)
    rw [w64 (by omega) (by omega)]
    exact Ev.now _
  · simp only [if_neg h]; exact Ev.now _
end Go.Proofs.Ytdgbecllbldcaaa.P
