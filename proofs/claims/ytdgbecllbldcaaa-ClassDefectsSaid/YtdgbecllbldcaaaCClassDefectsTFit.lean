/- Classes of logs: Fits, Of and Price, in the program and in the reference. -/
import Derived.Test.YtdgbecllbldcaaaCClassDefectsV4
import Derived.Test.YtdgbecllbldcaaaCClassDefectsTCls
import Derived.Test.YtdgbecllbldcaaaCClassDefectsTDef
import Derived.Test.YtdgbecllbldcaaaCClassDefectsTSweep
import Derived.Test.YtdgbecllbldcaaaCClassDefectsTVol
set_option linter.unusedVariables false
set_option linter.unusedSimpArgs false
namespace Go.Proofs.Ytdgbecllbldcaaa.P
open Go Go.RowKit Go.Proofs.YtdgbecllbldcaaaW.PrintWords Go.Proofs.YtdgbecllbldcaaaW.PrintLast Go.Proofs.YtdgbecllbldcaaaW.PrintMore
theorem few_ev (l : List Slc) (d : List Dfc) : ∃ b, Ev (fun k => sawmilllaw16_few.f k l d) b := by
  have hl : ∀ (n : l.length ≤ 30), Ev (fun k => sawmilllaw16_few.l0 k 0 l d) (l.all fun s => decide ((s.f1.f1.length : Int) ≤ 130)) := fun n => by
    refine Ev.list0 (σ := Unit) l (fun k i _ => sawmilllaw16_few.l0 k i l d) (fun suf _ => suf.all fun s => decide ((s.f1.f1.length : Int) ≤ 130)) (fun _ _ => True) ?_ ?_ () trivial
    · intro s _
      exact Ev.step (f := fun _ => some true) (fun k => by rw [sawmilllaw16_few.l0, if_neg (by omega)]) (evEq (Ev.now _) (by simp))
    · intro i x suf s _ hi hx ih
      have hr := rdL_at hx
      by_cases h1 : (x.f1.f1.length : Int) > 130
      · exact Ev.step (f := fun _ => some false) (fun k => by rw [sawmilllaw16_few.l0, if_pos (by omega), if_pos (by omega), hr, if_pos h1]) (evEq (Ev.now _) (by simp; omega))
      · exact Ev.step (f := fun k => sawmilllaw16_few.l0 k ((i + 1 : Nat) : Int) l d) (fun k => by rw [sawmilllaw16_few.l0, if_pos (by omega), if_pos (by omega), hr, if_neg h1, wsucc hi (by omega)]) (evEq (ih () trivial) (by simp; omega))
  unfold sawmilllaw16_few.f
  by_cases h0 : (l.length : Int) > 30
  · simp only [if_pos h0]
    exact ⟨_, Ev.step (f := fun _ => some false) (fun k => by rw [sawmilllaw16_few.j0, if_pos rfl]) (Ev.now _)⟩
  · simp only [if_neg h0]
    by_cases h1 : (d.length : Int) > 100
    · rw [decide_eq_true h1]
      exact ⟨_, Ev.step (f := fun _ => some false) (fun k => by rw [sawmilllaw16_few.j0, if_pos rfl]) (Ev.now _)⟩
    · rw [decide_eq_false h1]
      exact ⟨_, Ev.step (f := fun k => sawmilllaw16_few.l0 k 0 l d) (fun k => by rw [sawmilllaw16_few.j0, if_neg (by decide)]) (hl (by omega))⟩
/-- The measures of a log: top, length, sweep, taper, knots, rot. -/
noncomputable def measS (l : List Slc) (d : List Dfc) : Option (Int × Int × Int × Int × Int × Int) :=
  if solChk l = 0 then (if defChk d = 0 then some (topS l, lenZ l, sweS l, tapS l, (cnt 1 d : Int) + (cnt 2 d : Int), (cnt 3 d : Int)) else none) else none
noncomputable def fitS (l : List Slc) (d : List Dfc) (c : Cls) : Bool := match measS l d with
  | none => false
  | some m => fitB m c
theorem measured_ev (l : List Slc) (d : List Dfc) : Ev (fun k => class_measured.f k l d) (measS l d) := by
  unfold class_measured.f measS
  refine Ev.bind (solid_Check_ev l) ?_
  by_cases h0 : solChk l = 0
  · have c0 : ¬ (solChk l != 0) = true := by rw [h0]; decide
    simp only [if_neg c0, if_pos h0]
    refine Ev.bind (defect_Check_ev d) ?_
    by_cases h1 : defChk d = 0
    · have c1 : ¬ (defChk d != 0) = true := by rw [h1]; decide
      have hd := ((defChk_iff d).1 h1).1
      simp only [if_neg c1, if_pos h1, defect_Count_eq hd, Option.bind_some]
      refine Ev.bind (shape_Top_ev l) (Ev.bind (solid_Length_ev l) (Ev.bind (shape_Sweep_ev l) (Ev.bind (shape_Taper_ev l) ?_)))
      have a1 := cnt_le 1 d
      have a2 := cnt_le 2 d
      rw [w64 (by omega) (by omega)]
      exact Ev.now _
    · have c1 : (defChk d != 0) = true := by simpa using h1
      simp only [if_pos c1, if_neg h1]; exact Ev.now _
  · have c0 : (solChk l != 0) = true := by simpa using h0
    simp only [if_pos c0, if_neg h0]; exact Ev.now _
theorem class_Fits_ev (c : Cls) (l : List Slc) (d : List Dfc) : Ev (fun k => class_Fits.f k c.f0 c.f1 c.f2 c.f3 c.f4 c.f5 c.f6 c.f7 c.f8 l d) (fitS l d c) := by
  unfold class_Fits.f fitS
  refine Ev.bind (measured_ev l d) ?_
  cases measS l d with
  | none => exact Ev.now _
  | some m => exact Ev.now _
end Go.Proofs.Ytdgbecllbldcaaa.P
