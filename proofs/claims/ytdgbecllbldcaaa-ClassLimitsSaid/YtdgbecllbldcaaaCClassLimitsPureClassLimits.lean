/- The pure statement of ClassLimits. -/
import Derived.Test.YtdgbecllbldcaaaCClassLimitsV4
import Derived.Test.YtdgbecllbldcaaaCClassLimitsTAw6
import Derived.Test.YtdgbecllbldcaaaCClassLimitsStmClassLimits
set_option linter.unusedVariables false
namespace Go.Proofs.Ytdgbecllbldcaaa.Pure
open Go Go.RowKit Go.Proofs.Ytdgbecllbldcaaa.P Go.Proofs.YtdgbecllbldcaaaW.PrintWords Go.Proofs.YtdgbecllbldcaaaW.PrintLast Go.Proofs.YtdgbecllbldcaaaW.PrintMore
theorem fitB_looser (m : Int × Int × Int × Int × Int × Int) (a b : Cls) (h : b.f1 ≤ a.f1 ∧ b.f2 ≤ a.f2 ∧ a.f3 ≤ b.f3 ∧ a.f4 ≤ b.f4 ∧ a.f5 ≤ b.f5 ∧ a.f6 ≤ b.f6 ∧ a.f7 ≤ b.f7) (hf : fitB m a = true) : fitB m b = true := by
  rw [fitB_iff] at hf ⊢
  omega
theorem looser_eq (a b : Cls) : ∃ t, sawmilllaw16_looser.f a.f0 a.f1 a.f2 a.f3 a.f4 a.f5 a.f6 a.f7 a.f8 b.f0 b.f1 b.f2 b.f3 b.f4 b.f5 b.f6 b.f7 b.f8 = some t ∧ (t = true → b.f1 ≤ a.f1 ∧ b.f2 ≤ a.f2 ∧ a.f3 ≤ b.f3 ∧ a.f4 ≤ b.f4 ∧ a.f5 ≤ b.f5 ∧ a.f6 ≤ b.f6 ∧ a.f7 ≤ b.f7) := by
  unfold sawmilllaw16_looser.f
  split
  · split
    · split
      · split
        · split
          · split
            · refine ⟨_, rfl, fun h => ?_⟩
              have := of_decide_eq_true h
              omega
            · exact ⟨_, rfl, fun h => by cases h⟩
          · exact ⟨_, rfl, fun h => by cases h⟩
        · exact ⟨_, rfl, fun h => by cases h⟩
      · exact ⟨_, rfl, fun h => by cases h⟩
    · exact ⟨_, rfl, fun h => by cases h⟩
  · exact ⟨_, rfl, fun h => by cases h⟩
theorem fitS_looser (l : List Slc) (d : List Dfc) (a b : Cls) (h : b.f1 ≤ a.f1 ∧ b.f2 ≤ a.f2 ∧ a.f3 ≤ b.f3 ∧ a.f4 ≤ b.f4 ∧ a.f5 ≤ b.f5 ∧ a.f6 ≤ b.f6 ∧ a.f7 ≤ b.f7) (hf : fitS l d a = true) : fitS l d b = true := by
  unfold fitS at hf ⊢
  cases hm : measS l d with
  | none => rw [hm] at hf; cases hf
  | some m => rw [hm] at hf; exact fitB_looser m a b h hf
theorem ClassLimits : sawmilllaw16_ClassLimits.Pure := by
  intro a0 a1 a2 a3 a4 a5 a6 a7 a8 b0 b1 b2 b3 b4 b5 b6 b7 b8 l d
  intros
  have bad : Ev (fun k => sawmilllaw16_ClassLimits.j0 k true a0 a1 a2 a3 a4 a5 a6 a7 a8 b0 b1 b2 b3 b4 b5 b6 b7 b8 l d) true := Ev.step (fun k => by rw [sawmilllaw16_ClassLimits.j0, if_pos rfl]) aw16
  refine Ev.rounds ?_
  unfold sawmilllaw16_ClassLimits.f
  obtain ⟨t, ht⟩ := few_ev l d
  refine Ev.bind ht ?_
  cases t
  · simp only [Bool.false_eq_true, if_false]
    exact bad
  simp only [if_true]
  obtain ⟨t, ht, hl⟩ := looser_eq ⟨a0, a1, a2, a3, a4, a5, a6, a7, a8⟩ ⟨b0, b1, b2, b3, b4, b5, b6, b7, b8⟩
  simp only at ht
  simp only [ht, Option.bind_some]
  cases t
  · exact bad
  have hl := hl rfl
  refine Ev.step (fun k => by rw [sawmilllaw16_ClassLimits.j0, if_neg (by decide)]) ?_
  refine Ev.bind (class_Fits_ev ⟨a0, a1, a2, a3, a4, a5, a6, a7, a8⟩ l d) ?_
  by_cases h : fitS l d ⟨a0, a1, a2, a3, a4, a5, a6, a7, a8⟩ = true
  · simp only [if_pos h]
    refine Ev.bind (class_Fits_ev ⟨b0, b1, b2, b3, b4, b5, b6, b7, b8⟩ l d) ?_
    simp only [if_pos (fitS_looser l d _ _ hl h)]
    exact aw16
  · simp only [if_neg h]
    exact aw16
end Go.Proofs.Ytdgbecllbldcaaa.Pure
