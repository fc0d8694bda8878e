/- The pure statement of ClassPrices. -/
import Derived.Test.YtdgbecllbldcaaaCClassPricesV7
import Derived.Test.YtdgbecllbldcaaaCClassPricesTAw6
import Derived.Test.YtdgbecllbldcaaaCClassPricesStmClassPrices
set_option linter.unusedVariables false
namespace Go.Proofs.Ytdgbecllbldcaaa.Pure
open Go Go.RowKit Go.Proofs.Ytdgbecllbldcaaa.P Go.Proofs.YtdgbecllbldcaaaW.PrintWords Go.Proofs.YtdgbecllbldcaaaW.PrintLast Go.Proofs.YtdgbecllbldcaaaW.PrintMore
theorem ClassPrices : sawmilllaw16_ClassPrices.Pure := by
  intro c l d h
  intros
  have bad : Ev (fun k => sawmilllaw16_ClassPrices.j0 k c true l d) true := Ev.step (fun k => by rw [sawmilllaw16_ClassPrices.j0, if_pos rfl]) aw16
  refine Ev.rounds ?_
  unfold sawmilllaw16_ClassPrices.f
  obtain ⟨b, hb⟩ := short_ev c (len_ok h.2)
  refine Ev.bind hb ?_
  cases b
  · simp only [Bool.false_eq_true, if_false]
    exact bad
  · simp only [if_true]
    obtain ⟨b, hb⟩ := few_ev l d
    refine Ev.bind hb ?_
    cases b
    · exact bad
    · refine Ev.step (fun k => by rw [sawmilllaw16_ClassPrices.j0, if_neg (by decide)]) ?_
      refine Ev.bind (class_Of_ev c l d) (Ev.bind (r16_Of_ev c l d) ?_)
      simp only [beq_self_eq_true, if_true]
      refine Ev.bind (class_Price_ev c l d) (Ev.bind (r16_Price_ev c l d) ?_)
      simp only [if_true]
      exact aw16
end Go.Proofs.Ytdgbecllbldcaaa.Pure
