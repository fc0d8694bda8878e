/- The pure statement of ClassLonger. -/
import Derived.Test.YtdgbecllbldcaaaCClassLongerV4
import Derived.Test.YtdgbecllbldcaaaCClassLongerTAw6
import Derived.Test.YtdgbecllbldcaaaCClassLongerStmClassLonger
set_option linter.unusedVariables false
namespace Go.Proofs.Ytdgbecllbldcaaa.Pure
open Go Go.RowKit Go.Proofs.Ytdgbecllbldcaaa.P Go.Proofs.YtdgbecllbldcaaaW.PrintWords Go.Proofs.YtdgbecllbldcaaaW.PrintLast Go.Proofs.YtdgbecllbldcaaaW.PrintMore
theorem firstS_app (p : Cls → Bool) : ∀ (a b : List Cls) (i : Int), firstS p (a ++ b) i = if (firstS p a i).2 = true then firstS p a i else firstS p b (i + a.length)
  | [], b, i => by simp [firstS]
  | x :: a, b, i => by
    rw [List.cons_append]
    have e : ∀ l, firstS p (x :: l) i = if p x = true then (i, true) else firstS p l (i + 1) := fun _ => rfl
    rw [e, e]
    by_cases h : p x = true
    · simp [if_pos h]
    · simp only [if_neg h]
      rw [firstS_app p a b (i + 1)]
      have : (i + 1 + (a.length : Int)) = i + ((x :: a).length : Int) := by simp; omega
      rw [this]
theorem firstS_ge (p : Cls → Bool) (b : List Cls) (i : Int) (h : (firstS p b i).2 = true) : i ≤ (firstS p b i).1 := by
  rcases firstS_spec p b i with ⟨e, _⟩ | ⟨j, x, e, _⟩
  · rw [e] at h; cases h
  · rw [e]; simp; omega
theorem ClassLonger : sawmilllaw16_ClassLonger.Pure := by
  intro a b l d ha hb
  intros
  have bad : ∀ c : List Cls, Ev (fun k => sawmilllaw16_ClassLonger.j0 k a b c true l d) true := fun c => Ev.step (fun k => by rw [sawmilllaw16_ClassLonger.j0, if_pos rfl]) aw16
  have bad1 : ∀ c : List Cls, Ev (fun k => sawmilllaw16_ClassLonger.j1 k a c true l d) true := fun c => Ev.step (fun k => by rw [sawmilllaw16_ClassLonger.j1, if_pos rfl]) aw16
  refine Ev.rounds ?_
  unfold sawmilllaw16_ClassLonger.f
  by_cases h1 : (a.length : Int) > 20
  · simp only [if_pos h1]
    exact bad _
  simp only [if_neg h1]
  by_cases h2 : (b.length : Int) > 20
  · rw [decide_eq_true h2]
    exact bad _
  rw [decide_eq_false h2]
  refine Ev.step (fun k => by rw [sawmilllaw16_ClassLonger.j0, if_neg (by decide), if_pos (by rw [List.length_nil]; omega), Option.bind_some, List.nil_append, if_pos (by omega), Option.bind_some]) ?_
  obtain ⟨t, ht⟩ := short_ev (a ++ b) (by rw [List.length_append]; omega)
  refine Ev.bind ht ?_
  cases t
  · simp only [Bool.false_eq_true, if_false]
    exact bad1 _
  simp only [if_true]
  obtain ⟨t, ht⟩ := few_ev l d
  refine Ev.bind ht ?_
  cases t
  · simp only [Bool.false_eq_true, if_false]
    exact bad1 _
  simp only [if_true]
  refine Ev.bind (class_Check_ev (a ++ b)) ?_
  by_cases h0 : clsChk (a ++ b) = 0
  · have c0 : (clsChk (a ++ b) != 0) = false := by rw [h0]; decide
    rw [c0]
    refine Ev.step (fun k => by rw [sawmilllaw16_ClassLonger.j1, if_neg (by decide)]) ?_
    refine Ev.bind (class_Of_ev a l d) (Ev.bind (class_Of_ev (a ++ b) l d) ?_)
    have e1 : ofS a l d = firstS (fitS l d) a 0 := by unfold ofS; rw [if_pos (clsChk_left h0)]
    have e2 : ofS (a ++ b) l d = if (ofS a l d).2 = true then ofS a l d else firstS (fitS l d) b (a.length : Int) := by
      rw [e1]
      unfold ofS
      rw [if_pos h0, firstS_app, Int.zero_add]
    rw [e2]
    by_cases g : (ofS a l d).2 = true
    · simp only [if_pos g, if_true]
      exact aw16
    · simp only [if_neg g]
      by_cases g2 : (firstS (fitS l d) b (a.length : Int)).2 = true
      · have g3 := firstS_ge _ _ _ g2
        have g4 : (firstS (fitS l d) b (a.length : Int)).1 ≥ (a.length : Int) := g3
        simp only [if_pos g2, if_pos g4]
        exact aw16
      · simp only [if_neg g2]
        exact aw16
  · have c0 : (clsChk (a ++ b) != 0) = true := by simpa using h0
    rw [c0]
    exact bad1 _
end Go.Proofs.Ytdgbecllbldcaaa.Pure
