/- Quotients that are rounded down. -/
import Derived.Test.YtdgbecllbldcaaaCClassLongerV4
import Derived.Test.YtdgbecllbldcaaaCClassLongerTBase
set_option linter.unusedVariables false
set_option linter.unusedSimpArgs false
namespace Go.Proofs.Ytdgbecllbldcaaa.P
open Go Go.RowKit Go.Proofs.YtdgbecllbldcaaaW.PrintWords Go.Proofs.YtdgbecllbldcaaaW.PrintLast Go.Proofs.YtdgbecllbldcaaaW.PrintMore
/-- What a quotient is, where the divisor is positive and both are small. -/
theorem quot {a b : Int} (h1 : -1000000000000000 ≤ a) (h2 : a ≤ 1000000000000000) (hb : 1 ≤ b) (hb2 : b ≤ 1000000000000000) :
    (-1000000000000000 ≤ a / b ∧ a / b ≤ 1000000000000000) ∧ a / b * b ≤ a ∧ a < a / b * b + b ∧ ((Int.tdiv a b = a / b ∧ 0 ≤ Int.tmod a b) ∨ (Int.tdiv a b = a / b + 1 ∧ Int.tmod a b < 0)) ∧ Int.tmod a b = a - Int.tdiv a b * b := by
  have e1 : a / b * b ≤ a := Int.ediv_mul_le a (by omega)
  have e2 : a < a / b * b + b := by
    have := Int.lt_ediv_add_one_mul_self a (b := b) (by omega)
    rw [Int.add_mul, Int.one_mul] at this
    exact this
  have e3 : -1000000000000000 ≤ a / b := Int.le_ediv_of_mul_le (by omega) (by omega)
  have e4 : a / b < 1000000000000001 := Int.ediv_lt_of_lt_mul (by omega) (by omega)
  have e5 : Int.tmod a b = a - Int.tdiv a b * b := by rw [Int.tmod_def, Int.mul_comm]
  refine ⟨⟨e3, by omega⟩, e1, e2, ?_, e5⟩
  have e6 := Int.tdiv_eq_ediv (a := a) (b := b)
  by_cases hc : 0 ≤ a ∨ b ∣ a
  · rw [if_pos hc] at e6
    left
    refine ⟨by omega, ?_⟩
    rw [e5, e6, Int.add_zero]
    omega
  · rw [if_neg hc, Int.sign_eq_one_of_pos (by omega)] at e6
    right
    refine ⟨e6, ?_⟩
    rw [e5, e6, Int.add_mul, Int.one_mul]
    omega
theorem units_Floor_ev {a b : Int} (h1 : -1000000000000000 ≤ a) (h2 : a ≤ 1000000000000000) (hb : 1 ≤ b) (hb2 : b ≤ 1000000000000000) : Ev (fun k => units_Floor.f k a b) (a / b, true) := by
  obtain ⟨⟨q1, q2⟩, q3, q4, q5, q6⟩ := quot h1 h2 hb hb2
  unfold units_Floor.f
  have hw : wrap64 (Int.tdiv a b) = Int.tdiv a b := w64 (by omega) (by omega)
  have key : Ev (fun k => units_division_of.f k fnc80 a b) (a / b, true) := by
    unfold units_division_of.f
    have n1 : ¬ b = 0 := by omega
    have n2 : ¬ a = -9223372036854775808 := by omega
    simp only [if_neg n1, if_neg n2]
    refine Ev.step (f := fun k => units_division_of.j1 k b (Int.tdiv a b) (Int.tmod a b) (decide (Int.tmod a b < 0))) (fun k => ?_) ?_
    · rw [units_division_of.j0, if_neg (by decide), if_neg (by omega), hw]
      by_cases hr : Int.tmod a b = 0
      · rw [if_pos hr]
        congr 1
        simp [hr]
      · rw [if_neg hr]
        congr 1
        rw [show decide (b < 0) = false from decide_eq_false (by omega)]
        simp
    · rcases q5 with ⟨e, r⟩ | ⟨e, r⟩
      · refine Ev.step (f := fun _ => some (a / b, true)) (fun k => ?_) (Ev.now _)
        rw [units_division_of.j1, if_neg (by simp; omega), units_Floor_1.f, Option.bind_some, if_neg (by decide), e]
      · refine Ev.step (f := fun _ => some (a / b, true)) (fun k => ?_) (Ev.now _)
        rw [units_division_of.j1, if_pos (by simp; omega), units_Floor_1.f, Option.bind_some, if_neg (by decide), e, w64 (by omega) (by omega)]
        congr 2
        omega
  exact Ev.bind key (Ev.now _)
end Go.Proofs.Ytdgbecllbldcaaa.P
