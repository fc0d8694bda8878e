/- Quotients that are rounded down. -/
import Derived.Test.YtdbjoopkliafeaaCShapeEndsV4
import Derived.Test.YtdbjoopkliafeaaCShapeEndsTBase
set_option linter.unusedVariables false
set_option linter.unusedSimpArgs false
namespace Go.Proofs.Ytdbjoopkliafeaa.P
open Go Go.RowKit Go.Proofs.YtdbjoopkliafeaaW.PrintWords Go.Proofs.YtdbjoopkliafeaaW.PrintLast Go.Proofs.YtdbjoopkliafeaaW.PrintMore
/-- What a quotient is, where the divisor is positive and both are small. -/
theorem quot {a b : Int} (h1 : -1000000000000000 ≤ a) (h2 : a ≤ 1000000000000000) (hb : 1 ≤ b) (hb2 : b ≤ 1000000000000000) :
    (-1000000000000000 ≤ a / b ∧ a / b ≤ 1000000000000000) ∧ a / b * b ≤ a ∧ a < a / b * b + b ∧ ((Int.tdiv a b = a / b ∧ 0 ≤ Int.tmod a b) ∨ (Int.tdiv a b = a / b + 1 ∧ Int.tmod a b < 0)) ∧ Int.tmod a b = a - Int.tdiv a b * b := by
  have e1 : a / b * b ≤ a := Int.ediv_mul_le a (by omega)
  have e2 : a < a / b * b + b := by
    have := Int.lt_ediv_add_one_mul_self a (b := b) (by omega)
    rw [Int.add_mul, Int.one_mul] at this
    exact this
  have e3 : -1000000000000000 ≤ a / b := Int.le_ediv_of_mul_le (by omega) (by omega)
  have e4 : a / b < 1000000000000001 := Int.ediv_lt_of_lt_mul (by omega) (by omega)
  have e5 : Int.tmod a b = a - Int.tdiv a b * b := by rw [Int.tmod_def, Int.mul_comm]
  refine ⟨⟨e3, by omega⟩, e1, e2, ?_, e5⟩
  have e6 := Int.tdiv_eq_ediv (a := a) (b := b)
  by_cases hc : 0 ≤ a ∨ b ∣ a
  · rw [if_pos hc] at e6
    left
    refine ⟨by omega, ?_⟩
    rw [e5, e6, Int.add_zero]
    omega
  · rw [if_neg hc, Int.sign_eq_one_of_pos (by omega)] at e6
    right
    refine ⟨e6, ?_⟩
    rw [e5, e6, Int.add_mul, Int.one_mul]
    omega
end Go.Proofs.Ytdbjoopkliafeaa.P
