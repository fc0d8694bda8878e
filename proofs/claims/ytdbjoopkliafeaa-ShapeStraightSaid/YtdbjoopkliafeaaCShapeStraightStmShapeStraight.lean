/- My own text for the law ShapeStraight: StmShapeStraight; conditions: as stated in each lemma. -/
import Derived.Test.YtdbjoopkliafeaaCShapeStraightV8
namespace Go.Proofs.Ytdbjoopkliafeaa.P
open Go Go.RowKit Go.Proofs.YtdbjoopkliafeaaW.PrintWords Go.Proofs.YtdbjoopkliafeaaW.PrintLast Go.Proofs.YtdbjoopkliafeaaW.PrintMore
/-- The pure statement of the law ShapeStraight. -/
def sawmilllaw14_ShapeStraight.Pure : Prop := ∀ (a0_0 : Int) (l0_1 : List (S49)) (l1 : List Int), (W24 (⟨a0_0, l0_1⟩ : S24)) → ((∀ x_ ∈ l1, (Lit.int .i64 x_).wf = true) ∧ l1.length ≤ maxLen) → ∃ k, sawmilllaw14_ShapeStraight.f k a0_0 l0_1 l1 = some true
end Go.Proofs.Ytdbjoopkliafeaa.P
