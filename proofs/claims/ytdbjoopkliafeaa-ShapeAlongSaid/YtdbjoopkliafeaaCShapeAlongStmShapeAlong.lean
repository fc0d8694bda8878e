/- My own text for the law ShapeAlong: StmShapeAlong; conditions: as stated in each lemma. -/
import Derived.Test.YtdbjoopkliafeaaCShapeAlongV7
namespace Go.Proofs.Ytdbjoopkliafeaa.P
open Go Go.RowKit Go.Proofs.YtdbjoopkliafeaaW.PrintWords Go.Proofs.YtdbjoopkliafeaaW.PrintLast Go.Proofs.YtdbjoopkliafeaaW.PrintMore
/-- The pure statement of the law ShapeAlong. -/
def sawmilllaw14_ShapeAlong.Pure : Prop := ∀ (l0 : List (S36)) (a1 : Int), ((∀ x_ ∈ l0, W36 x_) ∧ l0.length ≤ maxLen) → ((Lit.int .i64 a1).wf = true) → ∃ k, sawmilllaw14_ShapeAlong.f k l0 a1 = some true
end Go.Proofs.Ytdbjoopkliafeaa.P
