/- My own text for the law ShapeEnds: StmShapeEnds; conditions: as stated in each lemma. -/
import Derived.Test.YtdbjoopkliafeaaCShapeEndsV4
namespace Go.Proofs.Ytdbjoopkliafeaa.P
open Go Go.RowKit Go.Proofs.YtdbjoopkliafeaaW.PrintWords Go.Proofs.YtdbjoopkliafeaaW.PrintLast Go.Proofs.YtdbjoopkliafeaaW.PrintMore
/-- The pure statement of the law ShapeEnds. -/
def sawmilllaw14_ShapeEnds.Pure : Prop := ∀ (l0 : List (S36)), ((∀ x_ ∈ l0, W36 x_) ∧ l0.length ≤ maxLen) → ∃ k, sawmilllaw14_ShapeEnds.f k l0 = some true
end Go.Proofs.Ytdbjoopkliafeaa.P
