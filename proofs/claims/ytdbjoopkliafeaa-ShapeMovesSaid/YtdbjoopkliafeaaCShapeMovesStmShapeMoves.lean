/- My own text for the law ShapeMoves: StmShapeMoves; conditions: as stated in each lemma. -/
import Derived.Test.YtdbjoopkliafeaaCShapeMovesV6
namespace Go.Proofs.Ytdbjoopkliafeaa.P
open Go Go.RowKit Go.Proofs.YtdbjoopkliafeaaW.PrintWords Go.Proofs.YtdbjoopkliafeaaW.PrintLast Go.Proofs.YtdbjoopkliafeaaW.PrintMore
/-- The pure statement of the law ShapeMoves. -/
def sawmilllaw14_ShapeMoves.Pure : Prop := ∀ (a0_0 : Int) (l0_1 : List (S49)) (a1 : Int) (a2 : Int), (W24 (⟨a0_0, l0_1⟩ : S24)) → ((Lit.int .i64 a1).wf = true) → ((Lit.int .i64 a2).wf = true) → ∃ k, sawmilllaw14_ShapeMoves.f k a0_0 l0_1 a1 a2 = some true
end Go.Proofs.Ytdbjoopkliafeaa.P
