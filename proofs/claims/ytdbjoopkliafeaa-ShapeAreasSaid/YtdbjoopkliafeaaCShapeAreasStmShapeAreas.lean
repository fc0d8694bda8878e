/- My own text for the law ShapeAreas: StmShapeAreas; conditions: as stated in each lemma. -/
import Derived.Test.YtdbjoopkliafeaaCShapeAreasV7
namespace Go.Proofs.Ytdbjoopkliafeaa.P
open Go Go.RowKit Go.Proofs.YtdbjoopkliafeaaW.PrintWords Go.Proofs.YtdbjoopkliafeaaW.PrintLast Go.Proofs.YtdbjoopkliafeaaW.PrintMore
/-- The pure statement of the law ShapeAreas. -/
def sawmilllaw14_ShapeAreas.Pure : Prop := ∀ (a0_0 : Int) (l0_1 : List (S49)) (a1_0 : Int) (l1_1 : List (S49)), (W24 (⟨a0_0, l0_1⟩ : S24)) → (W24 (⟨a1_0, l1_1⟩ : S24)) → ∃ k, sawmilllaw14_ShapeAreas.f k a0_0 l0_1 a1_0 l1_1 = some true
end Go.Proofs.Ytdbjoopkliafeaa.P
