/- My own text for the law ShapeSections: StmShapeSections; conditions: as stated in each lemma. -/
import Derived.Test.YtdbjoopkliafeaaV7
namespace Go.Proofs.Ytdbjoopkliafeaa.P
open Go Go.RowKit Go.Proofs.YtdbjoopkliafeaaW.PrintWords Go.Proofs.YtdbjoopkliafeaaW.PrintLast Go.Proofs.YtdbjoopkliafeaaW.PrintMore
/-- The pure statement of the law ShapeSections. -/
def sawmilllaw14_ShapeSections.Pure : Prop := ∀ (a0_0 : Int) (l0_1 : List (S49)), (W24 (⟨a0_0, l0_1⟩ : S24)) → ∃ k, sawmilllaw14_ShapeSections.f k a0_0 l0_1 = some true
end Go.Proofs.Ytdbjoopkliafeaa.P
