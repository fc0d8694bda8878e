/- My own text for the law SolidReverse: StmSolidReverse; conditions: as stated in each lemma. -/
import Derived.Test.YtboegckbilnldaaCSolidReverseV5
namespace Go.Proofs.Ytboegckbilnldaa.P
open Go Go.RowKit Go.Proofs.YtboegckbilnldaaW.PrintWords Go.Proofs.YtboegckbilnldaaW.PrintLast Go.Proofs.YtboegckbilnldaaW.PrintMore
/-- The pure statement of the law SolidReverse. -/
def sawmilllaw11_SolidReverse.Pure : Prop := ∀ (l0 : List (S60)) (a1_0 : Int) (a1_1 : Int) (a1_2 : Int) (a1_3 : Int) (a1_4 : Int) (a1_5 : Int), ((∀ x_ ∈ l0, W60 x_) ∧ l0.length ≤ maxLen) → (W31 (⟨⟨a1_0, a1_1⟩, ⟨a1_2, a1_3⟩, ⟨a1_4, a1_5⟩⟩ : S31)) → ∃ k, sawmilllaw11_SolidReverse.f k l0 a1_0 a1_1 a1_2 a1_3 a1_4 a1_5 = some true
end Go.Proofs.Ytboegckbilnldaa.P
