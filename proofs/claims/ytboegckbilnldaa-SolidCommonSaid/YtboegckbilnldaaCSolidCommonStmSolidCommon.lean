/- My own text for the law SolidCommon: StmSolidCommon; conditions: as stated in each lemma. -/
import Derived.Test.YtboegckbilnldaaCSolidCommonV6
namespace Go.Proofs.Ytboegckbilnldaa.P
open Go Go.RowKit Go.Proofs.YtboegckbilnldaaW.PrintWords Go.Proofs.YtboegckbilnldaaW.PrintLast Go.Proofs.YtboegckbilnldaaW.PrintMore
/-- The pure statement of the law SolidCommon. -/
def sawmilllaw11_SolidCommon.Pure : Prop := ∀ (l0 : List (S60)) (a1_0 : Int) (a1_1 : Int) (a2_0 : Int) (a2_1 : Int) (a2_2 : Int) (a2_3 : Int) (a2_4 : Int), ((∀ x_ ∈ l0, W60 x_) ∧ l0.length ≤ maxLen) → (W29 (⟨a1_0, a1_1⟩ : S29)) → (W54 (⟨a2_0, ⟨⟨a2_1, a2_2⟩, ⟨a2_3, a2_4⟩⟩⟩ : S54)) → ∃ k, sawmilllaw11_SolidCommon.f k l0 a1_0 a1_1 a2_0 a2_1 a2_2 a2_3 a2_4 = some true
end Go.Proofs.Ytboegckbilnldaa.P
