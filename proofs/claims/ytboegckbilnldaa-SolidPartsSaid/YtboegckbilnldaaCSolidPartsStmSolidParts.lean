/- My own text for the law SolidParts: StmSolidParts; conditions: as stated in each lemma. -/
import Derived.Test.YtboegckbilnldaaCSolidPartsV7
namespace Go.Proofs.Ytboegckbilnldaa.P
open Go Go.RowKit Go.Proofs.YtboegckbilnldaaW.PrintWords Go.Proofs.YtboegckbilnldaaW.PrintLast Go.Proofs.YtboegckbilnldaaW.PrintMore
/-- The pure statement of the law SolidParts. -/
def sawmilllaw11_SolidParts.Pure : Prop := ∀ (l0 : List (S60)) (a1 : Int) (a2_0 : Int) (a2_1 : Int), ((∀ x_ ∈ l0, W60 x_) ∧ l0.length ≤ maxLen) → ((Lit.int .i64 a1).wf = true) → (W29 (⟨a2_0, a2_1⟩ : S29)) → ∃ k, sawmilllaw11_SolidParts.f k l0 a1 a2_0 a2_1 = some true
end Go.Proofs.Ytboegckbilnldaa.P
