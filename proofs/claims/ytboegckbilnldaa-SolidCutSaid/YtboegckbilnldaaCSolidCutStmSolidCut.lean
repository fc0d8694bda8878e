/- My own text for the law SolidCut: StmSolidCut; conditions: as stated in each lemma. -/
import Derived.Test.YtboegckbilnldaaCSolidCutV6
namespace Go.Proofs.Ytboegckbilnldaa.P
open Go Go.RowKit Go.Proofs.YtboegckbilnldaaW.PrintWords Go.Proofs.YtboegckbilnldaaW.PrintLast Go.Proofs.YtboegckbilnldaaW.PrintMore
/-- The pure statement of the law SolidCut. -/
def sawmilllaw11_SolidCut.Pure : Prop := ∀ (l0 : List (S60)) (a1_0 : Int) (a1_1 : Int) (a1_2 : Int) (a1_3 : Int) (a1_4 : Int) (a1_5 : Int) (a2 : Int), ((∀ x_ ∈ l0, W60 x_) ∧ l0.length ≤ maxLen) → (W31 (⟨⟨a1_0, a1_1⟩, ⟨a1_2, a1_3⟩, ⟨a1_4, a1_5⟩⟩ : S31)) → ((Lit.int .i64 a2).wf = true) → ∃ k, sawmilllaw11_SolidCut.f k l0 a1_0 a1_1 a1_2 a1_3 a1_4 a1_5 a2 = some true
end Go.Proofs.Ytboegckbilnldaa.P
