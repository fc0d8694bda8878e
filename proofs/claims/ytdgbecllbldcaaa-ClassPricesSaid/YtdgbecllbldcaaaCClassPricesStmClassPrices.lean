/- My own text for the law ClassPrices: StmClassPrices; conditions: as stated in each lemma. -/
import Derived.Test.YtdgbecllbldcaaaCClassPricesV7
namespace Go.Proofs.Ytdgbecllbldcaaa.P
open Go Go.RowKit Go.Proofs.YtdgbecllbldcaaaW.PrintWords Go.Proofs.YtdgbecllbldcaaaW.PrintLast Go.Proofs.YtdgbecllbldcaaaW.PrintMore
/-- The pure statement of the law ClassPrices. -/
def sawmilllaw16_ClassPrices.Pure : Prop := ∀ (l0 : List (S28)) (l1_0 : List (S58)) (l1_1 : List (S48)), ((∀ x_ ∈ l0, W28 x_) ∧ l0.length ≤ maxLen) → (W32 (⟨l1_0, l1_1⟩ : S32)) → ∃ k, sawmilllaw16_ClassPrices.f k l0 l1_0 l1_1 = some true
end Go.Proofs.Ytdgbecllbldcaaa.P
