/- My own text for the law ClassLonger: StmClassLonger; conditions: as stated in each lemma. -/
import Derived.Test.YtdgbecllbldcaaaCClassLongerV4
namespace Go.Proofs.Ytdgbecllbldcaaa.P
open Go Go.RowKit Go.Proofs.YtdgbecllbldcaaaW.PrintWords Go.Proofs.YtdgbecllbldcaaaW.PrintLast Go.Proofs.YtdgbecllbldcaaaW.PrintMore
/-- The pure statement of the law ClassLonger. -/
def sawmilllaw16_ClassLonger.Pure : Prop := ∀ (l0 : List (S28)) (l1 : List (S28)) (l2_0 : List (S58)) (l2_1 : List (S48)), ((∀ x_ ∈ l0, W28 x_) ∧ l0.length ≤ maxLen) → ((∀ x_ ∈ l1, W28 x_) ∧ l1.length ≤ maxLen) → (W32 (⟨l2_0, l2_1⟩ : S32)) → ∃ k, sawmilllaw16_ClassLonger.f k l0 l1 l2_0 l2_1 = some true
end Go.Proofs.Ytdgbecllbldcaaa.P
