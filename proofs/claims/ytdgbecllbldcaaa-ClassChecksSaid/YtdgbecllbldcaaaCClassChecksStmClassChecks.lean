/- My own text for the law ClassChecks: StmClassChecks; conditions: as stated in each lemma. -/
import Derived.Test.YtdgbecllbldcaaaCClassChecksV5
namespace Go.Proofs.Ytdgbecllbldcaaa.P
open Go Go.RowKit Go.Proofs.YtdgbecllbldcaaaW.PrintWords Go.Proofs.YtdgbecllbldcaaaW.PrintLast Go.Proofs.YtdgbecllbldcaaaW.PrintMore
/-- The pure statement of the law ClassChecks. -/
def sawmilllaw16_ClassChecks.Pure : Prop := ∀ (l0 : List (S28)), ((∀ x_ ∈ l0, W28 x_) ∧ l0.length ≤ maxLen) → ∃ k, sawmilllaw16_ClassChecks.f k l0 = some true
end Go.Proofs.Ytdgbecllbldcaaa.P
