/- My own text for the law SolidTurns: StmSolidTurns; conditions: as stated in each lemma. -/
import Derived.Test.YtboegckbilnldaaCSolidTurnsV5
namespace Go.Proofs.Ytboegckbilnldaa.P
open Go Go.RowKit Go.Proofs.YtboegckbilnldaaW.PrintWords Go.Proofs.YtboegckbilnldaaW.PrintLast Go.Proofs.YtboegckbilnldaaW.PrintMore
/-- The pure statement of the law SolidTurns. -/
def sawmilllaw11_SolidTurns.Pure : Prop := ∀ (l0 : List (S60)), ((∀ x_ ∈ l0, W60 x_) ∧ l0.length ≤ maxLen) → ∃ k, sawmilllaw11_SolidTurns.f k l0 = some true
end Go.Proofs.Ytboegckbilnldaa.P
