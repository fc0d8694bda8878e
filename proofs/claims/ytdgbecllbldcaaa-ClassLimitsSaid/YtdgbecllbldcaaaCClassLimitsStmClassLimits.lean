/- My own text for the law ClassLimits: StmClassLimits; conditions: as stated in each lemma. -/
import Derived.Test.YtdgbecllbldcaaaCClassLimitsV4
namespace Go.Proofs.Ytdgbecllbldcaaa.P
open Go Go.RowKit Go.Proofs.YtdgbecllbldcaaaW.PrintWords Go.Proofs.YtdgbecllbldcaaaW.PrintLast Go.Proofs.YtdgbecllbldcaaaW.PrintMore
/-- The pure statement of the law ClassLimits. -/
def sawmilllaw16_ClassLimits.Pure : Prop := ∀ (a0_0 : ByteArray) (a0_1 : Int) (a0_2 : Int) (a0_3 : Int) (a0_4 : Int) (a0_5 : Int) (a0_6 : Int) (a0_7 : Int) (a0_8 : Int) (a1_0 : ByteArray) (a1_1 : Int) (a1_2 : Int) (a1_3 : Int) (a1_4 : Int) (a1_5 : Int) (a1_6 : Int) (a1_7 : Int) (a1_8 : Int) (l2_0 : List (S58)) (l2_1 : List (S48)), (W28 (⟨a0_0, a0_1, a0_2, a0_3, a0_4, a0_5, a0_6, a0_7, a0_8⟩ : S28)) → (W28 (⟨a1_0, a1_1, a1_2, a1_3, a1_4, a1_5, a1_6, a1_7, a1_8⟩ : S28)) → (W32 (⟨l2_0, l2_1⟩ : S32)) → ∃ k, sawmilllaw16_ClassLimits.f k a0_0 a0_1 a0_2 a0_3 a0_4 a0_5 a0_6 a0_7 a0_8 a1_0 a1_1 a1_2 a1_3 a1_4 a1_5 a1_6 a1_7 a1_8 l2_0 l2_1 = some true
end Go.Proofs.Ytdgbecllbldcaaa.P
