/- My own text for the law ClassDefects: StmClassDefects; conditions: as stated in each lemma. -/
import Derived.Test.YtdgbecllbldcaaaCClassDefectsV4
namespace Go.Proofs.Ytdgbecllbldcaaa.P
open Go Go.RowKit Go.Proofs.YtdgbecllbldcaaaW.PrintWords Go.Proofs.YtdgbecllbldcaaaW.PrintLast Go.Proofs.YtdgbecllbldcaaaW.PrintMore
/-- The pure statement of the law ClassDefects. -/
def sawmilllaw16_ClassDefects.Pure : Prop := ∀ (a0_0 : ByteArray) (a0_1 : Int) (a0_2 : Int) (a0_3 : Int) (a0_4 : Int) (a0_5 : Int) (a0_6 : Int) (a0_7 : Int) (a0_8 : Int) (l1_0 : List (S58)) (l1_1 : List (S48)) (a2 : Int), (W28 (⟨a0_0, a0_1, a0_2, a0_3, a0_4, a0_5, a0_6, a0_7, a0_8⟩ : S28)) → (W32 (⟨l1_0, l1_1⟩ : S32)) → ((Lit.int .i64 a2).wf = true) → ∃ k, sawmilllaw16_ClassDefects.f k a0_0 a0_1 a0_2 a0_3 a0_4 a0_5 a0_6 a0_7 a0_8 l1_0 l1_1 a2 = some true
end Go.Proofs.Ytdgbecllbldcaaa.P
