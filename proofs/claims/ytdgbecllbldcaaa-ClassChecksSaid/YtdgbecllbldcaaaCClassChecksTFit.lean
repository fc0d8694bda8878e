/- Classes of logs: Fits, Of and Price, in the program and in the reference. -/
import Derived.Test.YtdgbecllbldcaaaCClassChecksV5
import Derived.Test.YtdgbecllbldcaaaCClassChecksTCls
import Derived.Test.YtdgbecllbldcaaaCClassChecksTDef
import Derived.Test.YtdgbecllbldcaaaCClassChecksTSweep
import Derived.Test.YtdgbecllbldcaaaCClassChecksTVol
set_option linter.unusedVariables false
set_option linter.unusedSimpArgs false
namespace Go.Proofs.Ytdgbecllbldcaaa.P
open Go Go.RowKit Go.Proofs.YtdgbecllbldcaaaW.PrintWords Go.Proofs.YtdgbecllbldcaaaW.PrintLast Go.Proofs.YtdgbecllbldcaaaW.PrintMore
theorem short_ev (l : List Cls) (hn : l.length ≤ 9223372036854775807) : ∃ b, Ev (fun k => sawmilllaw16_short.f k l) b := by
  have : ∀ (m i : Nat), l.length - i = m → i ≤ l.length → ∃ b, Ev (fun k => sawmilllaw16_short.l0 k l (i : Int)) b := by
    intro m
    induction m with
    | zero =>
      intro i hm hi
      exact ⟨_, Ev.step (f := fun _ => some true) (fun k => by rw [sawmilllaw16_short.l0, if_neg (by omega)]) (Ev.now _)⟩
    | succ m ih =>
      intro i hm hi
      by_cases h1 : (i : Int) ≥ 20
      · exact ⟨_, Ev.step (f := fun _ => some false) (fun k => by rw [sawmilllaw16_short.l0, if_pos (by omega), if_pos h1]) (Ev.now _)⟩
      · by_cases h2 : (((rd_T28 l (i : Int)).f0).size : Int) > 100
        · exact ⟨_, Ev.step (f := fun _ => some false) (fun k => by rw [sawmilllaw16_short.l0, if_pos (by omega), if_neg h1, if_pos (by omega), if_pos h2]) (Ev.now _)⟩
        · obtain ⟨b, hb⟩ := ih (i + 1) (by omega) (by omega)
          exact ⟨b, Ev.step (f := fun k => sawmilllaw16_short.l0 k l ((i + 1 : Nat) : Int)) (fun k => by rw [sawmilllaw16_short.l0, if_pos (by omega), if_neg h1, if_pos (by omega), if_neg h2, wsucc (n := l.length) (by omega) hn]) hb⟩
  unfold sawmilllaw16_short.f
  exact this _ 0 rfl (by omega)
end Go.Proofs.Ytdgbecllbldcaaa.P
