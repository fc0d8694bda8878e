/- The volume in a box: what Within of sections and of solids come to, in the program and in the reference. -/
import Derived.Test.YtboegckbilnldaaCSolidPartsV7
import Derived.Test.YtboegckbilnldaaCSolidPartsTVol
set_option linter.unusedVariables false
set_option linter.unusedSimpArgs false
namespace Go.Proofs.Ytboegckbilnldaa.P
open Go Go.RowKit Go.Proofs.YtboegckbilnldaaW.PrintWords Go.Proofs.YtboegckbilnldaaW.PrintLast Go.Proofs.YtboegckbilnldaaW.PrintMore
/-- The length of what two spans have in common. -/
def ov (a b c d : Int) : Int := max 0 (min b d - max a c)
theorem part_eq {p n : Int} (z0 z1 : Int) (h0 : 0 ≤ p) (h1 : 1 ≤ n) (h2 : p + n ≤ 20000) : sawmillref11_part.f (mx z0 0) (mn z1 20000) p n = some (ov p (p + n) z0 z1) := by
  unfold sawmillref11_part.f ov
  rw [w64 (n := p + n) (by omega) (by omega)]
  simp only [mx_eq, mn_eq]
  by_cases h : max (max z0 0) p ≥ min (min z1 20000) (p + n)
  · rw [if_pos h, show max 0 (min (p + n) z1 - max p z0) = 0 by omega]
  · rw [if_neg h, w64 (by omega) (by omega), show max 0 (min (p + n) z1 - max p z0) = min (min z1 20000) (p + n) - max (max z0 0) p by omega]
end Go.Proofs.Ytboegckbilnldaa.P
