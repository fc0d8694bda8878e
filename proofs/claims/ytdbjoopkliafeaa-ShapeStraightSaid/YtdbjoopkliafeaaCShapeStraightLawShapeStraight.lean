/- The law ShapeStraight (sawmill/sawmilllaw14.ShapeStraight): called with any arguments that can be read as data it returns true, and the arguments read as before. Conditions: none.
  The machine's side; the pure statement is proved in YtdbjoopkliafeaaPureShapeStraight. -/
import Derived.Test.YtdbjoopkliafeaaCShapeStraightV8
import Derived.Test.YtdbjoopkliafeaaRows
import Derived.Test.YtdbjoopkliafeaaCShapeStraightPureShapeStraight
import Derived.WalkKit
import Derived.ProofKit
import Derived.OpenShut
import Derived.ShutString
import Derived.ChangeOld
import Derived.Below
import Derived.SizedLaws
namespace Go.Proofs.Ytdbjoopkliafeaa.shapeStraight
open Go.ChangeShapes Go.WideShapes Go.ChangeAt Go.RowKit
open Go.ChangeMaps (open_string shut_string)
open Go.Proofs.Ytdbjoopkliafeaa.P Go.Proofs.YtdbjoopkliafeaaW.PrintWords Go.Proofs.YtdbjoopkliafeaaW.PrintMore
set_option linter.unusedVariables false
theorem own : ownKnob Try.prog.godebug = Option.none := by kernel_rfl
theorem laidOut : laidOutB Try.prog = true := by kernel_rfl
set_option maxRecDepth 100000 in
theorem lifted (os : Os) (started : os.Started) (H : Type) (enc : TypeId × Value → H) :
    ReturnsInHanded {} Try.checked os 6 .any (Rows.shapeStraightSpec.pre6 enc Try.prog Try.f6 Rows.shapeStraightRow.domain false) (Rows.shapeStraightSpec.post enc Try.prog Try.f6 false true false false) := by
  refine returnsInHanded_of_change_sized (C := Try.checked) own started (by kernel_rfl) Try.func6
    (ChangeSpec.witness6 (enc := enc) (C := Try.checked) false ⟨#[], #[.agg #[.int .i64 0, .slice none 0 0], .slice none 0 0], []⟩ 8 (by kernel_rfl) (by kernel_rfl) (by kernel_rfl) (by kernel_rfl)) ?_
  intro W base args ds gs before hval0 hW hcnd _ _
  have hval : ∀ (j : Nat) t v, Try.f6.params[j]? = some t → args[j]? = some v → Value.okWide Try.prog W .any base t v := hval0
  have hW' := hW
  obtain ⟨p, q, hA0, hV, rfl, hfz, hnd⟩ := hW
  have hA : DataW.TrodAll enc Try.prog W 0 (fun _ => true) true Try.f6.params.toList args.toList ds p := hA0
  rw [Try.params6] at hA hval
  obtain ⟨v0, vs0, d0, ds0, p0, q0, hargs, rfl, rfl, h0, r0⟩ := trodAll_cons hA
  obtain ⟨v1, vs1, d1, ds1, p1, q1, rfl, rfl, rfl, h1, r1⟩ := trodAll_cons r0
  obtain ⟨rfl, rfl, rfl⟩ := trodAll_nil r1
  obtain rfl : args = #[v0, v1] := by cases args; simp_all
  obtain ⟨rfl, rfl⟩ := trodVars_none hV
  obtain ⟨cs0, rfl, _⟩ := okWide_struct Try.underlying24 (hval 0 24 v0 rfl rfl)
  have k0 := h0
  have lt0 : ∀ x ∈ p0, x.block < W.heap.size := by obtain ⟨m, hm⟩ := k0; exact DataW.trod_lt m _ _ _ hm
  obtain ⟨fuel0, hf0⟩ := h0
  obtain ⟨y0, hK0, hw0⟩ := o24 H enc W 0 _ _ _ _ _ hf0
  obtain ⟨A0_1, c0_1, hc0, hl0_1, hr0_1⟩ := k24_open hK0
  obtain rfl : cs0 = #[.int .i64 y0.f0, .slice A0_1 y0.f1.length c0_1] := by cases cs0; simpa [Value.cells] using hc0
  obtain ⟨aa1, len1, cap1, rfl⟩ := okWide_slice Try.underlying34 (hval 1 34 v1 rfl rfl)
  have k1 := h1
  have lt1 : ∀ x ∈ p1, x.block < W.heap.size := by obtain ⟨m, hm⟩ := k1; exact DataW.trod_lt m _ _ _ hm
  obtain ⟨fuel1, hf1⟩ := h1
  obtain ⟨y1, hK1, hw1⟩ := (opens_slice (α := Int) 3 Try.underlying34 (by kernel_rfl) (opens_int Try.underlying3)) H enc W 0 _ _ _ _ _ hf1
  obtain ⟨A1, c1, hc1, hl1, hr1⟩ := hK1
  obtain ⟨rfl, rfl, rfl⟩ : aa1 = A1 ∧ len1 = y1.length ∧ cap1 = c1 := by simpa [Value.cells] using hc1
  clear hA0 hval0
  obtain ⟨k, hk⟩ := Pure.ShapeStraight y0.f0 y0.f1 y1 hw0 hw1
  refine (sawmilllaw14_ShapeStraight.calls k y0.f0 (fun k_ => k_ < W.heap.size) _ _ y0.f1 _ _ y1 true W (Kd.V_mono (Kd.V_mk hl0_1 (Kd.C_F k49_heap hr0_1)) (fun k_ hk_ => hk_)) hr1 hl1 hk).mono fun e W' hh => ?_
  obtain ⟨he, bel⟩ := hh
  subst he
  exact ⟨_, rfl, _, _, _, [], _, [], hW', trodAll_mk1 (shut_bool Try.underlying4 _), (trodAll_cons_mk (Below.trod laidOut (by kernel_rfl) (of_decide_eq_true (by kernel_rfl)) k0 bel lt0) (trodAll_cons_mk (Below.trod laidOut (by kernel_rfl) (of_decide_eq_true (by kernel_rfl)) k1 bel lt1) trodAll_mk0)), rfl, bel.frame _, fun h => by cases h⟩
theorem over : Rows.shapeStraightRow.holds Try.pinned (OpenSpec.ofChange Rows.shapeStraightSpec) :=
  OpenClaim.holds_of_wide 6 Try.f6 rfl rfl rfl rfl rfl rfl rfl ⟨rfl, rfl, rfl, rfl, rfl⟩ rfl rfl rfl rfl rfl (by kernel_rfl) Try.func6 (by kernel_rfl)
    (of_decide_eq_true (by kernel_rfl)) (by unfold Func.isWrapper; first | (rw [if_pos (by decide +kernel)]; kernel_rfl) | (rw [if_neg (by decide +kernel)]; exact ⟨rfl, rfl⟩))
    (fun os started H enc _ => lifted os started H enc)
theorem proved : Rows.ShapeStraightSaid := over
#print axioms proved
end Go.Proofs.Ytdbjoopkliafeaa.shapeStraight
namespace Go.Proofs.Ytdbjoopkliafeaa
/-- The row, under a short name, for the claim. -/
theorem shapeStraight_holds : Rows.ShapeStraightSaid := shapeStraight.proved
end Go.Proofs.Ytdbjoopkliafeaa
