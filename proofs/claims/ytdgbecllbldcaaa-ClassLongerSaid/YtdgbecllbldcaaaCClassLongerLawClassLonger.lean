/- The law ClassLonger (sawmill/sawmilllaw16.ClassLonger): called with any arguments that can be read as data it returns true, and the arguments read as before. Conditions: none.
  The machine's side; the pure statement is proved in YtdgbecllbldcaaaPureClassLonger. -/
import Derived.Test.YtdgbecllbldcaaaCClassLongerV4
import Derived.Test.YtdgbecllbldcaaaRows
import Derived.Test.YtdgbecllbldcaaaCClassLongerPureClassLonger
import Derived.WalkKit
import Derived.ProofKit
import Derived.OpenShut
import Derived.ShutString
import Derived.ChangeOld
import Derived.Below
import Derived.SizedLaws
namespace Go.Proofs.Ytdgbecllbldcaaa.classLonger
open Go.ChangeShapes Go.WideShapes Go.ChangeAt Go.RowKit
open Go.ChangeMaps (open_string shut_string)
open Go.Proofs.Ytdgbecllbldcaaa.P Go.Proofs.YtdgbecllbldcaaaW.PrintWords Go.Proofs.YtdgbecllbldcaaaW.PrintMore
set_option linter.unusedVariables false
theorem own : ownKnob Try.prog.godebug = Option.none := by kernel_rfl
theorem laidOut : laidOutB Try.prog = true := by kernel_rfl
set_option maxRecDepth 100000 in
theorem lifted (os : Os) (started : os.Started) (H : Type) (enc : TypeId × Value → H) :
    ReturnsInHanded {} Try.checked os 9 .any (Rows.classLongerSpec.pre6 enc Try.prog Try.f9 Rows.classLongerRow.domain false) (Rows.classLongerSpec.post enc Try.prog Try.f9 false true false false) := by
  refine returnsInHanded_of_change_sized (C := Try.checked) own started (by kernel_rfl) Try.func9
    (ChangeSpec.witness6 (enc := enc) (C := Try.checked) false ⟨#[], #[.slice none 0 0, .slice none 0 0, .agg #[.slice none 0 0, .slice none 0 0]], []⟩ 8 (by kernel_rfl) (by kernel_rfl) (by kernel_rfl) (by kernel_rfl)) ?_
  intro W base args ds gs before hval0 hW hcnd _ _
  have hval : ∀ (j : Nat) t v, Try.f9.params[j]? = some t → args[j]? = some v → Value.okWide Try.prog W .any base t v := hval0
  have hW' := hW
  obtain ⟨p, q, hA0, hV, rfl, hfz, hnd⟩ := hW
  have hA : DataW.TrodAll enc Try.prog W 0 (fun _ => true) true Try.f9.params.toList args.toList ds p := hA0
  rw [Try.params9] at hA hval
  obtain ⟨v0, vs0, d0, ds0, p0, q0, hargs, rfl, rfl, h0, r0⟩ := trodAll_cons hA
  obtain ⟨v1, vs1, d1, ds1, p1, q1, rfl, rfl, rfl, h1, r1⟩ := trodAll_cons r0
  obtain ⟨v2, vs2, d2, ds2, p2, q2, rfl, rfl, rfl, h2, r2⟩ := trodAll_cons r1
  obtain ⟨rfl, rfl, rfl⟩ := trodAll_nil r2
  obtain rfl : args = #[v0, v1, v2] := by cases args; simp_all
  obtain ⟨rfl, rfl⟩ := trodVars_none hV
  obtain ⟨aa0, len0, cap0, rfl⟩ := okWide_slice Try.underlying22 (hval 0 22 v0 rfl rfl)
  have k0 := h0
  have lt0 : ∀ x ∈ p0, x.block < W.heap.size := by obtain ⟨m, hm⟩ := k0; exact DataW.trod_lt m _ _ _ hm
  obtain ⟨fuel0, hf0⟩ := h0
  obtain ⟨y0, hK0, hw0⟩ := (opens_slice (α := S28) 28 Try.underlying22 (by kernel_rfl) o28) H enc W 0 _ _ _ _ _ hf0
  obtain ⟨A0, c0, hc0, hl0, hr0⟩ := hK0
  obtain ⟨rfl, rfl, rfl⟩ : aa0 = A0 ∧ len0 = y0.length ∧ cap0 = c0 := by simpa [Value.cells] using hc0
  obtain ⟨aa1, len1, cap1, rfl⟩ := okWide_slice Try.underlying22 (hval 1 22 v1 rfl rfl)
  have k1 := h1
  have lt1 : ∀ x ∈ p1, x.block < W.heap.size := by obtain ⟨m, hm⟩ := k1; exact DataW.trod_lt m _ _ _ hm
  obtain ⟨fuel1, hf1⟩ := h1
  obtain ⟨y1, hK1, hw1⟩ := (opens_slice (α := S28) 28 Try.underlying22 (by kernel_rfl) o28) H enc W 0 _ _ _ _ _ hf1
  obtain ⟨A1, c1, hc1, hl1, hr1⟩ := hK1
  obtain ⟨rfl, rfl, rfl⟩ : aa1 = A1 ∧ len1 = y1.length ∧ cap1 = c1 := by simpa [Value.cells] using hc1
  obtain ⟨cs2, rfl, _⟩ := okWide_struct Try.underlying32 (hval 2 32 v2 rfl rfl)
  have k2 := h2
  have lt2 : ∀ x ∈ p2, x.block < W.heap.size := by obtain ⟨m, hm⟩ := k2; exact DataW.trod_lt m _ _ _ hm
  obtain ⟨fuel2, hf2⟩ := h2
  obtain ⟨y2, hK2, hw2⟩ := o32 H enc W 0 _ _ _ _ _ hf2
  obtain ⟨A2_0, c2_0, A2_1, c2_1, hc2, hl2_0, hr2_0, hl2_1, hr2_1⟩ := k32_open hK2
  obtain rfl : cs2 = #[.slice A2_0 y2.f0.length c2_0, .slice A2_1 y2.f1.length c2_1] := by cases cs2; simpa [Value.cells] using hc2
  clear hA0 hval0
  obtain ⟨k, hk⟩ := Pure.ClassLonger y0 y1 y2.f0 y2.f1 hw0 hw1 hw2
  refine (sawmilllaw16_ClassLonger.calls k _ _ y0 _ _ y1 _ _ y2.f0 _ _ y2.f1 true W hr0 hl0 hr1 hl1 hr2_0 hl2_0 hr2_1 hl2_1 hk).mono fun e W' hh => ?_
  obtain ⟨he, bel⟩ := hh
  subst he
  exact ⟨_, rfl, _, _, _, [], _, [], hW', trodAll_mk1 (shut_bool Try.underlying4 _), (trodAll_cons_mk (Below.trod laidOut (by kernel_rfl) (of_decide_eq_true (by kernel_rfl)) k0 bel lt0) (trodAll_cons_mk (Below.trod laidOut (by kernel_rfl) (of_decide_eq_true (by kernel_rfl)) k1 bel lt1) (trodAll_cons_mk (Below.trod laidOut (by kernel_rfl) (of_decide_eq_true (by kernel_rfl)) k2 bel lt2) trodAll_mk0))), rfl, bel.frame _, fun h => by cases h⟩
theorem over : Rows.classLongerRow.holds Try.pinned (OpenSpec.ofChange Rows.classLongerSpec) :=
  OpenClaim.holds_of_wide 9 Try.f9 rfl rfl rfl rfl rfl rfl rfl ⟨rfl, rfl, rfl, rfl, rfl⟩ rfl rfl rfl rfl rfl (by kernel_rfl) Try.func9 (by kernel_rfl)
    (of_decide_eq_true (by kernel_rfl)) (by unfold Func.isWrapper; first | (rw [if_pos (by decide +kernel)]; kernel_rfl) | (rw [if_neg (by decide +kernel)]; exact ⟨rfl, rfl⟩))
    (fun os started H enc _ => lifted os started H enc)
theorem proved : Rows.ClassLongerSaid := over
#print axioms proved
end Go.Proofs.Ytdgbecllbldcaaa.classLonger
namespace Go.Proofs.Ytdgbecllbldcaaa
/-- The row, under a short name, for the claim. -/
theorem classLonger_holds : Rows.ClassLongerSaid := classLonger.proved
end Go.Proofs.Ytdgbecllbldcaaa
