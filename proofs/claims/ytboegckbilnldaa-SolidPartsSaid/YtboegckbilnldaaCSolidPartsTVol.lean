/- The volume of solids, in the program and in the reference; the examples of chapter 11. -/
import Derived.Test.YtboegckbilnldaaCSolidPartsV7
import Derived.Test.YtboegckbilnldaaCSolidPartsTSol
set_option linter.unusedVariables false
set_option linter.unusedSimpArgs false
namespace Go.Proofs.Ytboegckbilnldaa.P
open Go Go.RowKit Go.Proofs.YtboegckbilnldaaW.PrintWords Go.Proofs.YtboegckbilnldaaW.PrintLast Go.Proofs.YtboegckbilnldaaW.PrintMore
theorem small11_ev (l : List Slc) : ∃ b, Ev (fun k => sawmilllaw11_Small.f k l) b := by
  unfold sawmilllaw11_Small.f
  by_cases h0 : (l.length : Int) > 30
  · simp only [if_pos h0]; exact ⟨_, Ev.now _⟩
  · simp only [if_neg h0]
    refine ⟨_, Ev.list0 (σ := Unit) l (fun k i _ => sawmilllaw11_Small.l0 k l i) (fun suf _ => suf.all fun s => decide ((s.f1.f1.length : Int) ≤ 130)) (fun _ _ => True) ?_ ?_ () trivial⟩
    · intro s _
      exact Ev.step (f := fun _ => some true) (fun k => by rw [sawmilllaw11_Small.l0, if_neg (by omega)]) (evEq (Ev.now _) (by simp))
    · intro i x suf s _ hi hx ih
      have hr := rdL_at hx
      by_cases h1 : (x.f1.f1.length : Int) > 130
      · exact Ev.step (f := fun _ => some false) (fun k => by rw [sawmilllaw11_Small.l0, if_pos (by omega), if_pos (by omega), hr, if_pos h1]) (evEq (Ev.now _) (by simp; omega))
      · exact Ev.step (f := fun k => sawmilllaw11_Small.l0 k l ((i + 1 : Nat) : Int)) (fun k => by rw [sawmilllaw11_Small.l0, if_pos (by omega), if_pos (by omega), hr, if_neg h1, wsucc hi (by omega)]) (evEq (ih () trivial) (by simp; omega))
theorem awake11_ev : Ev (fun k => sawmilllaw11_awake.f k) true := Ev.of (fun k => sawmilllaw11_awake.mono k) (k := 60) (by kernel_rfl)
theorem rdP_at {xs : List Prt} {i : Nat} {x : Prt} (h : xs[i]? = some x) : rd_T67 xs (i : Int) = x := by
  unfold rd_T67
  rw [Int.toNat_natCast, List.getD_eq_getElem?_getD, h]
  rfl
/-- Parts that are not empty and not longer than a solid. -/
structure PartsOk (ps : List Prt) : Prop where
  len : ps.length ≤ 24
  each : ∀ p ∈ ps, 0 ≤ p.f0.f0 ∧ p.f0.f0 ≤ p.f0.f1 ∧ p.f0.f1 ≤ 20000
theorem partsL_ok {za zb : Int} : ∀ (l : List Slc) (p : Int), 0 ≤ p → (∀ s ∈ l, 1 ≤ s.f0) → p + sumZ l ≤ 20000 → ∀ q ∈ partsL za zb l p, 0 ≤ q.f0.f0 ∧ q.f0.f0 ≤ q.f0.f1 ∧ q.f0.f1 ≤ 20000
  | [], p, _, _, _ => by intro q hq; cases hq
  | s :: r, p, h0, h1, h2 => by
    have hs := h1 s (by simp)
    have hr : ∀ x ∈ r, 1 ≤ x.f0 := fun x hx => h1 x (by simp [hx])
    have := sumZ_nonneg hr
    simp only [sumZ] at h2
    have ih := partsL_ok (za := za) (zb := zb) r (p + s.f0) (by omega) hr (by omega)
    intro q hq
    simp only [partsL] at hq
    split at hq
    · rcases List.mem_cons.1 hq with e | hq
      · subst e; simp only; omega
      · exact ih q hq
    · exact ih q hq
theorem partsL_len {za zb : Int} : ∀ (l : List Slc) (p : Int), (partsL za zb l p).length ≤ l.length
  | [], p => by simp [partsL]
  | s :: r, p => by
    have := partsL_len (za := za) (zb := zb) r (p + s.f0)
    simp only [partsL]
    split <;> simp <;> omega
theorem partsS_ok (l : List Slc) (za zb : Int) : PartsOk (partsS l za zb) := by
  unfold partsS
  by_cases h : solChk l = 0
  · have ok := (solOk_iff l).1 h
    rw [if_pos h]
    exact ⟨Nat.le_trans (partsL_len l 0) ok.len, partsL_ok l 0 (by omega) ok.pos (by have := ok.sum; omega)⟩
  · rw [if_neg h]
    exact ⟨by simp, fun p hp => by cases hp⟩
end Go.Proofs.Ytboegckbilnldaa.P
