/- Cross-sections: what the reference's Check comes to; what a valid section is; areas and bounds of both. -/
import Derived.Test.YtboegckbilnldaaCSolidPartsV7
import Derived.Test.YtboegckbilnldaaCSolidPartsTSec
set_option linter.unusedVariables false
set_option linter.unusedSimpArgs false
namespace Go.Proofs.Ytboegckbilnldaa.P
open Go Go.RowKit Go.Proofs.YtboegckbilnldaaW.PrintWords Go.Proofs.YtboegckbilnldaaW.PrintLast Go.Proofs.YtboegckbilnldaaW.PrintMore
theorem r10_empty_eq (a b : Int) : sawmillref10_empty.f a b = some (empB ⟨a, b⟩) := rfl
theorem r10_beyond_eq (a : Int) : sawmillref10_beyond.f a = some (decide (a < -600) || decide (600 < a)) := by
  unfold sawmillref10_beyond.f
  split
  · simp [*]
  · simp only [gt_iff_lt, Option.some.injEq]
    rw [Bool.eq_iff_iff]
    simp
    omega
theorem r10_Check_l1 (low : Int) (rows : List Sp) (hn : rows.length ≤ 120) : Ev (fun k => sawmillref10_Check.l1 k (rows.length : Int) 0 low rows) (if rows.any badB then 19 else 0) := by
  refine Ev.list0 (σ := Unit) rows (fun k i _ => sawmillref10_Check.l1 k (rows.length : Int) i low rows) (fun suf _ => if suf.any badB then 19 else 0) (fun _ _ => True) ?_ ?_ () trivial
  · intro s _
    refine Ev.step (f := fun _ => some 0) (fun k => by rw [sawmillref10_Check.l1, if_neg (by omega)]) (Ev.now _)
  · intro i x suf s _ hi hx ih
    have hr := rdS_at hx
    have key : ∀ k, sawmillref10_Check.l1 (k + 1) (rows.length : Int) (i : Int) low rows = if badB x then some 19 else sawmillref10_Check.l1 k (rows.length : Int) ((i + 1 : Nat) : Int) low rows := by
      intro k
      rw [sawmillref10_Check.l1, if_pos (by omega), if_pos (by omega), if_pos (by omega), hr, r10_empty_eq, Option.bind_some, wsucc hi (by omega)]
      unfold badB
      cases he : empB x <;> simp
    refine Ev.step key ?_
    cases hb : badB x
    · simpa [hb] using ih () trivial
    · simpa [hb] using Ev.now (19 : Int)
theorem r10_Check_j2 (b : Bool) (low : Int) (rows : List Sp) (hn : rows.length ≤ 120) : Ev (fun k => sawmillref10_Check.j2 k (rows.length : Int) b low rows) (if b then 19 else if rows.any badB then 19 else 0) := by
  cases b
  · exact Ev.step (fun k => by rw [sawmillref10_Check.j2, if_neg (by simp)]) (by simpa using r10_Check_l1 low rows hn)
  · exact Ev.step (f := fun _ => some 19) (fun k => by rw [sawmillref10_Check.j2, if_pos rfl]) (by simpa using Ev.now (19 : Int))
theorem r10_Check_l0 (low : Int) (rows : List Sp) (hn : rows.length ≤ 120) :
    Ev (fun k => sawmillref10_Check.l0 k (rows.length : Int) 0 low rows) (if rows.any outB then 9 else if rows = [] then (if low = 0 then 0 else 19) else if empB (rows.getD 0 z29) || empB (rows.getD (rows.length - 1) z29) then 19 else if rows.any badB then 19 else 0) := by
  refine Ev.list0 (σ := Unit) rows (fun k i _ => sawmillref10_Check.l0 k (rows.length : Int) i low rows) (fun suf _ => if suf.any outB then 9 else if rows = [] then (if low = 0 then 0 else 19) else if empB (rows.getD 0 z29) || empB (rows.getD (rows.length - 1) z29) then 19 else if rows.any badB then 19 else 0) (fun _ _ => True) ?_ ?_ () trivial
  · intro s _
    by_cases h0 : rows = []
    · refine Ev.step (f := fun _ => some (if low = 0 then 0 else 19)) (fun k => ?_) (by simpa [h0] using Ev.now (if low = 0 then (0 : Int) else 19))
      rw [sawmillref10_Check.l0, if_neg (by omega), if_pos (by simp [h0])]
      split <;> rfl
    · have hp : 0 < rows.length := List.length_pos_iff.2 h0
      have hz : ¬ (rows.length : Int) = 0 := by omega
      cases he : empB (rows.getD 0 z29)
      · refine Ev.step (f := fun k => sawmillref10_Check.j2 k (rows.length : Int) (empB (rows.getD (rows.length - 1) z29)) low rows) (fun k => ?_) ?_
        · rw [sawmillref10_Check.l0, if_neg (by omega), if_neg hz, if_pos (by omega), rd0, r10_empty_eq, Option.bind_some]
          rw [if_neg (by simpa using he), w64 (by omega) (by omega), if_pos (by omega), if_pos (by omega), rdlast _ h0, r10_empty_eq, Option.bind_some]
        · simpa [h0, he] using r10_Check_j2 (empB (rows.getD (rows.length - 1) z29)) low rows hn
      · refine Ev.step (f := fun k => sawmillref10_Check.j2 k (rows.length : Int) true low rows) (fun k => ?_) ?_
        · rw [sawmillref10_Check.l0, if_neg (by omega), if_neg hz, if_pos (by omega), rd0, r10_empty_eq, Option.bind_some, if_pos (by simpa using he)]
        · simpa [h0, he] using r10_Check_j2 true low rows hn
  · intro i x suf s _ hi hx ih
    have hr := rdS_at hx
    have key : ∀ k, sawmillref10_Check.l0 (k + 1) (rows.length : Int) (i : Int) low rows = if outB x then some 9 else sawmillref10_Check.l0 k (rows.length : Int) ((i + 1 : Nat) : Int) low rows := by
      intro k
      rw [sawmillref10_Check.l0, if_pos (by omega), if_pos (by omega), if_pos (by omega), hr, r10_beyond_eq, Option.bind_some, r10_beyond_eq, Option.bind_some, wsucc hi (by omega)]
      unfold outB
      cases decide (x.f0 < -600) <;> cases decide (600 < x.f0) <;> cases decide (x.f1 < -600) <;> cases decide (600 < x.f1) <;> rfl
    refine Ev.step key ?_
    cases hb : outB x
    · simpa [hb] using ih () trivial
    · simpa [hb] using Ev.now (9 : Int)
theorem r10_Check_ev (low : Int) (rows : List Sp) : Ev (fun k => sawmillref10_Check.f k low rows) (secChk low rows) := by
  unfold secChk
  by_cases h1 : (rows.length : Int) > 120
  · simpa [sawmillref10_Check.f, h1] using Ev.now (4 : Int)
  · have hw : wrap64 (60 - (rows.length : Int)) = 60 - rows.length := w64 (by omega) (by omega)
    by_cases h2 : low < -60 ∨ low > 60 - rows.length
    · have key : ∀ k, sawmillref10_Check.f (k + 1) low rows = some 9 := by
        intro k
        unfold sawmillref10_Check.f
        rw [if_neg h1, hw]
        by_cases h3 : low < -60
        · rw [if_pos h3, sawmillref10_Check.j0, if_pos rfl]
        · rw [if_neg h3, sawmillref10_Check.j0, if_pos (by simp; omega)]
      rw [if_neg h1, if_pos h2]
      exact Ev.step key (Ev.now _)
    · have key : ∀ k, sawmillref10_Check.f (k + 1) low rows = sawmillref10_Check.l0 k (rows.length : Int) 0 low rows := by
        intro k
        unfold sawmillref10_Check.f
        rw [if_neg h1, hw, if_neg (by omega), sawmillref10_Check.j0, if_neg (by simp; omega)]
      rw [if_neg h1, if_neg h2]
      exact Ev.step key (r10_Check_l0 low rows (by omega))

/-- What is known of a valid section. -/
structure SecOk (low : Int) (rows : List Sp) : Prop where
  len : rows.length ≤ 120
  lo : -60 ≤ low
  hi : low ≤ 60 - rows.length
  inr : ∀ r ∈ rows, -600 ≤ r.f0 ∧ r.f0 ≤ 600 ∧ -600 ≤ r.f1 ∧ r.f1 ≤ 600
  good : ∀ r ∈ rows, r.f0 < r.f1 ∨ (r.f0 = 0 ∧ r.f1 = 0)
  nil : rows = [] → low = 0
  first : rows ≠ [] → (rows.getD 0 z29).f0 < (rows.getD 0 z29).f1
  last : rows ≠ [] → (rows.getD (rows.length - 1) z29).f0 < (rows.getD (rows.length - 1) z29).f1
theorem secOk_of {low : Int} {rows : List Sp} (h : secChk low rows = 0) : SecOk low rows := by
  unfold secChk at h
  by_cases h1 : (rows.length : Int) > 120
  · rw [if_pos h1] at h; cases h
  rw [if_neg h1] at h
  by_cases h2 : low < -60 ∨ low > 60 - rows.length
  · rw [if_pos h2] at h; cases h
  rw [if_neg h2] at h
  by_cases h3 : rows.any outB = true
  · rw [if_pos h3] at h; cases h
  rw [if_neg h3] at h
  have hin : ∀ r ∈ rows, -600 ≤ r.f0 ∧ r.f0 ≤ 600 ∧ -600 ≤ r.f1 ∧ r.f1 ≤ 600 := by
    intro r hr
    have : outB r = false := by
      cases ho : outB r
      · rfl
      · exact absurd (List.any_eq_true.2 ⟨r, hr, ho⟩) h3
    unfold outB at this
    simp at this
    omega
  by_cases h4 : rows = []
  · subst h4
    rw [if_pos rfl] at h
    have h5 : low = 0 := by
      by_cases h5 : low = 0
      · exact h5
      · rw [if_neg h5] at h; cases h
    exact ⟨by omega, by omega, by omega, hin, (fun r hr => by cases hr), fun _ => h5, fun h => absurd rfl h, fun h => absurd rfl h⟩
  · rw [if_neg h4] at h
    by_cases h5 : (empB (rows.getD 0 z29) || empB (rows.getD (rows.length - 1) z29)) = true
    · rw [if_pos h5] at h; cases h
    rw [if_neg h5] at h
    by_cases h6 : rows.any badB = true
    · rw [if_pos h6] at h; cases h
    simp [empB] at h5
    refine ⟨by omega, by omega, by omega, hin, fun r hr => ?_, fun h => absurd h h4, fun _ => ?_, fun _ => ?_⟩
    · have : badB r = false := by
        cases ho : badB r
        · rfl
        · exact absurd (List.any_eq_true.2 ⟨r, hr, ho⟩) h6
      unfold badB empB at this
      simp at this
      omega
    · rw [List.getD_eq_getElem?_getD]; exact h5.1
    · rw [List.getD_eq_getElem?_getD]; exact h5.2
/-- The section, or the empty one. -/
def validS (low : Int) (rows : List Sp) : Int × List Sp := if secChk low rows = 0 then (low, rows) else (0, [])
theorem secOk_nil : SecOk 0 [] := secOk_of (by decide)
theorem validS_ok (low : Int) (rows : List Sp) : SecOk (validS low rows).1 (validS low rows).2 := by
  unfold validS
  split
  · exact secOk_of ‹_›
  · exact secOk_nil
theorem section_valid_ev (low : Int) (rows : List Sp) : Ev (fun k => section_valid.f k low rows) (validS low rows) := by
  unfold section_valid.f
  refine Ev.bind (section_Check_ev low rows) ?_
  unfold validS
  split <;> exact Ev.now _
theorem r10_Valid_ev (low : Int) (rows : List Sp) : Ev (fun k => sawmillref10_Valid.f k low rows) (validS low rows) := by
  unfold sawmillref10_Valid.f
  refine Ev.bind (r10_Check_ev low rows) ?_
  unfold validS
  split <;> exact Ev.now _
end Go.Proofs.Ytboegckbilnldaa.P
