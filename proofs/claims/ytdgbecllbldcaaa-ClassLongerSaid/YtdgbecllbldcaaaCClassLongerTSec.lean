/- Cross-sections: what Check, Area and Bounds come to, in the program and in the reference. -/
import Derived.Test.YtdgbecllbldcaaaCClassLongerV4
import Derived.Test.YtdgbecllbldcaaaCClassLongerTBase
set_option linter.unusedVariables false
set_option linter.unusedSimpArgs false
namespace Go.Proofs.Ytdgbecllbldcaaa.P
open Go Go.RowKit Go.Proofs.YtdgbecllbldcaaaW.PrintWords Go.Proofs.YtdgbecllbldcaaaW.PrintLast Go.Proofs.YtdgbecllbldcaaaW.PrintMore
def outB (r : Sp) : Bool := decide (r.f0 < -600) || decide (600 < r.f0) || decide (r.f1 < -600) || decide (600 < r.f1)
def empB (r : Sp) : Bool := decide (r.f0 ≥ r.f1)
def badB (r : Sp) : Bool := empB r && !(r.f0 == 0 && r.f1 == 0)
/-- The error of a section. -/
def secChk (low : Int) (rows : List Sp) : Int :=
  if (rows.length : Int) > 120 then 4 else if low < -60 ∨ low > 60 - rows.length then 9 else if rows.any outB then 9 else
  if rows = [] then (if low = 0 then 0 else 19) else if empB (rows.getD 0 z44) || empB (rows.getD (rows.length - 1) z44) then 19 else if rows.any badB then 19 else 0

theorem rd0 (rows : List Sp) : rd_T44 rows 0 = rows.getD 0 z44 := rfl
theorem rdlast (rows : List Sp) (h : rows ≠ []) : rd_T44 rows ((rows.length : Int) - 1) = rows.getD (rows.length - 1) z44 := by
  unfold rd_T44
  have : 0 < rows.length := List.length_pos_iff.2 h
  rw [show ((rows.length : Int) - 1).toNat = rows.length - 1 by omega]

theorem section_outside_eq (a b : Int) : section_outside.f a b = some (outB ⟨a, b⟩) := by
  have e : section_outside.f a b = some (decide (mn a b < -600 ∨ mx a b > 600)) := by
    unfold section_outside.f
    split <;> simp [*]
  rw [e, mn_eq, mx_eq]
  congr 1
  unfold outB
  rw [Bool.eq_iff_iff]
  simp
  omega
theorem section_empty_eq (a b : Int) : section_empty.f a b = some (empB ⟨a, b⟩) := rfl

theorem section_Check_l1 (rows : List Sp) (hn : rows.length ≤ 120) : Ev (fun k => section_Check.l1 k rows (rows.length : Int) 0) (if rows.any badB then 19 else 0) := by
  refine Ev.list0 (σ := Unit) rows (fun k i _ => section_Check.l1 k rows (rows.length : Int) i) (fun suf _ => if suf.any badB then 19 else 0) (fun _ _ => True) ?_ ?_ () trivial
  · intro s _
    refine Ev.step (f := fun _ => some 0) (fun k => by rw [section_Check.l1, if_neg (by omega)]) (Ev.now _)
  · intro i x suf s _ hi hx ih
    have hr := rdS_at hx
    have key : ∀ k, section_Check.l1 (k + 1) rows (rows.length : Int) (i : Int) = if badB x then some 19 else section_Check.l1 k rows (rows.length : Int) ((i + 1 : Nat) : Int) := by
      intro k
      rw [section_Check.l1, if_pos (by omega), if_pos (by omega), if_pos (by omega), hr, section_empty_eq, Option.bind_some, wsucc hi (by omega)]
      unfold badB
      cases he : empB x <;> simp
    refine Ev.step key ?_
    cases hb : badB x
    · simpa [hb] using ih () trivial
    · simpa [hb] using Ev.now (19 : Int)
theorem section_Check_j2 (b : Bool) (low : Int) (rows : List Sp) (hn : rows.length ≤ 120) : Ev (fun k => section_Check.j2 k b low rows) (if b then 19 else if rows.any badB then 19 else 0) := by
  cases b
  · exact Ev.step (fun k => by rw [section_Check.j2, if_neg (by simp)]) (by simpa using section_Check_l1 rows hn)
  · exact Ev.step (f := fun _ => some 19) (fun k => by rw [section_Check.j2, if_pos rfl]) (by simpa using Ev.now (19 : Int))
theorem section_Check_l0 (low : Int) (rows : List Sp) (hn : rows.length ≤ 120) :
    Ev (fun k => section_Check.l0 k (rows.length : Int) rows (rows.length : Int) 0 low rows) (if rows.any outB then 9 else if rows = [] then (if low = 0 then 0 else 19) else if empB (rows.getD 0 z44) || empB (rows.getD (rows.length - 1) z44) then 19 else if rows.any badB then 19 else 0) := by
  refine Ev.list0 (σ := Unit) rows (fun k i _ => section_Check.l0 k (rows.length : Int) rows (rows.length : Int) i low rows) (fun suf _ => if suf.any outB then 9 else if rows = [] then (if low = 0 then 0 else 19) else if empB (rows.getD 0 z44) || empB (rows.getD (rows.length - 1) z44) then 19 else if rows.any badB then 19 else 0) (fun _ _ => True) ?_ ?_ () trivial
  · intro s _
    by_cases h0 : rows = []
    · refine Ev.step (f := fun _ => some (if low = 0 then 0 else 19)) (fun k => ?_) (by simpa [h0] using Ev.now (if low = 0 then (0 : Int) else 19))
      rw [section_Check.l0, if_neg (by omega), if_pos (by simp [h0])]
      split <;> rfl
    · have hp : 0 < rows.length := List.length_pos_iff.2 h0
      have hz : ¬ (rows.length : Int) = 0 := by omega
      cases he : empB (rows.getD 0 z44)
      · refine Ev.step (f := fun k => section_Check.j2 k (empB (rows.getD (rows.length - 1) z44)) low rows) (fun k => ?_) ?_
        · rw [section_Check.l0, if_neg (by omega), if_neg hz, if_pos (by omega), rd0, section_empty_eq, Option.bind_some]
          rw [if_neg (by simpa using he), w64 (by omega) (by omega), if_pos (by omega), if_pos (by omega), rdlast _ h0, section_empty_eq, Option.bind_some]
        · simpa [h0, he] using section_Check_j2 (empB (rows.getD (rows.length - 1) z44)) low rows hn
      · refine Ev.step (f := fun k => section_Check.j2 k true low rows) (fun k => ?_) ?_
        · rw [section_Check.l0, if_neg (by omega), if_neg hz, if_pos (by omega), rd0, section_empty_eq, Option.bind_some, if_pos (by simpa using he)]
        · simpa [h0, he] using section_Check_j2 true low rows hn
  · intro i x suf s _ hi hx ih
    have hr := rdS_at hx
    have key : ∀ k, section_Check.l0 (k + 1) (rows.length : Int) rows (rows.length : Int) (i : Int) low rows = if outB x then some 9 else section_Check.l0 k (rows.length : Int) rows (rows.length : Int) ((i + 1 : Nat) : Int) low rows := by
      intro k
      rw [section_Check.l0, if_pos (by omega), if_pos (by omega), if_pos (by omega), hr, section_outside_eq, Option.bind_some, wsucc hi (by omega)]
    refine Ev.step key ?_
    cases hb : outB x
    · simpa [hb] using ih () trivial
    · simpa [hb] using Ev.now (9 : Int)
theorem section_Check_ev (low : Int) (rows : List Sp) : Ev (fun k => section_Check.f k low rows) (secChk low rows) := by
  unfold secChk
  by_cases h1 : (rows.length : Int) > 120
  · simpa [section_Check.f, h1] using Ev.now (4 : Int)
  · have hw : wrap64 (60 - (rows.length : Int)) = 60 - rows.length := w64 (by omega) (by omega)
    by_cases h2 : low < -60 ∨ low > 60 - rows.length
    · have key : ∀ k, section_Check.f (k + 1) low rows = some 9 := by
        intro k
        unfold section_Check.f
        rw [if_neg h1, hw]
        by_cases h3 : low < -60
        · rw [if_pos h3, section_Check.j0, if_pos rfl]
        · rw [if_neg h3, section_Check.j0, if_pos (by simp; omega)]
      rw [if_neg h1, if_pos h2]
      exact Ev.step key (Ev.now _)
    · have key : ∀ k, section_Check.f (k + 1) low rows = section_Check.l0 k (rows.length : Int) rows (rows.length : Int) 0 low rows := by
        intro k
        unfold section_Check.f
        rw [if_neg h1, hw, if_neg (by omega), section_Check.j0, if_neg (by simp; omega)]
      rw [if_neg h1, if_neg h2]
      exact Ev.step key (section_Check_l0 low rows (by omega))
end Go.Proofs.Ytdgbecllbldcaaa.P
