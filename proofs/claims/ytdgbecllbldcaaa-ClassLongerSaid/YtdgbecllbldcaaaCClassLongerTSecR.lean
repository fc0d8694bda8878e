/- Cross-sections: what the reference's Check comes to; what a valid section is; areas and bounds of both. -/
import Derived.Test.YtdgbecllbldcaaaCClassLongerV4
import Derived.Test.YtdgbecllbldcaaaCClassLongerTSec
set_option linter.unusedVariables false
set_option linter.unusedSimpArgs false
namespace Go.Proofs.Ytdgbecllbldcaaa.P
open Go Go.RowKit Go.Proofs.YtdgbecllbldcaaaW.PrintWords Go.Proofs.YtdgbecllbldcaaaW.PrintLast Go.Proofs.YtdgbecllbldcaaaW.PrintMore
/-- What is known of a valid section. -/
structure SecOk (low : Int) (rows : List Sp) : Prop where
  len : rows.length ≤ 120
  lo : -60 ≤ low
  hi : low ≤ 60 - rows.length
  inr : ∀ r ∈ rows, -600 ≤ r.f0 ∧ r.f0 ≤ 600 ∧ -600 ≤ r.f1 ∧ r.f1 ≤ 600
  good : ∀ r ∈ rows, r.f0 < r.f1 ∨ (r.f0 = 0 ∧ r.f1 = 0)
  nil : rows = [] → low = 0
  first : rows ≠ [] → (rows.getD 0 z44).f0 < (rows.getD 0 z44).f1
  last : rows ≠ [] → (rows.getD (rows.length - 1) z44).f0 < (rows.getD (rows.length - 1) z44).f1
theorem secOk_of {low : Int} {rows : List Sp} (h : secChk low rows = 0) : SecOk low rows := by
  unfold secChk at h
  by_cases h1 : (rows.length : Int) > 120
  · rw [if_pos h1] at h; cases h
  rw [if_neg h1] at h
  by_cases h2 : low < -60 ∨ low > 60 - rows.length
  · rw [if_pos h2] at h; cases h
  rw [if_neg h2] at h
  by_cases h3 : rows.any outB = true
  · rw [if_pos h3] at h; cases h
  rw [if_neg h3] at h
  have hin : ∀ r ∈ rows, -600 ≤ r.f0 ∧ r.f0 ≤ 600 ∧ -600 ≤ r.f1 ∧ r.f1 ≤ 600 := by
    intro r hr
    have : outB r = false := by
      cases ho : outB r
      · rfl
      · exact absurd (List.any_eq_true.2 ⟨r, hr, ho⟩) h3
    unfold outB at this
    simp at this
    omega
  by_cases h4 : rows = []
  · subst h4
    rw [if_pos rfl] at h
    have h5 : low = 0 := by
      by_cases h5 : low = 0
      · exact h5
      · rw [if_neg h5] at h; cases h
    exact ⟨by omega, by omega, by omega, hin, (fun r hr => by cases hr), fun _ => h5, fun h => absurd rfl h, fun h => absurd rfl h⟩
  · rw [if_neg h4] at h
    by_cases h5 : (empB (rows.getD 0 z44) || empB (rows.getD (rows.length - 1) z44)) = true
    · rw [if_pos h5] at h; cases h
    rw [if_neg h5] at h
    by_cases h6 : rows.any badB = true
    · rw [if_pos h6] at h; cases h
    simp [empB] at h5
    refine ⟨by omega, by omega, by omega, hin, fun r hr => ?_, fun h => absurd h h4, fun _ => ?_, fun _ => ?_⟩
    · have : badB r = false := by
        cases ho : badB r
        · rfl
        · exact absurd (List.any_eq_true.2 ⟨r, hr, ho⟩) h6
      unfold badB empB at this
      simp at this
      omega
    · rw [List.getD_eq_getElem?_getD]; exact h5.1
    · rw [List.getD_eq_getElem?_getD]; exact h5.2
/-- The section, or the empty one. -/
def validS (low : Int) (rows : List Sp) : Int × List Sp := if secChk low rows = 0 then (low, rows) else (0, [])
theorem secOk_nil : SecOk 0 [] := secOk_of (by decide)
theorem validS_ok (low : Int) (rows : List Sp) : SecOk (validS low rows).1 (validS low rows).2 := by
  unfold validS
  split
  · exact secOk_of ‹_›
  · exact secOk_nil
theorem section_valid_ev (low : Int) (rows : List Sp) : Ev (fun k => section_valid.f k low rows) (validS low rows) := by
  unfold section_valid.f
  refine Ev.bind (section_Check_ev low rows) ?_
  unfold validS
  split <;> exact Ev.now _
/-- The length of a span. -/
def lenS (r : Sp) : Int := if r.f0 < r.f1 then r.f1 - r.f0 else 0
theorem span_Len_eq {a b : Int} (h1 : -9000000000000000000 ≤ a) (h2 : b ≤ 90000000000000000) (h3 : a ≤ 9000000000000000000) (h4 : -90000000000000000 ≤ b) (h5 : -90000000000000000 ≤ a) : span_Len.f a b = some (lenS ⟨a, b⟩) := by
  unfold span_Len.f span_empty.f lenS
  simp only [Option.bind_some]
  by_cases h : a < b
  · rw [if_neg (by simp; omega), if_pos h]
    by_cases h0 : a < 0
    · rw [if_pos h0, w64 (by omega) (by omega), if_neg (by omega), w64 (by omega) (by omega)]
    · rw [if_neg h0, w64 (by omega) (by omega)]
  · rw [if_pos (by simp; omega), if_neg h]
def sumLen (rows : List Sp) : Int := (rows.map lenS).sum
theorem lenS_range {low : Int} {rows : List Sp} (h : SecOk low rows) {r : Sp} (hr : r ∈ rows) : 0 ≤ lenS r ∧ lenS r ≤ 1200 := by
  have := h.inr r hr
  unfold lenS
  split <;> omega
def areaS (low : Int) (rows : List Sp) : Int := 10 * sumLen (validS low rows).2
theorem sum_range (f : Sp → Int) (B : Int) : ∀ (rows : List Sp), (∀ r ∈ rows, 0 ≤ f r ∧ f r ≤ B) → 0 ≤ (rows.map f).sum ∧ (rows.map f).sum ≤ B * rows.length
  | [], _ => by simp
  | r :: rows, h => by
    have h1 := h r (by simp)
    have h2 := sum_range f B rows (fun x hx => h x (by simp [hx]))
    simp only [List.map_cons, List.sum_cons, List.length_cons]
    constructor
    · omega
    · rw [Int.natCast_add, Int.mul_add]; omega
theorem areaS_range (low : Int) (rows : List Sp) : 0 ≤ areaS low rows ∧ areaS low rows ≤ 1440000 := by
  have h := validS_ok low rows
  have h1 := sum_range lenS 1200 (validS low rows).2 (fun r hr => lenS_range h hr)
  have h2 := h.len
  unfold areaS sumLen
  omega
theorem section_Area_ev (low : Int) (rows : List Sp) : Ev (fun k => section_Area.f k low rows) (areaS low rows) := by
  unfold section_Area.f
  refine Ev.bind (section_valid_ev low rows) ?_
  have ok := validS_ok low rows
  unfold areaS
  generalize validS low rows = v at ok ⊢
  obtain ⟨lo, rs⟩ := v
  simp only at ok ⊢
  have hlen := ok.len
  refine evEq (Ev.list0 (σ := Int) rs (fun k i n => section_Area.l0 k n rs (rs.length : Int) i) (fun suf n => 10 * (n + sumLen suf)) (fun i n => 0 ≤ n ∧ n ≤ 1200 * i) ?_ ?_ 0 (by omega)) (by rw [Int.zero_add])
  · intro n hn
    refine Ev.step (f := fun _ => some (10 * (n + sumLen []))) (fun k => ?_) (Ev.now _)
    rw [section_Area.l0, if_neg (by omega), w64 (by omega) (by omega)]
    simp [sumLen]
  · intro i x suf n hn hi hx ih
    have hr := rdS_at hx
    have hm : x ∈ rs := List.mem_of_getElem? hx
    have hl := lenS_range ok hm
    have hin := ok.inr x hm
    refine Ev.step (f := fun k => section_Area.l0 k (n + lenS x) rs (rs.length : Int) ((i + 1 : Nat) : Int)) (fun k => ?_) (evEq (ih (n + lenS x) (by omega)) (by simp [sumLen, Int.add_assoc]))
    rw [section_Area.l0, if_pos (by omega), if_pos (by omega), if_pos (by omega), hr, span_Len_eq (by omega) (by omega) (by omega) (by omega) (by omega), Option.bind_some, show (⟨x.f0, x.f1⟩ : Sp) = x from rfl, wsucc hi (by omega), w64 (n := n + _) (by omega) (by omega)]
/-- The bounds of rows, from a span on. -/
def bndX : List Sp → Int → Int → Int × Int
  | [], a, b => (a, b)
  | r :: rs, a, b => if empB r then bndX rs a b else bndX rs (mn a r.f0) (mx b r.f1)
def bndV (low : Int) (rows : List Sp) : Int × Int × Int × Int :=
  if rows = [] then (0, 0, 0, 0) else ((bndX rows (rows.getD 0 z44).f0 (rows.getD 0 z44).f1).1, (bndX rows (rows.getD 0 z44).f0 (rows.getD 0 z44).f1).2, 10 * low, 10 * (low + rows.length))
def bndS (low : Int) (rows : List Sp) : Int × Int × Int × Int := bndV (validS low rows).1 (validS low rows).2
theorem section_Bounds_ev (low : Int) (rows : List Sp) : Ev (fun k => section_Bounds.f k low rows) (bndS low rows) := by
  unfold section_Bounds.f
  refine Ev.bind (section_valid_ev low rows) ?_
  have ok := validS_ok low rows
  unfold bndS
  generalize validS low rows = v at ok ⊢
  obtain ⟨lo, rs⟩ := v
  simp only at ok ⊢
  have hlen := ok.len
  have h1 := ok.lo
  have h2 := ok.hi
  unfold bndV
  by_cases h0 : rs = []
  · simpa [h0] using Ev.now ((0, 0, 0, 0) : Int × Int × Int × Int)
  · have hp : 0 < rs.length := List.length_pos_iff.2 h0
    simp only [if_neg (show ¬ (rs.length : Int) = 0 by omega), if_pos (show 0 < (rs.length : Int) by omega), if_neg h0]
    refine (Ev.list0 (σ := Int × Int) rs (fun k i s => section_Bounds.l0 k rs (rs.length : Int) i lo rs s.1 s.2) (fun suf s => ((bndX suf s.1 s.2).1, (bndX suf s.1 s.2).2, 10 * lo, 10 * (lo + rs.length))) (fun _ _ => True) ?_ ?_ (_, _) trivial)
    · intro s _
      refine Ev.step (f := fun _ => some (s.1, s.2, 10 * lo, 10 * (lo + (rs.length : Int)))) (fun k => ?_) (Ev.now _)
      rw [section_Bounds.l0, if_neg (by omega), w64 (n := 10 * lo) (by omega) (by omega), w64 (n := lo + _) (by omega) (by omega), w64 (by omega) (by omega)]
    · intro i x suf s _ hi hx ih
      have hr := rdS_at hx
      have key : ∀ k, section_Bounds.l0 (k + 1) rs (rs.length : Int) (i : Int) lo rs s.1 s.2 = if empB x then section_Bounds.l0 k rs (rs.length : Int) ((i + 1 : Nat) : Int) lo rs s.1 s.2 else section_Bounds.l0 k rs (rs.length : Int) ((i + 1 : Nat) : Int) lo rs (mn s.1 x.f0) (mx s.2 x.f1) := by
        intro k
        rw [section_Bounds.l0, if_pos (by omega), if_pos (by omega), if_pos (by omega), hr, section_empty_eq, Option.bind_some, wsucc hi (by omega)]
      refine Ev.step key ?_
      cases he : empB x
      · simpa [he, bndX] using ih (mn s.1 x.f0, mx s.2 x.f1) trivial
      · simpa [he, bndX] using ih s trivial
end Go.Proofs.Ytdgbecllbldcaaa.P
