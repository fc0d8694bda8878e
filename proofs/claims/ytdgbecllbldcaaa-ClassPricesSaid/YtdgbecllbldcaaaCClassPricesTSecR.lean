/- Cross-sections: what the reference's Check comes to; what a valid section is; areas and bounds of both. -/
import Derived.Test.YtdgbecllbldcaaaCClassPricesV7
import Derived.Test.YtdgbecllbldcaaaCClassPricesTSec
set_option linter.unusedVariables false
set_option linter.unusedSimpArgs false
namespace Go.Proofs.Ytdgbecllbldcaaa.P
open Go Go.RowKit Go.Proofs.YtdgbecllbldcaaaW.PrintWords Go.Proofs.YtdgbecllbldcaaaW.PrintLast Go.Proofs.YtdgbecllbldcaaaW.PrintMore
theorem r10_empty_eq (a b : Int) : sawmillref10_empty.f a b = some (empB ⟨a, b⟩) := rfl
theorem r10_beyond_eq (a : Int) : sawmillref10_beyond.f a = some (decide (a < -600) || decide (600 < a)) := by
  unfold sawmillref10_beyond.f
  split
  · simp [*]
  · simp only [gt_iff_lt, Option.some.injEq]
    rw [Bool.eq_iff_iff]
    simp
    omega
theorem r10_Check_l1 (low : Int) (rows : List Sp) (hn : rows.length ≤ 120) : Ev (fun k => sawmillref10_Check.l1 k (rows.length : Int) 0 low rows) (if rows.any badB then 19 else 0) := by
  refine Ev.list0 (σ := Unit) rows (fun k i _ => sawmillref10_Check.l1 k (rows.length : Int) i low rows) (fun suf _ => if suf.any badB then 19 else 0) (fun _ _ => True) ?_ ?_ () trivial
  · intro s _
    refine Ev.step (f := fun _ => some 0) (fun k => by rw [sawmillref10_Check.l1, if_neg (by omega)]) (Ev.now _)
  · intro i x suf s _ hi hx ih
    have hr := rdS_at hx
    have key : ∀ k, sawmillref10_Check.l1 (k + 1) (rows.length : Int) (i : Int) low rows = if badB x then some 19 else sawmillref10_Check.l1 k (rows.length : Int) ((i + 1 : Nat) : Int) low rows := by
      intro k
      rw [sawmillref10_Check.l1, if_pos (by omega), if_pos (by omega), if_pos (by omega), hr, r10_empty_eq, Option.bind_some, wsucc hi (by omega)]
      unfold badB
      cases he : empB x <;> simp
    refine Ev.step key ?_
    cases hb : badB x
    · simpa [hb] using ih () trivial
    · simpa [hb] using Ev.now (19 : Int)
theorem r10_Check_j2 (b : Bool) (low : Int) (rows : List Sp) (hn : rows.length ≤ 120) : Ev (fun k => sawmillref10_Check.j2 k (rows.length : Int) b low rows) (if b then 19 else if rows.any badB then 19 else 0) := by
  cases b
  · exact Ev.step (fun k => by rw [sawmillref10_Check.j2, if_neg (by simp)]) (by simpa using r10_Check_l1 low rows hn)
  · exact Ev.step (f := fun _ => some 19) (fun k => by rw [sawmillref10_Check.j2, if_pos rfl]) (by simpa using Ev.now (19 : Int))
theorem r10_Check_l0 (low : Int) (rows : List Sp) (hn : rows.length ≤ 120) :
    Ev (fun k => sawmillref10_Check.l0 k (rows.length : Int) 0 low rows) (if rows.any outB then 9 else if rows = [] then (if low = 0 then 0 else 19) else if empB (rows.getD 0 z44) || empB (rows.getD (rows.length - 1) z44) then 19 else if rows.any badB then 19 else 0) := by
  refine Ev.list0 (σ := Unit) rows (fun k i _ => sawmillref10_Check.l0 k (rows.length : Int) i low rows) (fun suf _ => if suf.any outB then 9 else if rows = [] then (if low = 0 then 0 else 19) else if empB (rows.getD 0 z44) || empB (rows.getD (rows.length - 1) z44) then 19 else if rows.any badB then 19 else 0) (fun _ _ => True) ?_ ?_ () trivial
  · intro s _
    by_cases h0 : rows = []
    · refine Ev.step (f := fun _ => some (if low = 0 then 0 else 19)) (fun k => ?_) (by simpa [h0] using Ev.now (if low = 0 then (0 : Int) else 19))
      rw [sawmillref10_Check.l0, if_neg (by omega), if_pos (by simp [h0])]
      split <;> rfl
    · have hp : 0 < rows.length := List.length_pos_iff.2 h0
      have hz : ¬ (rows.length : Int) = 0 := by omega
      cases he : empB (rows.getD 0 z44)
      · refine Ev.step (f := fun k => sawmillref10_Check.j2 k (rows.length : Int) (empB (rows.getD (rows.length - 1) z44)) low rows) (fun k => ?_) ?_
        · rw [sawmillref10_Check.l0, if_neg (by omega), if_neg hz, if_pos (by omega), rd0, r10_empty_eq, Option.bind_some]
          rw [if_neg (by simpa using he), w64 (by omega) (by omega), if_pos (by omega), if_pos (by omega), rdlast _ h0, r10_empty_eq, Option.bind_some]
        · simpa [h0, he] using r10_Check_j2 (empB (rows.getD (rows.length - 1) z44)) low rows hn
      · refine Ev.step (f := fun k => sawmillref10_Check.j2 k (rows.length : Int) true low rows) (fun k => ?_) ?_
        · rw [sawmillref10_Check.l0, if_neg (by omega), if_neg hz, if_pos (by omega), rd0, r10_empty_eq, Option.bind_some, if_pos (by simpa using he)]
        · simpa [h0, he] using r10_Check_j2 true low rows hn
  · intro i x suf s _ hi hx ih
    have hr := rdS_at hx
    have key : ∀ k, sawmillref10_Check.l0 (k + 1) (rows.length : Int) (i : Int) low rows = if outB x then some 9 else sawmillref10_Check.l0 k (rows.length : Int) ((i + 1 : Nat) : Int) low rows := by
      intro k
      rw [sawmillref10_Check.l0, if_pos (by omega), if_pos (by omega), if_pos (by omega), hr, r10_beyond_eq, Option.bind_some, r10_beyond_eq, Option.bind_some, wsucc hi (by omega)]
      unfold outB
      cases decide (x.f0 < -600) <;> cases decide (600 < x.f0) <;> cases decide (x.f1 < -600) <;> cases decide (600 < x.f1) <;> rfl
    refine Ev.step key ?_
    cases hb : outB x
    · simpa [hb] using ih () trivial
    · simpa [hb] using Ev.now (9 : Int)
theorem r10_Check_ev (low : Int) (rows : List Sp) : Ev (fun k => sawmillref10_Check.f k low rows) (secChk low rows) := by
  unfold secChk
  by_cases h1 : (rows.length : Int) > 120
  · simpa [sawmillref10_Check.f, h1] using Ev.now (4 : Int)
  · have hw : wrap64 (60 - (rows.length : Int)) = 60 - rows.length := w64 (by omega) (by omega)
    by_cases h2 : low < -60 ∨ low > 60 - rows.length
    · have key : ∀ k, sawmillref10_Check.f (k + 1) low rows = some 9 := by
        intro k
        unfold sawmillref10_Check.f
        rw [if_neg h1, hw]
        by_cases h3 : low < -60
        · rw [if_pos h3, sawmillref10_Check.j0, if_pos rfl]
        · rw [if_neg h3, sawmillref10_Check.j0, if_pos (by simp; omega)]
      rw [if_neg h1, if_pos h2]
      exact Ev.step key (Ev.now _)
    · have key : ∀ k, sawmillref10_Check.f (k + 1) low rows = sawmillref10_Check.l0 k (rows.length : Int) 0 low rows := by
        intro k
        unfold sawmillref10_Check.f
        rw [if_neg h1, hw, if_neg (by omega), sawmillref10_Check.j0, if_neg (by simp; omega)]
      rw [if_neg h1, if_neg h2]
      exact Ev.step key (r10_Check_l0 low rows (by omega))

/-- What is known of a valid section. -/
structure SecOk (low : Int) (rows : List Sp) : Prop where
  len : rows.length ≤ 120
  lo : -60 ≤ low
  hi : low ≤ 60 - rows.length
  inr : ∀ r ∈ rows, -600 ≤ r.f0 ∧ r.f0 ≤ 600 ∧ -600 ≤ r.f1 ∧ r.f1 ≤ 600
  good : ∀ r ∈ rows, r.f0 < r.f1 ∨ (r.f0 = 0 ∧ r.f1 = 0)
  nil : rows = [] → low = 0
  first : rows ≠ [] → (rows.getD 0 z44).f0 < (rows.getD 0 z44).f1
  last : rows ≠ [] → (rows.getD (rows.length - 1) z44).f0 < (rows.getD (rows.length - 1) z44).f1
theorem secOk_of {low : Int} {rows : List Sp} (h : secChk low rows = 0) : SecOk low rows := by
  unfold secChk at h
  by_cases h1 : (rows.length : Int) > 120
  · rw [if_pos h1] at h; cases h
  rw [if_neg h1] at h
  by_cases h2 : low < -60 ∨ low > 60 - rows.length
  · rw [if_pos h2] at h; cases h
  rw [if_neg h2] at h
  by_cases h3 : rows.any outB = true
  · rw [if_pos h3] at h; cases h
  rw [if_neg h3] at h
  have hin : ∀ r ∈ rows, -600 ≤ r.f0 ∧ r.f0 ≤ 600 ∧ -600 ≤ r.f1 ∧ r.f1 ≤ 600 := by
    intro r hr
    have : outB r = false := by
      cases ho : outB r
      · rfl
      · exact absurd (List.any_eq_true.2 ⟨r, hr, ho⟩) h3
    unfold outB at this
    simp at this
    omega
  by_cases h4 : rows = []
  · subst h4
    rw [if_pos rfl] at h
    have h5 : low = 0 := by
      by_cases h5 : low = 0
      · exact h5
      · rw [if_neg h5] at h; cases h
    exact ⟨by omega, by omega, by omega, hin, (fun r hr => by cases hr), fun _ => h5, fun h => absurd rfl h, fun h => absurd rfl h⟩
  · rw [if_neg h4] at h
    by_cases h5 : (empB (rows.getD 0 z44) || empB (rows.getD (rows.length - 1) z44)) = true
    · rw [if_pos h5] at h; cases h
    rw [if_neg h5] at h
    by_cases h6 : rows.any badB = true
    · rw [if_pos h6] at h; cases h
    simp [empB] at h5
    refine ⟨by omega, by omega, by omega, hin, fun r hr => ?_, fun h => absurd h h4, fun _ => ?_, fun _ => ?_⟩
    · have : badB r = false := by
        cases ho : badB r
        · rfl
        · exact absurd (List.any_eq_true.2 ⟨r, hr, ho⟩) h6
      unfold badB empB at this
      simp at this
      omega
    · rw [List.getD_eq_getElem?_getD]; exact h5.1
    · rw [List.getD_eq_getElem?_getD]; exact h5.2
/-- The section, or the empty one. -/
def validS (low : Int) (rows : List Sp) : Int × List Sp := if secChk low rows = 0 then (low, rows) else (0, [])
theorem secOk_nil : SecOk 0 [] := secOk_of (by decide)
theorem validS_ok (low : Int) (rows : List Sp) : SecOk (validS low rows).1 (validS low rows).2 := by
  unfold validS
  split
  · exact secOk_of ‹_›
  · exact secOk_nil
theorem section_valid_ev (low : Int) (rows : List Sp) : Ev (fun k => section_valid.f k low rows) (validS low rows) := by
  unfold section_valid.f
  refine Ev.bind (section_Check_ev low rows) ?_
  unfold validS
  split <;> exact Ev.now _
theorem r10_Valid_ev (low : Int) (rows : List Sp) : Ev (fun k => sawmillref10_Valid.f k low rows) (validS low rows) := by
  unfold sawmillref10_Valid.f
  refine Ev.bind (r10_Check_ev low rows) ?_
  unfold validS
  split <;> exact Ev.now _
/-- The length of a span. -/
def lenS (r : Sp) : Int := if r.f0 < r.f1 then r.f1 - r.f0 else 0
theorem span_Len_eq {a b : Int} (h1 : -9000000000000000000 ≤ a) (h2 : b ≤ 90000000000000000) (h3 : a ≤ 9000000000000000000) (h4 : -90000000000000000 ≤ b) (h5 : -90000000000000000 ≤ a) : span_Len.f a b = some (lenS ⟨a, b⟩) := by
  unfold span_Len.f span_empty.f lenS
  simp only [Option.bind_some]
  by_cases h : a < b
  · rw [if_neg (by simp; omega), if_pos h]
    by_cases h0 : a < 0
    · rw [if_pos h0, w64 (by omega) (by omega), if_neg (by omega), w64 (by omega) (by omega)]
    · rw [if_neg h0, w64 (by omega) (by omega)]
  · rw [if_pos (by simp; omega), if_neg h]
def sumLen (rows : List Sp) : Int := (rows.map lenS).sum
theorem lenS_range {low : Int} {rows : List Sp} (h : SecOk low rows) {r : Sp} (hr : r ∈ rows) : 0 ≤ lenS r ∧ lenS r ≤ 1200 := by
  have := h.inr r hr
  unfold lenS
  split <;> omega
def areaS (low : Int) (rows : List Sp) : Int := 10 * sumLen (validS low rows).2
theorem sum_range (f : Sp → Int) (B : Int) : ∀ (rows : List Sp), (∀ r ∈ rows, 0 ≤ f r ∧ f r ≤ B) → 0 ≤ (rows.map f).sum ∧ (rows.map f).sum ≤ B * rows.length
  | [], _ => by simp
  | r :: rows, h => by
    have h1 := h r (by simp)
    have h2 := sum_range f B rows (fun x hx => h x (by simp [hx]))
    simp only [List.map_cons, List.sum_cons, List.length_cons]
    constructor
    · omega
    · rw [Int.natCast_add, Int.mul_add]; omega
theorem areaS_range (low : Int) (rows : List Sp) : 0 ≤ areaS low rows ∧ areaS low rows ≤ 1440000 := by
  have h := validS_ok low rows
  have h1 := sum_range lenS 1200 (validS low rows).2 (fun r hr => lenS_range h hr)
  have h2 := h.len
  unfold areaS sumLen
  omega
theorem section_Area_ev (low : Int) (rows : List Sp) : Ev (fun k => section_Area.f k low rows) (areaS low rows) := by
  unfold section_Area.f
  refine Ev.bind (section_valid_ev low rows) ?_
  have ok := validS_ok low rows
  unfold areaS
  generalize validS low rows = v at ok ⊢
  obtain ⟨lo, rs⟩ := v
  simp only at ok ⊢
  have hlen := ok.len
  refine evEq (Ev.list0 (σ := Int) rs (fun k i n => section_Area.l0 k n rs (rs.length : Int) i) (fun suf n => 10 * (n + sumLen suf)) (fun i n => 0 ≤ n ∧ n ≤ 1200 * i) ?_ ?_ 0 (by omega)) (by rw [Int.zero_add])
  · intro n hn
    refine Ev.step (f := fun _ => some (10 * (n + sumLen []))) (fun k => ?_) (Ev.now _)
    rw [section_Area.l0, if_neg (by omega), w64 (by omega) (by omega)]
    simp [sumLen]
  · intro i x suf n hn hi hx ih
    have hr := rdS_at hx
    have hm : x ∈ rs := List.mem_of_getElem? hx
    have hl := lenS_range ok hm
    have hin := ok.inr x hm
    refine Ev.step (f := fun k => section_Area.l0 k (n + lenS x) rs (rs.length : Int) ((i + 1 : Nat) : Int)) (fun k => ?_) (evEq (ih (n + lenS x) (by omega)) (by simp [sumLen, Int.add_assoc]))
    rw [section_Area.l0, if_pos (by omega), if_pos (by omega), if_pos (by omega), hr, span_Len_eq (by omega) (by omega) (by omega) (by omega) (by omega), Option.bind_some, show (⟨x.f0, x.f1⟩ : Sp) = x from rfl, wsucc hi (by omega), w64 (n := n + _) (by omega) (by omega)]
theorem r10_Area_ev (low : Int) (rows : List Sp) : Ev (fun k => sawmillref10_Area.f k low rows) (areaS low rows) := by
  unfold sawmillref10_Area.f
  refine Ev.bind (r10_Valid_ev low rows) ?_
  have ok := validS_ok low rows
  unfold areaS
  generalize validS low rows = v at ok ⊢
  obtain ⟨lo, rs⟩ := v
  simp only at ok ⊢
  have hlen := ok.len
  refine evEq (Ev.list0 (σ := Int) rs (fun k i n => sawmillref10_Area.l0 k n i lo rs) (fun suf n => n + 10 * sumLen suf) (fun i n => 0 ≤ n ∧ n ≤ 12000 * i) ?_ ?_ 0 (by omega)) (by rw [Int.zero_add])
  · intro n hn
    refine Ev.step (f := fun _ => some (n + 10 * sumLen [])) (fun k => ?_) (Ev.now _)
    rw [sawmillref10_Area.l0, if_neg (by omega)]
    simp [sumLen]
  · intro i x suf n hn hi hx ih
    have hr := rdS_at hx
    have hm : x ∈ rs := List.mem_of_getElem? hx
    have hl := lenS_range ok hm
    have hin := ok.inr x hm
    have hg := ok.good x hm
    have he : lenS x = x.f1 - x.f0 := by unfold lenS; split <;> omega
    refine Ev.step (f := fun k => sawmillref10_Area.l0 k (n + 10 * lenS x) ((i + 1 : Nat) : Int) lo rs) (fun k => ?_) (evEq (ih (n + 10 * lenS x) (by omega)) (by simp [sumLen, Int.mul_add, Int.add_assoc]))
    rw [sawmillref10_Area.l0, if_pos (by omega), if_pos (by omega), hr, wsucc hi (by omega), w64 (n := x.f1 - x.f0) (by omega) (by omega), ← he, w64 (n := 10 * _) (by omega) (by omega), w64 (n := n + _) (by omega) (by omega)]
/-- The bounds of rows, from a span on. -/
def bndX : List Sp → Int → Int → Int × Int
  | [], a, b => (a, b)
  | r :: rs, a, b => if empB r then bndX rs a b else bndX rs (mn a r.f0) (mx b r.f1)
def bndV (low : Int) (rows : List Sp) : Int × Int × Int × Int :=
  if rows = [] then (0, 0, 0, 0) else ((bndX rows (rows.getD 0 z44).f0 (rows.getD 0 z44).f1).1, (bndX rows (rows.getD 0 z44).f0 (rows.getD 0 z44).f1).2, 10 * low, 10 * (low + rows.length))
def bndS (low : Int) (rows : List Sp) : Int × Int × Int × Int := bndV (validS low rows).1 (validS low rows).2
theorem section_Bounds_ev (low : Int) (rows : List Sp) : Ev (fun k => section_Bounds.f k low rows) (bndS low rows) := by
  unfold section_Bounds.f
  refine Ev.bind (section_valid_ev low rows) ?_
  have ok := validS_ok low rows
  unfold bndS
  generalize validS low rows = v at ok ⊢
  obtain ⟨lo, rs⟩ := v
  simp only at ok ⊢
  have hlen := ok.len
  have h1 := ok.lo
  have h2 := ok.hi
  unfold bndV
  by_cases h0 : rs = []
  · simpa [h0] using Ev.now ((0, 0, 0, 0) : Int × Int × Int × Int)
  · have hp : 0 < rs.length := List.length_pos_iff.2 h0
    simp only [if_neg (show ¬ (rs.length : Int) = 0 by omega), if_pos (show 0 < (rs.length : Int) by omega), if_neg h0]
    refine (Ev.list0 (σ := Int × Int) rs (fun k i s => section_Bounds.l0 k rs (rs.length : Int) i lo rs s.1 s.2) (fun suf s => ((bndX suf s.1 s.2).1, (bndX suf s.1 s.2).2, 10 * lo, 10 * (lo + rs.length))) (fun _ _ => True) ?_ ?_ (_, _) trivial)
    · intro s _
      refine Ev.step (f := fun _ => some (s.1, s.2, 10 * lo, 10 * (lo + (rs.length : Int)))) (fun k => ?_) (Ev.now _)
      rw [section_Bounds.l0, if_neg (by omega), w64 (n := 10 * lo) (by omega) (by omega), w64 (n := lo + _) (by omega) (by omega), w64 (by omega) (by omega)]
    · intro i x suf s _ hi hx ih
      have hr := rdS_at hx
      have key : ∀ k, section_Bounds.l0 (k + 1) rs (rs.length : Int) (i : Int) lo rs s.1 s.2 = if empB x then section_Bounds.l0 k rs (rs.length : Int) ((i + 1 : Nat) : Int) lo rs s.1 s.2 else section_Bounds.l0 k rs (rs.length : Int) ((i + 1 : Nat) : Int) lo rs (mn s.1 x.f0) (mx s.2 x.f1) := by
        intro k
        rw [section_Bounds.l0, if_pos (by omega), if_pos (by omega), if_pos (by omega), hr, section_empty_eq, Option.bind_some, wsucc hi (by omega)]
      refine Ev.step key ?_
      cases he : empB x
      · simpa [he, bndX] using ih (mn s.1 x.f0, mx s.2 x.f1) trivial
      · simpa [he, bndX] using ih s trivial
theorem r10_Bounds_ev (low : Int) (rows : List Sp) : Ev (fun k => sawmillref10_Bounds.f k low rows) (bndS low rows) := by
  unfold sawmillref10_Bounds.f
  refine Ev.bind (r10_Valid_ev low rows) ?_
  have ok := validS_ok low rows
  unfold bndS
  generalize validS low rows = v at ok ⊢
  obtain ⟨lo, rs⟩ := v
  simp only at ok ⊢
  have hlen := ok.len
  have h1 := ok.lo
  have h2 := ok.hi
  unfold bndV
  by_cases h0 : rs = []
  · simpa [h0] using Ev.now ((0, 0, 0, 0) : Int × Int × Int × Int)
  · have hp : 0 < rs.length := List.length_pos_iff.2 h0
    simp only [if_neg (show ¬ (rs.length : Int) = 0 by omega), if_pos (show 0 < (rs.length : Int) by omega), if_neg h0]
    refine (Ev.list0 (σ := Int × Int) rs (fun k i s => sawmillref10_Bounds.l0 k i lo rs s.1 s.2) (fun suf s => ((bndX suf s.1 s.2).1, (bndX suf s.1 s.2).2, 10 * lo, 10 * (lo + rs.length))) (fun _ _ => True) ?_ ?_ (_, _) trivial)
    · intro s _
      refine Ev.step (f := fun _ => some (s.1, s.2, 10 * lo, 10 * (lo + (rs.length : Int)))) (fun k => ?_) (Ev.now _)
      rw [sawmillref10_Bounds.l0, if_neg (by omega), w64 (n := 10 * lo) (by omega) (by omega), w64 (n := lo + _) (by omega) (by omega), w64 (by omega) (by omega)]
    · intro i x suf s _ hi hx ih
      have hr := rdS_at hx
      have key : ∀ k, sawmillref10_Bounds.l0 (k + 1) (i : Int) lo rs s.1 s.2 = if empB x then sawmillref10_Bounds.l0 k ((i + 1 : Nat) : Int) lo rs s.1 s.2 else sawmillref10_Bounds.l0 k ((i + 1 : Nat) : Int) lo rs (mn s.1 x.f0) (mx s.2 x.f1) := by
        intro k
        rw [sawmillref10_Bounds.l0, if_pos (by omega), if_pos (by omega), hr, r10_empty_eq, Option.bind_some, wsucc hi (by omega)]
      refine Ev.step key ?_
      cases he : empB x
      · simpa [he, bndX] using ih (mn s.1 x.f0, mx s.2 x.f1) trivial
      · simpa [he, bndX] using ih s trivial
end Go.Proofs.Ytdgbecllbldcaaa.P
