/- The volume in a box: what Within of sections and of solids come to, in the program and in the reference. -/
import Derived.Test.YtboegckbilnldaaCSolidCutV6
import Derived.Test.YtboegckbilnldaaCSolidCutTVol
set_option linter.unusedVariables false
set_option linter.unusedSimpArgs false
namespace Go.Proofs.Ytboegckbilnldaa.P
open Go Go.RowKit Go.Proofs.YtboegckbilnldaaW.PrintWords Go.Proofs.YtboegckbilnldaaW.PrintLast Go.Proofs.YtboegckbilnldaaW.PrintMore
/-- The length of what two spans have in common. -/
def ov (a b c d : Int) : Int := max 0 (min b d - max a c)
/-- What rows, the first of which is number j, have in a rectangle. -/
def witL (x0 x1 y0 y1 : Int) : List Sp → Int → Int
  | [], _ => 0
  | r :: rs, j => ov r.f0 r.f1 x0 x1 * ov (10 * j) (10 * j + 10) y0 y1 + witL x0 x1 y0 y1 rs (j + 1)
def witS (low : Int) (rows : List Sp) (x0 x1 y0 y1 : Int) : Int := witL x0 x1 y0 y1 (validS low rows).2 (validS low rows).1
theorem ov_range {a b : Int} (c d : Int) {n : Int} (h : b - a ≤ n) (h0 : 0 ≤ n) : 0 ≤ ov a b c d ∧ ov a b c d ≤ n := by unfold ov; omega
theorem prod_range {p q A B : Int} (h1 : 0 ≤ p ∧ p ≤ A) (h2 : 0 ≤ q ∧ q ≤ B) : 0 ≤ p * q ∧ p * q ≤ A * B := by
  refine ⟨Int.mul_nonneg h1.1 h2.1, ?_⟩
  exact Int.le_trans (Int.mul_le_mul_of_nonneg_right h1.2 h2.1) (Int.mul_le_mul_of_nonneg_left h2.2 (by omega))
theorem row_range {low : Int} {rows : List Sp} (ok : SecOk low rows) {r : Sp} (hr : r ∈ rows) (x0 x1 y0 y1 j : Int) : 0 ≤ ov r.f0 r.f1 x0 x1 * ov (10 * j) (10 * j + 10) y0 y1 ∧ ov r.f0 r.f1 x0 x1 * ov (10 * j) (10 * j + 10) y0 y1 ≤ 12000 := by
  have h := ok.inr r hr
  have h1 := ov_range (a := r.f0) (b := r.f1) x0 x1 (n := 1200) (by omega) (by omega)
  have h2 := ov_range (a := 10 * j) (b := 10 * j + 10) y0 y1 (n := 10) (by omega) (by omega)
  exact prod_range h1 h2
theorem meetLen_eq {a b : Int} (c d : Int) (h1 : -100000 ≤ a ∧ b ≤ 100000) : ((span_Meet.f a b c d).bind fun bt => span_Len.f bt.1 bt.2) = some (ov a b c d) := by
  rw [span_Meet_eq, Option.bind_some]
  unfold ov
  by_cases h : max a c < min b d
  · rw [if_pos h]
    simp only
    rw [span_Len_eq (by omega) (by omega) (by omega) (by omega) (by omega)]
    unfold lenS
    simp only [if_pos h]
    rw [show max 0 (min b d - max a c) = min b d - max a c by omega]
  · rw [if_neg h]
    simp only
    rw [span_Len_eq (by omega) (by omega) (by omega) (by omega) (by omega)]
    unfold lenS
    simp only [Int.lt_irrefl, if_false]
    rw [show max 0 (min b d - max a c) = 0 by omega]
theorem section_Within_ev (low : Int) (rows : List Sp) (x0 x1 y0 y1 : Int) : Ev (fun k => section_Within.f k low rows x0 x1 y0 y1) (witS low rows x0 x1 y0 y1) := by
  unfold section_Within.f
  refine Ev.bind (section_valid_ev low rows) ?_
  have ok := validS_ok low rows
  unfold witS
  generalize validS low rows = v at ok ⊢
  obtain ⟨lo, rs⟩ := v
  simp only at ok ⊢
  have hlen := ok.len
  have hlo := ok.lo
  have hhi := ok.hi
  refine evEq (Ev.list0 (σ := Int × Int) rs (fun k i s => section_Within.l0 k s.1 rs (rs.length : Int) i lo rs x0 x1 y0 y1) (fun suf s => s.1 + witL x0 x1 y0 y1 suf s.2) (fun i s => s.2 = lo + i ∧ 0 ≤ s.1 ∧ s.1 ≤ 12000 * i) ?_ ?_ (0, lo) (by simp)) (by simp)
  · rintro ⟨n, j⟩ hs
    exact Ev.step (f := fun _ => some n) (fun k => by rw [section_Within.l0, if_neg (by omega)]) (evEq (Ev.now _) (by simp [witL]))
  · rintro i x suf ⟨n, j⟩ ⟨hj, h0, h1⟩ hi hx ih
    simp only at hj h0 h1 ⊢
    have hr := rdS_at hx
    have hm : x ∈ rs := List.mem_of_getElem? hx
    have hin := ok.inr x hm
    have hb := row_range ok hm x0 x1 y0 y1 j
    have w1 : wrap64 (lo + (i : Int)) = j := by rw [w64 (by omega) (by omega), hj]
    have w2 : wrap64 (10 * j) = 10 * j := w64 (by omega) (by omega)
    have w3 : wrap64 (10 * j + 10) = 10 * j + 10 := w64 (by omega) (by omega)
    have w4 : wrap64 (ov x.f0 x.f1 x0 x1 * ov (10 * j) (10 * j + 10) y0 y1) = ov x.f0 x.f1 x0 x1 * ov (10 * j) (10 * j + 10) y0 y1 := w64 (by omega) (by omega)
    have m1 := meetLen_eq (a := x.f0) (b := x.f1) x0 x1 (by omega)
    have m2 := meetLen_eq (a := 10 * j) (b := 10 * j + 10) y0 y1 (by omega)
    rw [span_Meet_eq, Option.bind_some] at m1 m2
    refine Ev.step (f := fun k => section_Within.l0 k (n + ov x.f0 x.f1 x0 x1 * ov (10 * j) (10 * j + 10) y0 y1) rs (rs.length : Int) ((i + 1 : Nat) : Int) lo rs x0 x1 y0 y1) (fun k => ?_) (evEq (ih (_, j + 1) ⟨by simp only; omega, by simp only; omega, by simp only; omega⟩) (by simp only [witL]; omega))
    rw [section_Within.l0, if_pos (by omega), if_pos (by omega), if_pos (by omega), hr, w1, w2, w3, wsucc hi (by omega), span_Meet_eq, Option.bind_some, m1, Option.bind_some, span_Meet_eq, Option.bind_some, m2, Option.bind_some, w4, w64 (n := n + _) (by omega) (by omega)]
theorem witL_range (x0 x1 y0 y1 : Int) {low : Int} {rows : List Sp} (ok : SecOk low rows) : ∀ (rs : List Sp) (j : Int), (∀ r ∈ rs, r ∈ rows) → 0 ≤ witL x0 x1 y0 y1 rs j ∧ witL x0 x1 y0 y1 rs j ≤ 12000 * rs.length
  | [], j, _ => by simp [witL]
  | r :: rs, j, h => by
    have h1 := row_range ok (h r (by simp)) x0 x1 y0 y1 j
    have h2 := witL_range x0 x1 y0 y1 ok rs (j + 1) (fun x hx => h x (by simp [hx]))
    simp only [witL, List.length_cons]
    omega
theorem witS_range (low : Int) (rows : List Sp) (x0 x1 y0 y1 : Int) : 0 ≤ witS low rows x0 x1 y0 y1 ∧ witS low rows x0 x1 y0 y1 ≤ 1440000 := by
  have ok := validS_ok low rows
  have h := witL_range x0 x1 y0 y1 ok (validS low rows).2 (validS low rows).1 (fun _ h => h)
  have := ok.len
  unfold witS
  omega
theorem witL_none {x0 x1 y0 y1 : Int} (h : x0 ≥ x1 ∨ y0 ≥ y1) : ∀ (rs : List Sp) (j : Int), witL x0 x1 y0 y1 rs j = 0
  | [], j => rfl
  | r :: rs, j => by
    simp only [witL, witL_none h rs]
    rcases h with h | h
    · rw [show ov r.f0 r.f1 x0 x1 = 0 by unfold ov; omega]; omega
    · rw [show ov (10 * j) (10 * j + 10) y0 y1 = 0 by unfold ov; omega]; omega
theorem witS_none (low : Int) (rows : List Sp) {x0 x1 y0 y1 : Int} (h : x0 ≥ x1 ∨ y0 ≥ y1) : witS low rows x0 x1 y0 y1 = 0 := witL_none h _ _
/-- The volumes of parts in a rectangle. -/
def witP (x0 x1 y0 y1 : Int) : List Prt → Int
  | [] => 0
  | p :: r => (p.f0.f1 - p.f0.f0) * witS p.f1.f0 p.f1.f1 x0 x1 y0 y1 + witP x0 x1 y0 y1 r
/-- The volumes of slices in a box, where the first begins at a position. -/
def witZ (x0 x1 y0 y1 z0 z1 : Int) : List Slc → Int → Int
  | [], _ => 0
  | s :: r, p => ov p (p + s.f0) z0 z1 * witS s.f1.f0 s.f1.f1 x0 x1 y0 y1 + witZ x0 x1 y0 y1 z0 z1 r (p + s.f0)
/-- The volume of a solid in a box. -/
def witB (l : List Slc) (x0 x1 y0 y1 z0 z1 : Int) : Int := if solChk l = 0 then witZ x0 x1 y0 y1 z0 z1 l 0 else 0
theorem witP_parts (x0 x1 y0 y1 z0 z1 : Int) : ∀ (l : List Slc) (p : Int), witP x0 x1 y0 y1 (partsL z0 z1 l p) = witZ x0 x1 y0 y1 z0 z1 l p
  | [], p => rfl
  | s :: r, p => by
    have ih := witP_parts x0 x1 y0 y1 z0 z1 r (p + s.f0)
    simp only [partsL, witZ]
    by_cases h : max p z0 < min (p + s.f0) z1
    · rw [if_pos h]
      simp only [witP, ih]
      rw [show ov p (p + s.f0) z0 z1 = min (p + s.f0) z1 - max p z0 by unfold ov; omega]
    · rw [if_neg h, ih, show ov p (p + s.f0) z0 z1 = 0 by unfold ov; omega]
      omega
theorem witP_eq (l : List Slc) (x0 x1 y0 y1 z0 z1 : Int) : witP x0 x1 y0 y1 (partsS l z0 z1) = witB l x0 x1 y0 y1 z0 z1 := by
  unfold partsS witB
  by_cases h : solChk l = 0
  · rw [if_pos h, if_pos h, witP_parts]
  · rw [if_neg h, if_neg h]; rfl
theorem witZ_none {x0 x1 y0 y1 z0 z1 : Int} (h : x0 ≥ x1 ∨ y0 ≥ y1 ∨ z0 ≥ z1) : ∀ (l : List Slc) (p : Int), witZ x0 x1 y0 y1 z0 z1 l p = 0
  | [], p => rfl
  | s :: r, p => by
    simp only [witZ, witZ_none h r]
    rcases h with h | h | h
    · rw [witS_none _ _ (Or.inl h)]; omega
    · rw [witS_none _ _ (Or.inr h)]; omega
    · rw [show ov p (p + s.f0) z0 z1 = 0 by unfold ov; omega]; omega
theorem witB_none (l : List Slc) {x0 x1 y0 y1 z0 z1 : Int} (h : x0 ≥ x1 ∨ y0 ≥ y1 ∨ z0 ≥ z1) : witB l x0 x1 y0 y1 z0 z1 = 0 := by
  unfold witB
  rw [witZ_none h]
  split <;> rfl
theorem solid_Within_l0 {ps : List Prt} (ok : PartsOk ps) (x0 x1 y0 y1 z0 z1 : Int) : Ev (fun k => solid_Within.l0 k 0 ps (ps.length : Int) 0 x0 x1 y0 y1 z0 z1) (witP x0 x1 y0 y1 ps) := by
  have hn := ok.len
  refine evEq (Ev.list0 (σ := Int) ps (fun k i s => solid_Within.l0 k s ps (ps.length : Int) i x0 x1 y0 y1 z0 z1) (fun suf s => s + witP x0 x1 y0 y1 suf) (fun i s => 0 ≤ s ∧ s ≤ 28800000000 * i) ?_ ?_ 0 (by simp)) (by omega)
  · intro s _
    exact Ev.step (f := fun _ => some s) (fun k => by rw [solid_Within.l0, if_neg (by omega)]) (evEq (Ev.now _) (by simp [witP]))
  · intro i x suf s hs hi hx ih
    have hr := rdP_at hx
    have hp := ok.each x (List.mem_of_getElem? hx)
    have a := witS_range x.f1.f0 x.f1.f1 x0 x1 y0 y1
    have m := mul_area (n := x.f0.f1 - x.f0.f0) (by omega) a
    refine Ev.step (fun k => by rw [solid_Within.l0, if_pos (by omega), if_pos (by omega), if_pos (by omega), hr]) ?_
    refine Ev.bind (section_Within_ev _ _ _ _ _ _) ?_
    have w1 : wrap64 (x.f0.f1 - x.f0.f0) = x.f0.f1 - x.f0.f0 := w64 (by omega) (by omega)
    have w2 : wrap64 ((x.f0.f1 - x.f0.f0) * witS x.f1.f0 x.f1.f1 x0 x1 y0 y1) = (x.f0.f1 - x.f0.f0) * witS x.f1.f0 x.f1.f1 x0 x1 y0 y1 := w64 (by omega) (by omega)
    have w3 : wrap64 (s + (x.f0.f1 - x.f0.f0) * witS x.f1.f0 x.f1.f1 x0 x1 y0 y1) = s + (x.f0.f1 - x.f0.f0) * witS x.f1.f0 x.f1.f1 x0 x1 y0 y1 := w64 (by omega) (by omega)
    simp only [w1, w2, w3]
    rw [wsucc hi (by omega)]
    exact evEq (ih _ ⟨by omega, by omega⟩) (by simp only [witP]; omega)
theorem solid_Within_ev (l : List Slc) (x0 x1 y0 y1 z0 z1 : Int) : Ev (fun k => solid_Within.f k l x0 x1 y0 y1 z0 z1) (witB l x0 x1 y0 y1 z0 z1) := by
  have run : Ev (fun k => solid_Within.j0 k l false x0 x1 y0 y1 z0 z1) (witB l x0 x1 y0 y1 z0 z1) := by
    refine Ev.step (f := fun k => (solid_parts.f k l z0 z1).bind fun t => solid_Within.l0 k 0 t (t.length : Int) 0 x0 x1 y0 y1 z0 z1) (fun k => by rw [solid_Within.j0, if_neg (by decide)]) ?_
    refine Ev.bind (solid_parts_ev l z0 z1) ?_
    exact evEq (solid_Within_l0 (partsS_ok l z0 z1) x0 x1 y0 y1 z0 z1) (witP_eq l x0 x1 y0 y1 z0 z1)
  have none0 : Ev (fun k => solid_Within.j0 k l true x0 x1 y0 y1 z0 z1) 0 := Ev.step (f := fun _ => some 0) (fun k => by rw [solid_Within.j0, if_pos rfl]) (Ev.now _)
  unfold solid_Within.f
  by_cases h0 : x0 ≥ x1
  · simp only [if_pos h0]
    rw [witB_none l (Or.inl h0)]
    exact none0
  · simp only [if_neg h0]
    by_cases h1 : y0 ≥ y1
    · simp only [decide_eq_true h1]
      rw [witB_none l (Or.inr (Or.inl h1))]
      exact none0
    · simp only [decide_eq_false h1]
      exact run
end Go.Proofs.Ytboegckbilnldaa.P
