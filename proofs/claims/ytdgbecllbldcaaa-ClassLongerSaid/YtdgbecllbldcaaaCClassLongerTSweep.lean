/- Sweep of solids, in the program and in the reference. -/
import Derived.Test.YtdgbecllbldcaaaCClassLongerV4
import Derived.Test.YtdgbecllbldcaaaCClassLongerTLogs
import Derived.Test.YtdgbecllbldcaaaCClassLongerTShape
set_option linter.unusedVariables false
set_option linter.unusedSimpArgs false
namespace Go.Proofs.Ytdgbecllbldcaaa.P
open Go Go.RowKit Go.Proofs.YtdgbecllbldcaaaW.PrintWords Go.Proofs.YtdgbecllbldcaaaW.PrintLast Go.Proofs.YtdgbecllbldcaaaW.PrintMore
/-- The doubled middle of the slice at a place. -/
def mAt (l : List Slc) (j : Nat) : Int := 2 * sumZ (l.take j) + (l.getD j z58).f0
theorem mAt_at {l : List Slc} {i : Nat} {x : Slc} (h : l[i]? = some x) : mAt l i = 2 * sumZ (l.take i) + x.f0 := by
  unfold mAt
  rw [List.getD_eq_getElem?_getD, h]
  rfl
def IsMid (l : List Slc) (m : List Int) : Prop := m.length = l.length ∧ ∀ j, j < l.length → m[j]? = some (mAt l j)
theorem IsMid.rd_at {l : List Slc} {m : List Int} (h : IsMid l m) {j : Nat} (hj : j < l.length) : rd m (j : Int) = mAt l j := by
  unfold rd
  rw [Int.toNat_natCast, List.getD_eq_getElem?_getD, h.2 j hj]
  rfl
theorem mAt_range {l : List Slc} (ok : SolOk l) {j : Nat} (hj : j < l.length) : 0 ≤ mAt l j ∧ mAt l j ≤ 60000 ∧ 0 ≤ mAt l j - mAt l 0 ∧ (1 ≤ j → 1 ≤ mAt l j - mAt l 0) := by
  have e := mAt_at (List.getElem?_eq_getElem hj)
  have e0 := mAt_at (List.getElem?_eq_getElem ok.len0)
  have p := ok.pos _ (List.getElem_mem hj)
  have p0 := ok.pos _ (List.getElem_mem ok.len0)
  have s1 := sumZ_take_succ (List.getElem?_eq_getElem hj)
  have s0 : sumZ (l.take 1) = sumZ (l.take 0) + l[0].f0 := sumZ_take_succ (List.getElem?_eq_getElem ok.len0)
  have r1 := sumZ_take ok.pos (j + 1)
  have r0 := sumZ_take ok.pos j
  have r := ok.sum
  have z : sumZ (l.take 0) = 0 := by simp [sumZ]
  rw [z] at e0 s0
  by_cases h1 : 1 ≤ j
  · have m : sumZ (l.take 1) ≤ sumZ (l.take j) := by
      have := sumZ_take (l := l.take j) (fun s hs => ok.pos s (List.mem_of_mem_take hs)) 1
      rw [List.take_take, show min 1 j = 1 by omega] at this
      exact this.2
    omega
  · have : j = 0 := by omega
    subst this
    omega
/-- The axis at the place of a slice, from the first center. -/
def swX (l : List Slc) (i : Nat) : Int := ((cenS (lstL l).f1.f0 (lstL l).f1.f1).1 - (cenS (fstL l).f1.f0 (fstL l).f1.f1).1) * (mAt l i - mAt l 0) / (mAt l (l.length - 1) - mAt l 0)
def swY (l : List Slc) (i : Nat) : Int := ((cenS (lstL l).f1.f0 (lstL l).f1.f1).2 - (cenS (fstL l).f1.f0 (fstL l).f1.f1).2) * (mAt l i - mAt l 0) / (mAt l (l.length - 1) - mAt l 0)
def swU (l : List Slc) (i : Nat) (x : Slc) : Int := (cenS x.f1.f0 x.f1.f1).1 - (cenS (fstL l).f1.f0 (fstL l).f1.f1).1 - swX l i
def swV (l : List Slc) (i : Nat) (x : Slc) : Int := (cenS x.f1.f0 x.f1.f1).2 - (cenS (fstL l).f1.f0 (fstL l).f1.f1).2 - swY l i
def sweL (l : List Slc) : List Slc → Nat → Int → Int
  | [], _, most => most
  | x :: r, i, most => sweL l r (i + 1) (max (max (max (max most (swU l i x)) (-swU l i x)) (swV l i x)) (-swV l i x))
def sweS (l : List Slc) : Int := if solChk l = 0 then (if (l.length : Int) < 3 then 0 else sweL l l 0 0) else 0
theorem cenS_range (low : Int) (rows : List Sp) : -1200 ≤ (cenS low rows).1 ∧ (cenS low rows).1 ≤ 1200 ∧ -1200 ≤ (cenS low rows).2 ∧ (cenS low rows).2 ≤ 1200 := by
  have := bndS_range low rows
  unfold cenS
  simp only
  omega
theorem mul_range {p m : Int} (h1 : -2400 ≤ p) (h2 : p ≤ 2400) (h3 : 0 ≤ m) (h4 : m ≤ 60000) : -144000000 ≤ p * m ∧ p * m ≤ 144000000 := by
  have a := Int.mul_le_mul_of_nonneg_right h2 h3
  have b := Int.mul_le_mul_of_nonneg_right h1 h3
  omega
theorem div_range {a b : Int} (h1 : -144000000 ≤ a) (h2 : a ≤ 144000000) (hb : 1 ≤ b) : -144000000 ≤ a / b ∧ a / b ≤ 144000000 := by
  have e3 : -144000000 ≤ a / b := Int.le_ediv_of_mul_le (by omega) (by omega)
  have e4 : a / b < 144000001 := Int.ediv_lt_of_lt_mul (by omega) (by omega)
  omega
section
variable {l : List Slc} (ok : SolOk l) (h3 : 3 ≤ l.length)
include ok h3
theorem shape_Sweep_l1 {m : List Int} (hm : IsMid l m) :
    Ev (fun k => shape_Sweep.l1 k l m (mAt l (l.length - 1) - mAt l 0) 0 (l.length : Int) 0 (cenS (fstL l).f1.f0 (fstL l).f1.f1).1 (cenS (fstL l).f1.f0 (fstL l).f1.f1).2 (cenS (lstL l).f1.f0 (lstL l).f1.f1).1 (cenS (lstL l).f1.f0 (lstL l).f1.f1).2) (sweL l l 0 0) := by
  have hn := ok.len
  have hl := hm.1
  refine Ev.list0 (σ := Nat × Int) l (fun k i s => shape_Sweep.l1 k l m (mAt l (l.length - 1) - mAt l 0) s.2 (l.length : Int) i (cenS (fstL l).f1.f0 (fstL l).f1.f1).1 (cenS (fstL l).f1.f0 (fstL l).f1.f1).2 (cenS (lstL l).f1.f0 (lstL l).f1.f1).1 (cenS (lstL l).f1.f0 (lstL l).f1.f1).2) (fun suf s => sweL l suf s.1 s.2) (fun i s => s.1 = i) ?_ ?_ (0, 0) rfl
  · intro s _
    exact Ev.step (f := fun _ => some s.2) (fun k => by rw [shape_Sweep.l1, if_neg (by omega)]) (Ev.now _)
  · rintro i x suf ⟨i', most⟩ hs hi hx ih
    simp only at hs
    subst hs
    have hr := rdL_at hx
    have r1 := hm.rd_at hi
    have r0 : rd m 0 = mAt l 0 := hm.rd_at (j := 0) ok.len0
    have b1 := mAt_range ok hi
    have b0 := mAt_range ok ok.len0
    have bl := mAt_range ok (j := l.length - 1) (by omega)
    have c := cenS_range x.f1.f0 x.f1.f1
    have cf := cenS_range (fstL l).f1.f0 (fstL l).f1.f1
    have cl := cenS_range (lstL l).f1.f0 (lstL l).f1.f1
    have px := mul_range (p := (cenS (lstL l).f1.f0 (lstL l).f1.f1).1 - (cenS (fstL l).f1.f0 (fstL l).f1.f1).1) (m := mAt l i' - mAt l 0) (by omega) (by omega) (by omega) (by omega)
    have py := mul_range (p := (cenS (lstL l).f1.f0 (lstL l).f1.f1).2 - (cenS (fstL l).f1.f0 (fstL l).f1.f1).2) (m := mAt l i' - mAt l 0) (by omega) (by omega) (by omega) (by omega)
    have dx := div_range px.1 px.2 (b := mAt l (l.length - 1) - mAt l 0) (by have := bl.2.2.2; omega)
    have dy := div_range py.1 py.2 (b := mAt l (l.length - 1) - mAt l 0) (by have := bl.2.2.2; omega)
    have hd1 : 1 ≤ mAt l (l.length - 1) - mAt l 0 := by have := bl.2.2.2; omega
    refine Ev.step (fun k => by rw [shape_Sweep.l1, if_pos (by omega), if_pos (by omega), if_pos (by omega), hr]) ?_
    refine Ev.bind (shape_Center2_ev _ _) ?_
    have c1 : (i' : Int) < (m.length : Int) := by omega
    have c2 : (0 : Int) < (m.length : Int) := by omega
    have w0 : wrap64 (mAt l i' - mAt l 0) = mAt l i' - mAt l 0 := w64 (by omega) (by omega)
    have w1 : wrap64 ((cenS (lstL l).f1.f0 (lstL l).f1.f1).1 - (cenS (fstL l).f1.f0 (fstL l).f1.f1).1) = (cenS (lstL l).f1.f0 (lstL l).f1.f1).1 - (cenS (fstL l).f1.f0 (fstL l).f1.f1).1 := w64 (by omega) (by omega)
    have w2 : wrap64 ((cenS (lstL l).f1.f0 (lstL l).f1.f1).2 - (cenS (fstL l).f1.f0 (fstL l).f1.f1).2) = (cenS (lstL l).f1.f0 (lstL l).f1.f1).2 - (cenS (fstL l).f1.f0 (fstL l).f1.f1).2 := w64 (by omega) (by omega)
    have w3 := w64 (n := ((cenS (lstL l).f1.f0 (lstL l).f1.f1).1 - (cenS (fstL l).f1.f0 (fstL l).f1.f1).1) * (mAt l i' - mAt l 0)) (by omega) (by omega)
    have w4 := w64 (n := ((cenS (lstL l).f1.f0 (lstL l).f1.f1).2 - (cenS (fstL l).f1.f0 (fstL l).f1.f1).2) * (mAt l i' - mAt l 0)) (by omega) (by omega)
    simp only [if_pos c1, if_pos c2, r1, r0, w0, w1, w2, w3, w4]
    refine Ev.bind (units_Floor_ev (by omega) (by omega) hd1 (by omega)) (Ev.bind (units_Floor_ev (by omega) (by omega) hd1 (by omega)) ?_)
    have u1 : wrap64 ((cenS x.f1.f0 x.f1.f1).1 - (cenS (fstL l).f1.f0 (fstL l).f1.f1).1) = (cenS x.f1.f0 x.f1.f1).1 - (cenS (fstL l).f1.f0 (fstL l).f1.f1).1 := w64 (by omega) (by omega)
    have u2 : wrap64 ((cenS x.f1.f0 x.f1.f1).2 - (cenS (fstL l).f1.f0 (fstL l).f1.f1).2) = (cenS x.f1.f0 x.f1.f1).2 - (cenS (fstL l).f1.f0 (fstL l).f1.f1).2 := w64 (by omega) (by omega)
    have u3 : wrap64 ((cenS x.f1.f0 x.f1.f1).1 - (cenS (fstL l).f1.f0 (fstL l).f1.f1).1 - ((cenS (lstL l).f1.f0 (lstL l).f1.f1).1 - (cenS (fstL l).f1.f0 (fstL l).f1.f1).1) * (mAt l i' - mAt l 0) / (mAt l (l.length - 1) - mAt l 0)) = swU l i' x := w64 (by omega) (by omega)
    have u4 : wrap64 ((cenS x.f1.f0 x.f1.f1).2 - (cenS (fstL l).f1.f0 (fstL l).f1.f1).2 - ((cenS (lstL l).f1.f0 (lstL l).f1.f1).2 - (cenS (fstL l).f1.f0 (fstL l).f1.f1).2) * (mAt l i' - mAt l 0) / (mAt l (l.length - 1) - mAt l 0)) = swV l i' x := w64 (by omega) (by omega)
    have u5 : wrap64 (-(swU l i' x)) = -swU l i' x := by unfold swU swX; exact w64 (by omega) (by omega)
    have u6 : wrap64 (-(swV l i' x)) = -swV l i' x := by unfold swV swY; exact w64 (by omega) (by omega)
    simp only [u1, u2, u3, u4, u5, u6, mx_eq]
    rw [wsucc hi (by omega)]
    exact ih (i' + 1, _) rfl
theorem shape_Sweep_l0 : Ev (fun k => shape_Sweep.l0 k l (List.replicate l.length 0) 0 (l.length : Int) 0) (sweL l l 0 0) := by
  have hn := ok.len
  refine Ev.list0 (σ := List Int × Int) l (fun k i s => shape_Sweep.l0 k l s.1 s.2 (l.length : Int) i) (fun _ _ => sweL l l 0 0) (fun i s => s.1.length = l.length ∧ (∀ j, j < i → s.1[j]? = some (mAt l j)) ∧ s.2 = sumZ (l.take i)) ?_ ?_ (List.replicate l.length 0, 0) ⟨by simp, by simp, by simp [sumZ]⟩
  · rintro ⟨m, p⟩ ⟨h1, h2, _⟩
    simp only at h1 h2
    have hm : IsMid l m := ⟨h1, h2⟩
    have bl := mAt_range ok (j := l.length - 1) (by omega)
    have b0 := mAt_range ok ok.len0
    have hw : wrap64 ((l.length : Int) - 1) = ((l.length - 1 : Nat) : Int) := by rw [w64 (by omega) (by omega)]; omega
    have c1 : (0 : Int) ≤ ((l.length - 1 : Nat) : Int) := by omega
    have c2 : ((l.length - 1 : Nat) : Int) < (l.length : Int) := by omega
    have c3 : ((l.length - 1 : Nat) : Int) < (m.length : Int) := by omega
    have c4 : (0 : Int) < (m.length : Int) := by omega
    have r1 := hm.rd_at (j := l.length - 1) (by omega)
    have r0 : rd m 0 = mAt l 0 := hm.rd_at (j := 0) ok.len0
    have hlast : rd_T58 l ((l.length - 1 : Nat) : Int) = lstL l := by
      have := rdL_last ok.len0
      rw [show (l.length : Int) - 1 = ((l.length - 1 : Nat) : Int) by omega] at this
      exact this
    have hfst : rd_T58 l 0 = fstL l := rfl
    have w1 : wrap64 (mAt l (l.length - 1) - mAt l 0) = mAt l (l.length - 1) - mAt l 0 := w64 (by omega) (by omega)
    refine Ev.step (fun k => by rw [shape_Sweep.l0, if_neg (by omega), if_pos (by omega)]) ?_
    simp only [hfst]
    refine Ev.bind (shape_Center2_ev _ _) ?_
    simp only [hw, if_pos c1, if_pos c2, hlast]
    refine Ev.bind (shape_Center2_ev _ _) ?_
    simp only [if_pos c3, if_pos c4, r1, r0, w1]
    exact shape_Sweep_l1 ok h3 hm
  · rintro i x suf ⟨m, p⟩ ⟨h1, h2, hp⟩ hi hx ih
    simp only at h1 h2 hp
    have hr := rdL_at hx
    have e1 := sumZ_take_succ hx
    have r0 := sumZ_take ok.pos i
    have r1 := sumZ_take ok.pos (i + 1)
    have := ok.sum
    have em := mAt_at hx
    refine Ev.step (f := fun k => shape_Sweep.l0 k l (m.set i (mAt l i)) (p + x.f0) (l.length : Int) ((i + 1 : Nat) : Int)) (fun k => ?_) ?_
    · rw [shape_Sweep.l0, if_pos (by omega), if_pos (by omega), if_pos (by omega), if_pos (by simp only; omega), hr, wsucc hi (by omega), w64 (n := p + x.f0) (by omega) (by omega), w64 (n := 2 * p) (by omega) (by omega), w64 (n := 2 * p + x.f0) (by omega) (by omega), Int.toNat_natCast, em, hp]
    · refine ih (m.set i (mAt l i), p + x.f0) ⟨by simp only [List.length_set]; exact h1, fun j hj => ?_, by simp only; omega⟩
      simp only
      rw [List.getElem?_set]
      by_cases hij : i = j
      · subst hij; simp; omega
      · rw [if_neg hij]; exact h2 j (by omega)
end
theorem shape_Sweep_ev (l : List Slc) : Ev (fun k => shape_Sweep.f k l) (sweS l) := by
  unfold shape_Sweep.f sweS
  refine Ev.bind (solid_Check_ev l) ?_
  by_cases h : solChk l = 0
  · have ok := (solOk_iff l).1 h
    have hn := ok.len
    simp only [if_pos h]
    by_cases h3 : (l.length : Int) < 3
    · rw [if_pos h3]
      exact Ev.step (f := fun _ => some 0) (fun k => by rw [shape_Sweep.j0, if_pos (by simpa using h3)]) (Ev.now _)
    · rw [if_neg h3]
      refine Ev.step (f := fun k => shape_Sweep.l0 k l (List.replicate l.length 0) 0 (l.length : Int) 0) (fun k => ?_) (shape_Sweep_l0 ok (by omega))
      rw [shape_Sweep.j0, if_neg (by simpa using h3), if_pos (by omega), Int.toNat_natCast, if_pos (by omega)]
  · simp only [if_neg h]
    exact Ev.step (f := fun _ => some 0) (fun k => by rw [shape_Sweep.j0, if_pos rfl]) (Ev.now _)
end Go.Proofs.Ytdgbecllbldcaaa.P
