/- What build makes of rows, and the common part of two sections. -/
import Derived.Test.YtboegckbilnldaaCSolidPartsV7
import Derived.Test.YtboegckbilnldaaCSolidPartsTSol
set_option linter.unusedVariables false
set_option linter.unusedSimpArgs false
namespace Go.Proofs.Ytboegckbilnldaa.P
open Go Go.RowKit Go.Proofs.YtboegckbilnldaaW.PrintWords Go.Proofs.YtboegckbilnldaaW.PrintLast Go.Proofs.YtboegckbilnldaaW.PrintMore
/-- A row as build keeps it. -/
def nrm (s : Int × Int) : Sp := if s.1 ≥ s.2 then ⟨0, 0⟩ else ⟨s.1, s.2⟩
/-- The rounds of build: place, rows to come, rows up to the last that is not empty, low, rows. -/
def bldL : Int → List Sp → Int → Int → List Sp → Int × List Sp
  | _, [], kept, low, out => (low, out.take kept.toNat)
  | p, s :: r, kept, low, out => if out = [] ∧ empB s = true then bldL (p + 1) r kept low out else bldL (p + 1) r (if empB s = true then kept else (out.length : Int) + 1) (if out = [] then p else low) (out ++ [s])
theorem section_build_ev {low : Int} {n : Nat} {row : Int → Option (Int × Int)} {g : Nat → Int × Int} (hn : n ≤ 1000) (hl : -1000000 ≤ low ∧ low ≤ 1000000) (hg : ∀ i, i < n → row (i : Int) = some (g i)) :
    Ev (fun k => section_build.f k low (n : Int) row) (bldL low ((List.range n).map fun i => nrm (g i)) 0 0 []) := by
  unfold section_build.f
  have hlen : ((List.range n).map fun i => nrm (g i)).length = n := by simp
  have := Ev.list0 (σ := Nat × Int × Int × List Sp) ((List.range n).map fun i => nrm (g i)) (fun k i s => section_build.l0 k low row s.2.1 (n : Int) i s.2.2.1 s.2.2.2) (fun suf s => bldL (low + s.1) suf s.2.1 s.2.2.1 s.2.2.2)
    (fun i s => s.1 = i ∧ s.2.2.2.length ≤ i ∧ 0 ≤ s.2.1 ∧ s.2.1 ≤ s.2.2.2.length) ?_ ?_ (0, 0, 0, []) ⟨rfl, Nat.le_refl _, by simp⟩
  · simpa using this
  · rintro ⟨i', kept, lw, out⟩ ⟨h0, h1, h2, h3⟩
    simp only at h0 h1 h2 h3 ⊢
    rw [hlen]
    refine Ev.step (f := fun _ => some (lw, out.take kept.toNat)) (fun k => ?_) (Ev.now _)
    rw [section_build.l0, if_neg (by omega), if_pos h2, if_pos h3]
  · rintro i x suf ⟨i', kept, lw, out⟩ ⟨h0, h1, h2, h3⟩ hi hx ih
    simp only at h0 h1 h2 h3 ⊢
    subst h0
    rw [hlen] at hi
    have hx' : x = nrm (g i') := by
      rw [List.getElem?_map, List.getElem?_range hi] at hx
      exact (Option.some.inj hx).symm
    refine Ev.step (f := fun k => section_build.j1 k low row kept (i' : Int) (n : Int) (i' : Int) lw out x.f0 x.f1) (fun k => ?_) ?_
    · rw [section_build.l0, if_pos (by omega), rowfn.f, hg i' hi, Option.bind_some, section_empty_eq, Option.bind_some, hx']
      unfold nrm empB
      by_cases he : (g i').1 ≥ (g i').2
      · rw [if_pos (by simpa using he), if_pos he]
      · rw [if_neg (by simpa using he), if_neg he]
    · have hlim : out.length < 8796093022208 := by omega
      have ws := wsucc hi (by omega)
      have wl : wrap64 (low + (i' : Int)) = low + i' := w64 (by omega) (by omega)
      have e1 : (low : Int) + i' + 1 = low + ((i' + 1 : Nat) : Int) := by omega
      have hxe : (⟨x.f0, x.f1⟩ : Sp) = x := rfl
      by_cases ho : out = []
      · subst ho
        by_cases he : empB x = true
        · refine Ev.step (f := fun k => section_build.l0 k low row kept (n : Int) ((i' + 1 : Nat) : Int) lw []) (fun k => ?_) ?_
          · rw [section_build.j1, if_pos (by simp), section_empty_eq, Option.bind_some, hxe, if_pos he, ws]
          · have := ih (i' + 1, kept, lw, []) ⟨rfl, by simp, h2, h3⟩
            simp only at this
            rw [bldL, if_pos ⟨rfl, he⟩, e1]
            exact this
        · refine Ev.step (f := fun k => section_build.l0 k low row 1 (n : Int) ((i' + 1 : Nat) : Int) (low + i') [x]) (fun k => ?_) ?_
          · rw [section_build.j1, if_pos (by simp), section_empty_eq, Option.bind_some, hxe, if_neg he, if_pos hlim, Option.bind_some, Option.bind_some, if_neg he, ws, wl]
            rfl
          · have := ih (i' + 1, 1, low + i', [x]) ⟨rfl, by simp, by simp, by simp⟩
            simp only at this
            rw [bldL, if_neg (by simp [he]), e1, if_neg he, if_pos rfl]
            exact this
      · have hz : ¬ (out.length : Int) = 0 := by
          intro hc
          exact ho (List.eq_nil_of_length_eq_zero (by omega))
        by_cases he : empB x = true
        · refine Ev.step (f := fun k => section_build.l0 k low row kept (n : Int) ((i' + 1 : Nat) : Int) lw (out ++ [x])) (fun k => ?_) ?_
          · rw [section_build.j1, if_neg hz, if_pos hlim, Option.bind_some, section_empty_eq, Option.bind_some, hxe, if_pos he, ws]
          · have := ih (i' + 1, kept, lw, out ++ [x]) ⟨rfl, by simp; omega, h2, by simp; omega⟩
            simp only at this
            rw [bldL, if_neg (by simp [ho]), e1, if_pos he, if_neg ho]
            exact this
        · refine Ev.step (f := fun k => section_build.l0 k low row ((out.length : Int) + 1) (n : Int) ((i' + 1 : Nat) : Int) lw (out ++ [x])) (fun k => ?_) ?_
          · rw [section_build.j1, if_neg hz, if_pos hlim, Option.bind_some, section_empty_eq, Option.bind_some, hxe, if_neg he, ws]
            rw [show ((out ++ [x]).length : Int) = (out.length : Int) + 1 by simp]
          · have := ih (i' + 1, (out.length : Int) + 1, lw, out ++ [x]) ⟨rfl, by simp; omega, by simp only; omega, by simp⟩
            simp only at this
            rw [bldL, if_neg (by simp [ho]), e1, if_neg he, if_neg ho]
            exact this
/-! ### the common part of two sections -/
def meetP (x y : Sp) : Int × Int := if max x.f0 y.f0 < min x.f1 y.f1 then (max x.f0 y.f0, min x.f1 y.f1) else (0, 0)
def meetRow (al : Int) (ar : List Sp) (bl : Int) (br : List Sp) (i : Nat) : Int × Int := meetP (ar.getD (max al bl - al + i).toNat z29) (br.getD (max al bl - bl + i).toNat z29)
def meetN (al : Int) (ar : List Sp) (bl : Int) (br : List Sp) : Nat := (min (al + ar.length) (bl + br.length) - max al bl).toNat
def meetRows (al : Int) (ar : List Sp) (bl : Int) (br : List Sp) : List Sp := (List.range (meetN al ar bl br)).map fun i => nrm (meetRow al ar bl br i)
/-- The common part of two sections that are valid. -/
def meetV (a b : Int × List Sp) : Int × List Sp := bldL (max a.1 b.1) (meetRows a.1 a.2 b.1 b.2) 0 0 []
theorem section_Meet_1_eq {al bl : Int} {ar br : List Sp} (ha : SecOk al ar) (hb : SecOk bl br) {i : Nat} (hi : i < meetN al ar bl br) :
    section_Meet_1.f (i : Int) al ar (max al bl) bl br = some (meetRow al ar bl br i) := by
  have := ha.len; have := ha.lo; have := ha.hi; have := hb.len; have := hb.lo; have := hb.hi
  unfold meetN at hi
  unfold section_Meet_1.f meetRow
  rw [w64 (n := max al bl - al) (by omega) (by omega), w64 (n := max al bl - bl) (by omega) (by omega), w64 (n := max al bl - al + i) (by omega) (by omega), w64 (n := max al bl - bl + i) (by omega) (by omega)]
  rw [if_pos (by omega), if_pos (by omega), if_pos (by omega), if_pos (by omega), span_Meet_eq, Option.bind_some]
  rfl
theorem section_Meet_ev (al : Int) (ar : List Sp) (bl : Int) (br : List Sp) : Ev (fun k => section_Meet.f k al ar bl br) (meetV (validS al ar) (validS bl br)) := by
  unfold section_Meet.f
  refine Ev.bind (section_valid_ev al ar) (Ev.bind (section_valid_ev bl br) ?_)
  have ha := validS_ok al ar
  have hb := validS_ok bl br
  generalize validS al ar = a at ha ⊢
  generalize validS bl br = b at hb ⊢
  obtain ⟨al, ar⟩ := a
  obtain ⟨bl, br⟩ := b
  simp only at ha hb ⊢
  have := ha.len; have := ha.lo; have := ha.hi; have := hb.len; have := hb.lo; have := hb.hi
  have wn : mx 0 (wrap64 (mn (wrap64 (al + (ar.length : Int))) (wrap64 (bl + (br.length : Int))) - max al bl)) = (meetN al ar bl br : Int) := by
    rw [w64 (n := al + ar.length) (by omega) (by omega), w64 (n := bl + br.length) (by omega) (by omega), mn_eq, w64 (by omega) (by omega), mx_eq]
    unfold meetN
    omega
  simp only [mx_eq al bl, wn]
  refine Ev.bind (r := meetV (al, ar) (bl, br)) ?_ (Ev.now _)
  have hN : meetN al ar bl br ≤ 1000 := by unfold meetN; omega
  exact section_build_ev (low := max al bl) (row := fun i_ => section_Meet_1.f i_ al ar (max al bl) bl br) (g := meetRow al ar bl br) hN ⟨by omega, by omega⟩ (fun i hi => section_Meet_1_eq ha hb hi)
end Go.Proofs.Ytboegckbilnldaa.P
