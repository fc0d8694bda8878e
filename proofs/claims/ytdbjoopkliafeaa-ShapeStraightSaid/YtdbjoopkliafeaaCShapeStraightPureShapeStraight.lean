/- The pure statement of ShapeStraight. -/
import Derived.Test.YtdbjoopkliafeaaCShapeStraightV8
import Derived.Test.YtdbjoopkliafeaaCShapeStraightTSweep
import Derived.Test.YtdbjoopkliafeaaCShapeStraightStmShapeStraight
set_option linter.unusedVariables false
set_option linter.unusedSimpArgs false
namespace Go.Proofs.Ytdbjoopkliafeaa.P
open Go Go.RowKit Go.Proofs.YtdbjoopkliafeaaW.PrintWords Go.Proofs.YtdbjoopkliafeaaW.PrintLast Go.Proofs.YtdbjoopkliafeaaW.PrintMore
/-- Slices of one section. -/
def stL (low : Int) (rows : List Sp) (lens : List Int) : List Slc := lens.map fun n => ⟨n, ⟨low, rows⟩⟩
theorem stL_sec {low : Int} {rows : List Sp} {lens : List Int} {s : Slc} (h : s ∈ stL low rows lens) : s.f1 = ⟨low, rows⟩ := by
  unfold stL at h
  obtain ⟨n, _, rfl⟩ := List.mem_map.1 h
  rfl
theorem getD_memL {l : List Slc} {i : Nat} (h : i < l.length) : l.getD i z36 ∈ l := by
  rw [List.getD_eq_getElem?_getD, List.getElem?_eq_getElem h]
  exact List.getElem_mem h
theorem stL_top {low : Int} {rows : List Sp} {lens : List Int} (h : solChk (stL low rows lens) = 0) : topS (stL low rows lens) = diaS low rows := by
  have ok := (solOk_iff _).1 h
  have := ok.len0
  unfold topS
  rw [if_pos h]
  have e : (lstL (stL low rows lens)).f1 = ⟨low, rows⟩ := stL_sec (getD_memL (by omega))
  rw [e]
theorem stL_taper {low : Int} {rows : List Sp} {lens : List Int} : tapS (stL low rows lens) = 0 := by
  unfold tapS
  by_cases h : solChk (stL low rows lens) = 0
  · have ok := (solOk_iff _).1 h
    have := ok.len0
    have e : (fstL (stL low rows lens)).f1 = ⟨low, rows⟩ := stL_sec (getD_memL (by omega))
    rw [if_pos h, stL_top h, e]
    simp
  · rw [if_neg h]
theorem sweL_straight {l : List Slc} (hc : cenS (lstL l).f1.f0 (lstL l).f1.f1 = cenS (fstL l).f1.f0 (fstL l).f1.f1) : ∀ (suf : List Slc) (i : Nat), (∀ x ∈ suf, cenS x.f1.f0 x.f1.f1 = cenS (fstL l).f1.f0 (fstL l).f1.f1) → sweL l suf i 0 = 0
  | [], _, _ => rfl
  | x :: r, i, h => by
    have hx := h x (by simp)
    have e1 : swX l i = 0 := by unfold swX; rw [hc, Int.sub_self, Int.zero_mul, Int.zero_ediv]
    have e2 : swY l i = 0 := by unfold swY; rw [hc, Int.sub_self, Int.zero_mul, Int.zero_ediv]
    have e3 : swU l i x = 0 := by unfold swU; rw [hx, e1]; omega
    have e4 : swV l i x = 0 := by unfold swV; rw [hx, e2]; omega
    simp only [sweL, e3, e4]
    exact sweL_straight hc r (i + 1) (fun y hy => h y (by simp [hy]))
theorem stL_sweep {low : Int} {rows : List Sp} {lens : List Int} : sweS (stL low rows lens) = 0 := by
  unfold sweS
  by_cases h : solChk (stL low rows lens) = 0
  · have ok := (solOk_iff _).1 h
    have := ok.len0
    have e : ∀ x ∈ stL low rows lens, x.f1 = ⟨low, rows⟩ := fun x hx => stL_sec hx
    have e0 : (fstL (stL low rows lens)).f1 = ⟨low, rows⟩ := stL_sec (getD_memL (by omega))
    have e1 : (lstL (stL low rows lens)).f1 = ⟨low, rows⟩ := stL_sec (getD_memL (by omega))
    rw [if_pos h]
    split
    · rfl
    · exact sweL_straight (by rw [e0, e1]) _ 0 (fun x hx => by rw [e x hx, e0])
  · rw [if_neg h]
theorem rdI_at {xs : List Int} {i : Nat} {x : Int} (h : xs[i]? = some x) : rd xs (i : Int) = x := by
  unfold rd
  rw [Int.toNat_natCast, List.getD_eq_getElem?_getD, h]
  rfl
end Go.Proofs.Ytdbjoopkliafeaa.P
namespace Go.Proofs.Ytdbjoopkliafeaa.Pure
open Go Go.RowKit Go.Proofs.Ytdbjoopkliafeaa.P Go.Proofs.YtdbjoopkliafeaaW.PrintWords Go.Proofs.YtdbjoopkliafeaaW.PrintLast Go.Proofs.YtdbjoopkliafeaaW.PrintMore
theorem straight_end (low : Int) (rows : List Sp) (lens : List Int) (l : List Slc) (hl : l = stL low rows lens) :
    Ev (fun k => (solid_Check.f k l).bind fun t6007 => (if t6007 = 0 then ((shape_Top.f k l).bind fun t6012 => ((shape_Diameter.f k low rows).bind fun t6013 => (if t6012 = t6013 then ((shape_Taper.f k l).bind fun t6014 => (if t6014 = 0 then ((shape_Sweep.f k l).bind fun t6015 => (if t6015 = 0 then ((sawmilllaw14_awake.f k).bind fun t6016 => (some t6016)) else (some false))) else (some false))) else (some false)))) else ((shape_Top.f k l).bind fun t6008 => (if t6008 = 0 then ((shape_Taper.f k l).bind fun t6009 => (if t6009 = 0 then ((shape_Sweep.f k l).bind fun t6010 => (if t6010 = 0 then ((sawmilllaw14_awake.f k).bind fun t6011 => (some t6011)) else (some false))) else (some false))) else (some false))))) true := by
  subst hl
  refine Ev.bind (solid_Check_ev _) ?_
  by_cases h : solChk (stL low rows lens) = 0
  · simp only [if_pos h]
    refine Ev.bind (shape_Top_ev _) (Ev.bind (shape_Diameter_ev low rows) ?_)
    simp only [stL_top h, if_true]
    refine Ev.bind (shape_Taper_ev _) ?_
    simp only [stL_taper, if_true]
    refine Ev.bind (shape_Sweep_ev _) ?_
    simp only [stL_sweep, if_true]
    exact Ev.bind awake14_ev (Ev.now _)
  · have e : topS (stL low rows lens) = 0 := by unfold topS; rw [if_neg h]
    simp only [if_neg h]
    refine Ev.bind (shape_Top_ev _) ?_
    simp only [e, if_true]
    refine Ev.bind (shape_Taper_ev _) ?_
    simp only [stL_taper, if_true]
    refine Ev.bind (shape_Sweep_ev _) ?_
    simp only [stL_sweep, if_true]
    exact Ev.bind awake14_ev (Ev.now _)
theorem straight_l0 (low : Int) (rows : List Sp) (lens : List Int) (hn : lens.length ≤ 30) : Ev (fun k => sawmilllaw14_ShapeStraight.l0 k lens ([] : List Slc) 0 low rows) true := by
  refine Ev.list0 (σ := List Slc) lens (fun k i s => sawmilllaw14_ShapeStraight.l0 k lens s i low rows) (fun _ _ => true) (fun i s => s = stL low rows (lens.take i)) ?_ ?_ [] (by simp [stL])
  · intro s hs
    rw [List.take_length] at hs
    refine Ev.step (fun k => by rw [sawmilllaw14_ShapeStraight.l0, if_neg (by omega)]) ?_
    exact straight_end low rows lens s hs
  · intro i x suf s hs hi hx ih
    have hr := rdI_at hx
    have hl : s.length ≤ 30 := by rw [hs]; simp [stL]; omega
    refine Ev.step (f := fun k => sawmilllaw14_ShapeStraight.l0 k lens (s ++ [⟨x, ⟨low, rows⟩⟩]) ((i + 1 : Nat) : Int) low rows) (fun k => ?_) (ih _ ?_)
    · rw [sawmilllaw14_ShapeStraight.l0, if_pos (by omega), if_pos (by omega), if_pos (by omega), hr, wsucc hi (by omega)]
    · rw [List.take_add_one, hx, hs]
      simp [stL]
theorem ShapeStraight : sawmilllaw14_ShapeStraight.Pure := by
  intro low rows lens _ _
  refine Ev.rounds ?_
  unfold sawmilllaw14_ShapeStraight.f
  by_cases h : (rows.length : Int) > 130
  · simp only [if_pos h]
    exact Ev.step (fun k => by rw [sawmilllaw14_ShapeStraight.j0, if_pos rfl]) (Ev.bind awake14_ev (Ev.now _))
  · simp only [if_neg h]
    by_cases h2 : (lens.length : Int) > 30
    · exact Ev.step (fun k => by rw [sawmilllaw14_ShapeStraight.j0, if_pos (by simpa using h2)]) (Ev.bind awake14_ev (Ev.now _))
    · exact Ev.step (fun k => by rw [sawmilllaw14_ShapeStraight.j0, if_neg (by simpa using h2)]) (straight_l0 low rows lens (by omega))
end Go.Proofs.Ytdbjoopkliafeaa.Pure
