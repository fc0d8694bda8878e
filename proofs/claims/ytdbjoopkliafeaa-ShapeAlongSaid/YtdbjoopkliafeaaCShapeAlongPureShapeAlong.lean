/- The pure statement of ShapeAlong. -/
import Derived.Test.YtdbjoopkliafeaaCShapeAlongV7
import Derived.Test.YtdbjoopkliafeaaCShapeAlongTAlo
import Derived.Test.YtdbjoopkliafeaaCShapeAlongStmShapeAlong
set_option linter.unusedVariables false
set_option linter.unusedSimpArgs false
namespace Go.Proofs.Ytdbjoopkliafeaa.Pure
open Go Go.RowKit Go.Proofs.Ytdbjoopkliafeaa.P Go.Proofs.YtdbjoopkliafeaaW.PrintWords Go.Proofs.YtdbjoopkliafeaaW.PrintLast Go.Proofs.YtdbjoopkliafeaaW.PrintMore
theorem along_none (l : List Slc) (a : Int) : Ev (fun k => sawmilllaw14_ShapeAlong.j0 k l a true) true :=
  Ev.step (fun k => by rw [sawmilllaw14_ShapeAlong.j0, if_pos rfl]) (Ev.bind awake14_ev (Ev.now _))
theorem top_spl {l : List Slc} (ok : SolOk l) (hn : l.length < 24) (a : Int) : topS (splL a l 0) = topS l := by
  unfold topS
  rw [if_pos ((solOk_iff _).2 (splL_ok ok hn a)), if_pos ((solOk_iff _).2 ok), splL_last]
theorem tap_spl {l : List Slc} (ok : SolOk l) (hn : l.length < 24) (a : Int) : tapS (splL a l 0) = tapS l := by
  unfold tapS
  rw [if_pos ((solOk_iff _).2 (splL_ok ok hn a)), if_pos ((solOk_iff _).2 ok), splL_first, splL_sum, top_spl ok hn a]
theorem top_mir {l : List Slc} (ok : SolOk l) : topS (l.map mirL) = topS l := by
  have h0 := ok.len0
  unfold topS
  rw [if_pos ((solOk_iff _).2 (mirL_ok ok)), if_pos ((solOk_iff _).2 ok), lstL_mir h0, dia_mir ok (s := lstL l) (getD_inL (by omega))]
theorem tap_mir {l : List Slc} (ok : SolOk l) : tapS (l.map mirL) = tapS l := by
  have h0 := ok.len0
  unfold tapS
  rw [if_pos ((solOk_iff _).2 (mirL_ok ok)), if_pos ((solOk_iff _).2 ok), fstL_mir h0, dia_mir ok (s := fstL l) (getD_inL h0), mirL_sum, top_mir ok]
theorem along_end {l : List Slc} (ok : SolOk l) : Ev (fun k => sawmilllaw14_ShapeAlong.l0 k l ([] : List Slc) 0) true := by
  have hn := ok.len
  refine (Ev.list0 (σ := List Slc) l (fun k i s => sawmilllaw14_ShapeAlong.l0 k l s i) (fun _ _ => true) (fun i s => s = (l.take i).map mirL) ?_ ?_ [] (by simp))
  · intro s hs
    rw [List.take_length] at hs
    subst hs
    refine Ev.step (fun k => by rw [sawmilllaw14_ShapeAlong.l0, if_neg (by omega)]) ?_
    refine Ev.bind (shape_Sweep_ev l) (Ev.bind (shape_Sweep_ev _) (Ev.bind (shape_Top_ev _) (Ev.bind (shape_Top_ev l) ?_)))
    simp only [if_pos (top_mir ok)]
    refine Ev.bind (shape_Taper_ev _) (Ev.bind (shape_Taper_ev l) ?_)
    simp only [if_pos (tap_mir ok)]
    have r1 := sweS_range l
    have r2 := sweS_range (l.map mirL)
    have n := sweS_mir ok
    have w1 : wrap64 (sweS l - sweS (l.map mirL)) = sweS l - sweS (l.map mirL) := w64 (by omega) (by omega)
    have w2 : wrap64 (sweS (l.map mirL) - sweS l) = sweS (l.map mirL) - sweS l := w64 (by omega) (by omega)
    simp only [w1, w2, if_pos n.1, if_pos n.2]
    exact Ev.bind awake14_ev (Ev.now _)
  · intro i x suf s hs hi hx ih
    have hr := rdL_at hx
    have hm := List.mem_of_getElem? hx
    refine Ev.step (fun k => by rw [sawmilllaw14_ShapeAlong.l0, if_pos (by omega), if_pos (by omega), hr]) ?_
    refine Ev.bind (section_Mirror_ev _ _) ?_
    rw [validS_self (secOk_of (ok.sec x hm))]
    have hl : s.length < 3518437208883 := by rw [hs]; simp; omega
    simp only [if_pos hl]
    rw [wsucc hi (by omega)]
    refine ih _ ?_
    rw [hs, List.take_add_one, hx]
    simp only [Option.toList_some, List.map_append, List.map_cons, List.map_nil]
    rfl
theorem along_j1 {l : List Slc} (ok : SolOk l) (hn : l.length < 24) {a : Int} (h0 : 0 < a) (h1 : a < sumZ l) : Ev (fun k => sawmilllaw14_ShapeAlong.j1 k l a (sumZ l) false) true := by
  refine Ev.step (fun k => by rw [sawmilllaw14_ShapeAlong.j1, if_neg (by decide)]) ?_
  simp only [Option.bind_some]
  refine Ev.bind (solid_Cut_ev l 0 a) ?_
  have c1 := (partsS_ok l 0 a).len
  have c2 := (partsS_ok l a (sumZ l)).len
  have e1 : (cutS l 0 a).length ≤ 24 := by unfold cutS cutP; rw [List.length_map]; exact c1
  have e2 : (cutS l a (sumZ l)).length ≤ 24 := by unfold cutS cutP; rw [List.length_map]; exact c2
  simp only [List.length_nil, List.nil_append, if_pos (show 0 + (cutS l 0 a).length < 3518437208883 by omega)]
  refine Ev.bind (solid_Cut_ev l a (sumZ l)) ?_
  simp only [if_pos (show (cutS l 0 a).length + (cutS l a (sumZ l)).length < 3518437208883 by omega)]
  have hok := (solOk_iff l).2 ok
  have e : cutS l 0 a ++ cutS l a (sumZ l) = splL a l 0 := by
    unfold cutS partsS
    rw [if_pos hok, if_pos hok]
    exact cut_spl l 0 ok.pos (by omega) h0 (by omega)
  rw [e]
  have ok2 := splL_ok ok hn a
  refine Ev.bind (solid_Length_ev _) ?_
  have el : lenZ (splL a l 0) = sumZ l := by unfold lenZ; rw [if_pos ((solOk_iff _).2 ok2), splL_sum]
  simp only [if_pos el]
  refine Ev.bind (shape_Top_ev _) (Ev.bind (shape_Top_ev l) ?_)
  simp only [if_pos (top_spl ok hn a)]
  refine Ev.bind (shape_Taper_ev _) (Ev.bind (shape_Taper_ev l) ?_)
  simp only [tap_spl ok hn a, bne_self_eq_false]
  refine Ev.step (fun k => by rw [sawmilllaw14_ShapeAlong.j2, if_neg (by decide)]) ?_
  exact along_end ok
theorem ShapeAlong : sawmilllaw14_ShapeAlong.Pure := by
  intro l a
  intros
  refine Ev.rounds ?_
  unfold sawmilllaw14_ShapeAlong.f
  obtain ⟨b, hb⟩ := small_ev l
  refine Ev.bind hb ?_
  cases b
  · simp only [Bool.false_eq_true, if_false]; exact along_none l a
  · simp only [if_true]
    by_cases h1 : (l.length : Int) ≥ 24
    · simp only [if_pos h1]; exact along_none l a
    · simp only [if_neg h1]
      refine Ev.bind (solid_Check_ev l) ?_
      by_cases h : solChk l = 0
      · have ok := (solOk_iff l).1 h
        simp only [h, bne_self_eq_false]
        refine Ev.step (fun k => by rw [sawmilllaw14_ShapeAlong.j0, if_neg (by decide)]) ?_
        refine Ev.bind (solid_Length_ev l) ?_
        have el : lenZ l = sumZ l := by unfold lenZ; rw [if_pos h]
        rw [el]
        have off : Ev (fun k => sawmilllaw14_ShapeAlong.j1 k l a (sumZ l) true) true := Ev.step (fun k => by rw [sawmilllaw14_ShapeAlong.j1, if_pos rfl]) (Ev.bind awake14_ev (Ev.now _))
        by_cases h2 : a ≤ 0
        · simp only [if_pos h2]; exact off
        · simp only [if_neg h2]
          by_cases h3 : a ≥ sumZ l
          · simp only [decide_eq_true h3]; exact off
          · simp only [decide_eq_false h3]
            exact along_j1 ok (by omega) (by omega) (by omega)
      · have : (solChk l != 0) = true := bne_iff_ne.2 h
        rw [this]; exact along_none l a
end Go.Proofs.Ytdbjoopkliafeaa.Pure
