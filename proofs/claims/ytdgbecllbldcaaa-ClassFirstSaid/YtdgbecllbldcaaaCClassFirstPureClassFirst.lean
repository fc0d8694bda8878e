/- The pure statement of ClassFirst. -/
import Derived.Test.YtdgbecllbldcaaaCClassFirstV4
import Derived.Test.YtdgbecllbldcaaaCClassFirstTAw6
import Derived.Test.YtdgbecllbldcaaaCClassFirstStmClassFirst
set_option linter.unusedVariables false
namespace Go.Proofs.Ytdgbecllbldcaaa.Pure
open Go Go.RowKit Go.Proofs.Ytdgbecllbldcaaa.P Go.Proofs.YtdgbecllbldcaaaW.PrintWords Go.Proofs.YtdgbecllbldcaaaW.PrintLast Go.Proofs.YtdgbecllbldcaaaW.PrintMore
theorem first_none (c : List Cls) (l : List Slc) (d : List Dfc) (hn : c.length ≤ 9223372036854775807) (h : (ofS c l d).2 = false) : Ev (fun k => sawmilllaw16_ClassFirst.l0 k c 0 0 0 l d) true := by
  have no : clsChk c = 0 → ∀ x ∈ c, fitS l d x = false := by
    intro h0
    unfold ofS at h
    rw [if_pos h0] at h
    rcases firstS_spec (fitS l d) c 0 with ⟨e, a⟩ | ⟨j, x, e, _⟩
    · exact a
    · rw [e] at h; cases h
  refine Ev.list0 (σ := Unit) c (fun k i _ => sawmilllaw16_ClassFirst.l0 k c 0 0 i l d) (fun _ _ => true) (fun _ _ => True) ?_ ?_ () trivial
  · intro s _
    refine Ev.step (fun k => by rw [sawmilllaw16_ClassFirst.l0, if_neg (by omega), if_pos rfl, if_pos rfl]) aw16
  · intro i x suf s _ hi hx ih
    refine Ev.step (fun k => by rw [sawmilllaw16_ClassFirst.l0, if_pos (by omega), rdC_at hx, wsucc hi hn]) ?_
    refine Ev.bind (class_Check_ev c) ?_
    by_cases h0 : clsChk c = 0
    · have c1 : (0 : Int) ≤ (i : Int) := by omega
      simp only [if_pos h0, if_pos c1]
      refine Ev.bind (class_Fits_ev x l d) ?_
      rw [no h0 x (List.mem_of_getElem? hx)]
      simp only [Bool.false_eq_true, if_false]
      exact ih () trivial
    · simp only [if_neg h0]
      exact ih () trivial
theorem ClassFirst : sawmilllaw16_ClassFirst.Pure := by
  intro c l d h
  intros
  have hn := len_ok h.2
  have bad : Ev (fun k => sawmilllaw16_ClassFirst.j0 k c true l d) true := Ev.step (fun k => by rw [sawmilllaw16_ClassFirst.j0, if_pos rfl]) aw16
  refine Ev.rounds ?_
  unfold sawmilllaw16_ClassFirst.f
  obtain ⟨b, hb⟩ := short_ev c hn
  refine Ev.bind hb ?_
  cases b
  · simp only [Bool.false_eq_true, if_false]
    exact bad
  · simp only [if_true]
    obtain ⟨b, hb⟩ := few_ev l d
    refine Ev.bind hb ?_
    cases b
    · exact bad
    · refine Ev.step (fun k => by rw [sawmilllaw16_ClassFirst.j0, if_neg (by decide)]) ?_
      refine Ev.bind (class_Of_ev c l d) (Ev.bind (class_Price_ev c l d) ?_)
      by_cases ho : (ofS c l d).2 = true
      · obtain ⟨j, x, e, hj, hx, hr, h0, hf, hb⟩ := ofS_in c l d ho
        have c1 : ¬ ((ofS c l d).1 < 0) := by omega
        have c2 : ¬ ((ofS c l d).1 ≥ (c.length : Int)) := by omega
        have c3 : (0 : Int) ≤ (ofS c l d).1 := by omega
        have c4 : (ofS c l d).1 < (c.length : Int) := by omega
        simp only [if_pos ho, if_neg c1, if_neg c2, if_pos c3, if_pos c4]
        refine Ev.bind (class_Check_ev c) ?_
        simp only [if_pos h0]
        rw [e, rdC_at hx]
        refine Ev.bind (class_Fits_ev x l d) ?_
        rw [hf]
        refine Ev.step (fun k => by rw [sawmilllaw16_ClassFirst.j2, if_neg (by decide)]) ?_
        have v := volS_range l
        have r := ((rngC_iff x).1 hr).2.2.2.2.2.2.2.1
        have pr := price_range r.1 r.2 v.1 v.2
        have hp : priS c l d = x.f8 * volS l / 1000000000 := by
          unfold priS
          rw [if_pos ho, e, rdC_at hx]
        have stop : ∀ n : Nat, n = j → Ev (fun k => sawmilllaw16_ClassFirst.l1 k c (j : Int) (priS c l d) (n : Int) l d) true := by
          intro n en
          subst en
          refine Ev.step (fun k => by rw [sawmilllaw16_ClassFirst.l1, if_neg (by omega), if_pos (by omega), if_pos (by omega), rdC_at hx]) ?_
          refine Ev.bind (evEq (solid_Volume_ev l) (volS_eq l)) ?_
          have b1 := Int.emod_nonneg (x.f8 * volS l) (show (1000000000 : Int) ≠ 0 by decide)
          have b2 := Int.emod_lt_of_pos (x.f8 * volS l) (show (0 : Int) < 1000000000 by decide)
          have b3 := Int.emod_add_mul_ediv (x.f8 * volS l) 1000000000
          have b4 := Int.ediv_nonneg pr.1 (show (0 : Int) ≤ 1000000000 by decide)
          rw [hp, w64 (n := x.f8 * volS l) (by omega) (by omega)]
          generalize x.f8 * volS l = p at *
          rw [w64 (n := 1000000000 * (p / 1000000000)) (by omega) (by omega), w64 (by omega) (by omega)]
          have d1 : p - 1000000000 * (p / 1000000000) ≥ 0 := by omega
          have d2 : p - 1000000000 * (p / 1000000000) < 1000000000 := by omega
          simp only [if_pos d1, if_pos d2]
          exact aw16
        have : ∀ (m n : Nat), j - n = m → n ≤ j → Ev (fun k => sawmilllaw16_ClassFirst.l1 k c (j : Int) (priS c l d) (n : Int) l d) true := by
          intro m
          induction m with
          | zero => intro n h1 h2; exact stop n (by omega)
          | succ m ih =>
            intro n h1 h2
            obtain ⟨y, hy⟩ : ∃ y, c[n]? = some y := ⟨_, List.getElem?_eq_getElem (by omega)⟩
            refine Ev.step (fun k => by rw [sawmilllaw16_ClassFirst.l1, if_pos (by omega), if_pos (by omega), if_pos (by omega), rdC_at hy]) ?_
            refine Ev.bind (class_Fits_ev y l d) ?_
            rw [hb n y (by omega) hy]
            simp only [Bool.false_eq_true, if_false]
            rw [wsucc (n := c.length) (by omega) hn]
            exact ih (n + 1) (by omega) (by omega)
        exact this _ 0 rfl (by omega)
      · have ho' : (ofS c l d).2 = false := by simpa using ho
        have h1 : (ofS c l d).1 = 0 := by
          unfold ofS at ho' ⊢
          by_cases h0 : clsChk c = 0
          · rw [if_pos h0] at ho' ⊢
            rcases firstS_spec (fitS l d) c 0 with ⟨e, a⟩ | ⟨j, x, e, _⟩
            · rw [e]
            · rw [e] at ho'; cases ho'
          · rw [if_neg h0]
        have h2 : priS c l d = 0 := by unfold priS; rw [if_neg ho]
        simp only [if_neg ho]
        rw [h1, h2]
        exact first_none c l d hn ho'
end Go.Proofs.Ytdgbecllbldcaaa.Pure
