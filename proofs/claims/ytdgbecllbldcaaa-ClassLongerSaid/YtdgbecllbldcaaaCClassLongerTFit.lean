/- Classes of logs: Fits, Of and Price, in the program and in the reference. -/
import Derived.Test.YtdgbecllbldcaaaCClassLongerV4
import Derived.Test.YtdgbecllbldcaaaCClassLongerTCls
import Derived.Test.YtdgbecllbldcaaaCClassLongerTDef
import Derived.Test.YtdgbecllbldcaaaCClassLongerTSweep
import Derived.Test.YtdgbecllbldcaaaCClassLongerTVol
set_option linter.unusedVariables false
set_option linter.unusedSimpArgs false
namespace Go.Proofs.Ytdgbecllbldcaaa.P
open Go Go.RowKit Go.Proofs.YtdgbecllbldcaaaW.PrintWords Go.Proofs.YtdgbecllbldcaaaW.PrintLast Go.Proofs.YtdgbecllbldcaaaW.PrintMore
theorem few_ev (l : List Slc) (d : List Dfc) : ∃ b, Ev (fun k => sawmilllaw16_few.f k l d) b := by
  have hl : ∀ (n : l.length ≤ 30), Ev (fun k => sawmilllaw16_few.l0 k 0 l d) (l.all fun s => decide ((s.f1.f1.length : Int) ≤ 130)) := fun n => by
    refine Ev.list0 (σ := Unit) l (fun k i _ => sawmilllaw16_few.l0 k i l d) (fun suf _ => suf.all fun s => decide ((s.f1.f1.length : Int) ≤ 130)) (fun _ _ => True) ?_ ?_ () trivial
    · intro s _
      exact Ev.step (f := fun _ => some true) (fun k => by rw [sawmilllaw16_few.l0, if_neg (by omega)]) (evEq (Ev.now _) (by simp))
    · intro i x suf s _ hi hx ih
      have hr := rdL_at hx
      by_cases h1 : (x.f1.f1.length : Int) > 130
      · exact Ev.step (f := fun _ => some false) (fun k => by rw [sawmilllaw16_few.l0, if_pos (by omega), if_pos (by omega), hr, if_pos h1]) (evEq (Ev.now _) (by simp; omega))
      · exact Ev.step (f := fun k => sawmilllaw16_few.l0 k ((i + 1 : Nat) : Int) l d) (fun k => by rw [sawmilllaw16_few.l0, if_pos (by omega), if_pos (by omega), hr, if_neg h1, wsucc hi (by omega)]) (evEq (ih () trivial) (by simp; omega))
  unfold sawmilllaw16_few.f
  by_cases h0 : (l.length : Int) > 30
  · simp only [if_pos h0]
    exact ⟨_, Ev.step (f := fun _ => some false) (fun k => by rw [sawmilllaw16_few.j0, if_pos rfl]) (Ev.now _)⟩
  · simp only [if_neg h0]
    by_cases h1 : (d.length : Int) > 100
    · rw [decide_eq_true h1]
      exact ⟨_, Ev.step (f := fun _ => some false) (fun k => by rw [sawmilllaw16_few.j0, if_pos rfl]) (Ev.now _)⟩
    · rw [decide_eq_false h1]
      exact ⟨_, Ev.step (f := fun k => sawmilllaw16_few.l0 k 0 l d) (fun k => by rw [sawmilllaw16_few.j0, if_neg (by decide)]) (hl (by omega))⟩
theorem short_ev (l : List Cls) (hn : l.length ≤ 9223372036854775807) : ∃ b, Ev (fun k => sawmilllaw16_short.f k l) b := by
  have : ∀ (m i : Nat), l.length - i = m → i ≤ l.length → ∃ b, Ev (fun k => sawmilllaw16_short.l0 k l (i : Int)) b := by
    intro m
    induction m with
    | zero =>
      intro i hm hi
      exact ⟨_, Ev.step (f := fun _ => some true) (fun k => by rw [sawmilllaw16_short.l0, if_neg (by omega)]) (Ev.now _)⟩
    | succ m ih =>
      intro i hm hi
      by_cases h1 : (i : Int) ≥ 20
      · exact ⟨_, Ev.step (f := fun _ => some false) (fun k => by rw [sawmilllaw16_short.l0, if_pos (by omega), if_pos h1]) (Ev.now _)⟩
      · by_cases h2 : (((rd_T28 l (i : Int)).f0).size : Int) > 100
        · exact ⟨_, Ev.step (f := fun _ => some false) (fun k => by rw [sawmilllaw16_short.l0, if_pos (by omega), if_neg h1, if_pos (by omega), if_pos h2]) (Ev.now _)⟩
        · obtain ⟨b, hb⟩ := ih (i + 1) (by omega) (by omega)
          exact ⟨b, Ev.step (f := fun k => sawmilllaw16_short.l0 k l ((i + 1 : Nat) : Int)) (fun k => by rw [sawmilllaw16_short.l0, if_pos (by omega), if_neg h1, if_pos (by omega), if_neg h2, wsucc (n := l.length) (by omega) hn]) hb⟩
  unfold sawmilllaw16_short.f
  exact this _ 0 rfl (by omega)
/-- The measures of a log: top, length, sweep, taper, knots, rot. -/
noncomputable def measS (l : List Slc) (d : List Dfc) : Option (Int × Int × Int × Int × Int × Int) :=
  if solChk l = 0 then (if defChk d = 0 then some (topS l, lenZ l, sweS l, tapS l, (cnt 1 d : Int) + (cnt 2 d : Int), (cnt 3 d : Int)) else none) else none
noncomputable def fitS (l : List Slc) (d : List Dfc) (c : Cls) : Bool := match measS l d with
  | none => false
  | some m => fitB m c
theorem measured_ev (l : List Slc) (d : List Dfc) : Ev (fun k => class_measured.f k l d) (measS l d) := by
  unfold class_measured.f measS
  refine Ev.bind (solid_Check_ev l) ?_
  by_cases h0 : solChk l = 0
  · have c0 : ¬ (solChk l != 0) = true := by rw [h0]; decide
    simp only [if_neg c0, if_pos h0]
    refine Ev.bind (defect_Check_ev d) ?_
    by_cases h1 : defChk d = 0
    · have c1 : ¬ (defChk d != 0) = true := by rw [h1]; decide
      have hd := ((defChk_iff d).1 h1).1
      simp only [if_neg c1, if_pos h1, defect_Count_eq hd, Option.bind_some]
      refine Ev.bind (shape_Top_ev l) (Ev.bind (solid_Length_ev l) (Ev.bind (shape_Sweep_ev l) (Ev.bind (shape_Taper_ev l) ?_)))
      have a1 := cnt_le 1 d
      have a2 := cnt_le 2 d
      rw [w64 (by omega) (by omega)]
      exact Ev.now _
    · have c1 : (defChk d != 0) = true := by simpa using h1
      simp only [if_pos c1, if_neg h1]; exact Ev.now _
  · have c0 : (solChk l != 0) = true := by simpa using h0
    simp only [if_pos c0, if_neg h0]; exact Ev.now _
/-- The first of a list that has a property, and its place. -/
def firstS (p : Cls → Bool) : List Cls → Int → Int × Bool
  | [], _ => (0, false)
  | x :: l, i => if p x = true then (i, true) else firstS p l (i + 1)
noncomputable def ofS (c : List Cls) (l : List Slc) (d : List Dfc) : Int × Bool := if clsChk c = 0 then firstS (fitS l d) c 0 else (0, false)
theorem firstFit_eq (m : Int × Int × Int × Int × Int × Int) : ∀ (c : List Cls) (i : Int), firstFit m c i = firstS (fitB m) c i
  | [], _ => rfl
  | x :: l, i => by simp only [firstFit, firstS, firstFit_eq m l]
theorem firstS_false : ∀ (c : List Cls) (i : Int), firstS (fun _ => false) c i = (0, false)
  | [], _ => rfl
  | x :: l, i => by simp only [firstS]; rw [if_neg (by decide)]; exact firstS_false l _
theorem class_Of_ev (c : List Cls) (l : List Slc) (d : List Dfc) : Ev (fun k => class_Of.f k c l d) (ofS c l d) := by
  unfold class_Of.f ofS
  refine Ev.bind (measured_ev l d) ?_
  have hf : fitS l d = fun x => match measS l d with | none => false | some m => fitB m x := rfl
  cases hm : measS l d with
  | none =>
    rw [hm] at hf
    refine evEq (Ev.now _) ?_
    rw [hf]
    simp only [firstS_false, ite_self]
  | some m =>
    rw [hm] at hf
    simp only
    refine Ev.bind (class_Check_ev c) ?_
    by_cases h0 : clsChk c = 0
    · have c0 : ¬ (clsChk c != 0) = true := by rw [h0]; decide
      have h1 := (clsChk_ok h0).1
      have c1 : c.length < 9223372036854775807 := by omega
      simp only [if_neg c0, if_pos c1, if_pos h0, firstFit_eq]
      exact evEq (Ev.now _) (by rw [hf])
    · have c0 : (clsChk c != 0) = true := by simpa using h0
      simp only [if_pos c0, if_neg h0]; exact Ev.now _
/-- Where the first stands, it stands in the list, has the property, and none before it has. -/
theorem firstS_spec (p : Cls → Bool) : ∀ (c : List Cls) (i : Int), (firstS p c i = (0, false) ∧ ∀ x ∈ c, p x = false) ∨ ∃ (j : Nat) (x : Cls), firstS p c i = (i + j, true) ∧ c[j]? = some x ∧ p x = true ∧ ∀ (t : Nat) (y : Cls), t < j → c[t]? = some y → p y = false
  | [], _ => .inl ⟨rfl, fun x hx => by cases hx⟩
  | x :: l, i => by
    unfold firstS
    by_cases h : p x = true
    · rw [if_pos h]
      exact .inr ⟨0, x, by simp, rfl, h, fun t y ht => by omega⟩
    · rw [if_neg h]
      have h' : p x = false := by simpa using h
      rcases firstS_spec p l (i + 1) with ⟨e, hall⟩ | ⟨j, y, e, hj, hy, hb⟩
      · exact .inl ⟨e, fun z hz => (List.mem_cons.1 hz).elim (fun e => e ▸ h') (hall z)⟩
      · refine .inr ⟨j + 1, y, by rw [e]; simp; omega, by simpa using hj, hy, fun t z ht hz => ?_⟩
        cases t with
        | zero => simp at hz; subst hz; exact h'
        | succ t => exact hb t z (by omega) (by simpa using hz)
end Go.Proofs.Ytdgbecllbldcaaa.P
