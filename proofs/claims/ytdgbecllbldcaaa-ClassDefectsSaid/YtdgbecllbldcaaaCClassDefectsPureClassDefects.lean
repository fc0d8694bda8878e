/- The pure statement of ClassDefects. -/
import Derived.Test.YtdgbecllbldcaaaCClassDefectsV4
import Derived.Test.YtdgbecllbldcaaaCClassDefectsTAw6
import Derived.Test.YtdgbecllbldcaaaCClassDefectsStmClassDefects
set_option linter.unusedVariables false
namespace Go.Proofs.Ytdgbecllbldcaaa.Pure
open Go Go.RowKit Go.Proofs.Ytdgbecllbldcaaa.P Go.Proofs.YtdgbecllbldcaaaW.PrintWords Go.Proofs.YtdgbecllbldcaaaW.PrintLast Go.Proofs.YtdgbecllbldcaaaW.PrintMore
theorem few_len (l : List Slc) (d : List Dfc) : Ev (fun k => sawmilllaw16_few.f k l d) false ∨ d.length ≤ 100 ∧ Ev (fun k => sawmilllaw16_few.f k l d) true := by
  by_cases h : d.length ≤ 100
  · obtain ⟨b, hb⟩ := few_ev l d
    cases b
    · exact .inl hb
    · exact .inr ⟨h, hb⟩
  · refine .inl ?_
    unfold sawmilllaw16_few.f
    by_cases h0 : (l.length : Int) > 30
    · simp only [if_pos h0]
      exact Ev.step (f := fun _ => some false) (fun k => by rw [sawmilllaw16_few.j0, if_pos rfl]) (Ev.now _)
    · simp only [if_neg h0]
      rw [decide_eq_true (show (d.length : Int) > 100 by omega)]
      exact Ev.step (f := fun _ => some false) (fun k => by rw [sawmilllaw16_few.j0, if_pos rfl]) (Ev.now _)
theorem cnt_app (kind : Int) : ∀ a b : List Dfc, cnt kind (a ++ b) = cnt kind a + cnt kind b
  | [], b => by rw [List.nil_append]; simp [cnt]
  | x :: a, b => by rw [List.cons_append, cnt_cons, cnt_cons, cnt_app kind a b]; omega
theorem fewer (d : List Dfc) (n : Nat) : (∀ kind, cnt kind (d.take n ++ d.drop (n + 1)) ≤ cnt kind d) ∧ (defChk d = 0 → defChk (d.take n ++ d.drop (n + 1)) = 0) := by
  have sub : (d.take n ++ d.drop (n + 1)).Sublist d := by
    have h : (d.take n ++ d.drop n).Sublist (d.take n ++ d.drop n) := List.Sublist.refl _
    have h2 : (d.take n ++ d.drop (n + 1)).Sublist (d.take n ++ d.drop n) := List.Sublist.append (List.Sublist.refl _) (by rw [← List.drop_drop]; exact List.drop_sublist _ _)
    rwa [List.take_append_drop] at h2
  refine ⟨fun kind => (sub.filter _).length_le, fun h => ?_⟩
  have h := (defChk_iff d).1 h
  exact (defChk_iff _).2 ⟨Nat.le_trans sub.length_le h.1, fun x hx => h.2 x (sub.subset hx)⟩
theorem fitS_fewer (c : Cls) (l : List Slc) (d e : List Dfc) (h : ∀ kind, cnt kind e ≤ cnt kind d) (h0 : defChk d = 0 → defChk e = 0) (hf : fitS l d c = true) : fitS l e c = true := by
  unfold fitS measS at hf ⊢
  by_cases h1 : solChk l = 0
  · rw [if_pos h1] at hf ⊢
    by_cases h2 : defChk d = 0
    · rw [if_pos h2] at hf
      rw [if_pos (h0 h2)]
      have k1 := h 1
      have k2 := h 2
      have k3 := h 3
      simp only [fitB_iff] at hf ⊢
      omega
    · rw [if_neg h2] at hf; cases hf
  · rw [if_neg h1] at hf; cases hf
theorem last16 (a b x : Bool) (h : a = true → b = true) (hx : x = true → a = true) : Ev (fun k => sawmilllaw16_ClassDefects.j1 k a b x) true := by
  refine Ev.step (fun k => by rw [sawmilllaw16_ClassDefects.j1]) ?_
  cases x
  · cases a
    · simp only [Bool.false_eq_true, if_false]
      exact aw16
    · rw [h rfl]
      simp only [Bool.false_eq_true, if_false, if_true]
      exact aw16
  · rw [h (hx rfl)]
    simp only [if_true]
    exact aw16
theorem ClassDefects : sawmilllaw16_ClassDefects.Pure := by
  intro c0 c1 c2 c3 c4 c5 c6 c7 c8 l d at_
  intros
  have bad : Ev (fun k => sawmilllaw16_ClassDefects.j0 k at_ true c0 c1 c2 c3 c4 c5 c6 c7 c8 l d) true := Ev.step (fun k => by rw [sawmilllaw16_ClassDefects.j0, if_pos rfl]) aw16
  refine Ev.rounds ?_
  unfold sawmilllaw16_ClassDefects.f
  rcases few_len l d with ht | ⟨hd, ht⟩
  · refine Ev.bind ht ?_
    simp only [Bool.false_eq_true, if_false]
    exact bad
  refine Ev.bind ht ?_
  simp only [if_true]
  by_cases g1 : at_ < 0
  · simp only [if_pos g1]
    exact bad
  simp only [if_neg g1]
  by_cases g2 : at_ ≥ (d.length : Int)
  · rw [decide_eq_true g2]
    exact bad
  rw [decide_eq_false g2]
  obtain ⟨n, rfl⟩ : ∃ n : Nat, at_ = (n : Int) := ⟨at_.toNat, by omega⟩
  have hw : wrap64 ((n : Int) + 1) = ((n + 1 : Nat) : Int) := wsucc (n := d.length) (by omega) (by omega)
  have ht1 : (d.take n).length ≤ 100 := by rw [List.length_take]; omega
  have ht2 : (d.drop (n + 1)).length ≤ 100 := by rw [List.length_drop]; omega
  refine Ev.step (fun k => by rw [sawmilllaw16_ClassDefects.j0, if_neg (by decide), if_pos (by omega), if_pos (by omega), Option.bind_some, Int.toNat_natCast, if_pos (by rw [List.length_nil]; omega), Option.bind_some, List.nil_append, hw, if_pos (by omega), if_pos (by omega), Option.bind_some, Int.toNat_natCast, if_pos (by omega)]) ?_
  refine Ev.bind (class_Fits_ev ⟨c0, c1, c2, c3, c4, c5, c6, c7, c8⟩ l d) (Ev.bind (class_Fits_ev ⟨c0, c1, c2, c3, c4, c5, c6, c7, c8⟩ l (d.take n ++ d.drop (n + 1))) ?_)
  have q1 : (n : Int) < (d.length : Int) := by omega
  simp only [if_pos q1]
  have hf := fitS_fewer ⟨c0, c1, c2, c3, c4, c5, c6, c7, c8⟩ l d _ (fewer d n).1 (fewer d n).2
  by_cases h : fitS l d ⟨c0, c1, c2, c3, c4, c5, c6, c7, c8⟩ = true
  · simp only [if_pos h]
    split
    · exact last16 _ _ _ hf (fun h => by cases h)
    · split
      · exact last16 _ _ _ hf (fun h => by cases h)
      · exact last16 _ _ _ hf (fun _ => h)
  · simp only [if_neg h]
    exact last16 _ _ _ hf (fun h => by cases h)
end Go.Proofs.Ytdgbecllbldcaaa.Pure
