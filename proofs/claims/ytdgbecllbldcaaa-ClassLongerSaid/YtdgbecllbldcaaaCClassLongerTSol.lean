/- Solids: what Check, parts and Length come to, in the program and in the reference. -/
import Derived.Test.YtdgbecllbldcaaaCClassLongerV4
import Derived.Test.YtdgbecllbldcaaaCClassLongerTSecR
set_option linter.unusedVariables false
set_option linter.unusedSimpArgs false
namespace Go.Proofs.Ytdgbecllbldcaaa.P
open Go Go.RowKit Go.Proofs.YtdgbecllbldcaaaW.PrintWords Go.Proofs.YtdgbecllbldcaaaW.PrintLast Go.Proofs.YtdgbecllbldcaaaW.PrintMore
abbrev Prt := S68
/-- The error of the slices of a list, where so much length is left. -/
def chkL : List Slc → Int → Int
  | [], _ => 0
  | s :: r, left => if secChk s.f1.f0 s.f1.f1 = 0 then (if (s.f1.f1.length : Int) = 0 then 18 else if s.f0 < 1 then 9 else if s.f0 > left then 9 else chkL r (left - s.f0)) else secChk s.f1.f0 s.f1.f1
/-- The error of a list of slices. -/
def solChk (l : List Slc) : Int := if (l.length : Int) = 0 then 3 else if (l.length : Int) > 24 then 4 else chkL l 20000
theorem solid_Check_l0 (l : List Slc) (hn : l.length ≤ 24) : Ev (fun k => solid_Check.l0 k 20000 l (l.length : Int) 0) (chkL l 20000) := by
  refine Ev.list0 (σ := Int) l (fun k i s => solid_Check.l0 k s l (l.length : Int) i) chkL (fun _ s => 0 ≤ s ∧ s ≤ 20000) ?_ ?_ 20000 (by omega)
  · intro s _
    exact Ev.step (f := fun _ => some 0) (fun k => by rw [solid_Check.l0, if_neg (by omega)]) (Ev.now _)
  · intro i x suf s hs hi hx ih
    have hr := rdL_at hx
    refine Ev.step (fun k => by rw [solid_Check.l0, if_pos (by omega), if_pos (by omega), if_pos (by omega), hr]) ?_
    refine Ev.bind (section_Check_ev _ _) ?_
    unfold chkL
    by_cases h0 : secChk x.f1.f0 x.f1.f1 = 0
    · simp only [if_pos h0]
      by_cases h1 : (x.f1.f1.length : Int) = 0
      · simp only [if_pos h1]; exact Ev.now _
      · simp only [if_neg h1]
        by_cases h2 : x.f0 < 1
        · simp only [if_pos h2]; exact Ev.now _
        · simp only [if_neg h2]
          by_cases h3 : x.f0 > s
          · simp only [if_pos h3]; exact Ev.now _
          · simp only [if_neg h3]
            rw [wsucc hi (by omega), w64 (by omega) (by omega)]
            exact ih _ (by omega)
    · simp only [if_neg h0]; exact Ev.now _
theorem solid_Check_ev (l : List Slc) : Ev (fun k => solid_Check.f k l) (solChk l) := by
  unfold solid_Check.f solChk
  by_cases h0 : (l.length : Int) = 0
  · simp only [if_pos h0]; exact Ev.now _
  · simp only [if_neg h0]
    by_cases h1 : (l.length : Int) > 24
    · simp only [if_pos h1]; exact Ev.now _
    · simp only [if_neg h1]; exact solid_Check_l0 l (by omega)
/-- The lengths of slices together. -/
def sumZ : List Slc → Int
  | [] => 0
  | s :: r => s.f0 + sumZ r
theorem chkL_iff : ∀ (l : List Slc) (left : Int), 0 ≤ left → (chkL l left = 0 ↔ (∀ s ∈ l, secChk s.f1.f0 s.f1.f1 = 0 ∧ s.f1.f1 ≠ [] ∧ 1 ≤ s.f0) ∧ sumZ l ≤ left)
  | [], left, h => by simp [chkL, sumZ, h]
  | s :: r, left, h => by
    have hl : (s.f1.f1.length : Int) = 0 ↔ s.f1.f1 = [] := by
      rw [← List.length_eq_zero_iff]; omega
    simp only [chkL, sumZ, List.mem_cons, forall_eq_or_imp]
    by_cases h0 : secChk s.f1.f0 s.f1.f1 = 0
    · rw [if_pos h0]
      by_cases h1 : s.f1.f1 = []
      · simp [h1]
      · rw [if_neg (by rw [hl]; exact h1)]
        by_cases h2 : s.f0 < 1
        · rw [if_pos h2]; constructor
          · intro e; omega
          · intro e; omega
        · rw [if_neg h2]
          by_cases h3 : s.f0 > left
          · rw [if_pos h3]
            constructor
            · intro e; omega
            · intro e
              have : ∀ (r : List Slc), (∀ s ∈ r, secChk s.f1.f0 s.f1.f1 = 0 ∧ s.f1.f1 ≠ [] ∧ 1 ≤ s.f0) → 0 ≤ sumZ r := by
                intro r; induction r with
                | nil => intro _; simp [sumZ]
                | cons a t ih => intro hh; have := hh a (by simp); have := ih (fun s hs => hh s (by simp [hs])); simp only [sumZ]; omega
              have := this r e.1.2
              omega
          · rw [if_neg h3, chkL_iff r (left - s.f0) (by omega)]
            constructor
            · intro e; exact ⟨⟨⟨h0, h1, by omega⟩, e.1⟩, by omega⟩
            · intro e; exact ⟨e.1.2, by omega⟩
    · rw [if_neg h0]; simp [h0]
theorem sumZ_nonneg : ∀ {l : List Slc}, (∀ s ∈ l, 1 ≤ s.f0) → 0 ≤ sumZ l
  | [], _ => by simp [sumZ]
  | a :: t, h => by have := h a (by simp); have := sumZ_nonneg (l := t) (fun s hs => h s (by simp [hs])); simp only [sumZ]; omega
/-- What a list without error keeps. -/
structure SolOk (l : List Slc) : Prop where
  len0 : 0 < l.length
  len : l.length ≤ 24
  sec : ∀ s ∈ l, secChk s.f1.f0 s.f1.f1 = 0
  rows : ∀ s ∈ l, s.f1.f1 ≠ []
  pos : ∀ s ∈ l, 1 ≤ s.f0
  sum : sumZ l ≤ 20000
theorem solOk_iff (l : List Slc) : solChk l = 0 ↔ SolOk l := by
  unfold solChk
  by_cases h0 : (l.length : Int) = 0
  · rw [if_pos h0]; exact ⟨fun e => by omega, fun e => by have := e.len0; omega⟩
  · rw [if_neg h0]
    by_cases h1 : (l.length : Int) > 24
    · rw [if_pos h1]; exact ⟨fun e => by omega, fun e => by have := e.len; omega⟩
    · rw [if_neg h1, chkL_iff l 20000 (by omega)]
      exact ⟨fun e => ⟨by omega, by omega, fun s hs => (e.1 s hs).1, fun s hs => (e.1 s hs).2.1, fun s hs => (e.1 s hs).2.2, e.2⟩, fun e => ⟨fun s hs => ⟨e.sec s hs, e.rows s hs, e.pos s hs⟩, e.sum⟩⟩
/-! ### parts -/
theorem span_Meet_eq (a b c d : Int) : span_Meet.f a b c d = some (if max a c < min b d then (max a c, min b d) else (0, 0)) := by
  unfold span_Meet.f span_empty.f
  simp only [Option.bind_some, decide_eq_true_eq, mx_eq, mn_eq]
  by_cases h1 : a ≥ b
  · rw [if_pos h1, if_neg (by omega)]
  · rw [if_neg h1]
    by_cases h2 : c ≥ d
    · rw [if_pos h2, if_neg (by omega)]
    · rw [if_neg h2]
      by_cases h3 : max a c ≥ min b d
      · rw [if_pos h3, if_neg (by omega)]
      · rw [if_neg h3, if_pos (by omega)]
/-- The parts of slices in a span, where the first begins at a position. -/
def partsL (za zb : Int) : List Slc → Int → List Prt
  | [], _ => []
  | s :: r, p => if max p za < min (p + s.f0) zb then ⟨⟨max p za, min (p + s.f0) zb⟩, s.f1⟩ :: partsL za zb r (p + s.f0) else partsL za zb r (p + s.f0)
def partsS (l : List Slc) (za zb : Int) : List Prt := if solChk l = 0 then partsL za zb l 0 else []
theorem sumZ_append : ∀ (a b : List Slc), sumZ (a ++ b) = sumZ a + sumZ b
  | [], b => by simp [sumZ]
  | x :: t, b => by simp only [List.cons_append, sumZ, sumZ_append t b]; omega
theorem sumZ_take {l : List Slc} (h : ∀ s ∈ l, 1 ≤ s.f0) (i : Nat) : 0 ≤ sumZ (l.take i) ∧ sumZ (l.take i) ≤ sumZ l := by
  have e : sumZ l = sumZ (l.take i) + sumZ (l.drop i) := by rw [← sumZ_append, List.take_append_drop]
  have h1 : 0 ≤ sumZ (l.take i) := sumZ_nonneg (fun s hs => h s (List.mem_of_mem_take hs))
  have h2 : 0 ≤ sumZ (l.drop i) := sumZ_nonneg (fun s hs => h s (List.mem_of_mem_drop hs))
  omega
theorem sumZ_take_succ {l : List Slc} {i : Nat} {x : Slc} (h : l[i]? = some x) : sumZ (l.take (i + 1)) = sumZ (l.take i) + x.f0 := by
  rw [List.take_add_one, h, sumZ_append]; simp [sumZ]
theorem solid_parts_l0 {l : List Slc} (ok : SolOk l) (za zb : Int) : Ev (fun k => solid_parts.l0 k ([] : List Prt) 0 l (l.length : Int) 0 za zb) (partsL za zb l 0) := by
  have hn := ok.len
  refine Ev.list0 (σ := List Prt × Int) l (fun k i s => solid_parts.l0 k s.1 s.2 l (l.length : Int) i za zb) (fun suf s => s.1 ++ partsL za zb suf s.2) (fun i s => s.1.length ≤ i ∧ s.2 = sumZ (l.take i)) ?_ ?_ ([], 0) ⟨Nat.le_refl _, by simp [sumZ]⟩
  · intro s _
    refine Ev.step (f := fun _ => some s.1) (fun k => by rw [solid_parts.l0, if_neg (by omega)]) (evEq (Ev.now _) (by simp [partsL]))
  · rintro i x suf ⟨acc, p⟩ ⟨hs, hp⟩ hi hx ih
    simp only at hs hp ⊢
    have hr := rdL_at hx
    have e1 := sumZ_take_succ hx
    have r0 := sumZ_take ok.pos i
    have r1 := sumZ_take ok.pos (i + 1)
    have := ok.sum
    have hw : wrap64 (p + x.f0) = p + x.f0 := w64 (by omega) (by omega)
    simp only [partsL]
    by_cases hm : max p za < min (p + x.f0) zb
    · refine Ev.step (f := fun k => solid_parts.l0 k (acc ++ [⟨⟨max p za, min (p + x.f0) zb⟩, x.f1⟩]) (p + x.f0) l (l.length : Int) ((i + 1 : Nat) : Int) za zb) (fun k => ?_) ?_
      · rw [solid_parts.l0, if_pos (by omega), if_pos (by omega), if_pos (by omega), hr, hw, span_Meet_eq, Option.bind_some, if_pos hm, if_pos (by exact hm), if_pos (by omega), wsucc hi (by omega)]
      · rw [if_pos hm]
        exact evEq (ih (acc ++ [⟨⟨max p za, min (p + x.f0) zb⟩, x.f1⟩], p + x.f0) ⟨by simp; omega, by rw [e1, hp]⟩) (by simp)
    · refine Ev.step (f := fun k => solid_parts.l0 k acc (p + x.f0) l (l.length : Int) ((i + 1 : Nat) : Int) za zb) (fun k => ?_) ?_
      · rw [solid_parts.l0, if_pos (by omega), if_pos (by omega), if_pos (by omega), hr, hw, span_Meet_eq, Option.bind_some, if_neg hm, if_neg (by decide), wsucc hi (by omega)]
      · rw [if_neg hm]
        exact ih (acc, p + x.f0) ⟨by simp only; omega, by rw [e1, hp]⟩
theorem solid_parts_ev (l : List Slc) (za zb : Int) : Ev (fun k => solid_parts.f k l za zb) (partsS l za zb) := by
  unfold solid_parts.f partsS
  refine Ev.bind (solid_Check_ev l) ?_
  by_cases h : solChk l = 0
  · simp only [if_pos h]; exact solid_parts_l0 ((solOk_iff l).1 h) za zb
  · simp only [if_neg h]; exact Ev.now _
/-- All slices with their extents. -/
def allP : List Slc → Int → List Prt
  | [], _ => []
  | s :: r, p => ⟨⟨p, p + s.f0⟩, s.f1⟩ :: allP r (p + s.f0)
theorem partsL_all : ∀ (l : List Slc) (p : Int), 0 ≤ p → (∀ s ∈ l, 1 ≤ s.f0) → p + sumZ l ≤ 20000 → partsL 0 20000 l p = allP l p
  | [], _, _, _, _ => rfl
  | s :: r, p, h0, h1, h2 => by
    have hs := h1 s (by simp)
    have hr : ∀ x ∈ r, 1 ≤ x.f0 := fun x hx => h1 x (by simp [hx])
    have := sumZ_nonneg hr
    simp only [sumZ] at h2
    have e1 : max p 0 = p := by omega
    have e2 : min (p + s.f0) 20000 = p + s.f0 := by omega
    simp only [partsL, allP, e1, e2]
    rw [if_pos (by omega), partsL_all r (p + s.f0) (by omega) hr (by omega)]
theorem partsS_whole {l : List Slc} (ok : SolOk l) : partsS l 0 20000 = allP l 0 := by
  unfold partsS
  rw [if_pos ((solOk_iff l).2 ok), partsL_all l 0 (by omega) ok.pos (by have := ok.sum; omega)]
theorem allP_length : ∀ (l : List Slc) (p : Int), (allP l p).length = l.length
  | [], _ => rfl
  | s :: r, p => by simp [allP, allP_length r]
theorem allP_last : ∀ (l : List Slc) (p : Int) (h : l ≠ []), ((allP l p).getD (l.length - 1) z68).f0.f1 = p + sumZ l
  | [], _, h => absurd rfl h
  | [s], p, _ => by simp [allP, sumZ]
  | s :: t :: r, p, _ => by
    have := allP_last (t :: r) (p + s.f0) (by simp)
    rw [show (allP (s :: t :: r) p).getD ((s :: t :: r).length - 1) z68 = (allP (t :: r) (p + s.f0)).getD ((t :: r).length - 1) z68 by simp [allP], this]
    simp only [sumZ]; omega
def lenZ (l : List Slc) : Int := if solChk l = 0 then sumZ l else 0
theorem solid_Length_ev (l : List Slc) : Ev (fun k => solid_Length.f k l) (lenZ l) := by
  unfold solid_Length.f solid_whole.f
  simp only [Option.bind_some]
  refine Ev.bind (solid_parts_ev l 0 20000) ?_
  unfold lenZ
  by_cases h : solChk l = 0
  · have ok := (solOk_iff l).1 h
    have h1 := ok.len0
    have h2 := ok.len
    have hne : l ≠ [] := List.length_pos_iff.1 h1
    have hl := allP_length l 0
    rw [partsS_whole ok, if_pos h]
    have hw : wrap64 (((allP l 0).length : Int) - 1) = (l.length : Int) - 1 := by rw [hl, w64 (by omega) (by omega)]
    rw [if_neg (by omega), hw, if_pos (by omega), if_pos (by omega)]
    refine evEq (Ev.now _) ?_
    unfold rd_T68
    rw [show ((l.length : Int) - 1).toNat = l.length - 1 by omega]
    have := allP_last l 0 hne
    omega
  · rw [if_neg h]
    unfold partsS
    rw [if_neg h]
    exact Ev.now _
end Go.Proofs.Ytdgbecllbldcaaa.P
