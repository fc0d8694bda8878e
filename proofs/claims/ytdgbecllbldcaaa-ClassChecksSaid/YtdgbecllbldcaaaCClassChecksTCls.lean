/- Lists of classes: what Check comes to, in the program and in the reference. -/
import Derived.Test.YtdgbecllbldcaaaCClassChecksV5
import Derived.Test.YtdgbecllbldcaaaCClassChecksTNam
set_option linter.unusedVariables false
set_option linter.unusedSimpArgs false
namespace Go.Proofs.Ytdgbecllbldcaaa.P
open Go Go.RowKit Go.Proofs.YtdgbecllbldcaaaW.PrintWords Go.Proofs.YtdgbecllbldcaaaW.PrintLast Go.Proofs.YtdgbecllbldcaaaW.PrintMore
abbrev Cls := S28
theorem rdC_at {xs : List Cls} {i : Nat} {x : Cls} (h : xs[i]? = some x) : rd_T28 xs (i : Int) = x := by
  unfold rd_T28
  rw [Int.toNat_natCast, List.getD_eq_getElem?_getD, h]
  rfl
def rng1 (n : Int) : Bool := decide (0 ≤ n) && decide (n ≤ 1000000)
def rngC (x : Cls) : Bool := rng1 x.f1 && rng1 x.f2 && rng1 x.f3 && rng1 x.f4 && rng1 x.f5 && rng1 x.f6 && rng1 x.f7 && rng1 x.f8 && decide (x.f2 ≤ x.f3)
def sameC (x y : Cls) : Bool := decide (y.f0.toList = x.f0.toList)
def chkC : List Cls → List Cls → Int
  | [], _ => 0
  | x :: r, pre => if namB x.f0 = true then (if pre.any (sameC x) = true then 7 else if rngC x = true then chkC r (pre ++ [x]) else 9) else 6
def clsChk (l : List Cls) : Int := if (l.length : Int) > 16 then 4 else chkC l []
theorem mn_lt (a b c : Int) : mn a b < c ↔ a < c ∨ b < c := by rw [mn_eq]; omega
theorem mx_gt (a b c : Int) : mx a b > c ↔ a > c ∨ b > c := by rw [mx_eq]; omega
theorem rng1_iff (n : Int) : rng1 n = true ↔ 0 ≤ n ∧ n ≤ 1000000 := by simp [rng1]
theorem rngC_iff (x : Cls) : rngC x = true ↔ (0 ≤ x.f1 ∧ x.f1 ≤ 1000000) ∧ (0 ≤ x.f2 ∧ x.f2 ≤ 1000000) ∧ (0 ≤ x.f3 ∧ x.f3 ≤ 1000000) ∧ (0 ≤ x.f4 ∧ x.f4 ≤ 1000000) ∧ (0 ≤ x.f5 ∧ x.f5 ≤ 1000000) ∧ (0 ≤ x.f6 ∧ x.f6 ≤ 1000000) ∧ (0 ≤ x.f7 ∧ x.f7 ≤ 1000000) ∧ (0 ≤ x.f8 ∧ x.f8 ≤ 1000000) ∧ x.f2 ≤ x.f3 := by
  unfold rngC
  simp only [Bool.and_eq_true, rng1_iff, decide_eq_true_eq]
  constructor
  · intro h; omega
  · intro h; omega
theorem class_Check_l1 (l : List Cls) (i : Nat) (hi : i < l.length) (hn : l.length ≤ 16) (x : Cls) (R : Int) (hR : Ev (fun k => class_Check.l0 k l l (l.length : Int) (wrap64 ((i : Int) + 1))) R) :
    Ev (fun k => class_Check.l1 k l l (l.length : Int) (i : Int) (l.take i) ((l.take i).length : Int) 0 x.f0 x.f1 x.f2 x.f3 x.f4 x.f5 x.f6 x.f7 x.f8) (if (l.take i).any (sameC x) = true then 7 else if rngC x = true then R else 9) := by
  refine Ev.list0 (σ := Unit) (l.take i) (fun k j _ => class_Check.l1 k l l (l.length : Int) (i : Int) (l.take i) ((l.take i).length : Int) j x.f0 x.f1 x.f2 x.f3 x.f4 x.f5 x.f6 x.f7 x.f8) (fun suf _ => if suf.any (sameC x) = true then 7 else if rngC x = true then R else 9) (fun _ _ => True) ?_ ?_ () trivial
  · intro s _
    refine Ev.step (fun k => by rw [class_Check.l1, if_neg (by omega)]) ?_
    simp only [mn_lt, mx_gt]
    by_cases hr : rngC x = true
    · have h := (rngC_iff x).1 hr
      have c1 : ¬ (((((((x.f1 < 0 ∨ x.f2 < 0) ∨ x.f3 < 0) ∨ x.f4 < 0) ∨ x.f5 < 0) ∨ x.f6 < 0) ∨ x.f7 < 0) ∨ x.f8 < 0) := by omega
      have c2 : ¬ (((((((x.f1 > 1000000 ∨ x.f2 > 1000000) ∨ x.f3 > 1000000) ∨ x.f4 > 1000000) ∨ x.f5 > 1000000) ∨ x.f6 > 1000000) ∨ x.f7 > 1000000) ∨ x.f8 > 1000000) := by omega
      have c3 : ¬ x.f2 > x.f3 := by omega
      simp only [if_neg c1, if_neg c2, if_neg c3]
      exact evEq hR (by simp [hr])
    · refine evEq (r := 9) ?_ (by simp [hr])
      by_cases c1 : (((((((x.f1 < 0 ∨ x.f2 < 0) ∨ x.f3 < 0) ∨ x.f4 < 0) ∨ x.f5 < 0) ∨ x.f6 < 0) ∨ x.f7 < 0) ∨ x.f8 < 0)
      · simp only [if_pos c1]; exact Ev.now _
      · simp only [if_neg c1]
        by_cases c2 : (((((((x.f1 > 1000000 ∨ x.f2 > 1000000) ∨ x.f3 > 1000000) ∨ x.f4 > 1000000) ∨ x.f5 > 1000000) ∨ x.f6 > 1000000) ∨ x.f7 > 1000000) ∨ x.f8 > 1000000)
        · simp only [if_pos c2]; exact Ev.now _
        · simp only [if_neg c2]
          by_cases c3 : x.f2 > x.f3
          · simp only [if_pos c3]; exact Ev.now _
          · exact absurd ((rngC_iff x).2 (by omega)) hr
  · intro j y suf s _ hj hy ih
    have hr := rdC_at hy
    have hlen : (l.take i).length = i := by rw [List.length_take]; omega
    have hjl : j < l.length := by omega
    refine Ev.step (fun k => by rw [class_Check.l1, if_pos (by omega), if_pos (by omega), if_pos (by omega), hr]) ?_
    rw [List.any_cons]
    by_cases h : y.f0.toList = x.f0.toList
    · simp only [if_pos h]
      exact evEq (Ev.now _) (by simp [sameC, h])
    · simp only [if_neg h]
      rw [wsucc hj (by omega)]
      exact evEq (ih () trivial) (by simp [sameC, h])
theorem take_snoc {α : Type} {l : List α} {i : Nat} {x : α} (h : l[i]? = some x) : l.take i ++ [x] = l.take (i + 1) := by
  rw [List.take_add_one, h]; rfl
theorem class_Check_ev (l : List Cls) : Ev (fun k => class_Check.f k l) (clsChk l) := by
  unfold class_Check.f clsChk
  by_cases h0 : (l.length : Int) > 16
  · simp only [if_pos h0]; exact Ev.now _
  · simp only [if_neg h0]
    refine Ev.list0 (σ := List Cls) l (fun k i s => class_Check.l0 k l l (l.length : Int) i) chkC (fun i s => s = l.take i) ?_ ?_ [] (by simp)
    · intro s _
      exact Ev.step (f := fun _ => some 0) (fun k => by rw [class_Check.l0, if_neg (by omega)]) (Ev.now _)
    · intro i x suf s hs hi hx ih
      subst hs
      have hr := rdC_at hx
      refine Ev.step (fun k => by rw [class_Check.l0, if_pos (by omega), if_pos (by omega), if_pos (by omega), hr]) ?_
      refine Ev.bind (IsName_ev x.f0) ?_
      unfold chkC
      by_cases hn : namB x.f0 = true
      · have c1 : (i : Int) ≤ (l.length : Int) := by omega
        simp only [if_pos hn, if_pos c1, Option.bind_some, Int.toNat_natCast]
        refine class_Check_l1 l i hi (by omega) x _ ?_
        rw [wsucc hi (by omega), take_snoc hx]
        exact ih _ rfl
      · simp only [if_neg hn]; exact Ev.now _
theorem ranged_eq (n : Int) : sawmillref16_ranged.f n = some (rng1 n) := by
  unfold sawmillref16_ranged.f rng1
  by_cases h : 0 ≤ n
  · rw [if_pos (show n ≥ 0 from h), decide_eq_true h, Bool.true_and]
  · rw [if_neg (show ¬ n ≥ 0 from h), decide_eq_false h, Bool.false_and]
theorem r16_Check_l1 (l : List Cls) (i : Nat) (hi : i < l.length) (hn : l.length ≤ 16) (x : Cls) (R : Int) (hR : Ev (fun k => sawmillref16_Check.l0 k l (wrap64 ((i : Int) + 1))) R) :
    Ev (fun k => sawmillref16_Check.l1 k l (i : Int) 0 x.f0 x.f1 x.f2 x.f3 x.f4 x.f5 x.f6 x.f7 x.f8) (if (l.take i).any (sameC x) = true then 7 else if rngC x = true then R else 9) := by
  have hlen : (l.take i).length = i := by rw [List.length_take]; omega
  refine Ev.list0 (σ := Unit) (l.take i) (fun k j _ => sawmillref16_Check.l1 k l (i : Int) j x.f0 x.f1 x.f2 x.f3 x.f4 x.f5 x.f6 x.f7 x.f8) (fun suf _ => if suf.any (sameC x) = true then 7 else if rngC x = true then R else 9) (fun _ _ => True) ?_ ?_ () trivial
  · intro s _
    rw [hlen]
    refine Ev.step (fun k => by rw [sawmillref16_Check.l1, if_neg (by omega)]) ?_
    simp only [ranged_eq, Option.bind_some]
    refine evEq (r := if rngC x = true then R else 9) ?_ (by simp)
    unfold rngC
    rcases (Bool.eq_false_or_eq_true (rng1 x.f1)).symm with a1 | a1
    · have b_ : ¬ rng1 x.f1 = true := by rw [a1]; decide
      simp only [if_neg b_, if_true]
      exact evEq (Ev.now _) (by simp [a1])
    rcases (Bool.eq_false_or_eq_true (rng1 x.f2)).symm with a2 | a2
    · have b_ : ¬ rng1 x.f2 = true := by rw [a2]; decide
      simp only [a1, if_neg b_, if_true]
      exact evEq (Ev.now _) (by simp [a2])
    rcases (Bool.eq_false_or_eq_true (rng1 x.f3)).symm with a3 | a3
    · have b_ : ¬ rng1 x.f3 = true := by rw [a3]; decide
      simp only [a1, a2, if_neg b_, if_true]
      exact evEq (Ev.now _) (by simp [a3])
    rcases (Bool.eq_false_or_eq_true (rng1 x.f4)).symm with a4 | a4
    · have b_ : ¬ rng1 x.f4 = true := by rw [a4]; decide
      simp only [a1, a2, a3, if_neg b_, if_true]
      exact evEq (Ev.now _) (by simp [a4])
    rcases (Bool.eq_false_or_eq_true (rng1 x.f5)).symm with a5 | a5
    · have b_ : ¬ rng1 x.f5 = true := by rw [a5]; decide
      simp only [a1, a2, a3, a4, if_neg b_, if_true]
      exact evEq (Ev.now _) (by simp [a5])
    rcases (Bool.eq_false_or_eq_true (rng1 x.f6)).symm with a6 | a6
    · have b_ : ¬ rng1 x.f6 = true := by rw [a6]; decide
      simp only [a1, a2, a3, a4, a5, if_neg b_, if_true]
      exact evEq (Ev.now _) (by simp [a6])
    rcases (Bool.eq_false_or_eq_true (rng1 x.f7)).symm with a7 | a7
    · have b_ : ¬ rng1 x.f7 = true := by rw [a7]; decide
      simp only [a1, a2, a3, a4, a5, a6, if_neg b_, if_true]
      exact evEq (Ev.now _) (by simp [a7])
    rcases (Bool.eq_false_or_eq_true (rng1 x.f8)).symm with a8 | a8
    · have b_ : ¬ rng1 x.f8 = true := by rw [a8]; decide
      simp only [a1, a2, a3, a4, a5, a6, a7, if_neg b_, if_true]
      exact evEq (Ev.now _) (by simp [a8])
    simp only [a1, a2, a3, a4, a5, a6, a7, a8, if_true, Bool.and_self, Bool.true_and, decide_eq_true_eq]
    by_cases c3 : x.f2 > x.f3
    · simp only [if_pos c3]
      exact evEq (Ev.now _) (by rw [if_neg (by omega)])
    · simp only [if_neg c3]
      exact evEq hR (by rw [if_pos (by omega)])
  · intro j y suf s _ hj hy ih
    have hjl : j < l.length := by omega
    have hy2 : l[j]? = some y := by rw [List.getElem?_take] at hy; rw [if_pos (by omega)] at hy; exact hy
    have hr := rdC_at hy2
    refine Ev.step (fun k => by rw [sawmillref16_Check.l1, if_pos (by omega), if_pos (by omega), if_pos (by omega), hr]) ?_
    rw [List.any_cons]
    by_cases h : y.f0.toList = x.f0.toList
    · simp only [if_pos h]
      exact evEq (Ev.now _) (by simp [sameC, h])
    · simp only [if_neg h]
      rw [wsucc hj (by omega)]
      exact evEq (ih () trivial) (by simp [sameC, h])
theorem r16_Check_ev (l : List Cls) : Ev (fun k => sawmillref16_Check.f k l) (clsChk l) := by
  unfold sawmillref16_Check.f clsChk
  by_cases h0 : (l.length : Int) > 16
  · simp only [if_pos h0]; exact Ev.now _
  · simp only [if_neg h0]
    refine Ev.list0 (σ := List Cls) l (fun k i s => sawmillref16_Check.l0 k l i) chkC (fun i s => s = l.take i) ?_ ?_ [] (by simp)
    · intro s _
      exact Ev.step (f := fun _ => some 0) (fun k => by rw [sawmillref16_Check.l0, if_neg (by omega)]) (Ev.now _)
    · intro i x suf s hs hi hx ih
      subst hs
      have hr := rdC_at hx
      refine Ev.step (fun k => by rw [sawmillref16_Check.l0, if_pos (by omega), if_pos (by omega), hr]) ?_
      refine Ev.bind (r02_IsName_ev x.f0) ?_
      unfold chkC
      by_cases hn : namB x.f0 = true
      · simp only [if_pos hn]
        refine r16_Check_l1 l i hi (by omega) x _ ?_
        rw [wsucc hi (by omega), take_snoc hx]
        exact ih _ rfl
      · simp only [if_neg hn]; exact Ev.now _
end Go.Proofs.Ytdgbecllbldcaaa.P
