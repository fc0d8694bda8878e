/- Lists of classes: what Check comes to, in the program and in the reference. -/
import Derived.Test.YtdgbecllbldcaaaCClassLongerV4
import Derived.Test.YtdgbecllbldcaaaCClassLongerTNam
set_option linter.unusedVariables false
set_option linter.unusedSimpArgs false
namespace Go.Proofs.Ytdgbecllbldcaaa.P
open Go Go.RowKit Go.Proofs.YtdgbecllbldcaaaW.PrintWords Go.Proofs.YtdgbecllbldcaaaW.PrintLast Go.Proofs.YtdgbecllbldcaaaW.PrintMore
abbrev Cls := S28
theorem rdC_at {xs : List Cls} {i : Nat} {x : Cls} (h : xs[i]? = some x) : rd_T28 xs (i : Int) = x := by
  unfold rd_T28
  rw [Int.toNat_natCast, List.getD_eq_getElem?_getD, h]
  rfl
def rng1 (n : Int) : Bool := decide (0 ≤ n) && decide (n ≤ 1000000)
def rngC (x : Cls) : Bool := rng1 x.f1 && rng1 x.f2 && rng1 x.f3 && rng1 x.f4 && rng1 x.f5 && rng1 x.f6 && rng1 x.f7 && rng1 x.f8 && decide (x.f2 ≤ x.f3)
def sameC (x y : Cls) : Bool := decide (y.f0.toList = x.f0.toList)
def chkC : List Cls → List Cls → Int
  | [], _ => 0
  | x :: r, pre => if namB x.f0 = true then (if pre.any (sameC x) = true then 7 else if rngC x = true then chkC r (pre ++ [x]) else 9) else 6
def clsChk (l : List Cls) : Int := if (l.length : Int) > 16 then 4 else chkC l []
theorem mn_lt (a b c : Int) : mn a b < c ↔ a < c ∨ b < c := by rw [mn_eq]; omega
theorem mx_gt (a b c : Int) : mx a b > c ↔ a > c ∨ b > c := by rw [mx_eq]; omega
theorem rng1_iff (n : Int) : rng1 n = true ↔ 0 ≤ n ∧ n ≤ 1000000 := by simp [rng1]
theorem rngC_iff (x : Cls) : rngC x = true ↔ (0 ≤ x.f1 ∧ x.f1 ≤ 1000000) ∧ (0 ≤ x.f2 ∧ x.f2 ≤ 1000000) ∧ (0 ≤ x.f3 ∧ x.f3 ≤ 1000000) ∧ (0 ≤ x.f4 ∧ x.f4 ≤ 1000000) ∧ (0 ≤ x.f5 ∧ x.f5 ≤ 1000000) ∧ (0 ≤ x.f6 ∧ x.f6 ≤ 1000000) ∧ (0 ≤ x.f7 ∧ x.f7 ≤ 1000000) ∧ (0 ≤ x.f8 ∧ x.f8 ≤ 1000000) ∧ x.f2 ≤ x.f3 := by
  unfold rngC
  simp only [Bool.and_eq_true, rng1_iff, decide_eq_true_eq]
  constructor
  · intro h; omega
  · intro h; omega
theorem class_Check_l1 (l : List Cls) (i : Nat) (hi : i < l.length) (hn : l.length ≤ 16) (x : Cls) (R : Int) (hR : Ev (fun k => class_Check.l0 k l l (l.length : Int) (wrap64 ((i : Int) + 1))) R) :
    Ev (fun k => class_Check.l1 k l l (l.length : Int) (i : Int) (l.take i) ((l.take i).length : Int) 0 x.f0 x.f1 x.f2 x.f3 x.f4 x.f5 x.f6 x.f7 x.f8) (if (l.take i).any (sameC x) = true then 7 else if rngC x = true then R else 9) := by
  refine Ev.list0 (σ := Unit) (l.take i) (fun k j _ => class_Check.l1 k l l (l.length : Int) (i : Int) (l.take i) ((l.take i).length : Int) j x.f0 x.f1 x.f2 x.f3 x.f4 x.f5 x.f6 x.f7 x.f8) (fun suf _ => if suf.any (sameC x) = true then 7 else if rngC x = true then R else 9) (fun _ _ => True) ?_ ?_ () trivial
  · intro s _
    refine Ev.step (fun k => by rw [class_Check.l1, if_neg (by omega)]) ?_
    simp only [mn_lt, mx_gt]
    by_cases hr : rngC x = true
    · have h := (rngC_iff x).1 hr
      have c1 : ¬ (((((((x.f1 < 0 ∨ x.f2 < 0) ∨ x.f3 < 0) ∨ x.f4 < 0) ∨ x.f5 < 0) ∨ x.f6 < 0) ∨ x.f7 < 0) ∨ x.f8 < 0) := by omega
      have c2 : ¬ (((((((x.f1 > 1000000 ∨ x.f2 > 1000000) ∨ x.f3 > 1000000) ∨ x.f4 > 1000000) ∨ x.f5 > 1000000) ∨ x.f6 > 1000000) ∨ x.f7 > 1000000) ∨ x.f8 > 1000000) := by omega
      have c3 : ¬ x.f2 > x.f3 := by omega
      simp only [if_neg c1, if_neg c2, if_neg c3]
      exact evEq hR (by simp [hr])
    · refine evEq (r := 9) ?_ (by simp [hr])
      by_cases c1 : (((((((x.f1 < 0 ∨ x.f2 < 0) ∨ x.f3 < 0) ∨ x.f4 < 0) ∨ x.f5 < 0) ∨ x.f6 < 0) ∨ x.f7 < 0) ∨ x.f8 < 0)
      · simp only [if_pos c1]; exact Ev.now _
      · simp only [if_neg c1]
        by_cases c2 : (((((((x.f1 > 1000000 ∨ x.f2 > 1000000) ∨ x.f3 > 1000000) ∨ x.f4 > 1000000) ∨ x.f5 > 1000000) ∨ x.f6 > 1000000) ∨ x.f7 > 1000000) ∨ x.f8 > 1000000)
        · simp only [if_pos c2]; exact Ev.now _
        · simp only [if_neg c2]
          by_cases c3 : x.f2 > x.f3
          · simp only [if_pos c3]; exact Ev.now _
          · exact absurd ((rngC_iff x).2 (by omega)) hr
  · intro j y suf s _ hj hy ih
    have hr := rdC_at hy
    have hlen : (l.take i).length = i := by rw [List.length_take]; omega
    have hjl : j < l.length := by omega
    refine Ev.step (fun k => by rw [class_Check.l1, if_pos (by omega), if_pos (by omega), if_pos (by omega), hr]) ?_
    rw [List.any_cons]
    by_cases h : y.f0.toList = x.f0.toList
    · simp only [if_pos h]
      exact evEq (Ev.now _) (by simp [sameC, h])
    · simp only [if_neg h]
      rw [wsucc hj (by omega)]
      exact evEq (ih () trivial) (by simp [sameC, h])
theorem take_snoc {α : Type} {l : List α} {i : Nat} {x : α} (h : l[i]? = some x) : l.take i ++ [x] = l.take (i + 1) := by
  rw [List.take_add_one, h]; rfl
theorem class_Check_ev (l : List Cls) : Ev (fun k => class_Check.f k l) (clsChk l) := by
  unfold class_Check.f clsChk
  by_cases h0 : (l.length : Int) > 16
  · simp only [if_pos h0]; exact Ev.now _
  · simp only [if_neg h0]
    refine Ev.list0 (σ := List Cls) l (fun k i s => class_Check.l0 k l l (l.length : Int) i) chkC (fun i s => s = l.take i) ?_ ?_ [] (by simp)
    · intro s _
      exact Ev.step (f := fun _ => some 0) (fun k => by rw [class_Check.l0, if_neg (by omega)]) (Ev.now _)
    · intro i x suf s hs hi hx ih
      subst hs
      have hr := rdC_at hx
      refine Ev.step (fun k => by rw [class_Check.l0, if_pos (by omega), if_pos (by omega), if_pos (by omega), hr]) ?_
      refine Ev.bind (IsName_ev x.f0) ?_
      unfold chkC
      by_cases hn : namB x.f0 = true
      · have c1 : (i : Int) ≤ (l.length : Int) := by omega
        simp only [if_pos hn, if_pos c1, Option.bind_some, Int.toNat_natCast]
        refine class_Check_l1 l i hi (by omega) x _ ?_
        rw [wsucc hi (by omega), take_snoc hx]
        exact ih _ rfl
      · simp only [if_neg hn]; exact Ev.now _
theorem chkC_each : ∀ (l pre : List Cls), chkC l pre = 0 → ∀ x ∈ l, rngC x = true
  | [], _, _ => by intro x hx; cases hx
  | y :: r, pre, h => by
    unfold chkC at h
    split at h
    · split at h
      · cases h
      · split at h
        · rename_i hr
          intro x hx
          rcases List.mem_cons.1 hx with rfl | hx
          · exact hr
          · exact chkC_each r _ h x hx
        · cases h
    · cases h
theorem clsChk_ok {l : List Cls} (h : clsChk l = 0) : l.length ≤ 16 ∧ ∀ x ∈ l, rngC x = true := by
  unfold clsChk at h
  split at h
  · cases h
  · exact ⟨by omega, chkC_each l [] h⟩
theorem chkC_left : ∀ (a b pre : List Cls), chkC (a ++ b) pre = 0 → chkC a pre = 0
  | [], _, _, _ => rfl
  | x :: r, b, pre, h => by
    rw [List.cons_append] at h
    unfold chkC at h ⊢
    split at h
    · rename_i h1
      rw [if_pos h1]
      split at h
      · cases h
      · rename_i h2
        rw [if_neg h2]
        split at h
        · rename_i h3
          rw [if_pos h3]
          exact chkC_left r b _ h
        · cases h
    · cases h
theorem clsChk_left {a b : List Cls} (h : clsChk (a ++ b) = 0) : clsChk a = 0 := by
  have h1 := clsChk_ok h
  have : a.length ≤ 16 := by have := h1.1; rw [List.length_append] at this; omega
  unfold clsChk at h ⊢
  rw [if_neg (by have := h1.1; omega)] at h
  rw [if_neg (by omega)]
  exact chkC_left a b [] h
end Go.Proofs.Ytdgbecllbldcaaa.P
