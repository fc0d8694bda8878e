/- Defects: what Check and Count come to, in the program and in the reference. -/
import Derived.Test.YtdgbecllbldcaaaCClassPricesV7
import Derived.Test.YtdgbecllbldcaaaCClassPricesTBase
set_option linter.unusedVariables false
set_option linter.unusedSimpArgs false
namespace Go.Proofs.Ytdgbecllbldcaaa.P
open Go Go.RowKit Go.Proofs.YtdgbecllbldcaaaW.PrintWords Go.Proofs.YtdgbecllbldcaaaW.PrintLast Go.Proofs.YtdgbecllbldcaaaW.PrintMore
abbrev Dfc := S48
theorem rdD_at {xs : List Dfc} {i : Nat} {x : Dfc} (h : xs[i]? = some x) : rd_T48 xs (i : Int) = x := by
  unfold rd_T48
  rw [Int.toNat_natCast, List.getD_eq_getElem?_getD, h]
  rfl
/-- Is a defect within the limits? -/
def rngD (d : Dfc) : Bool := decide (-600 ≤ d.f1.f0.f0) && decide (d.f1.f0.f1 ≤ 600) && decide (-600 ≤ d.f1.f1.f0) && decide (d.f1.f1.f1 ≤ 600) && decide (0 ≤ d.f1.f2.f0) && decide (d.f1.f2.f1 ≤ 20000)
/-- The error of a defect. -/
def defErr (d : Dfc) : Int := if d.f0 < 1 then 10 else if d.f0 > 6 then 10 else if d.f1.f0.f0 ≥ d.f1.f0.f1 then 19 else if d.f1.f1.f0 ≥ d.f1.f1.f1 then 19 else if d.f1.f2.f0 ≥ d.f1.f2.f1 then 19 else if rngD d = true then 0 else 9
def chkD : List Dfc → Int
  | [] => 0
  | d :: r => if defErr d = 0 then chkD r else defErr d
def defChk (l : List Dfc) : Int := if (l.length : Int) > 64 then 4 else chkD l
theorem within_eq {a b lo hi : Int} (h : a < b) : defect_within.f a b lo hi = some (decide (lo ≤ a) && decide (b ≤ hi)) := by
  unfold defect_within.f
  rw [mn_eq, mx_eq, show min a b = a by omega, show max a b = b by omega]
  by_cases h1 : a ≥ lo
  · rw [if_pos h1]
    have : decide (lo ≤ a) = true := decide_eq_true h1
    rw [this, Bool.true_and]
  · rw [if_neg h1]
    have : decide (lo ≤ a) = false := decide_eq_false h1
    rw [this, Bool.false_and]
theorem flawed_eq (d : Dfc) : defect_flawed.f d.f0 d.f1.f0.f0 d.f1.f0.f1 d.f1.f1.f0 d.f1.f1.f1 d.f1.f2.f0 d.f1.f2.f1 = some (defErr d) := by
  unfold defect_flawed.f defErr
  split
  · rfl
  split
  · rfl
  split
  · rfl
  split
  · rfl
  split
  · rfl
  rw [within_eq (by omega), within_eq (by omega), within_eq (by omega)]
  simp only [Option.bind_some, rngD]
  by_cases h1 : -600 ≤ d.f1.f0.f0 <;> by_cases h2 : d.f1.f0.f1 ≤ 600 <;> by_cases h3 : -600 ≤ d.f1.f1.f0 <;> by_cases h4 : d.f1.f1.f1 ≤ 600 <;> by_cases h5 : 0 ≤ d.f1.f2.f0 <;> by_cases h6 : d.f1.f2.f1 ≤ 20000 <;> simp [h1, h2, h3, h4, h5, h6]
theorem defect_Check_ev (l : List Dfc) : Ev (fun k => defect_Check.f k l) (defChk l) := by
  unfold defect_Check.f defChk
  by_cases h0 : (l.length : Int) > 64
  · simp only [if_pos h0]; exact Ev.now _
  · simp only [if_neg h0]
    refine Ev.list0 (σ := Unit) l (fun k i _ => defect_Check.l0 k l (l.length : Int) i) (fun suf _ => chkD suf) (fun _ _ => True) ?_ ?_ () trivial
    · intro s _
      exact Ev.step (f := fun _ => some 0) (fun k => by rw [defect_Check.l0, if_neg (by omega)]) (Ev.now _)
    · intro i x suf s _ hi hx ih
      have hr := rdD_at hx
      refine Ev.step (fun k => by rw [defect_Check.l0, if_pos (by omega), if_pos (by omega), if_pos (by omega), hr, flawed_eq, Option.bind_some]) ?_
      unfold chkD
      by_cases h1 : defErr x = 0
      · simp only [if_pos h1]
        rw [wsucc hi (by omega)]
        exact ih () trivial
      · simp only [if_neg h1]; exact Ev.now _
theorem r13_Empty_eq (a b c d e f : Int) : sawmillref13_Empty.f a b c d e f = some (decide (a ≥ b) || decide (c ≥ d) || decide (e ≥ f)) := by
  unfold sawmillref13_Empty.f
  by_cases h1 : a ≥ b <;> by_cases h2 : c ≥ d <;> simp [h1, h2]
theorem r13_Ranged_eq (d : Dfc) : sawmillref13_Ranged.f d.f1.f0.f0 d.f1.f0.f1 d.f1.f1.f0 d.f1.f1.f1 d.f1.f2.f0 d.f1.f2.f1 = some (rngD d) := by
  unfold sawmillref13_Ranged.f sawmillref13_in.f rngD
  by_cases h1 : -600 ≤ d.f1.f0.f0 <;> by_cases h2 : d.f1.f0.f1 ≤ 600 <;> by_cases h3 : -600 ≤ d.f1.f1.f0 <;> by_cases h4 : d.f1.f1.f1 ≤ 600 <;> by_cases h5 : 0 ≤ d.f1.f2.f0 <;> simp [h1, h2, h3, h4, h5]
theorem defErr_eq (d : Dfc) : defErr d = if decide (d.f0 < 1) = true then 10 else if decide (d.f0 > 6) = true then 10 else if (decide (d.f1.f0.f0 ≥ d.f1.f0.f1) || decide (d.f1.f1.f0 ≥ d.f1.f1.f1) || decide (d.f1.f2.f0 ≥ d.f1.f2.f1)) = true then 19 else if rngD d = true then 0 else 9 := by
  unfold defErr
  by_cases h1 : d.f0 < 1 <;> by_cases h2 : d.f0 > 6 <;> by_cases h3 : d.f1.f0.f0 ≥ d.f1.f0.f1 <;> by_cases h4 : d.f1.f1.f0 ≥ d.f1.f1.f1 <;> by_cases h5 : d.f1.f2.f0 ≥ d.f1.f2.f1 <;> simp [h1, h2, h3, h4, h5]
theorem r13_Check_ev (l : List Dfc) : Ev (fun k => sawmillref13_Check.f k l) (defChk l) := by
  unfold sawmillref13_Check.f defChk
  by_cases h0 : (l.length : Int) > 64
  · simp only [if_pos h0]; exact Ev.now _
  · simp only [if_neg h0]
    refine Ev.list0 (σ := Unit) l (fun k i _ => sawmillref13_Check.l0 k l i) (fun suf _ => chkD suf) (fun _ _ => True) ?_ ?_ () trivial
    · intro s _
      exact Ev.step (f := fun _ => some 0) (fun k => by rw [sawmillref13_Check.l0, if_neg (by omega)]) (Ev.now _)
    · intro i x suf s _ hi hx ih
      have hr := rdD_at hx
      refine Ev.step (f := fun k => sawmillref13_Check.j1 k l i (decide (x.f0 < 1) || decide (x.f0 > 6))) (fun k => by
        rw [sawmillref13_Check.l0, if_pos (by omega), if_pos (by omega), hr]
        by_cases h1 : x.f0 < 1
        · rw [if_pos h1, decide_eq_true h1, Bool.true_or]
        · rw [if_neg h1, decide_eq_false h1, Bool.false_or]) ?_
      refine Ev.step (fun k => by rw [sawmillref13_Check.j1]) ?_
      unfold chkD
      by_cases hk : (decide (x.f0 < 1) || decide (x.f0 > 6)) = true
      · have : defErr x = 10 := by
          rw [defErr_eq]
          rcases Bool.or_eq_true_iff.1 hk with h | h
          · rw [if_pos h]
          · rw [if_pos h]; split <;> rfl
        simp only [if_pos hk, this]
        exact evEq (Ev.now _) (by simp)
      · have hk1 : ¬ decide (x.f0 < 1) = true := fun h => hk (by rw [h, Bool.true_or])
        have hk2 : ¬ decide (x.f0 > 6) = true := fun h => hk (by rw [h, Bool.or_true])
        have c1 : (0 : Int) ≤ (i : Int) := by omega
        have c2 : (i : Int) < (l.length : Int) := by omega
        have he := defErr_eq x
        rw [if_neg hk1, if_neg hk2] at he
        simp only [if_neg hk, if_pos c1, if_pos c2, hr, r13_Empty_eq, Option.bind_some, r13_Ranged_eq]
        by_cases h3 : (decide (x.f1.f0.f0 ≥ x.f1.f0.f1) || decide (x.f1.f1.f0 ≥ x.f1.f1.f1) || decide (x.f1.f2.f0 ≥ x.f1.f2.f1)) = true
        · rw [if_pos h3] at he
          simp only [if_pos h3, he]
          exact evEq (Ev.now _) (by simp)
        · rw [if_neg h3] at he
          simp only [if_neg h3]
          by_cases h4 : rngD x = true
          · rw [if_pos h4] at he
            simp only [if_pos h4, he]
            rw [wsucc hi (by omega)]
            exact evEq (ih () trivial) rfl
          · rw [if_neg h4] at he
            simp only [if_neg h4, he]
            exact evEq (Ev.now _) (by simp)
theorem defect_Count_eq {l : List Dfc} (h : l.length ≤ 64) (kind : Int) : defect_Count.f l kind = some (cnt kind l : Int) := by
  unfold defect_Count.f api_Defect_83.f
  rw [Option.bind_some, if_pos (by simp; omega), Option.bind_some, List.nil_append]
theorem cnt_cons (kind : Int) (x : Dfc) (l : List Dfc) : cnt kind (x :: l) = (if x.f0 = kind then 1 else 0) + cnt kind l := by
  unfold cnt
  by_cases h : x.f0 = kind
  · rw [List.filter_cons_of_pos (by simpa using h), if_pos h, List.length_cons]; omega
  · rw [List.filter_cons_of_neg (by simpa using h), if_neg h]; omega
theorem cnt_le (kind : Int) (l : List Dfc) : cnt kind l ≤ l.length := List.length_filter_le _ _
theorem r13_Count_ev {l : List Dfc} (h : l.length ≤ 64) (kind : Int) : Ev (fun k => sawmillref13_Count.f k l kind) (cnt kind l : Int) := by
  unfold sawmillref13_Count.f
  refine evEq (Ev.list0 (σ := Int) l (fun k i s => sawmillref13_Count.l0 k l kind s i) (fun suf s => s + (cnt kind suf : Int)) (fun i s => 0 ≤ s ∧ s ≤ i) ?_ ?_ 0 (by simp)) (by simp)
  · intro s _
    exact Ev.step (f := fun _ => some s) (fun k => by rw [sawmillref13_Count.l0, if_neg (by omega)]) (evEq (Ev.now _) (by simp [cnt]))
  · intro i x suf s hs hi hx ih
    have hr := rdD_at hx
    by_cases h1 : x.f0 = kind
    · have w1 : wrap64 (s + 1) = s + 1 := w64 (by omega) (by omega)
      refine Ev.step (f := fun k => sawmillref13_Count.l0 k l kind (s + 1) ((i + 1 : Nat) : Int)) (fun k => by rw [sawmillref13_Count.l0, if_pos (by omega), if_pos (by omega), hr, if_pos h1, w1, wsucc hi (by omega)]) ?_
      exact evEq (ih _ ⟨by omega, by omega⟩) (by rw [cnt_cons, if_pos h1]; omega)
    · refine Ev.step (f := fun k => sawmillref13_Count.l0 k l kind s ((i + 1 : Nat) : Int)) (fun k => by rw [sawmillref13_Count.l0, if_pos (by omega), if_pos (by omega), hr, if_neg h1, wsucc hi (by omega)]) ?_
      exact evEq (ih _ ⟨by omega, by omega⟩) (by rw [cnt_cons, if_neg h1]; omega)
theorem chkD_iff : ∀ l : List Dfc, chkD l = 0 ↔ ∀ d ∈ l, defErr d = 0
  | [] => by simp [chkD]
  | d :: r => by
    unfold chkD
    by_cases h : defErr d = 0
    · rw [if_pos h, chkD_iff r]; simp [h]
    · rw [if_neg h]; simp [h]
theorem defChk_iff (l : List Dfc) : defChk l = 0 ↔ l.length ≤ 64 ∧ ∀ d ∈ l, defErr d = 0 := by
  unfold defChk
  by_cases h : (l.length : Int) > 64
  · rw [if_pos h]; constructor
    · intro h; omega
    · intro h; omega
  · rw [if_neg h, chkD_iff]; constructor
    · exact fun h2 => ⟨by omega, h2⟩
    · exact fun h2 => h2.2
end Go.Proofs.Ytdgbecllbldcaaa.P
