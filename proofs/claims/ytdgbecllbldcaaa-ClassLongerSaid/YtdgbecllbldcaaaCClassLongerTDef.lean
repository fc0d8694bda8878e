/- Defects: what Check and Count come to, in the program and in the reference. -/
import Derived.Test.YtdgbecllbldcaaaCClassLongerV4
import Derived.Test.YtdgbecllbldcaaaCClassLongerTBase
set_option linter.unusedVariables false
set_option linter.unusedSimpArgs false
namespace Go.Proofs.Ytdgbecllbldcaaa.P
open Go Go.RowKit Go.Proofs.YtdgbecllbldcaaaW.PrintWords Go.Proofs.YtdgbecllbldcaaaW.PrintLast Go.Proofs.YtdgbecllbldcaaaW.PrintMore
abbrev Dfc := S48
theorem rdD_at {xs : List Dfc} {i : Nat} {x : Dfc} (h : xs[i]? = some x) : rd_T48 xs (i : Int) = x := by
  unfold rd_T48
  rw [Int.toNat_natCast, List.getD_eq_getElem?_getD, h]
  rfl
/-- Is a defect within the limits? -/
def rngD (d : Dfc) : Bool := decide (-600 ≤ d.f1.f0.f0) && decide (d.f1.f0.f1 ≤ 600) && decide (-600 ≤ d.f1.f1.f0) && decide (d.f1.f1.f1 ≤ 600) && decide (0 ≤ d.f1.f2.f0) && decide (d.f1.f2.f1 ≤ 20000)
/-- The error of a defect. -/
def defErr (d : Dfc) : Int := if d.f0 < 1 then 10 else if d.f0 > 6 then 10 else if d.f1.f0.f0 ≥ d.f1.f0.f1 then 19 else if d.f1.f1.f0 ≥ d.f1.f1.f1 then 19 else if d.f1.f2.f0 ≥ d.f1.f2.f1 then 19 else if rngD d = true then 0 else 9
def chkD : List Dfc → Int
  | [] => 0
  | d :: r => if defErr d = 0 then chkD r else defErr d
def defChk (l : List Dfc) : Int := if (l.length : Int) > 64 then 4 else chkD l
theorem within_eq {a b lo hi : Int} (h : a < b) : defect_within.f a b lo hi = some (decide (lo ≤ a) && decide (b ≤ hi)) := by
  unfold defect_within.f
  rw [mn_eq, mx_eq, show min a b = a by omega, show max a b = b by omega]
  by_cases h1 : a ≥ lo
  · rw [if_pos h1]
    have : decide (lo ≤ a) = true := decide_eq_true h1
    rw [this, Bool.true_and]
  · rw [if_neg h1]
    have : decide (lo ≤ a) = false := decide_eq_false h1
    rw [this, Bool.false_and]
theorem flawed_eq (d : Dfc) : defect_flawed.f d.f0 d.f1.f0.f0 d.f1.f0.f1 d.f1.f1.f0 d.f1.f1.f1 d.f1.f2.f0 d.f1.f2.f1 = some (defErr d) := by
  unfold defect_flawed.f defErr
  split
  · rfl
  split
  · rfl
  split
  · rfl
  split
  · rfl
  split
  · rfl
  rw [within_eq (by omega), within_eq (by omega), within_eq (by omega)]
  simp only [Option.bind_some, rngD]
  by_cases h1 : -600 ≤ d.f1.f0.f0 <;> by_cases h2 : d.f1.f0.f1 ≤ 600 <;> by_cases h3 : -600 ≤ d.f1.f1.f0 <;> by_cases h4 : d.f1.f1.f1 ≤ 600 <;> by_cases h5 : 0 ≤ d.f1.f2.f0 <;> by_cases h6 : d.f1.f2.f1 ≤ 20000 <;> simp [h1, h2, h3, h4, h5, h6]
theorem defect_Check_ev (l : List Dfc) : Ev (fun k => defect_Check.f k l) (defChk l) := by
  unfold defect_Check.f defChk
  by_cases h0 : (l.length : Int) > 64
  · simp only [if_pos h0]; exact Ev.now _
  · simp only [if_neg h0]
    refine Ev.list0 (σ := Unit) l (fun k i _ => defect_Check.l0 k l (l.length : Int) i) (fun suf _ => chkD suf) (fun _ _ => True) ?_ ?_ () trivial
    · intro s _
      exact Ev.step (f := fun _ => some 0) (fun k => by rw [defect_Check.l0, if_neg (by omega)]) (Ev.now _)
    · intro i x suf s _ hi hx ih
      have hr := rdD_at hx
      refine Ev.step (fun k => by rw [defect_Check.l0, if_pos (by omega), if_pos (by omega), if_pos (by omega), hr, flawed_eq, Option.bind_some]) ?_
      unfold chkD
      by_cases h1 : defErr x = 0
      · simp only [if_pos h1]
        rw [wsucc hi (by omega)]
        exact ih () trivial
      · simp only [if_neg h1]; exact Ev.now _
theorem defect_Count_eq {l : List Dfc} (h : l.length ≤ 64) (kind : Int) : defect_Count.f l kind = some (cnt kind l : Int) := by
  unfold defect_Count.f api_Defect_83.f
  rw [Option.bind_some, if_pos (by simp; omega), Option.bind_some, List.nil_append]
theorem cnt_le (kind : Int) (l : List Dfc) : cnt kind l ≤ l.length := List.length_filter_le _ _
theorem chkD_iff : ∀ l : List Dfc, chkD l = 0 ↔ ∀ d ∈ l, defErr d = 0
  | [] => by simp [chkD]
  | d :: r => by
    unfold chkD
    by_cases h : defErr d = 0
    · rw [if_pos h, chkD_iff r]; simp [h]
    · rw [if_neg h]; simp [h]
theorem defChk_iff (l : List Dfc) : defChk l = 0 ↔ l.length ≤ 64 ∧ ∀ d ∈ l, defErr d = 0 := by
  unfold defChk
  by_cases h : (l.length : Int) > 64
  · rw [if_pos h]; constructor
    · intro h; omega
    · intro h; omega
  · rw [if_neg h, chkD_iff]; constructor
    · exact fun h2 => ⟨by omega, h2⟩
    · exact fun h2 => h2.2
end Go.Proofs.Ytdgbecllbldcaaa.P
