/- Names: what IsName comes to, in the program and in the reference. -/
import Derived.Test.YtdgbecllbldcaaaCClassChecksV5
import Derived.Test.YtdgbecllbldcaaaCClassChecksTBase
set_option linter.unusedVariables false
set_option linter.unusedSimpArgs false
namespace Go.Proofs.Ytdgbecllbldcaaa.P
open Go Go.RowKit Go.Proofs.YtdgbecllbldcaaaW.PrintWords Go.Proofs.YtdgbecllbldcaaaW.PrintLast Go.Proofs.YtdgbecllbldcaaaW.PrintMore
/-- The bytes of a string, as numbers. -/
def byts (a : ByteArray) : List Int := (List.range a.size).map fun i : Nat => bt a (i : Int)
theorem byts_length (a : ByteArray) : (byts a).length = a.size := by simp [byts]
theorem byts_at {a : ByteArray} {i : Nat} {c : Int} (h : (byts a)[i]? = some c) : bt a (i : Int) = c := by
  have hi : i < a.size := by have := (List.getElem?_eq_some_iff.1 h).1; rwa [byts_length] at this
  unfold byts at h
  rw [List.getElem?_map, List.getElem?_range hi] at h
  exact Option.some.inj h
def digB (c : Int) : Bool := decide (48 ≤ c) && decide (c ≤ 57)
def letB (c : Int) : Bool := decide (97 ≤ c) && decide (c ≤ 122)
def okC (c : Int) : Bool := digB c || decide (c = 95) || letB c
/-- Is a string a name? -/
def namB (a : ByteArray) : Bool := if (a.size : Int) < 1 then false else if (a.size : Int) > 16 then false else letB (bt a 0) && (byts a).all okC
theorem digit_eq (c : Int) : ident_digit.f c = some (digB c) := by
  unfold ident_digit.f digB
  by_cases h : 48 ≤ c <;> simp [h]
theorem r02_digit_eq (c : Int) : sawmillref02_digit.f c = some (digB c) := by
  unfold sawmillref02_digit.f digB
  by_cases h : 48 ≤ c
  · rw [if_pos (show c ≥ 48 from h), decide_eq_true h, Bool.true_and]
  · rw [if_neg (show ¬ c ≥ 48 from h), decide_eq_false h, Bool.false_and]
theorem IsName_l0 (a : ByteArray) (hn : a.size ≤ 16) : Ev (fun k => ident_IsName.l0 k a (a.size : Int) 0) ((byts a).all okC) := by
  refine Ev.list0 (σ := Unit) (byts a) (fun k i _ => ident_IsName.l0 k a (a.size : Int) i) (fun suf _ => suf.all okC) (fun _ _ => True) ?_ ?_ () trivial
  · intro s _
    rw [byts_length]
    exact Ev.step (f := fun _ => some true) (fun k => by rw [ident_IsName.l0, if_neg (by omega)]) (Ev.now _)
  · intro i x suf s _ hi hx ih
    have hr := byts_at hx
    rw [byts_length] at hi
    refine Ev.step (fun k => by rw [ident_IsName.l0, if_pos (by omega), if_pos (by omega), if_pos (by omega), hr, digit_eq, Option.bind_some]) ?_
    rw [wsucc hi (by omega)]
    rw [List.all_cons]
    by_cases h1 : digB x = true
    · simp only [if_pos h1]
      exact evEq (ih () trivial) (by simp [okC, h1])
    · simp only [if_neg h1]
      have h1' : digB x = false := by simpa using h1
      by_cases h2 : x = 95
      · simp only [if_pos h2]
        exact evEq (ih () trivial) (by simp [okC, h2])
      · simp only [if_neg h2]
        by_cases h3 : x < 97
        · simp only [if_pos h3]
          exact evEq (Ev.now _) (by simp [okC, h1', h2, letB, show ¬ 97 ≤ x by omega])
        · simp only [if_neg h3]
          by_cases h4 : x > 122
          · simp only [if_pos h4]
            exact evEq (Ev.now _) (by simp [okC, h1', h2, letB, show ¬ x ≤ 122 by omega])
          · simp only [if_neg h4]
            exact evEq (ih () trivial) (by simp [okC, letB, show 97 ≤ x by omega, show x ≤ 122 by omega])
theorem byts_cons {a : ByteArray} (h : 0 < a.size) : ∃ r, byts a = bt a 0 :: r := by
  cases e : byts a with
  | nil => have := byts_length a; rw [e] at this; simp at this; omega
  | cons c r =>
    have := byts_at (a := a) (i := 0) (c := c) (by rw [e]; rfl)
    exact ⟨r, by rw [← this]; rfl⟩
theorem IsName_ev (a : ByteArray) : Ev (fun k => ident_IsName.f k a) (namB a) := by
  unfold ident_IsName.f namB
  have he : a.toList = ([] : List UInt8) ↔ (a.size : Int) < 1 := by
    rw [ByteArray.toList_eq]
    have := data_length a
    constructor
    · intro h
      rw [h] at this
      simp at this
      omega
    · intro h
      exact List.eq_nil_of_length_eq_zero (by omega)
  by_cases h0 : (a.size : Int) < 1
  · simp only [if_pos (he.2 h0), if_pos h0]
    exact Ev.step (f := fun _ => some false) (fun k => by rw [ident_IsName.j0, if_pos rfl]) (Ev.now _)
  · simp only [if_neg (fun h => h0 (he.1 h)), if_neg h0]
    by_cases h1 : (a.size : Int) > 16
    · simp only [if_pos h1]
      exact Ev.step (f := fun _ => some false) (fun k => by rw [ident_IsName.j0, if_pos rfl]) (Ev.now _)
    · have c0 : (0 : Int) < (a.size : Int) := by omega
      simp only [if_neg h1, if_pos c0, digit_eq, Option.bind_some]
      obtain ⟨r, hr⟩ := byts_cons (a := a) (by omega)
      by_cases h2 : digB (bt a 0) = true
      · simp only [if_pos h2]
        refine Ev.step (f := fun _ => some false) (fun k => by rw [ident_IsName.j0, if_pos rfl]) (evEq (Ev.now _) ?_)
        unfold digB at h2
        unfold letB
        simp at h2
        simp
        omega
      · simp only [if_neg h2]
        by_cases h3 : bt a 0 = 95
        · have : (bt a 0 == 95) = true := by simpa using h3
          simp only [this]
          refine Ev.step (f := fun _ => some false) (fun k => by rw [ident_IsName.j0, if_pos rfl]) (evEq (Ev.now _) ?_)
          simp [letB, h3]
        · have : (bt a 0 == 95) = false := by simpa using h3
          simp only [this]
          refine Ev.step (f := fun k => ident_IsName.l0 k a (a.size : Int) 0) (fun k => by rw [ident_IsName.j0, if_neg (by decide)]) (evEq (IsName_l0 a (by omega)) ?_)
          rw [hr, List.all_cons]
          have h2' : digB (bt a 0) = false := by simpa using h2
          simp [okC, h2', h3]
theorem r02_l0 (a : ByteArray) (hn : a.size ≤ 16) (h0 : 0 < a.size) : Ev (fun k => sawmillref02_IsName.l0 k a 0) (letB (bt a 0) && (byts a).all okC) := by
  obtain ⟨r, hr⟩ := byts_cons h0
  refine evEq (Ev.list0 (σ := Bool) (byts a) (fun k i _ => sawmillref02_IsName.l0 k a i) (fun suf s => match suf with | [] => true | c :: r => (letB c || (!s && okC c)) && r.all okC) (fun i s => s = decide (i = 0)) ?_ ?_ true rfl) ?_
  · intro s _
    rw [byts_length]
    exact Ev.step (f := fun _ => some true) (fun k => by rw [sawmillref02_IsName.l0, if_neg (by omega)]) (Ev.now _)
  · intro i x suf s hs hi hx ih
    have hx' := byts_at hx
    rw [byts_length] at hi
    have nxt : Ev (fun k => sawmillref02_IsName.l0 k a ((i + 1 : Nat) : Int)) (suf.all okC) := evEq (ih false (by simp)) (by
      cases suf with
      | nil => rfl
      | cons c r =>
        simp only [List.all_cons, Bool.not_false, Bool.true_and]
        congr 1
        unfold okC
        cases letB c <;> simp)
    have key : Ev (fun k => sawmillref02_IsName.l0 k a (i : Int)) (if letB x = true then suf.all okC else if i = 0 then false else if okC x = true then suf.all okC else false) := by
      have tailE : ¬ letB x = true → ∀ g : Nat → Option Bool, (g = fun k => if (i : Int) = 0 then some false else if x = 95 then sawmillref02_IsName.l0 k a (wrap64 ((i : Int) + 1)) else (sawmillref02_digit.f x).bind fun t => if t = true then sawmillref02_IsName.l0 k a (wrap64 ((i : Int) + 1)) else some false) → Ev g (if i = 0 then false else if okC x = true then suf.all okC else false) := by
        intro hl g hg
        subst hg
        have hl' : letB x = false := by simpa using hl
        rw [wsucc hi (by omega)]
        by_cases e0 : i = 0
        · subst e0
          exact evEq (Ev.now (r := false)) rfl
        · have e0' : ¬ (i : Int) = 0 := by omega
          simp only [if_neg e0, if_neg e0']
          by_cases e1 : x = 95
          · simp only [if_pos e1]
            exact evEq nxt (by simp [okC, e1])
          · simp only [if_neg e1, r02_digit_eq, Option.bind_some]
            by_cases e2 : digB x = true
            · simp only [if_pos e2]
              exact evEq nxt (by simp [okC, e2])
            · simp only [if_neg e2]
              exact evEq (Ev.now _) (by simp [okC, e1, hl', show digB x = false by simpa using e2])
      by_cases g1 : x ≥ 97
      · by_cases g2 : x ≤ 122
        · have hl : letB x = true := by simp [letB, g2]; omega
          refine Ev.step (f := fun k => sawmillref02_IsName.l0 k a (wrap64 ((i : Int) + 1))) (fun k => by rw [sawmillref02_IsName.l0, if_pos (by omega), if_pos (by omega), hx', if_pos g1, if_pos g2]) ?_
          rw [wsucc hi (by omega), if_pos hl]
          exact nxt
        · have hl : ¬ letB x = true := by simp [letB, g2]
          rw [if_neg hl]
          exact Ev.step (fun k => by rw [sawmillref02_IsName.l0, if_pos (by omega), if_pos (by omega), hx', if_pos g1, if_neg g2]) (tailE hl _ rfl)
      · have hl : ¬ letB x = true := by simp [letB]; omega
        rw [if_neg hl]
        exact Ev.step (fun k => by rw [sawmillref02_IsName.l0, if_pos (by omega), if_pos (by omega), hx', if_neg g1]) (tailE hl _ rfl)
    refine evEq key ?_
    subst hs
    by_cases e0 : i = 0
    · subst e0
      by_cases hl : letB x = true
      · simp [hl]
      · simp [show letB x = false by simpa using hl]
    · by_cases hl : letB x = true
      · simp [hl]
      · simp [show letB x = false by simpa using hl, e0]
  · rw [hr, List.all_cons]
    simp only [Bool.not_true, Bool.false_and, Bool.or_false]
    cases h : letB (bt a 0)
    · simp
    · simp [okC, h]
theorem r02_IsName_ev (a : ByteArray) : Ev (fun k => sawmillref02_IsName.f k a) (namB a) := by
  unfold sawmillref02_IsName.f namB
  by_cases h0 : (a.size : Int) < 1
  · simp only [if_pos h0]
    exact Ev.step (f := fun _ => some false) (fun k => by rw [sawmillref02_IsName.j0, if_pos rfl]) (Ev.now _)
  · simp only [if_neg h0]
    by_cases h1 : (a.size : Int) > 16
    · simp only [if_pos h1]
      exact Ev.step (f := fun _ => some false) (fun k => by rw [sawmillref02_IsName.j0, if_pos (decide_eq_true h1)]) (Ev.now _)
    · simp only [if_neg h1]
      exact Ev.step (f := fun k => sawmillref02_IsName.l0 k a 0) (fun k => by rw [sawmillref02_IsName.j0, if_neg (by simp; omega)]) (r02_l0 a (by omega) (by omega))
end Go.Proofs.Ytdgbecllbldcaaa.P
