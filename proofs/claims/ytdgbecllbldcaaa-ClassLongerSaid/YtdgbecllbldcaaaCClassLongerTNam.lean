/- Names: what IsName comes to, in the program and in the reference. -/
import Derived.Test.YtdgbecllbldcaaaCClassLongerV4
import Derived.Test.YtdgbecllbldcaaaCClassLongerTBase
set_option linter.unusedVariables false
set_option linter.unusedSimpArgs false
namespace Go.Proofs.Ytdgbecllbldcaaa.P
open Go Go.RowKit Go.Proofs.YtdgbecllbldcaaaW.PrintWords Go.Proofs.YtdgbecllbldcaaaW.PrintLast Go.Proofs.YtdgbecllbldcaaaW.PrintMore
/-- The bytes of a string, as numbers. -/
def byts (a : ByteArray) : List Int := (List.range a.size).map fun i : Nat => bt a (i : Int)
theorem byts_length (a : ByteArray) : (byts a).length = a.size := by simp [byts]
theorem byts_at {a : ByteArray} {i : Nat} {c : Int} (h : (byts a)[i]? = some c) : bt a (i : Int) = c := by
  have hi : i < a.size := by have := (List.getElem?_eq_some_iff.1 h).1; rwa [byts_length] at this
  unfold byts at h
  rw [List.getElem?_map, List.getElem?_range hi] at h
  exact Option.some.inj h
def digB (c : Int) : Bool := decide (48 ≤ c) && decide (c ≤ 57)
def letB (c : Int) : Bool := decide (97 ≤ c) && decide (c ≤ 122)
def okC (c : Int) : Bool := digB c || decide (c = 95) || letB c
/-- Is a string a name? -/
def namB (a : ByteArray) : Bool := if (a.size : Int) < 1 then false else if (a.size : Int) > 16 then false else letB (bt a 0) && (byts a).all okC
theorem digit_eq (c : Int) : ident_digit.f c = some (digB c) := by
  unfold ident_digit.f digB
  by_cases h : 48 ≤ c <;> simp [h]
theorem IsName_l0 (a : ByteArray) (hn : a.size ≤ 16) : Ev (fun k => ident_IsName.l0 k a (a.size : Int) 0) ((byts a).all okC) := by
  refine Ev.list0 (σ := Unit) (byts a) (fun k i _ => ident_IsName.l0 k a (a.size : Int) i) (fun suf _ => suf.all okC) (fun _ _ => True) ?_ ?_ () trivial
  · intro s _
    rw [byts_length]
    exact Ev.step (f := fun _ => some true) (fun k => by rw [ident_IsName.l0, if_neg (by omega)]) (Ev.now _)
  · intro i x suf s _ hi hx ih
    have hr := byts_at hx
    rw [byts_length] at hi
    refine Ev.step (fun k => by rw [ident_IsName.l0, if_pos (by omega), if_pos (by omega), if_pos (by omega), hr, digit_eq, Option.bind_some]) ?_
    rw [wsucc hi (by omega)]
    rw [List.all_cons]
    by_cases h1 : digB x = true
    · simp only [if_pos h1]
      exact evEq (ih () trivial) (by simp [okC, h1])
    · simp only [if_neg h1]
      have h1' : digB x = false := by simpa using h1
      by_cases h2 : x = 95
      · simp only [if_pos h2]
        exact evEq (ih () trivial) (by simp [okC, h2])
      · simp only [if_neg h2]
        by_cases h3 : x < 97
        · simp only [if_pos h3]
          exact evEq (Ev.now _) (by simp [okC, h1', h2, letB, show ¬ 97 ≤ x by omega])
        · simp only [if_neg h3]
          by_cases h4 : x > 122
          · simp only [if_pos h4]
            exact evEq (Ev.now _) (by simp [okC, h1', h2, letB, show ¬ x ≤ 122 by omega])
          · simp only [if_neg h4]
            exact evEq (ih () trivial) (by simp [okC, letB, show 97 ≤ x by omega, show x ≤ 122 by omega])
theorem byts_cons {a : ByteArray} (h : 0 < a.size) : ∃ r, byts a = bt a 0 :: r := by
  cases e : byts a with
  | nil => have := byts_length a; rw [e] at this; simp at this; omega
  | cons c r =>
    have := byts_at (a := a) (i := 0) (c := c) (by rw [e]; rfl)
    exact ⟨r, by rw [← this]; rfl⟩
theorem IsName_ev (a : ByteArray) : Ev (fun k => ident_IsName.f k a) (namB a) := by
  unfold ident_IsName.f namB
  have he : a.toList = ([] : List UInt8) ↔ (a.size : Int) < 1 := by
    rw [ByteArray.toList_eq]
    have := data_length a
    constructor
    · intro h
      rw [h] at this
      simp at this
      omega
    · intro h
      exact List.eq_nil_of_length_eq_zero (by omega)
  by_cases h0 : (a.size : Int) < 1
  · simp only [if_pos (he.2 h0), if_pos h0]
    exact Ev.step (f := fun _ => some false) (fun k => by rw [ident_IsName.j0, if_pos rfl]) (Ev.now _)
  · simp only [if_neg (fun h => h0 (he.1 h)), if_neg h0]
    by_cases h1 : (a.size : Int) > 16
    · simp only [if_pos h1]
      exact Ev.step (f := fun _ => some false) (fun k => by rw [ident_IsName.j0, if_pos rfl]) (Ev.now _)
    · have c0 : (0 : Int) < (a.size : Int) := by omega
      simp only [if_neg h1, if_pos c0, digit_eq, Option.bind_some]
      obtain ⟨r, hr⟩ := byts_cons (a := a) (by omega)
      by_cases h2 : digB (bt a 0) = true
      · simp only [if_pos h2]
        refine Ev.step (f := fun _ => some false) (fun k => by rw [ident_IsName.j0, if_pos rfl]) (evEq (Ev.now _) ?_)
        unfold digB at h2
        unfold letB
        simp at h2
        simp
        omega
      · simp only [if_neg h2]
        by_cases h3 : bt a 0 = 95
        · have : (bt a 0 == 95) = true := by simpa using h3
          simp only [this]
          refine Ev.step (f := fun _ => some false) (fun k => by rw [ident_IsName.j0, if_pos rfl]) (evEq (Ev.now _) ?_)
          simp [letB, h3]
        · have : (bt a 0 == 95) = false := by simpa using h3
          simp only [this]
          refine Ev.step (f := fun k => ident_IsName.l0 k a (a.size : Int) 0) (fun k => by rw [ident_IsName.j0, if_neg (by decide)]) (evEq (IsName_l0 a (by omega)) ?_)
          rw [hr, List.all_cons]
          have h2' : digB (bt a 0) = false := by simpa using h2
          simp [okC, h2', h3]
end Go.Proofs.Ytdgbecllbldcaaa.P
