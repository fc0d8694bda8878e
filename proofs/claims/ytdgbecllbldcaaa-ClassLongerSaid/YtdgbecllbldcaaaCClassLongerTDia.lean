/- Square roots, and the diameter of a section: the program's and the reference's are the same. -/
import Derived.Test.YtdgbecllbldcaaaCClassLongerV4
import Derived.Test.YtdgbecllbldcaaaCClassLongerTSecR
set_option linter.unusedVariables false
set_option linter.unusedSimpArgs false
namespace Go.Proofs.Ytdgbecllbldcaaa.P
open Go Go.RowKit Go.Proofs.YtdgbecllbldcaaaW.PrintWords Go.Proofs.YtdgbecllbldcaaaW.PrintLast Go.Proofs.YtdgbecllbldcaaaW.PrintMore
/-- d is the square root of n, rounded down. -/
def IsRoot (n d : Int) : Prop := 0 ≤ d ∧ d * d ≤ n ∧ n < (d + 1) * (d + 1)
theorem sq_lt_of {a b : Int} (ha : 0 ≤ a) (hb : 0 ≤ b) (h : a * a < b * b) : a < b := by
  rcases Int.lt_or_le a b with h1 | h1
  · exact h1
  · exact absurd h (Int.not_lt.2 (Int.mul_le_mul h1 h1 hb ha))
theorem isRoot_unique {n d e : Int} (h : IsRoot n d) (g : IsRoot n e) : d = e := by
  obtain ⟨h0, h1, h2⟩ := h
  obtain ⟨g0, g1, g2⟩ := g
  have a := sq_lt_of h0 (by omega) (Int.lt_of_le_of_lt h1 g2)
  have b := sq_lt_of g0 (by omega) (Int.lt_of_le_of_lt g1 h2)
  omega
open Classical in
noncomputable def rootS (n : Int) : Int := if h : ∃ d, IsRoot n d then h.choose else 0
theorem rootS_eq {n d : Int} (h : IsRoot n d) : rootS n = d := by
  have e : ∃ d, IsRoot n d := ⟨d, h⟩
  unfold rootS
  rw [dif_pos e]
  exact isRoot_unique e.choose_spec h
theorem or_nat (a b : Nat) (h : a ||| b < 9223372036854775808) : Go.bits .or .i64 (a : Int) (b : Int) = ((a ||| b : Nat) : Int) := by
  have hm : (a ||| b) % 18446744073709551616 = a ||| b := Nat.mod_eq_of_lt (by omega)
  have ha : a ≤ a ||| b := Nat.left_le_or
  have hb : b ≤ a ||| b := Nat.right_le_or
  have e : (BitVec.ofInt 64 (a : Int) ||| BitVec.ofInt 64 (b : Int)).toNat = a ||| b := by
    rw [BitVec.toNat_or, BitVec.ofInt_natCast, BitVec.ofInt_natCast, BitVec.toNat_ofNat, BitVec.toNat_ofNat, Nat.mod_eq_of_lt (by omega), Nat.mod_eq_of_lt (by omega)]
  show IntKind.i64.wrap (((BitVec.ofInt 64 (a : Int) ||| BitVec.ofInt 64 (b : Int)).toNat : Nat) : Int) = _
  rw [e, i64_w, w64 (by omega) (by omega)]
theorem root_step (q b : Nat) (hb : b ≤ 31) (hq : 2 ^ (b + 1) * q + 2 ^ b < 9223372036854775808) : Go.bits .or .i64 ((2 ^ (b + 1) * q : Nat) : Int) (shl .i64 1 (b : Int)) = ((2 ^ (b + 1) * q + 2 ^ b : Nat) : Int) := by
  have hp : 2 ^ b ≤ 2147483648 := Nat.le_trans (Nat.pow_le_pow_right (by omega) hb) (by decide)
  have hs : shl .i64 1 (b : Int) = ((2 ^ b : Nat) : Int) := by
    show IntKind.i64.wrap (1 * 2 ^ min (Int.toNat (b : Int)) 64) = _
    rw [Int.toNat_natCast, Nat.min_eq_left (by omega), Int.one_mul, i64_w]
    have : ((2 : Int) ^ b) = ((2 ^ b : Nat) : Int) := by rw [Int.natCast_pow]; rfl
    have h3 := Int.natCast_nonneg (2 ^ b)
    have h4 : ((2 ^ b : Nat) : Int) ≤ ((2147483648 : Nat) : Int) := Int.ofNat_le.2 hp
    rw [this, w64 (by omega) (by omega)]
  have ho : 2 ^ (b + 1) * q + 2 ^ b = 2 ^ (b + 1) * q ||| 2 ^ b := Nat.two_pow_add_eq_or_of_lt (Nat.pow_lt_pow_right (by omega) (by omega)) q
  rw [hs, ho]
  exact or_nat _ _ (by omega)
theorem units_Root_l0 (n : Nat) (h0 : 0 < n) (hn : n < 9223372036854775808) : ∀ (b q : Nat), b ≤ 32 → 2 ^ b * q < 2 ^ 32 → (2 ^ b * q) * (2 ^ b * q) ≤ n → n < (2 ^ b * q + 2 ^ b) * (2 ^ b * q + 2 ^ b) →
    Ev (fun k => units_Root.l0 k (n : Int) ((2 ^ b * q : Nat) : Int) ((b : Int) - 1)) (rootS n) := by
  intro b
  induction b with
  | zero =>
    intro q _ _ h1 h2
    refine Ev.step (f := fun _ => some ((2 ^ 0 * q : Nat) : Int)) (fun k => by rw [units_Root.l0, if_neg (by omega)]) ?_
    refine evEq (Ev.now _) (rootS_eq ?_).symm
    simp only [Nat.pow_zero, Nat.one_mul] at h1 h2 ⊢
    exact ⟨by omega, by exact_mod_cast h1, by exact_mod_cast h2⟩
  | succ b ih =>
    intro q hb hq h1 h2
    have e : (((b + 1 : Nat) : Int) - 1) = (b : Int) := by omega
    have hpow : 2 ^ (b + 1) = 2 * 2 ^ b := by rw [Nat.pow_succ, Nat.mul_comm]
    have hp : 0 < 2 ^ b := Nat.pow_pos (by omega)
    have hpb : 2 ^ b ≤ 2 ^ 31 := Nat.pow_le_pow_right (by omega) (by omega)
    have hs := root_step q b (by omega) (by omega)
    obtain ⟨t, ht⟩ : ∃ t, t = 2 ^ (b + 1) * q + 2 ^ b := ⟨_, rfl⟩
    rw [← ht] at hs
    have ht2 : t < 2 ^ 33 := by omega
    have ht0 : 0 < t := by omega
    have hwd : wrap64 ((n : Int).tdiv (t : Int)) = ((n / t : Nat) : Int) := by
      rw [Int.tdiv_eq_ediv_of_nonneg (by omega), ← Int.natCast_ediv]
      have h5 := Int.natCast_nonneg (n / t)
      have h6 : ((n / t : Nat) : Int) ≤ (n : Int) := by exact_mod_cast Nat.div_le_self n t
      exact w64 (by omega) (by omega)
    have hiff : t ≤ n / t ↔ t * t ≤ n := Nat.le_div_iff_mul_le ht0
    have hwb : wrap64 ((b : Int) - 1) = (b : Int) - 1 := w64 (by omega) (by omega)
    rw [e]
    by_cases hc : t * t ≤ n
    · refine Ev.step (f := fun k => units_Root.l0 k (n : Int) (t : Int) ((b : Int) - 1)) (fun k => ?_) ?_
      · rw [units_Root.l0, if_pos (by omega), if_pos (by omega), hs, if_neg (by omega), hwd, if_pos (by exact_mod_cast hiff.2 hc), hwb]
      · have et : t = 2 ^ b * (2 * q + 1) := by rw [ht, hpow, Nat.mul_add, Nat.mul_one, Nat.mul_comm 2 (2 ^ b), Nat.mul_assoc]
        have := ih (2 * q + 1) (by omega) (by
          rw [← et]
          rcases Nat.lt_or_ge t (2 ^ 32) with h | h
          · exact h
          · have := Nat.mul_le_mul h h
            omega) (by rw [← et]; exact hc) (by
          rw [← et]
          have : 2 ^ (b + 1) * q + 2 ^ (b + 1) = t + 2 ^ b := by omega
          rw [this] at h2
          exact h2)
        rw [← et] at this
        exact this
    · refine Ev.step (f := fun k => units_Root.l0 k (n : Int) ((2 ^ (b + 1) * q : Nat) : Int) ((b : Int) - 1)) (fun k => ?_) ?_
      · rw [units_Root.l0, if_pos (by omega), if_pos (by omega), hs, if_neg (by omega), hwd, if_neg (by intro h; exact hc (hiff.1 (by exact_mod_cast h))), hwb]
      · have et : 2 ^ (b + 1) * q = 2 ^ b * (2 * q) := by rw [hpow, Nat.mul_comm 2 (2 ^ b), Nat.mul_assoc]
        have := ih (2 * q) (by omega) (by omega) (by rw [← et]; exact h1) (by rw [← et, ← ht]; omega)
        rw [← et] at this
        exact this
theorem units_Root_ev (n : Int) (h0 : 0 ≤ n) (hn : n < 9223372036854775808) : Ev (fun k => units_Root.f k n) (rootS n) := by
  rcases Int.lt_or_le 0 n with h | h
  · obtain ⟨m, rfl⟩ := Int.eq_ofNat_of_zero_le h0
    have e : ∀ k, units_Root.f k (m : Int) = units_Root.l0 k (m : Int) 0 31 := fun k => by unfold units_Root.f; rw [if_neg (by omega)]
    refine Ev.congr e ?_
    have := units_Root_l0 m (by omega) (by omega) 32 0 (by omega) (by omega) (by omega) (by omega)
    simpa using this
  · obtain rfl : n = 0 := by omega
    have e : ∀ k, units_Root.f k 0 = some 0 := fun k => by unfold units_Root.f; rw [if_pos (by omega)]
    exact Ev.congr e (evEq (Ev.now 0) (rootS_eq ⟨by omega, by omega, by omega⟩).symm)
/-- The diameter. -/
noncomputable def diaS (low : Int) (rows : List Sp) : Int := rootS (452 * areaS low rows / 355)
theorem tdiv355 (a : Int) (h0 : 0 ≤ a) (h1 : a ≤ 1440000) : wrap64 (Int.tdiv (wrap64 (452 * a)) 355) = 452 * a / 355 := by
  rw [w64 (n := 452 * a) (by omega) (by omega), Int.tdiv_eq_ediv_of_nonneg (by omega), w64 (by omega) (by omega)]
theorem shape_Diameter_ev (low : Int) (rows : List Sp) : Ev (fun k => shape_Diameter.f k low rows) (diaS low rows) := by
  have h := areaS_range low rows
  unfold shape_Diameter.f
  refine Ev.bind (section_Area_ev low rows) ?_
  rw [tdiv355 _ h.1 h.2]
  exact Ev.bind (units_Root_ev _ (by omega) (by omega)) (Ev.now _)
theorem diaS_root (low : Int) (rows : List Sp) : IsRoot (452 * areaS low rows / 355) (diaS low rows) := by
  have h := areaS_range low rows
  have key : ∀ n : Nat, ∃ d : Int, IsRoot (n : Int) d := by
    intro n
    induction n with
    | zero => exact ⟨0, by simp [IsRoot]⟩
    | succ n ih =>
      obtain ⟨d, h0, h1, h2⟩ := ih
      by_cases hc : (d + 1) * (d + 1) ≤ ((n + 1 : Nat) : Int)
      · refine ⟨d + 1, by omega, hc, ?_⟩
        have e : (d + 1 + 1) * (d + 1 + 1) = (d + 1) * (d + 1) + 2 * d + 3 := by
          rw [Int.add_mul, Int.mul_add, Int.mul_add]; omega
        omega
      · exact ⟨d, h0, by omega, by omega⟩
  obtain ⟨m, hm⟩ := Int.eq_ofNat_of_zero_le (show 0 ≤ 452 * areaS low rows / 355 by omega)
  obtain ⟨d, hd⟩ := key m
  rw [← hm] at hd
  unfold diaS
  rw [rootS_eq hd]
  exact hd
end Go.Proofs.Ytdgbecllbldcaaa.P
