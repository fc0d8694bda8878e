/- Functions of the program: what each computes, and that the call computes it; conditions: the fuel that the plain function asks for. -/
import Derived.Test.YtdbjoopkliafeaaCShapeLogsV3
section
namespace Go.Proofs.Ytdbjoopkliafeaa.P
open Go Go.RowKit Go.Proofs.YtdbjoopkliafeaaW.PrintWords Go.Proofs.YtdbjoopkliafeaaW.PrintLast Go.Proofs.YtdbjoopkliafeaaW.PrintMore
attribute [local go_sem] max2_int min2_int max_two min_two max_three min_three max_four min_four max_five min_eight max_eight   -- for this text's walks alone
set_option linter.unusedVariables false
set_option linter.unusedSimpArgs false

mutual
def shape_Sweep.j0 : Nat → List (S36) → Bool → Option (Int)
 | 0, _, _ => none
 | k + 1, x0, x25 => if x25 = true then (some 0) else (if 0 ≤ (x0.length : Int) then (if ((x0.length : Int) : Int).toNat ≤ 35184372088832 then (shape_Sweep.l0 k x0 (List.replicate ((x0.length : Int) : Int).toNat 0) 0 (x0.length : Int) 0) else (none)) else (none))
def shape_Sweep.l0 : Nat → List (S36) → List Int → Int → Int → Int → Option (Int)
 | 0, _, _, _, _, _ => none
 | k + 1, x0, x3, x4, x30, x31 => if x31 < x30 then (if 0 ≤ x31 then (if x31 < (x0.length : Int) then (if x31 < (x3.length : Int) then (shape_Sweep.l0 k x0 (x3.set (x31 : Int).toNat (wrap64 ((wrap64 (2 * x4)) + ((rd_T36 x0 x31).f0)))) (wrap64 (x4 + ((rd_T36 x0 x31).f0))) x30 (wrap64 (x31 + 1))) else (none)) else (none)) else (none)) else (if 0 < (x0.length : Int) then ((shape_Center2.f k ((rd_T36 x0 0).f1.f0) ((rd_T36 x0 0).f1.f1)).bind fun bt23009 => (if 0 ≤ (wrap64 ((x0.length : Int) - 1)) then (if (wrap64 ((x0.length : Int) - 1)) < (x0.length : Int) then ((shape_Center2.f k ((rd_T36 x0 (wrap64 ((x0.length : Int) - 1))).f1.f0) ((rd_T36 x0 (wrap64 ((x0.length : Int) - 1))).f1.f1)).bind fun bt23012 => (if (wrap64 ((x0.length : Int) - 1)) < (x3.length : Int) then (if 0 < (x3.length : Int) then (shape_Sweep.l1 k x0 x3 (wrap64 ((rd x3 (wrap64 ((x0.length : Int) - 1))) - (rd x3 0))) 0 (x0.length : Int) 0 bt23009.1 bt23009.2 bt23012.1 bt23012.2) else (none)) else (none))) else (none)) else (none))) else (none))
def shape_Sweep.l1 : Nat → List (S36) → List Int → Int → Int → Int → Int → Int → Int → Int → Int → Option (Int)
 | 0, _, _, _, _, _, _, _, _, _, _ => none
 | k + 1, x0, x3, x9, x10, x76, x77, x23015000, x23015001, x23016000, x23016001 => if x77 < x76 then (if 0 ≤ x77 then (if x77 < (x0.length : Int) then ((shape_Center2.f k ((rd_T36 x0 x77).f1.f0) ((rd_T36 x0 x77).f1.f1)).bind fun bt23019 => (if x77 < (x3.length : Int) then (if 0 < (x3.length : Int) then ((units_Floor.f k (wrap64 ((wrap64 (x23016000 - x23015000)) * (wrap64 ((rd x3 x77) - (rd x3 0))))) x9).bind fun bt23024 => ((units_Floor.f k (wrap64 ((wrap64 (x23016001 - x23015001)) * (wrap64 ((rd x3 x77) - (rd x3 0))))) x9).bind fun bt23026 => (shape_Sweep.l1 k x0 x3 x9 (mx (mx (mx (mx x10 (wrap64 ((wrap64 (bt23019.1 - x23015000)) - bt23024.1))) (wrap64 (-(wrap64 ((wrap64 (bt23019.1 - x23015000)) - bt23024.1))))) (wrap64 ((wrap64 (bt23019.2 - x23015001)) - bt23026.1))) (wrap64 (-(wrap64 ((wrap64 (bt23019.2 - x23015001)) - bt23026.1))))) x76 (wrap64 (x77 + 1)) x23015000 x23015001 x23016000 x23016001))) else (none)) else (none))) else (none)) else (none)) else (some x10)
end
def shape_Sweep.f (k : Nat) (l0 : List (S36)) : Option (Int) := (solid_Check.f k l0).bind fun t23001 => (if t23001 = 0 then (shape_Sweep.j0 k l0 (decide ((l0.length : Int) < 3))) else (shape_Sweep.j0 k l0 true))
theorem shape_Sweep.mono_l : ∀ k, (∀ y0 y1, LeO (shape_Sweep.j0 k y0 y1) (shape_Sweep.j0 (k + 1) y0 y1)) ∧ (∀ y0 y1 y2 y3 y4, LeO (shape_Sweep.l0 k y0 y1 y2 y3 y4) (shape_Sweep.l0 (k + 1) y0 y1 y2 y3 y4)) ∧ (∀ y0 y1 y2 y3 y4 y5 y6 y7 y8 y9, LeO (shape_Sweep.l1 k y0 y1 y2 y3 y4 y5 y6 y7 y8 y9) (shape_Sweep.l1 (k + 1) y0 y1 y2 y3 y4 y5 y6 y7 y8 y9))
 | 0 => ⟨fun _ _ r h => by simp [shape_Sweep.j0] at h, fun _ _ _ _ _ r h => by simp [shape_Sweep.l0] at h, fun _ _ _ _ _ _ _ _ _ _ r h => by simp [shape_Sweep.l1] at h⟩
 | k + 1 => by
  obtain ⟨ih0, ih1, ih2⟩ := shape_Sweep.mono_l k
  refine ⟨?_, ?_, ?_⟩
  ·intro y0 y1
   unfold shape_Sweep.j0
   repeat' first
   | (with_reducible exact ih0 _ _)
   | (with_reducible exact ih1 _ _ _ _ _)
   | (with_reducible exact ih2 _ _ _ _ _ _ _ _ _ _)
   | (with_reducible exact shape_Center2.mono _ _ _)
   | (with_reducible exact solid_Check.mono _ _)
   | (with_reducible exact units_Floor.mono _ _ _)
   | (with_reducible exact LeO.refl _)
   | (with_reducible exact LeO.none _)
   | (with_reducible refine LeO.ite ?_ ?_)
   | (with_reducible refine LeO.bind ?_ (fun _ => ?_))
   | exact ih0 _ _
   | exact ih1 _ _ _ _ _
   | exact ih2 _ _ _ _ _ _ _ _ _ _
   | exact shape_Center2.mono _ _ _
   | exact solid_Check.mono _ _
   | exact units_Floor.mono _ _ _
   | exact LeO.none _
   | refine LeO.ite ?_ ?_
   | refine LeO.bind ?_ (fun _ => ?_)
  ·intro y0 y1 y2 y3 y4
   unfold shape_Sweep.l0
   repeat' first
   | (with_reducible exact ih0 _ _)
   | (with_reducible exact ih1 _ _ _ _ _)
   | (with_reducible exact ih2 _ _ _ _ _ _ _ _ _ _)
   | (with_reducible exact shape_Center2.mono _ _ _)
   | (with_reducible exact solid_Check.mono _ _)
   | (with_reducible exact units_Floor.mono _ _ _)
   | (with_reducible exact LeO.refl _)
   | (with_reducible exact LeO.none _)
   | (with_reducible refine LeO.ite ?_ ?_)
   | (with_reducible refine LeO.bind ?_ (fun _ => ?_))
   | exact ih0 _ _
   | exact ih1 _ _ _ _ _
   | exact ih2 _ _ _ _ _ _ _ _ _ _
   | exact shape_Center2.mono _ _ _
   | exact solid_Check.mono _ _
   | exact units_Floor.mono _ _ _
   | exact LeO.none _
   | refine LeO.ite ?_ ?_
   | refine LeO.bind ?_ (fun _ => ?_)
  ·intro y0 y1 y2 y3 y4 y5 y6 y7 y8 y9
   unfold shape_Sweep.l1
   repeat' first
   | (with_reducible exact ih0 _ _)
   | (with_reducible exact ih1 _ _ _ _ _)
   | (with_reducible exact ih2 _ _ _ _ _ _ _ _ _ _)
   | (with_reducible exact shape_Center2.mono _ _ _)
   | (with_reducible exact solid_Check.mono _ _)
   | (with_reducible exact units_Floor.mono _ _ _)
   | (with_reducible exact LeO.refl _)
   | (with_reducible exact LeO.none _)
   | (with_reducible refine LeO.ite ?_ ?_)
   | (with_reducible refine LeO.bind ?_ (fun _ => ?_))
   | exact ih0 _ _
   | exact ih1 _ _ _ _ _
   | exact ih2 _ _ _ _ _ _ _ _ _ _
   | exact shape_Center2.mono _ _ _
   | exact solid_Check.mono _ _
   | exact units_Floor.mono _ _ _
   | exact LeO.none _
   | refine LeO.ite ?_ ?_
   | refine LeO.bind ?_ (fun _ => ?_)
theorem shape_Sweep.mono : ∀ a0 k, LeO (shape_Sweep.f k a0) (shape_Sweep.f (k + 1) a0) := by
 intro a0 k
 obtain ⟨ih0, ih1, ih2⟩ := shape_Sweep.mono_l k
 unfold shape_Sweep.f
 repeat' first
   | (with_reducible exact ih0 _ _)
   | (with_reducible exact ih1 _ _ _ _ _)
   | (with_reducible exact ih2 _ _ _ _ _ _ _ _ _ _)
   | (with_reducible exact shape_Center2.mono _ _ _)
   | (with_reducible exact solid_Check.mono _ _)
   | (with_reducible exact units_Floor.mono _ _ _)
   | (with_reducible exact LeO.refl _)
   | (with_reducible exact LeO.none _)
   | (with_reducible refine LeO.ite ?_ ?_)
   | (with_reducible refine LeO.bind ?_ (fun _ => ?_))
   | exact ih0 _ _
   | exact ih1 _ _ _ _ _
   | exact ih2 _ _ _ _ _ _ _ _ _ _
   | exact shape_Center2.mono _ _ _
   | exact solid_Check.mono _ _
   | exact units_Floor.mono _ _ _
   | exact LeO.none _
   | refine LeO.ite ?_ ?_
   | refine LeO.bind ?_ (fun _ => ?_)
def shape_Sweep.T12 : Bool × List (List Nat × List Nat) := (true, [([], []), ([0], [0]), ([1], [1]), ([2], [2]), ([3], [3]), ([], []), ([], []), ([5, 6], [5, 6]), ([7], [7]), ([8], [8]), ([9, 4], [9]), ([], []), ([], []), ([11, 4, 10, 0, 1, 2, 3, 4, 11, 12], [4, 11]), ([12, 10, 13, 0, 1, 2, 3, 4, 5, 6, 7, 8, 9, 10, 11, 12, 13], [10, 12])])
def shape_Sweep.B12 : List Nat := [0, 1, 3, 7, 15, 0, 0, 96, 224, 480, 1023, 0, 0, 8191, 16383]
theorem shape_Sweep.tab12 : rtab .any (opsOf Try.f23 12) = shape_Sweep.T12 := by kernel_rfl
theorem shape_Sweep.bits12 : waitsOk shape_Sweep.T12.2 shape_Sweep.B12 = true := by kernel_rfl
def shape_Sweep.T13 : Bool × List (List Nat × List Nat) := (true, [([], []), ([], []), ([0, 1], [0, 1]), ([2], [2]), ([], []), ([4], [4]), ([5], [5]), ([3, 6], [3, 6]), ([7, 0, 1, 2, 3, 4, 5, 6, 7], [7])])
def shape_Sweep.B13 : List Nat := [0, 0, 3, 7, 0, 16, 48, 127, 255]
theorem shape_Sweep.tab13 : rtab .any (opsOf Try.f23 13) = shape_Sweep.T13 := by kernel_rfl
theorem shape_Sweep.bits13 : waitsOk shape_Sweep.T13.2 shape_Sweep.B13 = true := by kernel_rfl
def shape_Sweep.T19 : Bool × List (List Nat × List Nat) := (true, [([], []), ([], []), ([0, 1], [0, 1]), ([2], [2]), ([], []), ([4], [4]), ([5], [5]), ([3, 6], [3, 6]), ([7, 0, 1, 2, 3, 4, 5, 6, 7], [7])])
def shape_Sweep.B19 : List Nat := [0, 0, 3, 7, 0, 16, 48, 127, 255]
theorem shape_Sweep.tab19 : rtab .any (opsOf Try.f23 19) = shape_Sweep.T19 := by kernel_rfl
theorem shape_Sweep.bits19 : waitsOk shape_Sweep.T19.2 shape_Sweep.B19 = true := by kernel_rfl
def shape_Sweep.T22 : Bool × List (List Nat × List Nat) := (true, [([], []), ([0], [0]), ([], []), ([2], [2]), ([1, 3], [1, 3]), ([], []), ([4, 5], [4, 5]), ([], []), ([7], [7]), ([], []), ([9], [9]), ([8, 10], [8, 10]), ([], []), ([11, 12], [11, 12]), ([6, 0, 1, 2, 3, 4, 5, 6], [5, 6]), ([13, 14, 0, 1, 2, 3, 4, 5, 6, 7, 8, 9, 10, 11, 12, 13, 14], [12, 13])])
def shape_Sweep.B22 : List Nat := [0, 1, 0, 4, 15, 0, 63, 0, 128, 0, 512, 1920, 0, 8064, 127, 32767]
theorem shape_Sweep.tab22 : rtab .any (opsOf Try.f23 22) = shape_Sweep.T22 := by kernel_rfl
theorem shape_Sweep.bits22 : waitsOk shape_Sweep.T22.2 shape_Sweep.B22 = true := by kernel_rfl
set_option maxHeartbeats 8000000 in
set_option maxRecDepth 100000 in
theorem shape_Sweep.calls (k : Nat) (A0 : Option Addr) (c0 : Nat) (l0 : List (S36)) (r : Int) (w : World) (hr0 : Kd.C k36 w A0 l0.length l0) (hc0 : l0.length ≤ c0) (h : shape_Sweep.f k l0 = some r) :
  Calls Try.prog 23 #[.slice A0 l0.length c0] w fun e w' => e = .returned (.int .i64 r) ∧ Below w.heap.size w w' := by
 have hu24 := Try.underlying24
 have hu28 := Try.underlying28
 have HR0 := Aside0.mk hr0
 have HC0 := Aside0.mk hc0
 clear hr0 hc0
 have HB := Aside0.mk (Below.refl w.heap.size w)
 have H : ((solid_Check.f k l0).bind fun t23001 => (if t23001 = 0 then (shape_Sweep.j0 k l0 (decide ((l0.length : Int) < 3))) else (shape_Sweep.j0 k l0 true))) = some r := h
 clear h
 have HC2 := Aside0.mk H
 clear H
 go_enter Try.func23, Try.ntmps23
 go_upto_region 1 with (fail)
 go_cut [25] (fun v25 wc => ∃ (kq : Nat) (x25_1 : Bool), v25 = .bool x25_1 ∧ Aside0 (shape_Sweep.j0 kq l0 x25_1 = some r) ∧ Aside0 (kq ≤ k) ∧ Aside0 (Below w.heap.size w wc))
 case first =>
  have H := HC2.out
  clear HC2
  replace H := Option.bind_eq_some_iff.mp H
  obtain ⟨t23001, A30, H⟩ := H
  replace H : (if t23001 = 0 then (shape_Sweep.j0 k l0 (decide ((l0.length : Int) < 3))) else (shape_Sweep.j0 k l0 true)) = some r := H
  have A3 := Aside0.mk A30
  clear A30
  by_cases c4 : t23001 = 0
  ·rw [if_pos c4] at H
   have c4b0 : (t23001 == 0) = true := beq_iff_eq.mpr c4
   have c4b1 : (t23001 != 0) = false := bne_eq_false_iff_eq.mpr c4
   clear c4
   (first | rw [c4b0] | (simp only [i64_w, i32_w]; rw [c4b0]) | skip)
   have H' := Aside0.mk H
   clear H
   go_wp2_with (first | ((with_reducible refine gate_callee (f := 25) rfl ?_); refine goesL_ (some 19) rfl rfl Try.func25 (by kernel_rfl) rfl #[.slice A0 l0.length c0] rfl la_ ?_; (with_reducible refine (solid_Check.calls k _ _ l0 t23001 _ ?side1 ?side2 A3.out).mono ?_); (case side1 => repeat (first | exact (Kd.C_below HR0.out HB.out) | (with_reducible refine Kd.C_alloc ?_ _) | (with_reducible refine Kd.C_drewN ?_ _) | (with_reducible refine Kd.C_drew ?_))); (case side2 => exact HC0.out); rintro e w5 ⟨rfl, hb⟩; refine ⟨_, rfl, ?_⟩; have n0_ := Aside0.mk (bs_ hb); clear HB; have HB := n0_; clear n0_; (try clear hb); (try clear hb2); (try clear hk); (try clear hi)))
   go_meet
   case rel => exact ⟨_, (decide ((l0.length : Int) < 3)), (by first | rfl | (simp; done) | (simp [*]; done)), H', ⟨by first | omega | exact Nat.le_refl _⟩, ⟨be_⟩⟩
  ·rw [if_neg c4] at H
   have c4b0 : (t23001 == 0) = false := beq_eq_false_iff_ne.mpr c4
   have c4b1 : (t23001 != 0) = true := bne_iff_ne.mpr c4
   (first | rw [c4b0] | (simp only [i64_w, i32_w]; rw [c4b0]) | skip)
   have H' := Aside0.mk H
   clear H
   go_wp2_with (first | ((with_reducible refine gate_callee (f := 25) rfl ?_); refine goesL_ (some 19) rfl rfl Try.func25 (by kernel_rfl) rfl #[.slice A0 l0.length c0] rfl la_ ?_; (with_reducible refine (solid_Check.calls k _ _ l0 t23001 _ ?side1 ?side2 A3.out).mono ?_); (case side1 => repeat (first | exact (Kd.C_below HR0.out HB.out) | (with_reducible refine Kd.C_alloc ?_ _) | (with_reducible refine Kd.C_drewN ?_ _) | (with_reducible refine Kd.C_drew ?_))); (case side2 => exact HC0.out); rintro e w6 ⟨rfl, hb⟩; refine ⟨_, rfl, ?_⟩; have n0_ := Aside0.mk (bs_ hb); clear HB; have HB := n0_; clear n0_; (try clear hb); (try clear hb2); (try clear hk); (try clear hi)))
   go_meet
   case rel => exact ⟨_, (true), (by first | rfl | (simp; done) | (simp [*]; done)), H', ⟨by first | omega | exact Nat.le_refl _⟩, ⟨be_⟩⟩
 case rest =>
  clear HC2
  try clear c2
  try clear p2
  try clear c4
  try clear c4b0
  try clear c4b1
  obtain ⟨kq, x25_1, rfl, HA, HJ1, HB⟩ := hcut
  cases kq with
  | zero => exact absurd HA.out (by simp [shape_Sweep.j0])
  | succ kj1 =>
   have H := HA.out
   clear HA
   simp only [shape_Sweep.j0] at H
   by_cases c7 : x25_1 = true
   ·subst c7
    have H1 : (some 0) = some r := by rw [if_pos rfl] at H; exact H
    clear H
    have H := H1
    clear H1
    obtain rfl := Option.some.inj H
    go_wp2
    go_ret
    exact ⟨er_, be_⟩
   ·replace c7 := Bool.eq_false_iff.mpr c7
    subst c7
    have H1 : (if 0 ≤ (l0.length : Int) then (if ((l0.length : Int) : Int).toNat ≤ 35184372088832 then (shape_Sweep.l0 kj1 l0 (List.replicate ((l0.length : Int) : Int).toNat 0) 0 (l0.length : Int) 0) else (none)) else (none)) = some r := by rw [if_neg (show ¬ (false = true) by decide)] at H; exact H
    clear H
    have H := H1
    clear H1
    by_cases c8 : 0 ≤ (l0.length : Int)
    ·rw [if_pos c8] at H
     have c8b0 := eq_true c8
     have c8b1 : decide (0 ≤ (l0.length : Int)) = true := decide_eq_true c8
     clear c8
     by_cases c9 : ((l0.length : Int) : Int).toNat ≤ 35184372088832
     ·rw [if_pos c9] at H
      have c9b0 := eq_true c9
      have c9b1 : decide (((l0.length : Int) : Int).toNat ≤ 35184372088832) = true := decide_eq_true c9
      clear c9
      obtain ⟨y23002, hy23002⟩ : ∃ y_ : List Int, y_ = (List.replicate ((l0.length : Int) : Int).toNat 0) := ⟨_, rfl⟩
      replace H : (shape_Sweep.l0 kj1 l0 y23002 0 (l0.length : Int) 0) = some r := by first | (rw [hy23002]; with_reducible exact H) | (have H2_ := (Option.bind_some _ _).symm.trans H; rw [hy23002]; with_reducible exact H2_) | (have H2_ := (Option.bind_some _ _).symm.trans H; with_reducible exact H2_) | with_reducible exact H | (rw [hy23002]; exact H) | exact H
      have Ny23002 := Aside0.mk hy23002
      clear hy23002
      have H' := Aside0.mk H
      clear H
      go_wp2_with (first | ((with_reducible refine gate_dst (N := 28) rfl ?_); (try (refine gate_guard (by rfl) ?_; dsimp only)); refine Kd.R_make (Kd.int .i64) _ 3 rfl (N := 28) rfl 34 _ _ rfl (l0.length : Int) rfl rfl Try.underlying34 (.int .i64 0) 8 info3 rfl (by decide) (by omega) 0 (ok := fun _ => True) (okp := fun _ => True) rfl (fun _ hk => hk) trivial (of_decide_eq_true (by first | (with_reducible assumption) | assumption)) (Nat.le_trans (Nat.mul_le_mul_right _ (of_decide_eq_true (by first | (with_reducible assumption) | assumption) : (l0.length : Int).toNat ≤ 35184372088832)) (by omega)) (Below.refl _ _) (Nat.le_refl _) ?_; intro v23003 w10 ho11 hb hg_ hnew_; clear hg_ hnew_; (first | rw [← Ny23002.out] at ho11 | (simp only [Int.reduceToNat] at ho11; rw [← Ny23002.out] at ho11)); have n0_ := Aside0.mk (Kd.R_lower ho11 bz_); have n1_ := Aside0.mk (bs_ hb); clear HB; have HO23004 := n0_; have HB := n1_; clear n0_ n1_; clear hb ho11))
      go_loopg [4, 31] kj1 (fun kq v4 v31 w' => ∃ (x3_2 : List Int) (x4_2 : Int) (x31_2 : Int), v4 = .int .i64 x4_2 ∧ v31 = .int .i64 x31_2 ∧ Aside0 (shape_Sweep.l0 kq l0 x3_2 x4_2 (l0.length : Int) x31_2 = some r) ∧ Aside0 (kq ≤ kj1) ∧ Aside0 (Kd.R (Kd.int .i64) 3 w' w.heap.size (fun _ => True) v23003 x3_2) ∧ Aside0 (Below w.heap.size w w'))
      case atStart => exact ⟨(y23002), (0), (0), (by first | rfl | (simp; done) | (simp [*]; done)), (by first | rfl | (simp; done) | (simp [*]; done)), H', ⟨Nat.le_refl _⟩, ⟨fR_ HO23004.out⟩, ⟨be_⟩⟩
      case round =>
       clear H'
       try clear c2
       try clear p2
       try clear c4
       try clear c4b0
       try clear c4b1
       try clear c7
       try clear c8
       try clear c8b0
       try clear c8b1
       try clear c9
       try clear c9b0
       try clear c9b1
       try clear p2
       obtain ⟨x3_2, x4_2, x31_2, rfl, rfl, HA, HK2, HO_3, HB⟩ := hrel
       cases gk with
       | zero => exact absurd HA.out (by simp [shape_Sweep.l0])
       | succ k2 =>
        have H := HA.out
        clear HA
        simp only [shape_Sweep.l0] at H
        by_cases c12 : x31_2 < (l0.length : Int)
        ·rw [if_pos c12] at H
         have c12b0 : decide (x31_2 < (l0.length : Int)) = true := decide_eq_true c12
         clear c12
         by_cases c13 : 0 ≤ x31_2
         ·rw [if_pos c13] at H
          have c13b0 : decide (0 ≤ x31_2) = true := decide_eq_true c13
          clear c13
          by_cases c14 : x31_2 < (l0.length : Int)
          ·rw [if_pos c14] at H
           have c14b0 : decide (x31_2 < (l0.length : Int)) = true := decide_eq_true c14
           clear c14
           by_cases c15 : x31_2 < (x3_2.length : Int)
           ·rw [if_pos c15] at H
            have c15b0 : decide (x31_2 < (x3_2.length : Int)) = true := decide_eq_true c15
            clear c15
            obtain ⟨y23006, hy23006⟩ : ∃ y_ : List Int, y_ = (x3_2.set (x31_2 : Int).toNat (wrap64 ((wrap64 (2 * x4_2)) + ((rd_T36 l0 x31_2).f0)))) := ⟨_, rfl⟩
            replace H : (shape_Sweep.l0 k2 l0 y23006 (wrap64 (x4_2 + ((rd_T36 l0 x31_2).f0))) (l0.length : Int) (wrap64 (x31_2 + 1))) = some r := by first | (rw [hy23006]; with_reducible exact H) | (have H2_ := (Option.bind_some _ _).symm.trans H; rw [hy23006]; with_reducible exact H2_) | (have H2_ := (Option.bind_some _ _).symm.trans H; with_reducible exact H2_) | with_reducible exact H | (rw [hy23006]; exact H) | exact H
            have Ny23006 := Aside0.mk hy23006
            clear hy23006
            have H' := Aside0.mk H
            clear H
            have p23005 : 0 ≤ (x31_2 : Int) := of_decide_eq_true (by first | (with_reducible assumption) | assumption)
            have q23005 : x31_2 < (l0.length : Int) := of_decide_eq_true (by first | (with_reducible assumption) | assumption)
            obtain ⟨ad23005, A23005_2, c23005_2, e23005, hx23005_0, hx23005_1, hx23005_2, hl23005_2, hi23005_2⟩ := at_T36 HR0.out x31_2 p23005 q23005
            cases e23005
            replace hx23005_0 := (HB.out.cell (World.block_lt_of_cell? w _ hx23005_0)).trans hx23005_0
            replace hx23005_1 := (HB.out.cell (World.block_lt_of_cell? w _ hx23005_1)).trans hx23005_1
            replace hx23005_2 := (HB.out.cell (World.block_lt_of_cell? w _ hx23005_2)).trans hx23005_2
            have HR23005_2 := Aside0.mk hi23005_2
            have HC23005_2 := Aside0.mk hl23005_2
            clear hi23005_2 hl23005_2
            replace p23005 := eq_true p23005
            replace q23005 := eq_true q23005
            have p16 : 0 ≤ (x31_2 : Int) := of_decide_eq_true (by first | (with_reducible assumption) | assumption)
            have q16 : (x31_2 : Int) < ((x3_2.length : Int) : Int) := of_decide_eq_true (by first | (with_reducible assumption) | assumption)
            obtain ⟨go16, co16, eo16, gb16, gl16, cl16, HG16⟩ := Kd.R_form HO_3.out (by omega)
            (first | cases eo16 | (injection eo16 with ea_ en_ ec_; (first | subst ea_ | (injection ea_ with ea_; subst ea_)); subst ec_; clear en_))
            have GB16 := Aside0.mk gb16
            have GG16 := Aside0.mk HG16
            clear gb16 gl16 HG16
            obtain ⟨hx16_0, hf16_0⟩ := Kd.R_celln 0 HO_3.out (x31_2 : Int) p16 q16
            replace p16 := eq_true p16
            replace q16 := eq_true q16
            have HP17 := Kd.R_putg HO_3.out (x31_2 : Int) (wrap64 ((wrap64 (2 * x4_2)) + ((rd_T36 l0 x31_2).f0)))
            go_wp2_with (first | ((with_reducible refine gate_store (t := 3) (p := 44) rfl ?_); refine store_event (t := 3) (p := 44) (v := ?vo_w18) (w1 := (wr.setCell ⟨go16, (x31_2 : Int).toNat, none⟩ (.int .i64 (wrap64 ((wrap64 (2 * x4_2)) + ((rd_T36 l0 x31_2).f0)))))) ?hg ?ho ?hn ?hr ?_; (case ho => rfl); (case hg => rfl); (case hn => rfl); (case hr => first | (go_simp; done) | (go_simp; rfl)); intro w18 hw; have hg : wr.grownBy w18 (some go16) := (by rw [hw]; exact HP17.2); have hp_ : Kd.R (Kd.int .i64) 3 w18 w.heap.size (fun _ => True) (.slice (some ⟨go16, 0, none⟩) x3_2.length co16) y23006 := (by rw [hw, Ny23006.out]; exact HP17.1); clear HP17; have n0_ := Aside0.mk (hp_); have n1_ := Aside0.mk ((by rw [hw]; exact below_set (HB.out) GB16.out : Below w.heap.size w w18)); clear HO_3 HB; have HO_3 := n0_; have HB := n1_; clear n0_ n1_ hg hw hp_; have p23007 : 0 ≤ (x31_2 : Int) := of_decide_eq_true (by first | (with_reducible assumption) | assumption); have q23007 : x31_2 < (l0.length : Int) := of_decide_eq_true (by first | (with_reducible assumption) | assumption); obtain ⟨ad23007, A23007_2, c23007_2, e23007, hx23007_0, hx23007_1, hx23007_2, hl23007_2, hi23007_2⟩ := at_T36 HR0.out x31_2 p23007 q23007; obtain rfl : ad23005 = ad23007 := (by injection e23007); replace hx23007_0 := (HB.out.cell (World.block_lt_of_cell? w _ hx23007_0)).trans hx23007_0; replace hx23007_1 := (HB.out.cell (World.block_lt_of_cell? w _ hx23007_1)).trans hx23007_1; replace hx23007_2 := (HB.out.cell (World.block_lt_of_cell? w _ hx23007_2)).trans hx23007_2; have HR23007_2 := Aside0.mk hi23007_2; have HC23007_2 := Aside0.mk hl23007_2; clear hi23007_2 hl23007_2; replace p23007 := eq_true p23007; replace q23007 := eq_true q23007))
            go_roundg k2
            case measure => have := HJ1.out; have := HK2.out; omega
            case rel => exact ⟨(y23006), (wrap64 (x4_2 + ((rd_T36 l0 x31_2).f0))), (wrap64 (x31_2 + 1)), (by first | rfl | (simp; done) | (simp [*]; done)), (by first | rfl | (simp; done) | (simp [*]; done)), H', ⟨by have := HJ1.out; have := HK2.out; omega⟩, ⟨fR_ HO_3.out⟩, ⟨be_⟩⟩
           ·rw [if_neg c15] at H
            exact absurd H (by simp)
          ·rw [if_neg c14] at H
           exact absurd H (by simp)
         ·rw [if_neg c13] at H
          exact absurd H (by simp)
        ·rw [if_neg c12] at H
         have c12b0 : decide (x31_2 < (l0.length : Int)) = false := decide_eq_false c12
         clear c12
         by_cases c19 : 0 < (l0.length : Int)
         ·rw [if_pos c19] at H
          have c19b0 : decide (0 < (l0.length : Int)) = true := decide_eq_true c19
          have c19b1 : decide (0 < l0.length) = true := decide_eq_true (by omega)
          clear c19
          replace H := Option.bind_eq_some_iff.mp H
          obtain ⟨⟨t23009, t23010⟩, A200, H⟩ := H
          replace H : (if 0 ≤ (wrap64 ((l0.length : Int) - 1)) then (if (wrap64 ((l0.length : Int) - 1)) < (l0.length : Int) then ((shape_Center2.f k2 ((rd_T36 l0 (wrap64 ((l0.length : Int) - 1))).f1.f0) ((rd_T36 l0 (wrap64 ((l0.length : Int) - 1))).f1.f1)).bind fun bt23012 => (if (wrap64 ((l0.length : Int) - 1)) < (x3_2.length : Int) then (if 0 < (x3_2.length : Int) then (shape_Sweep.l1 k2 l0 x3_2 (wrap64 ((rd x3_2 (wrap64 ((l0.length : Int) - 1))) - (rd x3_2 0))) 0 (l0.length : Int) 0 t23009 t23010 bt23012.1 bt23012.2) else (none)) else (none))) else (none)) else (none)) = some r := H
          have A20 := Aside0.mk A200
          clear A200
          obtain ⟨ji21, hji21⟩ : ∃ j_ : Int, (wrap64 ((l0.length : Int) - 1)) = j_ := ⟨_, rfl⟩
          replace H : (if 0 ≤ (ji21) then (if (ji21) < (l0.length : Int) then ((shape_Center2.f k2 ((rd_T36 l0 (ji21)).f1.f0) ((rd_T36 l0 (ji21)).f1.f1)).bind fun bt23012 => (if (ji21) < (x3_2.length : Int) then (if 0 < (x3_2.length : Int) then (shape_Sweep.l1 k2 l0 x3_2 (wrap64 ((rd x3_2 (ji21)) - (rd x3_2 0))) 0 (l0.length : Int) 0 t23009 t23010 bt23012.1 bt23012.2) else (none)) else (none))) else (none)) else (none)) = some r := by first | (rw [hji21] at H; exact H) | (simp only [hji21] at H ⊢; exact H)
          (try rw [hji21] at A20)
          have hji21w : (IntKind.i64.wrap ((l0.length : Int) - 1)) = ji21 := (i64_w _).trans hji21
          by_cases c22 : 0 ≤ (ji21)
          ·rw [if_pos c22] at H
           have c22b0 : decide (0 ≤ (ji21)) = true := decide_eq_true c22
           clear c22
           by_cases c23 : (ji21) < (l0.length : Int)
           ·rw [if_pos c23] at H
            have c23b0 : decide ((ji21) < (l0.length : Int)) = true := decide_eq_true c23
            clear c23
            replace H := Option.bind_eq_some_iff.mp H
            obtain ⟨⟨t23012, t23013⟩, A240, H⟩ := H
            replace H : (if (ji21) < (x3_2.length : Int) then (if 0 < (x3_2.length : Int) then (shape_Sweep.l1 k2 l0 x3_2 (wrap64 ((rd x3_2 (ji21)) - (rd x3_2 0))) 0 (l0.length : Int) 0 t23009 t23010 t23012 t23013) else (none)) else (none)) = some r := H
            have A24 := Aside0.mk A240
            clear A240
            by_cases c25 : (ji21) < (x3_2.length : Int)
            ·rw [if_pos c25] at H
             have c25b0 : decide ((ji21) < (x3_2.length : Int)) = true := decide_eq_true c25
             clear c25
             by_cases c26 : 0 < (x3_2.length : Int)
             ·rw [if_pos c26] at H
              have c26b0 : decide (0 < (x3_2.length : Int)) = true := decide_eq_true c26
              have c26b1 : decide (0 < x3_2.length) = true := decide_eq_true (by omega)
              clear c26
              have H' := Aside0.mk H
              clear H
              try go_wp2
              have n0_ := Aside0.mk (Kd.R_drew HO_3.out)
              have n1_ := Aside0.mk (below_drew1 HB.out)
              clear HO_3 HB
              have HO_3 := n0_
              have HB := n1_
              clear n0_ n1_
              have p23008 : 0 ≤ (0 : Int) := (by omega)
              have q23008 : 0 < (l0.length : Int) := of_decide_eq_true (by first | (with_reducible assumption) | assumption)
              obtain ⟨ad23008, A23008_2, c23008_2, e23008, hx23008_0, hx23008_1, hx23008_2, hl23008_2, hi23008_2⟩ := at_T36 HR0.out 0 p23008 q23008
              have hw23008_2 := hx23008_2
              (try rw [show ((0 : Int)).toNat = 0 from rfl] at hw23008_2)
              (try rw [show 0 * 3 = 0 from rfl] at hw23008_2)
              (try rw [Addr.add_zero'] at hw23008_2)
              have hw23008_1 := hx23008_1
              (try rw [show ((0 : Int)).toNat = 0 from rfl] at hw23008_1)
              (try rw [show 0 * 3 = 0 from rfl] at hw23008_1)
              (try rw [Addr.add_zero'] at hw23008_1)
              have hw23008_0 := hx23008_0
              (try rw [show ((0 : Int)).toNat = 0 from rfl] at hw23008_0)
              (try rw [show 0 * 3 = 0 from rfl] at hw23008_0)
              (try rw [Addr.add_zero'] at hw23008_0)
              cases e23008
              have qi23008 : (0 < l0.length) = True := eq_true (by omega)
              (try rw [show ((0 : Int)).toNat = 0 from rfl] at hx23008_0)
              (try rw [show 0 * 3 = 0 from rfl] at hx23008_0)
              (try rw [Addr.add_zero'] at hx23008_0)
              (try rw [show ((0 : Int)).toNat = 0 from rfl] at hx23008_1)
              (try rw [show 0 * 3 = 0 from rfl] at hx23008_1)
              (try rw [Addr.add_zero'] at hx23008_1)
              (try rw [show ((0 : Int)).toNat = 0 from rfl] at hx23008_2)
              (try rw [show 0 * 3 = 0 from rfl] at hx23008_2)
              (try rw [Addr.add_zero'] at hx23008_2)
              replace hx23008_0 := (HB.out.cell (World.block_lt_of_cell? w _ hx23008_0)).trans hx23008_0
              replace hx23008_1 := (HB.out.cell (World.block_lt_of_cell? w _ hx23008_1)).trans hx23008_1
              replace hx23008_2 := (HB.out.cell (World.block_lt_of_cell? w _ hx23008_2)).trans hx23008_2
              have HR23008_2 := Aside0.mk hi23008_2
              have HC23008_2 := Aside0.mk hl23008_2
              clear hi23008_2 hl23008_2
              replace p23008 := eq_true p23008
              replace q23008 := eq_true q23008
              have p23011 : 0 ≤ ((ji21) : Int) := of_decide_eq_true (by first | (with_reducible assumption) | assumption)
              have q23011 : (ji21) < (l0.length : Int) := of_decide_eq_true (by first | (with_reducible assumption) | assumption)
              obtain ⟨ad23011, A23011_2, c23011_2, e23011, hx23011_0, hx23011_1, hx23011_2, hl23011_2, hi23011_2⟩ := at_T36 HR0.out (ji21) p23011 q23011
              have hw23011_2 := hx23011_2
              have hw23011_1 := hx23011_1
              have hw23011_0 := hx23011_0
              obtain rfl : ad23008 = ad23011 := (by injection e23011)
              replace hx23011_0 := (HB.out.cell (World.block_lt_of_cell? w _ hx23011_0)).trans hx23011_0
              replace hx23011_1 := (HB.out.cell (World.block_lt_of_cell? w _ hx23011_1)).trans hx23011_1
              replace hx23011_2 := (HB.out.cell (World.block_lt_of_cell? w _ hx23011_2)).trans hx23011_2
              have HR23011_2 := Aside0.mk hi23011_2
              have HC23011_2 := Aside0.mk hl23011_2
              clear hi23011_2 hl23011_2
              replace p23011 := eq_true p23011
              replace q23011 := eq_true q23011
              refine start_ (n := 15) (S := fun w' => w'.cell? ad23008 = some (.int .i64 ((rd_T36 l0 0).f0)) ∧ w'.cell? ⟨ad23008.block, ad23008.off + 1, none⟩ = some (.int .i64 ((rd_T36 l0 0).f1.f0)) ∧ w'.cell? ⟨ad23008.block, ad23008.off + 2, none⟩ = some (.slice A23008_2 ((rd_T36 l0 0).f1.f1).length c23008_2) ∧ w'.cell? (ad23008.add (((ji21)).toNat * 3)) = some (.int .i64 ((rd_T36 l0 (ji21)).f0)) ∧ w'.cell? ⟨(ad23008.add (((ji21)).toNat * 3)).block, (ad23008.add (((ji21)).toNat * 3)).off + 1, none⟩ = some (.int .i64 ((rd_T36 l0 (ji21)).f1.f0)) ∧ w'.cell? ⟨(ad23008.add (((ji21)).toNat * 3)).block, (ad23008.add (((ji21)).toNat * 3)).off + 2, none⟩ = some (.slice A23011_2 ((rd_T36 l0 (ji21)).f1.f1).length c23011_2)) (ds := []) #[false, false, false, false, false, false, false, false, false, false, false, false, false, false, false] (by kernel_rfl) rfl rfl ⟨((HB.out.cell (World.block_lt_of_cell? w _ hw23008_0)).trans hw23008_0), ((HB.out.cell (World.block_lt_of_cell? w _ hw23008_1)).trans hw23008_1), ((HB.out.cell (World.block_lt_of_cell? w _ hw23008_2)).trans hw23008_2), ((HB.out.cell (World.block_lt_of_cell? w _ hw23011_0)).trans hw23011_0), ((HB.out.cell (World.block_lt_of_cell? w _ hw23011_1)).trans hw23011_1), ((HB.out.cell (World.block_lt_of_cell? w _ hw23011_2)).trans hw23011_2)⟩ (fun hHeld => ?_); refine with_tabW shape_Sweep.tab12 shape_Sweep.bits12 (fun HT_ HW_ => ?_)
              generalize wr.drew = w27 at HO_3 HB HR23008_2 HR23011_2 hx23008_0 hx23008_1 hx23008_2 hx23011_0 hx23011_1 hx23011_2 hHeld ⊢
              refine pure_ (i := 0) (N := some 56) (v := ?_) (a' := ?_) #[true, false, false, false, false, false, false, false, false, false, false, false, false, false, false] rfl rfl (any_of HT_.out (by kernel_rfl)) (fun _ _ _ h => h) (Or.inl ⟨by rfl, ?_⟩) ?_ ?_
              rotate_left
              ·intro w'
               go_simp
               with_reducible rfl
              rotate_left
              ·simp only [Act.put, List.setIfInBounds_toArray, List.set_cons_zero, List.set_cons_succ, i64_w, i32_w]
               rfl
              refine pure_ (i := 1) (N := some 57) (v := ?_) (a' := ?_) #[true, true, false, false, false, false, false, false, false, false, false, false, false, false, false] rfl rfl (any_of HT_.out (by kernel_rfl)) (fun _ _ _ h => h) (Or.inl ⟨by rfl, ?_⟩) ?_ ?_
              rotate_left
              ·intro w'
               go_simp
               with_reducible rfl
              rotate_left
              ·simp only [Act.put, List.setIfInBounds_toArray, List.set_cons_zero, List.set_cons_succ, i64_w, i32_w]
               rfl
              refine pure_ (i := 2) (N := some 58) (v := ?_) (a' := ?_) #[true, true, true, false, false, false, false, false, false, false, false, false, false, false, false] rfl rfl (any_of HT_.out (by kernel_rfl)) (fun _ _ _ h => h) (Or.inl ⟨by rfl, ?_⟩) ?_ ?_
              rotate_left
              ·intro w'
               go_simp
               with_reducible rfl
              rotate_left
              ·simp only [Act.put, List.setIfInBounds_toArray, List.set_cons_zero, List.set_cons_succ, i64_w, i32_w]
               rfl
              refine pure_ (i := 5) (N := some 61) (v := ?_) (a' := ?_) #[true, true, true, false, false, true, false, false, false, false, false, false, false, false, false] rfl rfl (any_of HT_.out (by kernel_rfl)) (fun _ _ _ h => h) (Or.inl ⟨by rfl, ?_⟩) ?_ ?_
              rotate_left
              ·intro w'
               go_simp
               with_reducible rfl
              rotate_left
              ·simp only [Act.put, List.setIfInBounds_toArray, List.set_cons_zero, List.set_cons_succ, i64_w, i32_w]
               rfl
              refine pure_ (i := 6) (N := some 62) (v := ?_) (a' := ?_) #[true, true, true, false, false, true, true, false, false, false, false, false, false, false, false] rfl rfl (any_of HT_.out (by kernel_rfl)) (fun _ _ _ h => h) (Or.inl ⟨by rfl, ?_⟩) ?_ ?_
              rotate_left
              ·intro w'
               go_simp
               with_reducible rfl
              rotate_left
              ·simp only [Act.put, List.setIfInBounds_toArray, List.set_cons_zero, List.set_cons_succ, i64_w, i32_w]
               rfl
              refine pure_ (i := 7) (N := some 63) (v := ?_) (a' := ?_) #[true, true, true, false, false, true, true, true, false, false, false, false, false, false, false] rfl rfl (any_of HT_.out (by kernel_rfl)) (fun _ _ _ h => h) (Or.inl ⟨by rfl, ?_⟩) ?_ ?_
              rotate_left
              ·intro w'
               go_simp
               with_reducible rfl
              rotate_left
              ·simp only [Act.put, List.setIfInBounds_toArray, List.set_cons_zero, List.set_cons_succ, i64_w, i32_w]
               rfl
              refine pure_ (i := 8) (N := some 64) (v := ?_) (a' := ?_) #[true, true, true, false, false, true, true, true, true, false, false, false, false, false, false] rfl rfl (any_of HT_.out (by kernel_rfl)) (fun _ _ _ h => h) (Or.inl ⟨by rfl, ?_⟩) ?_ ?_
              rotate_left
              ·intro w'
               go_simp
               with_reducible rfl
              rotate_left
              ·simp only [Act.put, List.setIfInBounds_toArray, List.set_cons_zero, List.set_cons_succ, i64_w, i32_w]
               rfl
              refine take_ (i := 3) (N := some 59) (v := ?_) (a' := ?_) #[true, true, true, true, false, true, true, true, true, false, false, false, false, false, false] rfl rfl (take_ofW HT_.out HW_.out (by kernel_rfl)) (fun _ _ _ h => h) (Or.inl ⟨by rfl, ?_⟩) hHeld ?_ ?_
              rotate_left
              ·rintro w' ⟨s0, s1, s2, s3, s4, s5⟩
               go_simp
               with_reducible rfl
              rotate_left
              ·simp only [Act.put, List.setIfInBounds_toArray, List.set_cons_zero, List.set_cons_succ, i64_w, i32_w]
               rfl
              refine take_ (i := 9) (N := some 65) (v := ?_) (a' := ?_) #[true, true, true, true, false, true, true, true, true, true, false, false, false, false, false] rfl rfl (take_ofW HT_.out HW_.out (by kernel_rfl)) (fun _ _ _ h => h) (Or.inl ⟨by rfl, ?_⟩) hHeld ?_ ?_
              rotate_left
              ·rintro w' ⟨s0, s1, s2, s3, s4, s5⟩
               go_simp
               with_reducible rfl
              rotate_left
              ·simp only [Act.put, List.setIfInBounds_toArray, List.set_cons_zero, List.set_cons_succ, i64_w, i32_w]
               rfl
              refine join_ (σ := Nat × Nat) 2 #[true, true, true, true, true, true, true, true, true, true, true, true, true, false, false] (fun s_ => [(60, .agg #[.int .i64 t23009, .int .i64 t23010]), (66, .agg #[.int .i64 t23012, .int .i64 t23013]), (7, .pointer (some ⟨s_.1, 0, none⟩)), (8, .pointer (some ⟨s_.2, 0, none⟩))]) (fun s_ w' => (w'.cell? ad23008 = some (.int .i64 ((rd_T36 l0 0).f0)) ∧ w'.cell? ⟨ad23008.block, ad23008.off + 1, none⟩ = some (.int .i64 ((rd_T36 l0 0).f1.f0)) ∧ w'.cell? ⟨ad23008.block, ad23008.off + 2, none⟩ = some (.slice A23008_2 ((rd_T36 l0 0).f1.f1).length c23008_2) ∧ w'.cell? (ad23008.add (((ji21)).toNat * 3)) = some (.int .i64 ((rd_T36 l0 (ji21)).f0)) ∧ w'.cell? ⟨(ad23008.add (((ji21)).toNat * 3)).block, (ad23008.add (((ji21)).toNat * 3)).off + 1, none⟩ = some (.int .i64 ((rd_T36 l0 (ji21)).f1.f0)) ∧ w'.cell? ⟨(ad23008.add (((ji21)).toNat * 3)).block, (ad23008.add (((ji21)).toNat * 3)).off + 2, none⟩ = some (.slice A23011_2 ((rd_T36 l0 (ji21)).f1.f1).length c23011_2)) ∧ (Kd.R (Kd.int .i64) 3 w' w.heap.size (fun _ => True) v23003 x3_2) ∧ (w'.heap[s_.1]? = some (.cells #[.int .i64 0, .int .i64 0] 28 (0, 0))) ∧ (w'.heap[s_.2]? = some (.cells #[.int .i64 0, .int .i64 0] 28 (0, 0))) ∧ (w.heap.size ≤ s_.1) ∧ (w.heap.size ≤ s_.1) ∧ (s_.2 ≠ s_.1) ∧ (s_.1 ≠ s_.2) ∧ (w.heap.size ≤ s_.2) ∧ (w.heap.size ≤ s_.2) ∧ (Below w.heap.size w w')) ?_ ?_
              rotate_left
              ·intro hJ4_10_11_12
               refine join_ (σ := Nat) 3 #[true, true, true, true, true, true, true, true, true, true, true, true, false, false, false] (fun s_ => [(60, .agg #[.int .i64 t23009, .int .i64 t23010]), (66, .agg #[.int .i64 t23012, .int .i64 t23013]), (7, .pointer (some ⟨s_, 0, none⟩))]) (fun s_ w' => (w'.cell? ad23008 = some (.int .i64 ((rd_T36 l0 0).f0)) ∧ w'.cell? ⟨ad23008.block, ad23008.off + 1, none⟩ = some (.int .i64 ((rd_T36 l0 0).f1.f0)) ∧ w'.cell? ⟨ad23008.block, ad23008.off + 2, none⟩ = some (.slice A23008_2 ((rd_T36 l0 0).f1.f1).length c23008_2) ∧ w'.cell? (ad23008.add (((ji21)).toNat * 3)) = some (.int .i64 ((rd_T36 l0 (ji21)).f0)) ∧ w'.cell? ⟨(ad23008.add (((ji21)).toNat * 3)).block, (ad23008.add (((ji21)).toNat * 3)).off + 1, none⟩ = some (.int .i64 ((rd_T36 l0 (ji21)).f1.f0)) ∧ w'.cell? ⟨(ad23008.add (((ji21)).toNat * 3)).block, (ad23008.add (((ji21)).toNat * 3)).off + 2, none⟩ = some (.slice A23011_2 ((rd_T36 l0 (ji21)).f1.f1).length c23011_2)) ∧ (Kd.R (Kd.int .i64) 3 w' w.heap.size (fun _ => True) v23003 x3_2) ∧ (w'.heap[s_]? = some (.cells #[.int .i64 0, .int .i64 0] 28 (0, 0))) ∧ (w.heap.size ≤ s_) ∧ (w.heap.size ≤ s_) ∧ (Below w.heap.size w w')) ?_ ?_
               rotate_left
               ·intro hJ4_10_11
                refine join_ (σ := Nat) 3 #[true, true, true, true, true, true, true, true, true, true, true, false, true, false, false] (fun s_ => [(60, .agg #[.int .i64 t23009, .int .i64 t23010]), (66, .agg #[.int .i64 t23012, .int .i64 t23013]), (8, .pointer (some ⟨s_, 0, none⟩))]) (fun s_ w' => (w'.cell? ad23008 = some (.int .i64 ((rd_T36 l0 0).f0)) ∧ w'.cell? ⟨ad23008.block, ad23008.off + 1, none⟩ = some (.int .i64 ((rd_T36 l0 0).f1.f0)) ∧ w'.cell? ⟨ad23008.block, ad23008.off + 2, none⟩ = some (.slice A23008_2 ((rd_T36 l0 0).f1.f1).length c23008_2) ∧ w'.cell? (ad23008.add (((ji21)).toNat * 3)) = some (.int .i64 ((rd_T36 l0 (ji21)).f0)) ∧ w'.cell? ⟨(ad23008.add (((ji21)).toNat * 3)).block, (ad23008.add (((ji21)).toNat * 3)).off + 1, none⟩ = some (.int .i64 ((rd_T36 l0 (ji21)).f1.f0)) ∧ w'.cell? ⟨(ad23008.add (((ji21)).toNat * 3)).block, (ad23008.add (((ji21)).toNat * 3)).off + 2, none⟩ = some (.slice A23011_2 ((rd_T36 l0 (ji21)).f1.f1).length c23011_2)) ∧ (Kd.R (Kd.int .i64) 3 w' w.heap.size (fun _ => True) v23003 x3_2) ∧ (w'.heap[s_]? = some (.cells #[.int .i64 0, .int .i64 0] 28 (0, 0))) ∧ (w.heap.size ≤ s_) ∧ (w.heap.size ≤ s_) ∧ (Below w.heap.size w w')) ?_ ?_
                rotate_left
                ·intro hJ4_10_12
                 refine join_ (σ := Nat × Nat) 3 #[true, true, true, true, true, true, true, true, true, true, false, true, true, false, false] (fun s_ => [(60, .agg #[.int .i64 t23009, .int .i64 t23010]), (7, .pointer (some ⟨s_.1, 0, none⟩)), (8, .pointer (some ⟨s_.2, 0, none⟩))]) (fun s_ w' => (w'.cell? ad23008 = some (.int .i64 ((rd_T36 l0 0).f0)) ∧ w'.cell? ⟨ad23008.block, ad23008.off + 1, none⟩ = some (.int .i64 ((rd_T36 l0 0).f1.f0)) ∧ w'.cell? ⟨ad23008.block, ad23008.off + 2, none⟩ = some (.slice A23008_2 ((rd_T36 l0 0).f1.f1).length c23008_2) ∧ w'.cell? (ad23008.add (((ji21)).toNat * 3)) = some (.int .i64 ((rd_T36 l0 (ji21)).f0)) ∧ w'.cell? ⟨(ad23008.add (((ji21)).toNat * 3)).block, (ad23008.add (((ji21)).toNat * 3)).off + 1, none⟩ = some (.int .i64 ((rd_T36 l0 (ji21)).f1.f0)) ∧ w'.cell? ⟨(ad23008.add (((ji21)).toNat * 3)).block, (ad23008.add (((ji21)).toNat * 3)).off + 2, none⟩ = some (.slice A23011_2 ((rd_T36 l0 (ji21)).f1.f1).length c23011_2)) ∧ (Kd.R (Kd.int .i64) 3 w' w.heap.size (fun _ => True) v23003 x3_2) ∧ (w'.heap[s_.1]? = some (.cells #[.int .i64 0, .int .i64 0] 28 (0, 0))) ∧ (w'.heap[s_.2]? = some (.cells #[.int .i64 0, .int .i64 0] 28 (0, 0))) ∧ (w.heap.size ≤ s_.1) ∧ (w.heap.size ≤ s_.1) ∧ (s_.2 ≠ s_.1) ∧ (s_.1 ≠ s_.2) ∧ (w.heap.size ≤ s_.2) ∧ (w.heap.size ≤ s_.2) ∧ (Below w.heap.size w w')) ?_ ?_
                 rotate_left
                 ·intro hJ4_11_12
                  refine join_ (σ := Unit) 4 #[true, true, true, true, true, true, true, true, true, true, true, false, false, false, false] (fun s_ => [(60, .agg #[.int .i64 t23009, .int .i64 t23010]), (66, .agg #[.int .i64 t23012, .int .i64 t23013])]) (fun s_ w' => (w'.cell? ad23008 = some (.int .i64 ((rd_T36 l0 0).f0)) ∧ w'.cell? ⟨ad23008.block, ad23008.off + 1, none⟩ = some (.int .i64 ((rd_T36 l0 0).f1.f0)) ∧ w'.cell? ⟨ad23008.block, ad23008.off + 2, none⟩ = some (.slice A23008_2 ((rd_T36 l0 0).f1.f1).length c23008_2) ∧ w'.cell? (ad23008.add (((ji21)).toNat * 3)) = some (.int .i64 ((rd_T36 l0 (ji21)).f0)) ∧ w'.cell? ⟨(ad23008.add (((ji21)).toNat * 3)).block, (ad23008.add (((ji21)).toNat * 3)).off + 1, none⟩ = some (.int .i64 ((rd_T36 l0 (ji21)).f1.f0)) ∧ w'.cell? ⟨(ad23008.add (((ji21)).toNat * 3)).block, (ad23008.add (((ji21)).toNat * 3)).off + 2, none⟩ = some (.slice A23011_2 ((rd_T36 l0 (ji21)).f1.f1).length c23011_2)) ∧ (Kd.R (Kd.int .i64) 3 w' w.heap.size (fun _ => True) v23003 x3_2) ∧ (Below w.heap.size w w')) ?_ ?_
                  rotate_left
                  ·intro hJ4_10
                   refine join_ (σ := Nat) 4 #[true, true, true, true, true, true, true, true, true, true, false, true, false, false, false] (fun s_ => [(60, .agg #[.int .i64 t23009, .int .i64 t23010]), (7, .pointer (some ⟨s_, 0, none⟩))]) (fun s_ w' => (w'.cell? ad23008 = some (.int .i64 ((rd_T36 l0 0).f0)) ∧ w'.cell? ⟨ad23008.block, ad23008.off + 1, none⟩ = some (.int .i64 ((rd_T36 l0 0).f1.f0)) ∧ w'.cell? ⟨ad23008.block, ad23008.off + 2, none⟩ = some (.slice A23008_2 ((rd_T36 l0 0).f1.f1).length c23008_2) ∧ w'.cell? (ad23008.add (((ji21)).toNat * 3)) = some (.int .i64 ((rd_T36 l0 (ji21)).f0)) ∧ w'.cell? ⟨(ad23008.add (((ji21)).toNat * 3)).block, (ad23008.add (((ji21)).toNat * 3)).off + 1, none⟩ = some (.int .i64 ((rd_T36 l0 (ji21)).f1.f0)) ∧ w'.cell? ⟨(ad23008.add (((ji21)).toNat * 3)).block, (ad23008.add (((ji21)).toNat * 3)).off + 2, none⟩ = some (.slice A23011_2 ((rd_T36 l0 (ji21)).f1.f1).length c23011_2)) ∧ (Kd.R (Kd.int .i64) 3 w' w.heap.size (fun _ => True) v23003 x3_2) ∧ (w'.heap[s_]? = some (.cells #[.int .i64 0, .int .i64 0] 28 (0, 0))) ∧ (w.heap.size ≤ s_) ∧ (w.heap.size ≤ s_) ∧ (Below w.heap.size w w')) ?_ ?_
                   rotate_left
                   ·intro hJ4_11
                    refine join_ (σ := Nat) 4 #[true, true, true, true, true, true, true, true, true, true, false, false, true, false, false] (fun s_ => [(60, .agg #[.int .i64 t23009, .int .i64 t23010]), (8, .pointer (some ⟨s_, 0, none⟩))]) (fun s_ w' => (w'.cell? ad23008 = some (.int .i64 ((rd_T36 l0 0).f0)) ∧ w'.cell? ⟨ad23008.block, ad23008.off + 1, none⟩ = some (.int .i64 ((rd_T36 l0 0).f1.f0)) ∧ w'.cell? ⟨ad23008.block, ad23008.off + 2, none⟩ = some (.slice A23008_2 ((rd_T36 l0 0).f1.f1).length c23008_2) ∧ w'.cell? (ad23008.add (((ji21)).toNat * 3)) = some (.int .i64 ((rd_T36 l0 (ji21)).f0)) ∧ w'.cell? ⟨(ad23008.add (((ji21)).toNat * 3)).block, (ad23008.add (((ji21)).toNat * 3)).off + 1, none⟩ = some (.int .i64 ((rd_T36 l0 (ji21)).f1.f0)) ∧ w'.cell? ⟨(ad23008.add (((ji21)).toNat * 3)).block, (ad23008.add (((ji21)).toNat * 3)).off + 2, none⟩ = some (.slice A23011_2 ((rd_T36 l0 (ji21)).f1.f1).length c23011_2)) ∧ (Kd.R (Kd.int .i64) 3 w' w.heap.size (fun _ => True) v23003 x3_2) ∧ (w'.heap[s_]? = some (.cells #[.int .i64 0, .int .i64 0] 28 (0, 0))) ∧ (w.heap.size ≤ s_) ∧ (w.heap.size ≤ s_) ∧ (Below w.heap.size w w')) ?_ ?_
                    rotate_left
                    ·intro hJ4_12
                     refine join_ (σ := Nat × Nat) 4 #[true, true, true, true, false, true, true, true, true, true, false, true, true, false, false] (fun s_ => [(7, .pointer (some ⟨s_.1, 0, none⟩)), (8, .pointer (some ⟨s_.2, 0, none⟩))]) (fun s_ w' => (w'.cell? ad23008 = some (.int .i64 ((rd_T36 l0 0).f0)) ∧ w'.cell? ⟨ad23008.block, ad23008.off + 1, none⟩ = some (.int .i64 ((rd_T36 l0 0).f1.f0)) ∧ w'.cell? ⟨ad23008.block, ad23008.off + 2, none⟩ = some (.slice A23008_2 ((rd_T36 l0 0).f1.f1).length c23008_2) ∧ w'.cell? (ad23008.add (((ji21)).toNat * 3)) = some (.int .i64 ((rd_T36 l0 (ji21)).f0)) ∧ w'.cell? ⟨(ad23008.add (((ji21)).toNat * 3)).block, (ad23008.add (((ji21)).toNat * 3)).off + 1, none⟩ = some (.int .i64 ((rd_T36 l0 (ji21)).f1.f0)) ∧ w'.cell? ⟨(ad23008.add (((ji21)).toNat * 3)).block, (ad23008.add (((ji21)).toNat * 3)).off + 2, none⟩ = some (.slice A23011_2 ((rd_T36 l0 (ji21)).f1.f1).length c23011_2)) ∧ (Kd.R (Kd.int .i64) 3 w' w.heap.size (fun _ => True) v23003 x3_2) ∧ (w'.heap[s_.1]? = some (.cells #[.int .i64 0, .int .i64 0] 28 (0, 0))) ∧ (w'.heap[s_.2]? = some (.cells #[.int .i64 0, .int .i64 0] 28 (0, 0))) ∧ (w.heap.size ≤ s_.1) ∧ (w.heap.size ≤ s_.1) ∧ (s_.2 ≠ s_.1) ∧ (s_.1 ≠ s_.2) ∧ (w.heap.size ≤ s_.2) ∧ (w.heap.size ≤ s_.2) ∧ (Below w.heap.size w w')) ?_ ?_
                     rotate_left
                     ·intro hJ11_12
                      refine join_ (σ := Unit) 5 #[true, true, true, true, true, true, true, true, true, true, false, false, false, false, false] (fun s_ => [(60, .agg #[.int .i64 t23009, .int .i64 t23010])]) (fun s_ w' => (w'.cell? ad23008 = some (.int .i64 ((rd_T36 l0 0).f0)) ∧ w'.cell? ⟨ad23008.block, ad23008.off + 1, none⟩ = some (.int .i64 ((rd_T36 l0 0).f1.f0)) ∧ w'.cell? ⟨ad23008.block, ad23008.off + 2, none⟩ = some (.slice A23008_2 ((rd_T36 l0 0).f1.f1).length c23008_2) ∧ w'.cell? (ad23008.add (((ji21)).toNat * 3)) = some (.int .i64 ((rd_T36 l0 (ji21)).f0)) ∧ w'.cell? ⟨(ad23008.add (((ji21)).toNat * 3)).block, (ad23008.add (((ji21)).toNat * 3)).off + 1, none⟩ = some (.int .i64 ((rd_T36 l0 (ji21)).f1.f0)) ∧ w'.cell? ⟨(ad23008.add (((ji21)).toNat * 3)).block, (ad23008.add (((ji21)).toNat * 3)).off + 2, none⟩ = some (.slice A23011_2 ((rd_T36 l0 (ji21)).f1.f1).length c23011_2)) ∧ (Kd.R (Kd.int .i64) 3 w' w.heap.size (fun _ => True) v23003 x3_2) ∧ (Below w.heap.size w w')) ?_ ?_
                      rotate_left
                      ·intro hJ4
                       refine join_ (σ := Nat) 5 #[true, true, true, true, false, true, true, true, true, true, false, true, false, false, false] (fun s_ => [(7, .pointer (some ⟨s_, 0, none⟩))]) (fun s_ w' => (w'.cell? ad23008 = some (.int .i64 ((rd_T36 l0 0).f0)) ∧ w'.cell? ⟨ad23008.block, ad23008.off + 1, none⟩ = some (.int .i64 ((rd_T36 l0 0).f1.f0)) ∧ w'.cell? ⟨ad23008.block, ad23008.off + 2, none⟩ = some (.slice A23008_2 ((rd_T36 l0 0).f1.f1).length c23008_2) ∧ w'.cell? (ad23008.add (((ji21)).toNat * 3)) = some (.int .i64 ((rd_T36 l0 (ji21)).f0)) ∧ w'.cell? ⟨(ad23008.add (((ji21)).toNat * 3)).block, (ad23008.add (((ji21)).toNat * 3)).off + 1, none⟩ = some (.int .i64 ((rd_T36 l0 (ji21)).f1.f0)) ∧ w'.cell? ⟨(ad23008.add (((ji21)).toNat * 3)).block, (ad23008.add (((ji21)).toNat * 3)).off + 2, none⟩ = some (.slice A23011_2 ((rd_T36 l0 (ji21)).f1.f1).length c23011_2)) ∧ (Kd.R (Kd.int .i64) 3 w' w.heap.size (fun _ => True) v23003 x3_2) ∧ (w'.heap[s_]? = some (.cells #[.int .i64 0, .int .i64 0] 28 (0, 0))) ∧ (w.heap.size ≤ s_) ∧ (w.heap.size ≤ s_) ∧ (Below w.heap.size w w')) ?_ ?_
                       rotate_left
                       ·intro hJ11
                        refine join_ (σ := Nat) 5 #[true, true, true, true, false, true, true, true, true, true, false, false, true, false, false] (fun s_ => [(8, .pointer (some ⟨s_, 0, none⟩))]) (fun s_ w' => (w'.cell? ad23008 = some (.int .i64 ((rd_T36 l0 0).f0)) ∧ w'.cell? ⟨ad23008.block, ad23008.off + 1, none⟩ = some (.int .i64 ((rd_T36 l0 0).f1.f0)) ∧ w'.cell? ⟨ad23008.block, ad23008.off + 2, none⟩ = some (.slice A23008_2 ((rd_T36 l0 0).f1.f1).length c23008_2) ∧ w'.cell? (ad23008.add (((ji21)).toNat * 3)) = some (.int .i64 ((rd_T36 l0 (ji21)).f0)) ∧ w'.cell? ⟨(ad23008.add (((ji21)).toNat * 3)).block, (ad23008.add (((ji21)).toNat * 3)).off + 1, none⟩ = some (.int .i64 ((rd_T36 l0 (ji21)).f1.f0)) ∧ w'.cell? ⟨(ad23008.add (((ji21)).toNat * 3)).block, (ad23008.add (((ji21)).toNat * 3)).off + 2, none⟩ = some (.slice A23011_2 ((rd_T36 l0 (ji21)).f1.f1).length c23011_2)) ∧ (Kd.R (Kd.int .i64) 3 w' w.heap.size (fun _ => True) v23003 x3_2) ∧ (w'.heap[s_]? = some (.cells #[.int .i64 0, .int .i64 0] 28 (0, 0))) ∧ (w.heap.size ≤ s_) ∧ (w.heap.size ≤ s_) ∧ (Below w.heap.size w w')) ?_ ?_
                        rotate_left
                        ·intro hJ12
                         refine three_ (i := 4) (j := 11) (k := 12) (Ni := some 60) (Nj := some 7) (Nk := some 8) #[true, true, true, true, true, true, true, true, true, true, false, false, false, false, false] #[true, true, true, true, false, true, true, true, true, true, false, true, false, false, false] #[true, true, true, true, false, true, true, true, true, true, false, false, true, false, false] rfl rfl rfl rfl rfl rfl (three_of HT_.out (by kernel_rfl)) (by decide) (by decide) (by decide) (fun K hK => ?_) (fun K hK => ?_) (fun K hK => ?_)
                         ·skip
                          refine goes_ Try.func14 (by kernel_rfl) rfl #[.agg #[.int .i64 ((rd_T36 l0 0).f1.f0), .slice A23008_2 ((rd_T36 l0 0).f1.f1).length c23008_2]] (by rfl) rfl rfl la_ ?_
                          with_reducible refine (shape_Center2.calls k2 ((rd_T36 l0 0).f1.f0) _ _ ((rd_T36 l0 0).f1.f1) t23009 t23010 _ ?side1 ?side2 A20.out).mono ?_
                          (case side1 => repeat (first | exact (Kd.C_below HR23008_2.out HB.out) | (with_reducible refine Kd.C_alloc ?_ _) | (with_reducible refine Kd.C_drewN ?_ _) | (with_reducible refine Kd.C_drew ?_)))
                          (case side2 => exact HC23008_2.out)
                          rintro e w28 ⟨rfl, hb⟩
                          refine ⟨_, rfl, ?_⟩
                          have n0_ := Aside0.mk (Kd.R_below (fR_ HO_3.out) hb)
                          have n1_ := Aside0.mk (bs_ hb)
                          clear HO_3 HB
                          have HO_3 := n0_
                          have HB := n1_
                          clear n0_ n1_
                          (try clear hb)
                          (try clear hb2)
                          (try clear hk)
                          (try clear hi)
                          refine hK.out _ _ ⟨((HB.out.cell (World.block_lt_of_cell? w _ hw23008_0)).trans hw23008_0), ((HB.out.cell (World.block_lt_of_cell? w _ hw23008_1)).trans hw23008_1), ((HB.out.cell (World.block_lt_of_cell? w _ hw23008_2)).trans hw23008_2), ((HB.out.cell (World.block_lt_of_cell? w _ hw23011_0)).trans hw23011_0), ((HB.out.cell (World.block_lt_of_cell? w _ hw23011_1)).trans hw23011_1), ((HB.out.cell (World.block_lt_of_cell? w _ hw23011_2)).trans hw23011_2)⟩ (fun hHeld => ?_)
                          clear hK K
                          refine norm_ (a' := ?_) ?_ ?_
                          rotate_left
                          ·show Act.put _ (some 60) _ = _
                           simp only [Act.put, List.setIfInBounds_toArray, List.set_cons_zero, List.set_cons_succ, i64_w, i32_w]
                           rfl
                          exact norm_ (by first | (simp only [putAll, Act.put, List.setIfInBounds_toArray, List.set_cons_zero, List.set_cons_succ]; done) | (simp only [putAll, Act.put, List.setIfInBounds_toArray, List.set_cons_zero, List.set_cons_succ]; rfl)) (hJ4 () _ ⟨hHeld, (fR_ HO_3.out), be_⟩)
                         ·skip
                          refine box_step ?hg (N := 7) ?hd (cs := #[.int .i64 0, .int .i64 0]) (t := 28) ?hr ?_; (case hd => rfl); (case hg => rfl); (case hr => first | (go_simp; done) | (go_simp; rfl))
                          intro gb23014 hg w28 hbox hb
                          have n0_ := Aside0.mk (Kd.R_below (fR_ HO_3.out) hb)
                          have n1_ := Aside0.mk (bs_ hb)
                          have n2_ := Aside0.mk (hbox)
                          have n3_ := Aside0.mk ((by rw [hg]; exact bz_ : w.heap.size ≤ gb23014))
                          have n4_ := Aside0.mk ((by rw [hg]; exact bz_ : w.heap.size ≤ gb23014))
                          clear HO_3 HB
                          have HO_3 := n0_
                          have HB := n1_
                          have BK23014 := n2_
                          have GW23014 := n3_
                          have GE23014 := n4_
                          clear n0_ n1_ n2_ n3_ n4_ hb hbox hg
                          refine hK.out _ _ ⟨((HB.out.cell (World.block_lt_of_cell? w _ hw23008_0)).trans hw23008_0), ((HB.out.cell (World.block_lt_of_cell? w _ hw23008_1)).trans hw23008_1), ((HB.out.cell (World.block_lt_of_cell? w _ hw23008_2)).trans hw23008_2), ((HB.out.cell (World.block_lt_of_cell? w _ hw23011_0)).trans hw23011_0), ((HB.out.cell (World.block_lt_of_cell? w _ hw23011_1)).trans hw23011_1), ((HB.out.cell (World.block_lt_of_cell? w _ hw23011_2)).trans hw23011_2)⟩ (fun hHeld => ?_)
                          clear hK K
                          refine norm_ (a' := ?_) ?_ ?_
                          rotate_left
                          ·show Act.put _ (some 7) _ = _
                           simp only [Act.put, List.setIfInBounds_toArray, List.set_cons_zero, List.set_cons_succ, i64_w, i32_w]
                           rfl
                          exact norm_ (by first | (simp only [putAll, Act.put, List.setIfInBounds_toArray, List.set_cons_zero, List.set_cons_succ]; done) | (simp only [putAll, Act.put, List.setIfInBounds_toArray, List.set_cons_zero, List.set_cons_succ]; rfl)) (hJ11 (gb23014) _ ⟨hHeld, (fR_ HO_3.out), (fb_ BK23014.out), GW23014.out, GE23014.out, be_⟩)
                         ·skip
                          refine box_step ?hg (N := 8) ?hd (cs := #[.int .i64 0, .int .i64 0]) (t := 28) ?hr ?_; (case hd => rfl); (case hg => rfl); (case hr => first | (go_simp; done) | (go_simp; rfl))
                          intro gb23015 hg w28 hbox hb
                          have n0_ := Aside0.mk (Kd.R_below (fR_ HO_3.out) hb)
                          have n1_ := Aside0.mk (bs_ hb)
                          have n2_ := Aside0.mk (hbox)
                          have n3_ := Aside0.mk ((by rw [hg]; exact bz_ : w.heap.size ≤ gb23015))
                          have n4_ := Aside0.mk ((by rw [hg]; exact bz_ : w.heap.size ≤ gb23015))
                          clear HO_3 HB
                          have HO_3 := n0_
                          have HB := n1_
                          have BK23015 := n2_
                          have GW23015 := n3_
                          have GE23015 := n4_
                          clear n0_ n1_ n2_ n3_ n4_ hb hbox hg
                          refine hK.out _ _ ⟨((HB.out.cell (World.block_lt_of_cell? w _ hw23008_0)).trans hw23008_0), ((HB.out.cell (World.block_lt_of_cell? w _ hw23008_1)).trans hw23008_1), ((HB.out.cell (World.block_lt_of_cell? w _ hw23008_2)).trans hw23008_2), ((HB.out.cell (World.block_lt_of_cell? w _ hw23011_0)).trans hw23011_0), ((HB.out.cell (World.block_lt_of_cell? w _ hw23011_1)).trans hw23011_1), ((HB.out.cell (World.block_lt_of_cell? w _ hw23011_2)).trans hw23011_2)⟩ (fun hHeld => ?_)
                          clear hK K
                          refine norm_ (a' := ?_) ?_ ?_
                          rotate_left
                          ·show Act.put _ (some 8) _ = _
                           simp only [Act.put, List.setIfInBounds_toArray, List.set_cons_zero, List.set_cons_succ, i64_w, i32_w]
                           rfl
                          exact norm_ (by first | (simp only [putAll, Act.put, List.setIfInBounds_toArray, List.set_cons_zero, List.set_cons_succ]; done) | (simp only [putAll, Act.put, List.setIfInBounds_toArray, List.set_cons_zero, List.set_cons_succ]; rfl)) (hJ12 (gb23015) _ ⟨hHeld, (fR_ HO_3.out), (fb_ BK23015.out), GW23015.out, GE23015.out, be_⟩)
                        ·skip
                         rintro gb23015 w29 ⟨hS_, h0_, h1_, h2_, h3_, h4_⟩
                         have n0_ : Aside0 (Kd.R (Kd.int .i64) 3 w29 w.heap.size (fun _ => True) v23003 x3_2) := ⟨h0_⟩
                         have n1_ : Aside0 (w29.heap[gb23015]? = some (.cells #[.int .i64 0, .int .i64 0] 28 (0, 0))) := ⟨h1_⟩
                         have n2_ : Aside0 (w.heap.size ≤ gb23015) := ⟨h2_⟩
                         have n3_ : Aside0 (w.heap.size ≤ gb23015) := ⟨h3_⟩
                         have n4_ : Aside0 (Below w.heap.size w w29) := ⟨h4_⟩
                         clear HO_3 HB h0_ h1_ h2_ h3_ h4_
                         have HO_3 := n0_
                         have BK23015 := n1_
                         have GW23015 := n2_
                         have GE23015 := n3_
                         have HB := n4_
                         clear n0_ n1_ n2_ n3_ n4_
                         have hHeld : w29.cell? ad23008 = some (.int .i64 ((rd_T36 l0 0).f0)) ∧ w29.cell? ⟨ad23008.block, ad23008.off + 1, none⟩ = some (.int .i64 ((rd_T36 l0 0).f1.f0)) ∧ w29.cell? ⟨ad23008.block, ad23008.off + 2, none⟩ = some (.slice A23008_2 ((rd_T36 l0 0).f1.f1).length c23008_2) ∧ w29.cell? (ad23008.add (((ji21)).toNat * 3)) = some (.int .i64 ((rd_T36 l0 (ji21)).f0)) ∧ w29.cell? ⟨(ad23008.add (((ji21)).toNat * 3)).block, (ad23008.add (((ji21)).toNat * 3)).off + 1, none⟩ = some (.int .i64 ((rd_T36 l0 (ji21)).f1.f0)) ∧ w29.cell? ⟨(ad23008.add (((ji21)).toNat * 3)).block, (ad23008.add (((ji21)).toNat * 3)).off + 2, none⟩ = some (.slice A23011_2 ((rd_T36 l0 (ji21)).f1.f1).length c23011_2) := hS_
                         refine norm_ (a' := ?_) ?_ ?_
                         rotate_left
                         ·simp only [putAll, Act.put, List.setIfInBounds_toArray, List.set_cons_zero, List.set_cons_succ]
                          rfl
                         refine two_ (i := 4) (j := 11) (Ni := some 60) (Nj := some 7) #[true, true, true, true, true, true, true, true, true, true, false, false, true, false, false] #[true, true, true, true, false, true, true, true, true, true, false, true, true, false, false] rfl rfl rfl rfl (two_of HT_.out (by kernel_rfl)) (by decide) (by decide) (fun K hK => ?_) (fun K hK => ?_)
                         ·skip
                          refine goes_ Try.func14 (by kernel_rfl) rfl #[.agg #[.int .i64 ((rd_T36 l0 0).f1.f0), .slice A23008_2 ((rd_T36 l0 0).f1.f1).length c23008_2]] (by rfl) rfl rfl la_ ?_
                          with_reducible refine (shape_Center2.calls k2 ((rd_T36 l0 0).f1.f0) _ _ ((rd_T36 l0 0).f1.f1) t23009 t23010 _ ?side1 ?side2 A20.out).mono ?_
                          (case side1 => repeat (first | exact (Kd.C_below HR23008_2.out HB.out) | (with_reducible refine Kd.C_alloc ?_ _) | (with_reducible refine Kd.C_drewN ?_ _) | (with_reducible refine Kd.C_drew ?_)))
                          (case side2 => exact HC23008_2.out)
                          rintro e w30 ⟨rfl, hb⟩
                          refine ⟨_, rfl, ?_⟩
                          have n0_ := Aside0.mk (Kd.R_below (fR_ HO_3.out) hb)
                          have n1_ := Aside0.mk (blk_below (g := gb23015) (o := .cells #[.int .i64 0, .int .i64 0] 28 (0, 0)) (fb_ BK23015.out) hb)
                          have n2_ := Aside0.mk (bs_ hb)
                          clear HO_3 BK23015 HB
                          have HO_3 := n0_
                          have BK23015 := n1_
                          have HB := n2_
                          clear n0_ n1_ n2_
                          (try clear hb)
                          (try clear hb2)
                          (try clear hk)
                          (try clear hi)
                          refine hK.out _ _ ⟨((HB.out.cell (World.block_lt_of_cell? w _ hw23008_0)).trans hw23008_0), ((HB.out.cell (World.block_lt_of_cell? w _ hw23008_1)).trans hw23008_1), ((HB.out.cell (World.block_lt_of_cell? w _ hw23008_2)).trans hw23008_2), ((HB.out.cell (World.block_lt_of_cell? w _ hw23011_0)).trans hw23011_0), ((HB.out.cell (World.block_lt_of_cell? w _ hw23011_1)).trans hw23011_1), ((HB.out.cell (World.block_lt_of_cell? w _ hw23011_2)).trans hw23011_2)⟩ (fun hHeld => ?_)
                          clear hK K
                          refine norm_ (a' := ?_) ?_ ?_
                          rotate_left
                          ·show Act.put _ (some 60) _ = _
                           simp only [Act.put, List.setIfInBounds_toArray, List.set_cons_zero, List.set_cons_succ, i64_w, i32_w]
                           rfl
                          exact norm_ (by first | (simp only [putAll, Act.put, List.setIfInBounds_toArray, List.set_cons_zero, List.set_cons_succ]; done) | (simp only [putAll, Act.put, List.setIfInBounds_toArray, List.set_cons_zero, List.set_cons_succ]; rfl)) (hJ4_12 (gb23015) _ ⟨hHeld, (fR_ HO_3.out), (fb_ BK23015.out), GW23015.out, GE23015.out, be_⟩)
                         ·skip
                          refine box_step ?hg (N := 7) ?hd (cs := #[.int .i64 0, .int .i64 0]) (t := 28) ?hr ?_; (case hd => rfl); (case hg => rfl); (case hr => first | (go_simp; done) | (go_simp; rfl))
                          intro gb23014 hg w30 hbox hb
                          have n0_ := Aside0.mk (Kd.R_below (fR_ HO_3.out) hb)
                          have n1_ := Aside0.mk (blk_below (g := gb23015) (o := .cells #[.int .i64 0, .int .i64 0] 28 (0, 0)) (fb_ BK23015.out) hb)
                          have n2_ := Aside0.mk (bs_ hb)
                          have n3_ := Aside0.mk (hbox)
                          have n4_ := Aside0.mk ((by rw [hg]; exact bz_ : w.heap.size ≤ gb23014))
                          have n5_ := Aside0.mk ((by rw [hg]; exact bz_ : w.heap.size ≤ gb23014))
                          have n6_ := Aside0.mk ((by rw [hg]; exact Nat.ne_of_lt (blk_lt (g := gb23015) (o := .cells #[.int .i64 0, .int .i64 0] 28 (0, 0)) (fb_ BK23015.out)) : gb23015 ≠ gb23014))
                          have n7_ := Aside0.mk ((by rw [hg]; exact Nat.ne_of_gt (blk_lt (g := gb23015) (o := .cells #[.int .i64 0, .int .i64 0] 28 (0, 0)) (fb_ BK23015.out)) : gb23014 ≠ gb23015))
                          clear HO_3 BK23015 HB
                          have HO_3 := n0_
                          have BK23015 := n1_
                          have HB := n2_
                          have BK23014 := n3_
                          have GW23014 := n4_
                          have GE23014 := n5_
                          have NB23015_23014 := n6_
                          have NB23014_23015 := n7_
                          clear n0_ n1_ n2_ n3_ n4_ n5_ n6_ n7_ hb hbox hg
                          refine hK.out _ _ ⟨((HB.out.cell (World.block_lt_of_cell? w _ hw23008_0)).trans hw23008_0), ((HB.out.cell (World.block_lt_of_cell? w _ hw23008_1)).trans hw23008_1), ((HB.out.cell (World.block_lt_of_cell? w _ hw23008_2)).trans hw23008_2), ((HB.out.cell (World.block_lt_of_cell? w _ hw23011_0)).trans hw23011_0), ((HB.out.cell (World.block_lt_of_cell? w _ hw23011_1)).trans hw23011_1), ((HB.out.cell (World.block_lt_of_cell? w _ hw23011_2)).trans hw23011_2)⟩ (fun hHeld => ?_)
                          clear hK K
                          refine norm_ (a' := ?_) ?_ ?_
                          rotate_left
                          ·show Act.put _ (some 7) _ = _
                           simp only [Act.put, List.setIfInBounds_toArray, List.set_cons_zero, List.set_cons_succ, i64_w, i32_w]
                           rfl
                          exact norm_ (by first | (simp only [putAll, Act.put, List.setIfInBounds_toArray, List.set_cons_zero, List.set_cons_succ]; done) | (simp only [putAll, Act.put, List.setIfInBounds_toArray, List.set_cons_zero, List.set_cons_succ]; rfl)) (hJ11_12 (gb23014, gb23015) _ ⟨hHeld, (fR_ HO_3.out), (fb_ BK23014.out), (fb_ BK23015.out), GW23014.out, GE23014.out, NB23015_23014.out, NB23014_23015.out, GW23015.out, GE23015.out, be_⟩)
                       ·skip
                        rintro gb23014 w29 ⟨hS_, h0_, h1_, h2_, h3_, h4_⟩
                        have n0_ : Aside0 (Kd.R (Kd.int .i64) 3 w29 w.heap.size (fun _ => True) v23003 x3_2) := ⟨h0_⟩
                        have n1_ : Aside0 (w29.heap[gb23014]? = some (.cells #[.int .i64 0, .int .i64 0] 28 (0, 0))) := ⟨h1_⟩
                        have n2_ : Aside0 (w.heap.size ≤ gb23014) := ⟨h2_⟩
                        have n3_ : Aside0 (w.heap.size ≤ gb23014) := ⟨h3_⟩
                        have n4_ : Aside0 (Below w.heap.size w w29) := ⟨h4_⟩
                        clear HO_3 HB h0_ h1_ h2_ h3_ h4_
                        have HO_3 := n0_
                        have BK23014 := n1_
                        have GW23014 := n2_
                        have GE23014 := n3_
                        have HB := n4_
                        clear n0_ n1_ n2_ n3_ n4_
                        have hHeld : w29.cell? ad23008 = some (.int .i64 ((rd_T36 l0 0).f0)) ∧ w29.cell? ⟨ad23008.block, ad23008.off + 1, none⟩ = some (.int .i64 ((rd_T36 l0 0).f1.f0)) ∧ w29.cell? ⟨ad23008.block, ad23008.off + 2, none⟩ = some (.slice A23008_2 ((rd_T36 l0 0).f1.f1).length c23008_2) ∧ w29.cell? (ad23008.add (((ji21)).toNat * 3)) = some (.int .i64 ((rd_T36 l0 (ji21)).f0)) ∧ w29.cell? ⟨(ad23008.add (((ji21)).toNat * 3)).block, (ad23008.add (((ji21)).toNat * 3)).off + 1, none⟩ = some (.int .i64 ((rd_T36 l0 (ji21)).f1.f0)) ∧ w29.cell? ⟨(ad23008.add (((ji21)).toNat * 3)).block, (ad23008.add (((ji21)).toNat * 3)).off + 2, none⟩ = some (.slice A23011_2 ((rd_T36 l0 (ji21)).f1.f1).length c23011_2) := hS_
                        refine norm_ (a' := ?_) ?_ ?_
                        rotate_left
                        ·simp only [putAll, Act.put, List.setIfInBounds_toArray, List.set_cons_zero, List.set_cons_succ]
                         rfl
                        refine two_ (i := 4) (j := 12) (Ni := some 60) (Nj := some 8) #[true, true, true, true, true, true, true, true, true, true, false, true, false, false, false] #[true, true, true, true, false, true, true, true, true, true, false, true, true, false, false] rfl rfl rfl rfl (two_of HT_.out (by kernel_rfl)) (by decide) (by decide) (fun K hK => ?_) (fun K hK => ?_)
                        ·skip
                         refine goes_ Try.func14 (by kernel_rfl) rfl #[.agg #[.int .i64 ((rd_T36 l0 0).f1.f0), .slice A23008_2 ((rd_T36 l0 0).f1.f1).length c23008_2]] (by rfl) rfl rfl la_ ?_
                         with_reducible refine (shape_Center2.calls k2 ((rd_T36 l0 0).f1.f0) _ _ ((rd_T36 l0 0).f1.f1) t23009 t23010 _ ?side1 ?side2 A20.out).mono ?_
                         (case side1 => repeat (first | exact (Kd.C_below HR23008_2.out HB.out) | (with_reducible refine Kd.C_alloc ?_ _) | (with_reducible refine Kd.C_drewN ?_ _) | (with_reducible refine Kd.C_drew ?_)))
                         (case side2 => exact HC23008_2.out)
                         rintro e w30 ⟨rfl, hb⟩
                         refine ⟨_, rfl, ?_⟩
                         have n0_ := Aside0.mk (Kd.R_below (fR_ HO_3.out) hb)
                         have n1_ := Aside0.mk (blk_below (g := gb23014) (o := .cells #[.int .i64 0, .int .i64 0] 28 (0, 0)) (fb_ BK23014.out) hb)
                         have n2_ := Aside0.mk (bs_ hb)
                         clear HO_3 BK23014 HB
                         have HO_3 := n0_
                         have BK23014 := n1_
                         have HB := n2_
                         clear n0_ n1_ n2_
                         (try clear hb)
                         (try clear hb2)
                         (try clear hk)
                         (try clear hi)
                         refine hK.out _ _ ⟨((HB.out.cell (World.block_lt_of_cell? w _ hw23008_0)).trans hw23008_0), ((HB.out.cell (World.block_lt_of_cell? w _ hw23008_1)).trans hw23008_1), ((HB.out.cell (World.block_lt_of_cell? w _ hw23008_2)).trans hw23008_2), ((HB.out.cell (World.block_lt_of_cell? w _ hw23011_0)).trans hw23011_0), ((HB.out.cell (World.block_lt_of_cell? w _ hw23011_1)).trans hw23011_1), ((HB.out.cell (World.block_lt_of_cell? w _ hw23011_2)).trans hw23011_2)⟩ (fun hHeld => ?_)
                         clear hK K
                         refine norm_ (a' := ?_) ?_ ?_
                         rotate_left
                         ·show Act.put _ (some 60) _ = _
                          simp only [Act.put, List.setIfInBounds_toArray, List.set_cons_zero, List.set_cons_succ, i64_w, i32_w]
                          rfl
                         exact norm_ (by first | (simp only [putAll, Act.put, List.setIfInBounds_toArray, List.set_cons_zero, List.set_cons_succ]; done) | (simp only [putAll, Act.put, List.setIfInBounds_toArray, List.set_cons_zero, List.set_cons_succ]; rfl)) (hJ4_11 (gb23014) _ ⟨hHeld, (fR_ HO_3.out), (fb_ BK23014.out), GW23014.out, GE23014.out, be_⟩)
                        ·skip
                         refine box_step ?hg (N := 8) ?hd (cs := #[.int .i64 0, .int .i64 0]) (t := 28) ?hr ?_; (case hd => rfl); (case hg => rfl); (case hr => first | (go_simp; done) | (go_simp; rfl))
                         intro gb23015 hg w30 hbox hb
                         have n0_ := Aside0.mk (Kd.R_below (fR_ HO_3.out) hb)
                         have n1_ := Aside0.mk (blk_below (g := gb23014) (o := .cells #[.int .i64 0, .int .i64 0] 28 (0, 0)) (fb_ BK23014.out) hb)
                         have n2_ := Aside0.mk (bs_ hb)
                         have n3_ := Aside0.mk (hbox)
                         have n4_ := Aside0.mk ((by rw [hg]; exact bz_ : w.heap.size ≤ gb23015))
                         have n5_ := Aside0.mk ((by rw [hg]; exact bz_ : w.heap.size ≤ gb23015))
                         have n6_ := Aside0.mk ((by rw [hg]; exact Nat.ne_of_lt (blk_lt (g := gb23014) (o := .cells #[.int .i64 0, .int .i64 0] 28 (0, 0)) (fb_ BK23014.out)) : gb23014 ≠ gb23015))
                         have n7_ := Aside0.mk ((by rw [hg]; exact Nat.ne_of_gt (blk_lt (g := gb23014) (o := .cells #[.int .i64 0, .int .i64 0] 28 (0, 0)) (fb_ BK23014.out)) : gb23015 ≠ gb23014))
                         clear HO_3 BK23014 HB
                         have HO_3 := n0_
                         have BK23014 := n1_
                         have HB := n2_
                         have BK23015 := n3_
                         have GW23015 := n4_
                         have GE23015 := n5_
                         have NB23014_23015 := n6_
                         have NB23015_23014 := n7_
                         clear n0_ n1_ n2_ n3_ n4_ n5_ n6_ n7_ hb hbox hg
                         refine hK.out _ _ ⟨((HB.out.cell (World.block_lt_of_cell? w _ hw23008_0)).trans hw23008_0), ((HB.out.cell (World.block_lt_of_cell? w _ hw23008_1)).trans hw23008_1), ((HB.out.cell (World.block_lt_of_cell? w _ hw23008_2)).trans hw23008_2), ((HB.out.cell (World.block_lt_of_cell? w _ hw23011_0)).trans hw23011_0), ((HB.out.cell (World.block_lt_of_cell? w _ hw23011_1)).trans hw23011_1), ((HB.out.cell (World.block_lt_of_cell? w _ hw23011_2)).trans hw23011_2)⟩ (fun hHeld => ?_)
                         clear hK K
                         refine norm_ (a' := ?_) ?_ ?_
                         rotate_left
                         ·show Act.put _ (some 8) _ = _
                          simp only [Act.put, List.setIfInBounds_toArray, List.set_cons_zero, List.set_cons_succ, i64_w, i32_w]
                          rfl
                         exact norm_ (by first | (simp only [putAll, Act.put, List.setIfInBounds_toArray, List.set_cons_zero, List.set_cons_succ]; done) | (simp only [putAll, Act.put, List.setIfInBounds_toArray, List.set_cons_zero, List.set_cons_succ]; rfl)) (hJ11_12 (gb23014, gb23015) _ ⟨hHeld, (fR_ HO_3.out), (fb_ BK23014.out), (fb_ BK23015.out), GW23014.out, GE23014.out, NB23015_23014.out, NB23014_23015.out, GW23015.out, GE23015.out, be_⟩)
                      ·skip
                       rintro _ w29 ⟨hS_, h0_, h1_⟩
                       have n0_ : Aside0 (Kd.R (Kd.int .i64) 3 w29 w.heap.size (fun _ => True) v23003 x3_2) := ⟨h0_⟩
                       have n1_ : Aside0 (Below w.heap.size w w29) := ⟨h1_⟩
                       clear HO_3 HB h0_ h1_
                       have HO_3 := n0_
                       have HB := n1_
                       clear n0_ n1_
                       have hHeld : w29.cell? ad23008 = some (.int .i64 ((rd_T36 l0 0).f0)) ∧ w29.cell? ⟨ad23008.block, ad23008.off + 1, none⟩ = some (.int .i64 ((rd_T36 l0 0).f1.f0)) ∧ w29.cell? ⟨ad23008.block, ad23008.off + 2, none⟩ = some (.slice A23008_2 ((rd_T36 l0 0).f1.f1).length c23008_2) ∧ w29.cell? (ad23008.add (((ji21)).toNat * 3)) = some (.int .i64 ((rd_T36 l0 (ji21)).f0)) ∧ w29.cell? ⟨(ad23008.add (((ji21)).toNat * 3)).block, (ad23008.add (((ji21)).toNat * 3)).off + 1, none⟩ = some (.int .i64 ((rd_T36 l0 (ji21)).f1.f0)) ∧ w29.cell? ⟨(ad23008.add (((ji21)).toNat * 3)).block, (ad23008.add (((ji21)).toNat * 3)).off + 2, none⟩ = some (.slice A23011_2 ((rd_T36 l0 (ji21)).f1.f1).length c23011_2) := hS_
                       refine norm_ (a' := ?_) ?_ ?_
                       rotate_left
                       ·simp only [putAll, Act.put, List.setIfInBounds_toArray, List.set_cons_zero, List.set_cons_succ]
                        rfl
                       refine three_ (i := 10) (j := 11) (k := 12) (Ni := some 66) (Nj := some 7) (Nk := some 8) #[true, true, true, true, true, true, true, true, true, true, true, false, false, false, false] #[true, true, true, true, true, true, true, true, true, true, false, true, false, false, false] #[true, true, true, true, true, true, true, true, true, true, false, false, true, false, false] rfl rfl rfl rfl rfl rfl (three_of HT_.out (by kernel_rfl)) (by decide) (by decide) (by decide) (fun K hK => ?_) (fun K hK => ?_) (fun K hK => ?_)
                       ·skip
                        refine goes_ Try.func14 (by kernel_rfl) rfl #[.agg #[.int .i64 ((rd_T36 l0 (ji21)).f1.f0), .slice A23011_2 ((rd_T36 l0 (ji21)).f1.f1).length c23011_2]] (by rfl) rfl rfl (by (try simp only [List.map_toArray, List.map_cons, List.map_nil]); first | done | (simp only [hji21]; rfl) | rfl | (simp only [List.length_drop, List.length_take]; rfl)) ?_
                        with_reducible refine (shape_Center2.calls k2 ((rd_T36 l0 (ji21)).f1.f0) _ _ ((rd_T36 l0 (ji21)).f1.f1) t23012 t23013 _ ?side1 ?side2 A24.out).mono ?_
                        (case side1 => repeat (first | exact (Kd.C_below HR23011_2.out HB.out) | (with_reducible refine Kd.C_alloc ?_ _) | (with_reducible refine Kd.C_drewN ?_ _) | (with_reducible refine Kd.C_drew ?_)))
                        (case side2 => exact HC23011_2.out)
                        rintro e w30 ⟨rfl, hb⟩
                        refine ⟨_, rfl, ?_⟩
                        have n0_ := Aside0.mk (Kd.R_below (fR_ HO_3.out) hb)
                        have n1_ := Aside0.mk (bs_ hb)
                        clear HO_3 HB
                        have HO_3 := n0_
                        have HB := n1_
                        clear n0_ n1_
                        (try clear hb)
                        (try clear hb2)
                        (try clear hk)
                        (try clear hi)
                        refine hK.out _ _ ⟨((HB.out.cell (World.block_lt_of_cell? w _ hw23008_0)).trans hw23008_0), ((HB.out.cell (World.block_lt_of_cell? w _ hw23008_1)).trans hw23008_1), ((HB.out.cell (World.block_lt_of_cell? w _ hw23008_2)).trans hw23008_2), ((HB.out.cell (World.block_lt_of_cell? w _ hw23011_0)).trans hw23011_0), ((HB.out.cell (World.block_lt_of_cell? w _ hw23011_1)).trans hw23011_1), ((HB.out.cell (World.block_lt_of_cell? w _ hw23011_2)).trans hw23011_2)⟩ (fun hHeld => ?_)
                        clear hK K
                        refine norm_ (a' := ?_) ?_ ?_
                        rotate_left
                        ·show Act.put _ (some 66) _ = _
                         simp only [Act.put, List.setIfInBounds_toArray, List.set_cons_zero, List.set_cons_succ, i64_w, i32_w]
                         rfl
                        exact norm_ (by first | (simp only [putAll, Act.put, List.setIfInBounds_toArray, List.set_cons_zero, List.set_cons_succ]; done) | (simp only [putAll, Act.put, List.setIfInBounds_toArray, List.set_cons_zero, List.set_cons_succ]; rfl)) (hJ4_10 () _ ⟨hHeld, (fR_ HO_3.out), be_⟩)
                       ·skip
                        refine box_step ?hg (N := 7) ?hd (cs := #[.int .i64 0, .int .i64 0]) (t := 28) ?hr ?_; (case hd => rfl); (case hg => rfl); (case hr => first | (go_simp; done) | (go_simp; rfl))
                        intro gb23014 hg w30 hbox hb
                        have n0_ := Aside0.mk (Kd.R_below (fR_ HO_3.out) hb)
                        have n1_ := Aside0.mk (bs_ hb)
                        have n2_ := Aside0.mk (hbox)
                        have n3_ := Aside0.mk ((by rw [hg]; exact bz_ : w.heap.size ≤ gb23014))
                        have n4_ := Aside0.mk ((by rw [hg]; exact bz_ : w.heap.size ≤ gb23014))
                        clear HO_3 HB
                        have HO_3 := n0_
                        have HB := n1_
                        have BK23014 := n2_
                        have GW23014 := n3_
                        have GE23014 := n4_
                        clear n0_ n1_ n2_ n3_ n4_ hb hbox hg
                        refine hK.out _ _ ⟨((HB.out.cell (World.block_lt_of_cell? w _ hw23008_0)).trans hw23008_0), ((HB.out.cell (World.block_lt_of_cell? w _ hw23008_1)).trans hw23008_1), ((HB.out.cell (World.block_lt_of_cell? w _ hw23008_2)).trans hw23008_2), ((HB.out.cell (World.block_lt_of_cell? w _ hw23011_0)).trans hw23011_0), ((HB.out.cell (World.block_lt_of_cell? w _ hw23011_1)).trans hw23011_1), ((HB.out.cell (World.block_lt_of_cell? w _ hw23011_2)).trans hw23011_2)⟩ (fun hHeld => ?_)
                        clear hK K
                        refine norm_ (a' := ?_) ?_ ?_
                        rotate_left
                        ·show Act.put _ (some 7) _ = _
                         simp only [Act.put, List.setIfInBounds_toArray, List.set_cons_zero, List.set_cons_succ, i64_w, i32_w]
                         rfl
                        exact norm_ (by first | (simp only [putAll, Act.put, List.setIfInBounds_toArray, List.set_cons_zero, List.set_cons_succ]; done) | (simp only [putAll, Act.put, List.setIfInBounds_toArray, List.set_cons_zero, List.set_cons_succ]; rfl)) (hJ4_11 (gb23014) _ ⟨hHeld, (fR_ HO_3.out), (fb_ BK23014.out), GW23014.out, GE23014.out, be_⟩)
                       ·skip
                        refine box_step ?hg (N := 8) ?hd (cs := #[.int .i64 0, .int .i64 0]) (t := 28) ?hr ?_; (case hd => rfl); (case hg => rfl); (case hr => first | (go_simp; done) | (go_simp; rfl))
                        intro gb23015 hg w30 hbox hb
                        have n0_ := Aside0.mk (Kd.R_below (fR_ HO_3.out) hb)
                        have n1_ := Aside0.mk (bs_ hb)
                        have n2_ := Aside0.mk (hbox)
                        have n3_ := Aside0.mk ((by rw [hg]; exact bz_ : w.heap.size ≤ gb23015))
                        have n4_ := Aside0.mk ((by rw [hg]; exact bz_ : w.heap.size ≤ gb23015))
                        clear HO_3 HB
                        have HO_3 := n0_
                        have HB := n1_
                        have BK23015 := n2_
                        have GW23015 := n3_
                        have GE23015 := n4_
                        clear n0_ n1_ n2_ n3_ n4_ hb hbox hg
                        refine hK.out _ _ ⟨((HB.out.cell (World.block_lt_of_cell? w _ hw23008_0)).trans hw23008_0), ((HB.out.cell (World.block_lt_of_cell? w _ hw23008_1)).trans hw23008_1), ((HB.out.cell (World.block_lt_of_cell? w _ hw23008_2)).trans hw23008_2), ((HB.out.cell (World.block_lt_of_cell? w _ hw23011_0)).trans hw23011_0), ((HB.out.cell (World.block_lt_of_cell? w _ hw23011_1)).trans hw23011_1), ((HB.out.cell (World.block_lt_of_cell? w _ hw23011_2)).trans hw23011_2)⟩ (fun hHeld => ?_)
                        clear hK K
                        refine norm_ (a' := ?_) ?_ ?_
                        rotate_left
                        ·show Act.put _ (some 8) _ = _
                         simp only [Act.put, List.setIfInBounds_toArray, List.set_cons_zero, List.set_cons_succ, i64_w, i32_w]
                         rfl
                        exact norm_ (by first | (simp only [putAll, Act.put, List.setIfInBounds_toArray, List.set_cons_zero, List.set_cons_succ]; done) | (simp only [putAll, Act.put, List.setIfInBounds_toArray, List.set_cons_zero, List.set_cons_succ]; rfl)) (hJ4_12 (gb23015) _ ⟨hHeld, (fR_ HO_3.out), (fb_ BK23015.out), GW23015.out, GE23015.out, be_⟩)
                     ·skip
                      rintro ⟨gb23014, gb23015⟩ w30 ⟨hS_, h0_, h1_, h2_, h3_, h4_, h5_, h6_, h7_, h8_, h9_⟩
                      have n0_ : Aside0 (Kd.R (Kd.int .i64) 3 w30 w.heap.size (fun _ => True) v23003 x3_2) := ⟨h0_⟩
                      have n1_ : Aside0 (w30.heap[gb23014]? = some (.cells #[.int .i64 0, .int .i64 0] 28 (0, 0))) := ⟨h1_⟩
                      have n2_ : Aside0 (w30.heap[gb23015]? = some (.cells #[.int .i64 0, .int .i64 0] 28 (0, 0))) := ⟨h2_⟩
                      have n3_ : Aside0 (w.heap.size ≤ gb23014) := ⟨h3_⟩
                      have n4_ : Aside0 (w.heap.size ≤ gb23014) := ⟨h4_⟩
                      have n5_ : Aside0 (gb23015 ≠ gb23014) := ⟨h5_⟩
                      have n6_ : Aside0 (gb23014 ≠ gb23015) := ⟨h6_⟩
                      have n7_ : Aside0 (w.heap.size ≤ gb23015) := ⟨h7_⟩
                      have n8_ : Aside0 (w.heap.size ≤ gb23015) := ⟨h8_⟩
                      have n9_ : Aside0 (Below w.heap.size w w30) := ⟨h9_⟩
                      clear HO_3 HB h0_ h1_ h2_ h3_ h4_ h5_ h6_ h7_ h8_ h9_
                      have HO_3 := n0_
                      have BK23014 := n1_
                      have BK23015 := n2_
                      have GW23014 := n3_
                      have GE23014 := n4_
                      have NB23015_23014 := n5_
                      have NB23014_23015 := n6_
                      have GW23015 := n7_
                      have GE23015 := n8_
                      have HB := n9_
                      clear n0_ n1_ n2_ n3_ n4_ n5_ n6_ n7_ n8_ n9_
                      have hHeld : w30.cell? ad23008 = some (.int .i64 ((rd_T36 l0 0).f0)) ∧ w30.cell? ⟨ad23008.block, ad23008.off + 1, none⟩ = some (.int .i64 ((rd_T36 l0 0).f1.f0)) ∧ w30.cell? ⟨ad23008.block, ad23008.off + 2, none⟩ = some (.slice A23008_2 ((rd_T36 l0 0).f1.f1).length c23008_2) ∧ w30.cell? (ad23008.add (((ji21)).toNat * 3)) = some (.int .i64 ((rd_T36 l0 (ji21)).f0)) ∧ w30.cell? ⟨(ad23008.add (((ji21)).toNat * 3)).block, (ad23008.add (((ji21)).toNat * 3)).off + 1, none⟩ = some (.int .i64 ((rd_T36 l0 (ji21)).f1.f0)) ∧ w30.cell? ⟨(ad23008.add (((ji21)).toNat * 3)).block, (ad23008.add (((ji21)).toNat * 3)).off + 2, none⟩ = some (.slice A23011_2 ((rd_T36 l0 (ji21)).f1.f1).length c23011_2) := hS_
                      refine norm_ (a' := ?_) ?_ ?_
                      rotate_left
                      ·simp only [putAll, Act.put, List.setIfInBounds_toArray, List.set_cons_zero, List.set_cons_succ]
                       rfl
                      refine one_ (i := 4) (N := some 60) #[true, true, true, true, true, true, true, true, true, true, false, true, true, false, false] rfl rfl (one_of HT_.out (by kernel_rfl)) (by decide) (fun K hK => ?_)
                      refine goes_ Try.func14 (by kernel_rfl) rfl #[.agg #[.int .i64 ((rd_T36 l0 0).f1.f0), .slice A23008_2 ((rd_T36 l0 0).f1.f1).length c23008_2]] (by rfl) rfl rfl la_ ?_
                      with_reducible refine (shape_Center2.calls k2 ((rd_T36 l0 0).f1.f0) _ _ ((rd_T36 l0 0).f1.f1) t23009 t23010 _ ?side1 ?side2 A20.out).mono ?_
                      (case side1 => repeat (first | exact (Kd.C_below HR23008_2.out HB.out) | (with_reducible refine Kd.C_alloc ?_ _) | (with_reducible refine Kd.C_drewN ?_ _) | (with_reducible refine Kd.C_drew ?_)))
                      (case side2 => exact HC23008_2.out)
                      rintro e w31 ⟨rfl, hb⟩
                      refine ⟨_, rfl, ?_⟩
                      have n0_ := Aside0.mk (Kd.R_below (fR_ HO_3.out) hb)
                      have n1_ := Aside0.mk (blk_below (g := gb23014) (o := .cells #[.int .i64 0, .int .i64 0] 28 (0, 0)) (fb_ BK23014.out) hb)
                      have n2_ := Aside0.mk (blk_below (g := gb23015) (o := .cells #[.int .i64 0, .int .i64 0] 28 (0, 0)) (fb_ BK23015.out) hb)
                      have n3_ := Aside0.mk (bs_ hb)
                      clear HO_3 BK23014 BK23015 HB
                      have HO_3 := n0_
                      have BK23014 := n1_
                      have BK23015 := n2_
                      have HB := n3_
                      clear n0_ n1_ n2_ n3_
                      (try clear hb)
                      (try clear hb2)
                      (try clear hk)
                      (try clear hi)
                      refine hK.out _ _ ⟨((HB.out.cell (World.block_lt_of_cell? w _ hw23008_0)).trans hw23008_0), ((HB.out.cell (World.block_lt_of_cell? w _ hw23008_1)).trans hw23008_1), ((HB.out.cell (World.block_lt_of_cell? w _ hw23008_2)).trans hw23008_2), ((HB.out.cell (World.block_lt_of_cell? w _ hw23011_0)).trans hw23011_0), ((HB.out.cell (World.block_lt_of_cell? w _ hw23011_1)).trans hw23011_1), ((HB.out.cell (World.block_lt_of_cell? w _ hw23011_2)).trans hw23011_2)⟩ (fun hHeld => ?_)
                      clear hK K
                      refine norm_ (a' := ?_) ?_ ?_
                      rotate_left
                      ·show Act.put _ (some 60) _ = _
                       simp only [Act.put, List.setIfInBounds_toArray, List.set_cons_zero, List.set_cons_succ, i64_w, i32_w]
                       rfl
                      exact norm_ (by first | (simp only [putAll, Act.put, List.setIfInBounds_toArray, List.set_cons_zero, List.set_cons_succ]; done) | (simp only [putAll, Act.put, List.setIfInBounds_toArray, List.set_cons_zero, List.set_cons_succ]; rfl)) (hJ4_11_12 (gb23014, gb23015) _ ⟨hHeld, (fR_ HO_3.out), (fb_ BK23014.out), (fb_ BK23015.out), GW23014.out, GE23014.out, NB23015_23014.out, NB23014_23015.out, GW23015.out, GE23015.out, be_⟩)
                    ·skip
                     rintro gb23015 w30 ⟨hS_, h0_, h1_, h2_, h3_, h4_⟩
                     have n0_ : Aside0 (Kd.R (Kd.int .i64) 3 w30 w.heap.size (fun _ => True) v23003 x3_2) := ⟨h0_⟩
                     have n1_ : Aside0 (w30.heap[gb23015]? = some (.cells #[.int .i64 0, .int .i64 0] 28 (0, 0))) := ⟨h1_⟩
                     have n2_ : Aside0 (w.heap.size ≤ gb23015) := ⟨h2_⟩
                     have n3_ : Aside0 (w.heap.size ≤ gb23015) := ⟨h3_⟩
                     have n4_ : Aside0 (Below w.heap.size w w30) := ⟨h4_⟩
                     clear HO_3 HB h0_ h1_ h2_ h3_ h4_
                     have HO_3 := n0_
                     have BK23015 := n1_
                     have GW23015 := n2_
                     have GE23015 := n3_
                     have HB := n4_
                     clear n0_ n1_ n2_ n3_ n4_
                     have hHeld : w30.cell? ad23008 = some (.int .i64 ((rd_T36 l0 0).f0)) ∧ w30.cell? ⟨ad23008.block, ad23008.off + 1, none⟩ = some (.int .i64 ((rd_T36 l0 0).f1.f0)) ∧ w30.cell? ⟨ad23008.block, ad23008.off + 2, none⟩ = some (.slice A23008_2 ((rd_T36 l0 0).f1.f1).length c23008_2) ∧ w30.cell? (ad23008.add (((ji21)).toNat * 3)) = some (.int .i64 ((rd_T36 l0 (ji21)).f0)) ∧ w30.cell? ⟨(ad23008.add (((ji21)).toNat * 3)).block, (ad23008.add (((ji21)).toNat * 3)).off + 1, none⟩ = some (.int .i64 ((rd_T36 l0 (ji21)).f1.f0)) ∧ w30.cell? ⟨(ad23008.add (((ji21)).toNat * 3)).block, (ad23008.add (((ji21)).toNat * 3)).off + 2, none⟩ = some (.slice A23011_2 ((rd_T36 l0 (ji21)).f1.f1).length c23011_2) := hS_
                     refine norm_ (a' := ?_) ?_ ?_
                     rotate_left
                     ·simp only [putAll, Act.put, List.setIfInBounds_toArray, List.set_cons_zero, List.set_cons_succ]
                      rfl
                     refine two_ (i := 10) (j := 11) (Ni := some 66) (Nj := some 7) #[true, true, true, true, true, true, true, true, true, true, true, false, true, false, false] #[true, true, true, true, true, true, true, true, true, true, false, true, true, false, false] rfl rfl rfl rfl (two_of HT_.out (by kernel_rfl)) (by decide) (by decide) (fun K hK => ?_) (fun K hK => ?_)
                     ·skip
                      refine goes_ Try.func14 (by kernel_rfl) rfl #[.agg #[.int .i64 ((rd_T36 l0 (ji21)).f1.f0), .slice A23011_2 ((rd_T36 l0 (ji21)).f1.f1).length c23011_2]] (by rfl) rfl rfl (by (try simp only [List.map_toArray, List.map_cons, List.map_nil]); first | done | (simp only [hji21]; rfl) | rfl | (simp only [List.length_drop, List.length_take]; rfl)) ?_
                      with_reducible refine (shape_Center2.calls k2 ((rd_T36 l0 (ji21)).f1.f0) _ _ ((rd_T36 l0 (ji21)).f1.f1) t23012 t23013 _ ?side1 ?side2 A24.out).mono ?_
                      (case side1 => repeat (first | exact (Kd.C_below HR23011_2.out HB.out) | (with_reducible refine Kd.C_alloc ?_ _) | (with_reducible refine Kd.C_drewN ?_ _) | (with_reducible refine Kd.C_drew ?_)))
                      (case side2 => exact HC23011_2.out)
                      rintro e w31 ⟨rfl, hb⟩
                      refine ⟨_, rfl, ?_⟩
                      have n0_ := Aside0.mk (Kd.R_below (fR_ HO_3.out) hb)
                      have n1_ := Aside0.mk (blk_below (g := gb23015) (o := .cells #[.int .i64 0, .int .i64 0] 28 (0, 0)) (fb_ BK23015.out) hb)
                      have n2_ := Aside0.mk (bs_ hb)
                      clear HO_3 BK23015 HB
                      have HO_3 := n0_
                      have BK23015 := n1_
                      have HB := n2_
                      clear n0_ n1_ n2_
                      (try clear hb)
                      (try clear hb2)
                      (try clear hk)
                      (try clear hi)
                      refine hK.out _ _ ⟨((HB.out.cell (World.block_lt_of_cell? w _ hw23008_0)).trans hw23008_0), ((HB.out.cell (World.block_lt_of_cell? w _ hw23008_1)).trans hw23008_1), ((HB.out.cell (World.block_lt_of_cell? w _ hw23008_2)).trans hw23008_2), ((HB.out.cell (World.block_lt_of_cell? w _ hw23011_0)).trans hw23011_0), ((HB.out.cell (World.block_lt_of_cell? w _ hw23011_1)).trans hw23011_1), ((HB.out.cell (World.block_lt_of_cell? w _ hw23011_2)).trans hw23011_2)⟩ (fun hHeld => ?_)
                      clear hK K
                      refine norm_ (a' := ?_) ?_ ?_
                      rotate_left
                      ·show Act.put _ (some 66) _ = _
                       simp only [Act.put, List.setIfInBounds_toArray, List.set_cons_zero, List.set_cons_succ, i64_w, i32_w]
                       rfl
                      exact norm_ (by first | (simp only [putAll, Act.put, List.setIfInBounds_toArray, List.set_cons_zero, List.set_cons_succ]; done) | (simp only [putAll, Act.put, List.setIfInBounds_toArray, List.set_cons_zero, List.set_cons_succ]; rfl)) (hJ4_10_12 (gb23015) _ ⟨hHeld, (fR_ HO_3.out), (fb_ BK23015.out), GW23015.out, GE23015.out, be_⟩)
                     ·skip
                      refine box_step ?hg (N := 7) ?hd (cs := #[.int .i64 0, .int .i64 0]) (t := 28) ?hr ?_; (case hd => rfl); (case hg => rfl); (case hr => first | (go_simp; done) | (go_simp; rfl))
                      intro gb23014 hg w31 hbox hb
                      have n0_ := Aside0.mk (Kd.R_below (fR_ HO_3.out) hb)
                      have n1_ := Aside0.mk (blk_below (g := gb23015) (o := .cells #[.int .i64 0, .int .i64 0] 28 (0, 0)) (fb_ BK23015.out) hb)
                      have n2_ := Aside0.mk (bs_ hb)
                      have n3_ := Aside0.mk (hbox)
                      have n4_ := Aside0.mk ((by rw [hg]; exact bz_ : w.heap.size ≤ gb23014))
                      have n5_ := Aside0.mk ((by rw [hg]; exact bz_ : w.heap.size ≤ gb23014))
                      have n6_ := Aside0.mk ((by rw [hg]; exact Nat.ne_of_lt (blk_lt (g := gb23015) (o := .cells #[.int .i64 0, .int .i64 0] 28 (0, 0)) (fb_ BK23015.out)) : gb23015 ≠ gb23014))
                      have n7_ := Aside0.mk ((by rw [hg]; exact Nat.ne_of_gt (blk_lt (g := gb23015) (o := .cells #[.int .i64 0, .int .i64 0] 28 (0, 0)) (fb_ BK23015.out)) : gb23014 ≠ gb23015))
                      clear HO_3 BK23015 HB
                      have HO_3 := n0_
                      have BK23015 := n1_
                      have HB := n2_
                      have BK23014 := n3_
                      have GW23014 := n4_
                      have GE23014 := n5_
                      have NB23015_23014 := n6_
                      have NB23014_23015 := n7_
                      clear n0_ n1_ n2_ n3_ n4_ n5_ n6_ n7_ hb hbox hg
                      refine hK.out _ _ ⟨((HB.out.cell (World.block_lt_of_cell? w _ hw23008_0)).trans hw23008_0), ((HB.out.cell (World.block_lt_of_cell? w _ hw23008_1)).trans hw23008_1), ((HB.out.cell (World.block_lt_of_cell? w _ hw23008_2)).trans hw23008_2), ((HB.out.cell (World.block_lt_of_cell? w _ hw23011_0)).trans hw23011_0), ((HB.out.cell (World.block_lt_of_cell? w _ hw23011_1)).trans hw23011_1), ((HB.out.cell (World.block_lt_of_cell? w _ hw23011_2)).trans hw23011_2)⟩ (fun hHeld => ?_)
                      clear hK K
                      refine norm_ (a' := ?_) ?_ ?_
                      rotate_left
                      ·show Act.put _ (some 7) _ = _
                       simp only [Act.put, List.setIfInBounds_toArray, List.set_cons_zero, List.set_cons_succ, i64_w, i32_w]
                       rfl
                      exact norm_ (by first | (simp only [putAll, Act.put, List.setIfInBounds_toArray, List.set_cons_zero, List.set_cons_succ]; done) | (simp only [putAll, Act.put, List.setIfInBounds_toArray, List.set_cons_zero, List.set_cons_succ]; rfl)) (hJ4_11_12 (gb23014, gb23015) _ ⟨hHeld, (fR_ HO_3.out), (fb_ BK23014.out), (fb_ BK23015.out), GW23014.out, GE23014.out, NB23015_23014.out, NB23014_23015.out, GW23015.out, GE23015.out, be_⟩)
                   ·skip
                    rintro gb23014 w30 ⟨hS_, h0_, h1_, h2_, h3_, h4_⟩
                    have n0_ : Aside0 (Kd.R (Kd.int .i64) 3 w30 w.heap.size (fun _ => True) v23003 x3_2) := ⟨h0_⟩
                    have n1_ : Aside0 (w30.heap[gb23014]? = some (.cells #[.int .i64 0, .int .i64 0] 28 (0, 0))) := ⟨h1_⟩
                    have n2_ : Aside0 (w.heap.size ≤ gb23014) := ⟨h2_⟩
                    have n3_ : Aside0 (w.heap.size ≤ gb23014) := ⟨h3_⟩
                    have n4_ : Aside0 (Below w.heap.size w w30) := ⟨h4_⟩
                    clear HO_3 HB h0_ h1_ h2_ h3_ h4_
                    have HO_3 := n0_
                    have BK23014 := n1_
                    have GW23014 := n2_
                    have GE23014 := n3_
                    have HB := n4_
                    clear n0_ n1_ n2_ n3_ n4_
                    have hHeld : w30.cell? ad23008 = some (.int .i64 ((rd_T36 l0 0).f0)) ∧ w30.cell? ⟨ad23008.block, ad23008.off + 1, none⟩ = some (.int .i64 ((rd_T36 l0 0).f1.f0)) ∧ w30.cell? ⟨ad23008.block, ad23008.off + 2, none⟩ = some (.slice A23008_2 ((rd_T36 l0 0).f1.f1).length c23008_2) ∧ w30.cell? (ad23008.add (((ji21)).toNat * 3)) = some (.int .i64 ((rd_T36 l0 (ji21)).f0)) ∧ w30.cell? ⟨(ad23008.add (((ji21)).toNat * 3)).block, (ad23008.add (((ji21)).toNat * 3)).off + 1, none⟩ = some (.int .i64 ((rd_T36 l0 (ji21)).f1.f0)) ∧ w30.cell? ⟨(ad23008.add (((ji21)).toNat * 3)).block, (ad23008.add (((ji21)).toNat * 3)).off + 2, none⟩ = some (.slice A23011_2 ((rd_T36 l0 (ji21)).f1.f1).length c23011_2) := hS_
                    refine norm_ (a' := ?_) ?_ ?_
                    rotate_left
                    ·simp only [putAll, Act.put, List.setIfInBounds_toArray, List.set_cons_zero, List.set_cons_succ]
                     rfl
                    refine two_ (i := 10) (j := 12) (Ni := some 66) (Nj := some 8) #[true, true, true, true, true, true, true, true, true, true, true, true, false, false, false] #[true, true, true, true, true, true, true, true, true, true, false, true, true, false, false] rfl rfl rfl rfl (two_of HT_.out (by kernel_rfl)) (by decide) (by decide) (fun K hK => ?_) (fun K hK => ?_)
                    ·skip
                     refine goes_ Try.func14 (by kernel_rfl) rfl #[.agg #[.int .i64 ((rd_T36 l0 (ji21)).f1.f0), .slice A23011_2 ((rd_T36 l0 (ji21)).f1.f1).length c23011_2]] (by rfl) rfl rfl (by (try simp only [List.map_toArray, List.map_cons, List.map_nil]); first | done | (simp only [hji21]; rfl) | rfl | (simp only [List.length_drop, List.length_take]; rfl)) ?_
                     with_reducible refine (shape_Center2.calls k2 ((rd_T36 l0 (ji21)).f1.f0) _ _ ((rd_T36 l0 (ji21)).f1.f1) t23012 t23013 _ ?side1 ?side2 A24.out).mono ?_
                     (case side1 => repeat (first | exact (Kd.C_below HR23011_2.out HB.out) | (with_reducible refine Kd.C_alloc ?_ _) | (with_reducible refine Kd.C_drewN ?_ _) | (with_reducible refine Kd.C_drew ?_)))
                     (case side2 => exact HC23011_2.out)
                     rintro e w31 ⟨rfl, hb⟩
                     refine ⟨_, rfl, ?_⟩
                     have n0_ := Aside0.mk (Kd.R_below (fR_ HO_3.out) hb)
                     have n1_ := Aside0.mk (blk_below (g := gb23014) (o := .cells #[.int .i64 0, .int .i64 0] 28 (0, 0)) (fb_ BK23014.out) hb)
                     have n2_ := Aside0.mk (bs_ hb)
                     clear HO_3 BK23014 HB
                     have HO_3 := n0_
                     have BK23014 := n1_
                     have HB := n2_
                     clear n0_ n1_ n2_
                     (try clear hb)
                     (try clear hb2)
                     (try clear hk)
                     (try clear hi)
                     refine hK.out _ _ ⟨((HB.out.cell (World.block_lt_of_cell? w _ hw23008_0)).trans hw23008_0), ((HB.out.cell (World.block_lt_of_cell? w _ hw23008_1)).trans hw23008_1), ((HB.out.cell (World.block_lt_of_cell? w _ hw23008_2)).trans hw23008_2), ((HB.out.cell (World.block_lt_of_cell? w _ hw23011_0)).trans hw23011_0), ((HB.out.cell (World.block_lt_of_cell? w _ hw23011_1)).trans hw23011_1), ((HB.out.cell (World.block_lt_of_cell? w _ hw23011_2)).trans hw23011_2)⟩ (fun hHeld => ?_)
                     clear hK K
                     refine norm_ (a' := ?_) ?_ ?_
                     rotate_left
                     ·show Act.put _ (some 66) _ = _
                      simp only [Act.put, List.setIfInBounds_toArray, List.set_cons_zero, List.set_cons_succ, i64_w, i32_w]
                      rfl
                     exact norm_ (by first | (simp only [putAll, Act.put, List.setIfInBounds_toArray, List.set_cons_zero, List.set_cons_succ]; done) | (simp only [putAll, Act.put, List.setIfInBounds_toArray, List.set_cons_zero, List.set_cons_succ]; rfl)) (hJ4_10_11 (gb23014) _ ⟨hHeld, (fR_ HO_3.out), (fb_ BK23014.out), GW23014.out, GE23014.out, be_⟩)
                    ·skip
                     refine box_step ?hg (N := 8) ?hd (cs := #[.int .i64 0, .int .i64 0]) (t := 28) ?hr ?_; (case hd => rfl); (case hg => rfl); (case hr => first | (go_simp; done) | (go_simp; rfl))
                     intro gb23015 hg w31 hbox hb
                     have n0_ := Aside0.mk (Kd.R_below (fR_ HO_3.out) hb)
                     have n1_ := Aside0.mk (blk_below (g := gb23014) (o := .cells #[.int .i64 0, .int .i64 0] 28 (0, 0)) (fb_ BK23014.out) hb)
                     have n2_ := Aside0.mk (bs_ hb)
                     have n3_ := Aside0.mk (hbox)
                     have n4_ := Aside0.mk ((by rw [hg]; exact bz_ : w.heap.size ≤ gb23015))
                     have n5_ := Aside0.mk ((by rw [hg]; exact bz_ : w.heap.size ≤ gb23015))
                     have n6_ := Aside0.mk ((by rw [hg]; exact Nat.ne_of_lt (blk_lt (g := gb23014) (o := .cells #[.int .i64 0, .int .i64 0] 28 (0, 0)) (fb_ BK23014.out)) : gb23014 ≠ gb23015))
                     have n7_ := Aside0.mk ((by rw [hg]; exact Nat.ne_of_gt (blk_lt (g := gb23014) (o := .cells #[.int .i64 0, .int .i64 0] 28 (0, 0)) (fb_ BK23014.out)) : gb23015 ≠ gb23014))
                     clear HO_3 BK23014 HB
                     have HO_3 := n0_
                     have BK23014 := n1_
                     have HB := n2_
                     have BK23015 := n3_
                     have GW23015 := n4_
                     have GE23015 := n5_
                     have NB23014_23015 := n6_
                     have NB23015_23014 := n7_
                     clear n0_ n1_ n2_ n3_ n4_ n5_ n6_ n7_ hb hbox hg
                     refine hK.out _ _ ⟨((HB.out.cell (World.block_lt_of_cell? w _ hw23008_0)).trans hw23008_0), ((HB.out.cell (World.block_lt_of_cell? w _ hw23008_1)).trans hw23008_1), ((HB.out.cell (World.block_lt_of_cell? w _ hw23008_2)).trans hw23008_2), ((HB.out.cell (World.block_lt_of_cell? w _ hw23011_0)).trans hw23011_0), ((HB.out.cell (World.block_lt_of_cell? w _ hw23011_1)).trans hw23011_1), ((HB.out.cell (World.block_lt_of_cell? w _ hw23011_2)).trans hw23011_2)⟩ (fun hHeld => ?_)
                     clear hK K
                     refine norm_ (a' := ?_) ?_ ?_
                     rotate_left
                     ·show Act.put _ (some 8) _ = _
                      simp only [Act.put, List.setIfInBounds_toArray, List.set_cons_zero, List.set_cons_succ, i64_w, i32_w]
                      rfl
                     exact norm_ (by first | (simp only [putAll, Act.put, List.setIfInBounds_toArray, List.set_cons_zero, List.set_cons_succ]; done) | (simp only [putAll, Act.put, List.setIfInBounds_toArray, List.set_cons_zero, List.set_cons_succ]; rfl)) (hJ4_11_12 (gb23014, gb23015) _ ⟨hHeld, (fR_ HO_3.out), (fb_ BK23014.out), (fb_ BK23015.out), GW23014.out, GE23014.out, NB23015_23014.out, NB23014_23015.out, GW23015.out, GE23015.out, be_⟩)
                  ·skip
                   rintro _ w30 ⟨hS_, h0_, h1_⟩
                   have n0_ : Aside0 (Kd.R (Kd.int .i64) 3 w30 w.heap.size (fun _ => True) v23003 x3_2) := ⟨h0_⟩
                   have n1_ : Aside0 (Below w.heap.size w w30) := ⟨h1_⟩
                   clear HO_3 HB h0_ h1_
                   have HO_3 := n0_
                   have HB := n1_
                   clear n0_ n1_
                   have hHeld : w30.cell? ad23008 = some (.int .i64 ((rd_T36 l0 0).f0)) ∧ w30.cell? ⟨ad23008.block, ad23008.off + 1, none⟩ = some (.int .i64 ((rd_T36 l0 0).f1.f0)) ∧ w30.cell? ⟨ad23008.block, ad23008.off + 2, none⟩ = some (.slice A23008_2 ((rd_T36 l0 0).f1.f1).length c23008_2) ∧ w30.cell? (ad23008.add (((ji21)).toNat * 3)) = some (.int .i64 ((rd_T36 l0 (ji21)).f0)) ∧ w30.cell? ⟨(ad23008.add (((ji21)).toNat * 3)).block, (ad23008.add (((ji21)).toNat * 3)).off + 1, none⟩ = some (.int .i64 ((rd_T36 l0 (ji21)).f1.f0)) ∧ w30.cell? ⟨(ad23008.add (((ji21)).toNat * 3)).block, (ad23008.add (((ji21)).toNat * 3)).off + 2, none⟩ = some (.slice A23011_2 ((rd_T36 l0 (ji21)).f1.f1).length c23011_2) := hS_
                   refine norm_ (a' := ?_) ?_ ?_
                   rotate_left
                   ·simp only [putAll, Act.put, List.setIfInBounds_toArray, List.set_cons_zero, List.set_cons_succ]
                    rfl
                   refine two_ (i := 11) (j := 12) (Ni := some 7) (Nj := some 8) #[true, true, true, true, true, true, true, true, true, true, true, true, false, false, false] #[true, true, true, true, true, true, true, true, true, true, true, false, true, false, false] rfl rfl rfl rfl (two_of HT_.out (by kernel_rfl)) (by decide) (by decide) (fun K hK => ?_) (fun K hK => ?_)
                   ·skip
                    refine box_step ?hg (N := 7) ?hd (cs := #[.int .i64 0, .int .i64 0]) (t := 28) ?hr ?_; (case hd => rfl); (case hg => rfl); (case hr => first | (go_simp; done) | (go_simp; rfl))
                    intro gb23014 hg w31 hbox hb
                    have n0_ := Aside0.mk (Kd.R_below (fR_ HO_3.out) hb)
                    have n1_ := Aside0.mk (bs_ hb)
                    have n2_ := Aside0.mk (hbox)
                    have n3_ := Aside0.mk ((by rw [hg]; exact bz_ : w.heap.size ≤ gb23014))
                    have n4_ := Aside0.mk ((by rw [hg]; exact bz_ : w.heap.size ≤ gb23014))
                    clear HO_3 HB
                    have HO_3 := n0_
                    have HB := n1_
                    have BK23014 := n2_
                    have GW23014 := n3_
                    have GE23014 := n4_
                    clear n0_ n1_ n2_ n3_ n4_ hb hbox hg
                    refine hK.out _ _ ⟨((HB.out.cell (World.block_lt_of_cell? w _ hw23008_0)).trans hw23008_0), ((HB.out.cell (World.block_lt_of_cell? w _ hw23008_1)).trans hw23008_1), ((HB.out.cell (World.block_lt_of_cell? w _ hw23008_2)).trans hw23008_2), ((HB.out.cell (World.block_lt_of_cell? w _ hw23011_0)).trans hw23011_0), ((HB.out.cell (World.block_lt_of_cell? w _ hw23011_1)).trans hw23011_1), ((HB.out.cell (World.block_lt_of_cell? w _ hw23011_2)).trans hw23011_2)⟩ (fun hHeld => ?_)
                    clear hK K
                    refine norm_ (a' := ?_) ?_ ?_
                    rotate_left
                    ·show Act.put _ (some 7) _ = _
                     simp only [Act.put, List.setIfInBounds_toArray, List.set_cons_zero, List.set_cons_succ, i64_w, i32_w]
                     rfl
                    exact norm_ (by first | (simp only [putAll, Act.put, List.setIfInBounds_toArray, List.set_cons_zero, List.set_cons_succ]; done) | (simp only [putAll, Act.put, List.setIfInBounds_toArray, List.set_cons_zero, List.set_cons_succ]; rfl)) (hJ4_10_11 (gb23014) _ ⟨hHeld, (fR_ HO_3.out), (fb_ BK23014.out), GW23014.out, GE23014.out, be_⟩)
                   ·skip
                    refine box_step ?hg (N := 8) ?hd (cs := #[.int .i64 0, .int .i64 0]) (t := 28) ?hr ?_; (case hd => rfl); (case hg => rfl); (case hr => first | (go_simp; done) | (go_simp; rfl))
                    intro gb23015 hg w31 hbox hb
                    have n0_ := Aside0.mk (Kd.R_below (fR_ HO_3.out) hb)
                    have n1_ := Aside0.mk (bs_ hb)
                    have n2_ := Aside0.mk (hbox)
                    have n3_ := Aside0.mk ((by rw [hg]; exact bz_ : w.heap.size ≤ gb23015))
                    have n4_ := Aside0.mk ((by rw [hg]; exact bz_ : w.heap.size ≤ gb23015))
                    clear HO_3 HB
                    have HO_3 := n0_
                    have HB := n1_
                    have BK23015 := n2_
                    have GW23015 := n3_
                    have GE23015 := n4_
                    clear n0_ n1_ n2_ n3_ n4_ hb hbox hg
                    refine hK.out _ _ ⟨((HB.out.cell (World.block_lt_of_cell? w _ hw23008_0)).trans hw23008_0), ((HB.out.cell (World.block_lt_of_cell? w _ hw23008_1)).trans hw23008_1), ((HB.out.cell (World.block_lt_of_cell? w _ hw23008_2)).trans hw23008_2), ((HB.out.cell (World.block_lt_of_cell? w _ hw23011_0)).trans hw23011_0), ((HB.out.cell (World.block_lt_of_cell? w _ hw23011_1)).trans hw23011_1), ((HB.out.cell (World.block_lt_of_cell? w _ hw23011_2)).trans hw23011_2)⟩ (fun hHeld => ?_)
                    clear hK K
                    refine norm_ (a' := ?_) ?_ ?_
                    rotate_left
                    ·show Act.put _ (some 8) _ = _
                     simp only [Act.put, List.setIfInBounds_toArray, List.set_cons_zero, List.set_cons_succ, i64_w, i32_w]
                     rfl
                    exact norm_ (by first | (simp only [putAll, Act.put, List.setIfInBounds_toArray, List.set_cons_zero, List.set_cons_succ]; done) | (simp only [putAll, Act.put, List.setIfInBounds_toArray, List.set_cons_zero, List.set_cons_succ]; rfl)) (hJ4_10_12 (gb23015) _ ⟨hHeld, (fR_ HO_3.out), (fb_ BK23015.out), GW23015.out, GE23015.out, be_⟩)
                 ·skip
                  rintro ⟨gb23014, gb23015⟩ w31 ⟨hS_, h0_, h1_, h2_, h3_, h4_, h5_, h6_, h7_, h8_, h9_⟩
                  have n0_ : Aside0 (Kd.R (Kd.int .i64) 3 w31 w.heap.size (fun _ => True) v23003 x3_2) := ⟨h0_⟩
                  have n1_ : Aside0 (w31.heap[gb23014]? = some (.cells #[.int .i64 0, .int .i64 0] 28 (0, 0))) := ⟨h1_⟩
                  have n2_ : Aside0 (w31.heap[gb23015]? = some (.cells #[.int .i64 0, .int .i64 0] 28 (0, 0))) := ⟨h2_⟩
                  have n3_ : Aside0 (w.heap.size ≤ gb23014) := ⟨h3_⟩
                  have n4_ : Aside0 (w.heap.size ≤ gb23014) := ⟨h4_⟩
                  have n5_ : Aside0 (gb23015 ≠ gb23014) := ⟨h5_⟩
                  have n6_ : Aside0 (gb23014 ≠ gb23015) := ⟨h6_⟩
                  have n7_ : Aside0 (w.heap.size ≤ gb23015) := ⟨h7_⟩
                  have n8_ : Aside0 (w.heap.size ≤ gb23015) := ⟨h8_⟩
                  have n9_ : Aside0 (Below w.heap.size w w31) := ⟨h9_⟩
                  clear HO_3 HB h0_ h1_ h2_ h3_ h4_ h5_ h6_ h7_ h8_ h9_
                  have HO_3 := n0_
                  have BK23014 := n1_
                  have BK23015 := n2_
                  have GW23014 := n3_
                  have GE23014 := n4_
                  have NB23015_23014 := n5_
                  have NB23014_23015 := n6_
                  have GW23015 := n7_
                  have GE23015 := n8_
                  have HB := n9_
                  clear n0_ n1_ n2_ n3_ n4_ n5_ n6_ n7_ n8_ n9_
                  have hHeld : w31.cell? ad23008 = some (.int .i64 ((rd_T36 l0 0).f0)) ∧ w31.cell? ⟨ad23008.block, ad23008.off + 1, none⟩ = some (.int .i64 ((rd_T36 l0 0).f1.f0)) ∧ w31.cell? ⟨ad23008.block, ad23008.off + 2, none⟩ = some (.slice A23008_2 ((rd_T36 l0 0).f1.f1).length c23008_2) ∧ w31.cell? (ad23008.add (((ji21)).toNat * 3)) = some (.int .i64 ((rd_T36 l0 (ji21)).f0)) ∧ w31.cell? ⟨(ad23008.add (((ji21)).toNat * 3)).block, (ad23008.add (((ji21)).toNat * 3)).off + 1, none⟩ = some (.int .i64 ((rd_T36 l0 (ji21)).f1.f0)) ∧ w31.cell? ⟨(ad23008.add (((ji21)).toNat * 3)).block, (ad23008.add (((ji21)).toNat * 3)).off + 2, none⟩ = some (.slice A23011_2 ((rd_T36 l0 (ji21)).f1.f1).length c23011_2) := hS_
                  refine norm_ (a' := ?_) ?_ ?_
                  rotate_left
                  ·simp only [putAll, Act.put, List.setIfInBounds_toArray, List.set_cons_zero, List.set_cons_succ]
                   rfl
                  refine one_ (i := 10) (N := some 66) #[true, true, true, true, true, true, true, true, true, true, true, true, true, false, false] rfl rfl (one_of HT_.out (by kernel_rfl)) (by decide) (fun K hK => ?_)
                  refine goes_ Try.func14 (by kernel_rfl) rfl #[.agg #[.int .i64 ((rd_T36 l0 (ji21)).f1.f0), .slice A23011_2 ((rd_T36 l0 (ji21)).f1.f1).length c23011_2]] (by rfl) rfl rfl (by (try simp only [List.map_toArray, List.map_cons, List.map_nil]); first | done | (simp only [hji21]; rfl) | rfl | (simp only [List.length_drop, List.length_take]; rfl)) ?_
                  with_reducible refine (shape_Center2.calls k2 ((rd_T36 l0 (ji21)).f1.f0) _ _ ((rd_T36 l0 (ji21)).f1.f1) t23012 t23013 _ ?side1 ?side2 A24.out).mono ?_
                  (case side1 => repeat (first | exact (Kd.C_below HR23011_2.out HB.out) | (with_reducible refine Kd.C_alloc ?_ _) | (with_reducible refine Kd.C_drewN ?_ _) | (with_reducible refine Kd.C_drew ?_)))
                  (case side2 => exact HC23011_2.out)
                  rintro e w32 ⟨rfl, hb⟩
                  refine ⟨_, rfl, ?_⟩
                  have n0_ := Aside0.mk (Kd.R_below (fR_ HO_3.out) hb)
                  have n1_ := Aside0.mk (blk_below (g := gb23014) (o := .cells #[.int .i64 0, .int .i64 0] 28 (0, 0)) (fb_ BK23014.out) hb)
                  have n2_ := Aside0.mk (blk_below (g := gb23015) (o := .cells #[.int .i64 0, .int .i64 0] 28 (0, 0)) (fb_ BK23015.out) hb)
                  have n3_ := Aside0.mk (bs_ hb)
                  clear HO_3 BK23014 BK23015 HB
                  have HO_3 := n0_
                  have BK23014 := n1_
                  have BK23015 := n2_
                  have HB := n3_
                  clear n0_ n1_ n2_ n3_
                  (try clear hb)
                  (try clear hb2)
                  (try clear hk)
                  (try clear hi)
                  refine hK.out _ _ ⟨((HB.out.cell (World.block_lt_of_cell? w _ hw23008_0)).trans hw23008_0), ((HB.out.cell (World.block_lt_of_cell? w _ hw23008_1)).trans hw23008_1), ((HB.out.cell (World.block_lt_of_cell? w _ hw23008_2)).trans hw23008_2), ((HB.out.cell (World.block_lt_of_cell? w _ hw23011_0)).trans hw23011_0), ((HB.out.cell (World.block_lt_of_cell? w _ hw23011_1)).trans hw23011_1), ((HB.out.cell (World.block_lt_of_cell? w _ hw23011_2)).trans hw23011_2)⟩ (fun hHeld => ?_)
                  clear hK K
                  refine norm_ (a' := ?_) ?_ ?_
                  rotate_left
                  ·show Act.put _ (some 66) _ = _
                   simp only [Act.put, List.setIfInBounds_toArray, List.set_cons_zero, List.set_cons_succ, i64_w, i32_w]
                   rfl
                  exact norm_ (by first | (simp only [putAll, Act.put, List.setIfInBounds_toArray, List.set_cons_zero, List.set_cons_succ]; done) | (simp only [putAll, Act.put, List.setIfInBounds_toArray, List.set_cons_zero, List.set_cons_succ]; rfl)) (hJ4_10_11_12 (gb23014, gb23015) _ ⟨hHeld, (fR_ HO_3.out), (fb_ BK23014.out), (fb_ BK23015.out), GW23014.out, GE23014.out, NB23015_23014.out, NB23014_23015.out, GW23015.out, GE23015.out, be_⟩)
                ·skip
                 rintro gb23015 w31 ⟨hS_, h0_, h1_, h2_, h3_, h4_⟩
                 have n0_ : Aside0 (Kd.R (Kd.int .i64) 3 w31 w.heap.size (fun _ => True) v23003 x3_2) := ⟨h0_⟩
                 have n1_ : Aside0 (w31.heap[gb23015]? = some (.cells #[.int .i64 0, .int .i64 0] 28 (0, 0))) := ⟨h1_⟩
                 have n2_ : Aside0 (w.heap.size ≤ gb23015) := ⟨h2_⟩
                 have n3_ : Aside0 (w.heap.size ≤ gb23015) := ⟨h3_⟩
                 have n4_ : Aside0 (Below w.heap.size w w31) := ⟨h4_⟩
                 clear HO_3 HB h0_ h1_ h2_ h3_ h4_
                 have HO_3 := n0_
                 have BK23015 := n1_
                 have GW23015 := n2_
                 have GE23015 := n3_
                 have HB := n4_
                 clear n0_ n1_ n2_ n3_ n4_
                 have hHeld : w31.cell? ad23008 = some (.int .i64 ((rd_T36 l0 0).f0)) ∧ w31.cell? ⟨ad23008.block, ad23008.off + 1, none⟩ = some (.int .i64 ((rd_T36 l0 0).f1.f0)) ∧ w31.cell? ⟨ad23008.block, ad23008.off + 2, none⟩ = some (.slice A23008_2 ((rd_T36 l0 0).f1.f1).length c23008_2) ∧ w31.cell? (ad23008.add (((ji21)).toNat * 3)) = some (.int .i64 ((rd_T36 l0 (ji21)).f0)) ∧ w31.cell? ⟨(ad23008.add (((ji21)).toNat * 3)).block, (ad23008.add (((ji21)).toNat * 3)).off + 1, none⟩ = some (.int .i64 ((rd_T36 l0 (ji21)).f1.f0)) ∧ w31.cell? ⟨(ad23008.add (((ji21)).toNat * 3)).block, (ad23008.add (((ji21)).toNat * 3)).off + 2, none⟩ = some (.slice A23011_2 ((rd_T36 l0 (ji21)).f1.f1).length c23011_2) := hS_
                 refine norm_ (a' := ?_) ?_ ?_
                 rotate_left
                 ·simp only [putAll, Act.put, List.setIfInBounds_toArray, List.set_cons_zero, List.set_cons_succ]
                  rfl
                 refine one_ (i := 11) (N := some 7) #[true, true, true, true, true, true, true, true, true, true, true, true, true, false, false] rfl rfl (one_of HT_.out (by kernel_rfl)) (by decide) (fun K hK => ?_)
                 refine box_step ?hg (N := 7) ?hd (cs := #[.int .i64 0, .int .i64 0]) (t := 28) ?hr ?_; (case hd => rfl); (case hg => rfl); (case hr => first | (go_simp; done) | (go_simp; rfl))
                 intro gb23014 hg w32 hbox hb
                 have n0_ := Aside0.mk (Kd.R_below (fR_ HO_3.out) hb)
                 have n1_ := Aside0.mk (blk_below (g := gb23015) (o := .cells #[.int .i64 0, .int .i64 0] 28 (0, 0)) (fb_ BK23015.out) hb)
                 have n2_ := Aside0.mk (bs_ hb)
                 have n3_ := Aside0.mk (hbox)
                 have n4_ := Aside0.mk ((by rw [hg]; exact bz_ : w.heap.size ≤ gb23014))
                 have n5_ := Aside0.mk ((by rw [hg]; exact bz_ : w.heap.size ≤ gb23014))
                 have n6_ := Aside0.mk ((by rw [hg]; exact Nat.ne_of_lt (blk_lt (g := gb23015) (o := .cells #[.int .i64 0, .int .i64 0] 28 (0, 0)) (fb_ BK23015.out)) : gb23015 ≠ gb23014))
                 have n7_ := Aside0.mk ((by rw [hg]; exact Nat.ne_of_gt (blk_lt (g := gb23015) (o := .cells #[.int .i64 0, .int .i64 0] 28 (0, 0)) (fb_ BK23015.out)) : gb23014 ≠ gb23015))
                 clear HO_3 BK23015 HB
                 have HO_3 := n0_
                 have BK23015 := n1_
                 have HB := n2_
                 have BK23014 := n3_
                 have GW23014 := n4_
                 have GE23014 := n5_
                 have NB23015_23014 := n6_
                 have NB23014_23015 := n7_
                 clear n0_ n1_ n2_ n3_ n4_ n5_ n6_ n7_ hb hbox hg
                 refine hK.out _ _ ⟨((HB.out.cell (World.block_lt_of_cell? w _ hw23008_0)).trans hw23008_0), ((HB.out.cell (World.block_lt_of_cell? w _ hw23008_1)).trans hw23008_1), ((HB.out.cell (World.block_lt_of_cell? w _ hw23008_2)).trans hw23008_2), ((HB.out.cell (World.block_lt_of_cell? w _ hw23011_0)).trans hw23011_0), ((HB.out.cell (World.block_lt_of_cell? w _ hw23011_1)).trans hw23011_1), ((HB.out.cell (World.block_lt_of_cell? w _ hw23011_2)).trans hw23011_2)⟩ (fun hHeld => ?_)
                 clear hK K
                 refine norm_ (a' := ?_) ?_ ?_
                 rotate_left
                 ·show Act.put _ (some 7) _ = _
                  simp only [Act.put, List.setIfInBounds_toArray, List.set_cons_zero, List.set_cons_succ, i64_w, i32_w]
                  rfl
                 exact norm_ (by first | (simp only [putAll, Act.put, List.setIfInBounds_toArray, List.set_cons_zero, List.set_cons_succ]; done) | (simp only [putAll, Act.put, List.setIfInBounds_toArray, List.set_cons_zero, List.set_cons_succ]; rfl)) (hJ4_10_11_12 (gb23014, gb23015) _ ⟨hHeld, (fR_ HO_3.out), (fb_ BK23014.out), (fb_ BK23015.out), GW23014.out, GE23014.out, NB23015_23014.out, NB23014_23015.out, GW23015.out, GE23015.out, be_⟩)
               ·skip
                rintro gb23014 w31 ⟨hS_, h0_, h1_, h2_, h3_, h4_⟩
                have n0_ : Aside0 (Kd.R (Kd.int .i64) 3 w31 w.heap.size (fun _ => True) v23003 x3_2) := ⟨h0_⟩
                have n1_ : Aside0 (w31.heap[gb23014]? = some (.cells #[.int .i64 0, .int .i64 0] 28 (0, 0))) := ⟨h1_⟩
                have n2_ : Aside0 (w.heap.size ≤ gb23014) := ⟨h2_⟩
                have n3_ : Aside0 (w.heap.size ≤ gb23014) := ⟨h3_⟩
                have n4_ : Aside0 (Below w.heap.size w w31) := ⟨h4_⟩
                clear HO_3 HB h0_ h1_ h2_ h3_ h4_
                have HO_3 := n0_
                have BK23014 := n1_
                have GW23014 := n2_
                have GE23014 := n3_
                have HB := n4_
                clear n0_ n1_ n2_ n3_ n4_
                have hHeld : w31.cell? ad23008 = some (.int .i64 ((rd_T36 l0 0).f0)) ∧ w31.cell? ⟨ad23008.block, ad23008.off + 1, none⟩ = some (.int .i64 ((rd_T36 l0 0).f1.f0)) ∧ w31.cell? ⟨ad23008.block, ad23008.off + 2, none⟩ = some (.slice A23008_2 ((rd_T36 l0 0).f1.f1).length c23008_2) ∧ w31.cell? (ad23008.add (((ji21)).toNat * 3)) = some (.int .i64 ((rd_T36 l0 (ji21)).f0)) ∧ w31.cell? ⟨(ad23008.add (((ji21)).toNat * 3)).block, (ad23008.add (((ji21)).toNat * 3)).off + 1, none⟩ = some (.int .i64 ((rd_T36 l0 (ji21)).f1.f0)) ∧ w31.cell? ⟨(ad23008.add (((ji21)).toNat * 3)).block, (ad23008.add (((ji21)).toNat * 3)).off + 2, none⟩ = some (.slice A23011_2 ((rd_T36 l0 (ji21)).f1.f1).length c23011_2) := hS_
                refine norm_ (a' := ?_) ?_ ?_
                rotate_left
                ·simp only [putAll, Act.put, List.setIfInBounds_toArray, List.set_cons_zero, List.set_cons_succ]
                 rfl
                refine one_ (i := 12) (N := some 8) #[true, true, true, true, true, true, true, true, true, true, true, true, true, false, false] rfl rfl (one_of HT_.out (by kernel_rfl)) (by decide) (fun K hK => ?_)
                refine box_step ?hg (N := 8) ?hd (cs := #[.int .i64 0, .int .i64 0]) (t := 28) ?hr ?_; (case hd => rfl); (case hg => rfl); (case hr => first | (go_simp; done) | (go_simp; rfl))
                intro gb23015 hg w32 hbox hb
                have n0_ := Aside0.mk (Kd.R_below (fR_ HO_3.out) hb)
                have n1_ := Aside0.mk (blk_below (g := gb23014) (o := .cells #[.int .i64 0, .int .i64 0] 28 (0, 0)) (fb_ BK23014.out) hb)
                have n2_ := Aside0.mk (bs_ hb)
                have n3_ := Aside0.mk (hbox)
                have n4_ := Aside0.mk ((by rw [hg]; exact bz_ : w.heap.size ≤ gb23015))
                have n5_ := Aside0.mk ((by rw [hg]; exact bz_ : w.heap.size ≤ gb23015))
                have n6_ := Aside0.mk ((by rw [hg]; exact Nat.ne_of_lt (blk_lt (g := gb23014) (o := .cells #[.int .i64 0, .int .i64 0] 28 (0, 0)) (fb_ BK23014.out)) : gb23014 ≠ gb23015))
                have n7_ := Aside0.mk ((by rw [hg]; exact Nat.ne_of_gt (blk_lt (g := gb23014) (o := .cells #[.int .i64 0, .int .i64 0] 28 (0, 0)) (fb_ BK23014.out)) : gb23015 ≠ gb23014))
                clear HO_3 BK23014 HB
                have HO_3 := n0_
                have BK23014 := n1_
                have HB := n2_
                have BK23015 := n3_
                have GW23015 := n4_
                have GE23015 := n5_
                have NB23014_23015 := n6_
                have NB23015_23014 := n7_
                clear n0_ n1_ n2_ n3_ n4_ n5_ n6_ n7_ hb hbox hg
                refine hK.out _ _ ⟨((HB.out.cell (World.block_lt_of_cell? w _ hw23008_0)).trans hw23008_0), ((HB.out.cell (World.block_lt_of_cell? w _ hw23008_1)).trans hw23008_1), ((HB.out.cell (World.block_lt_of_cell? w _ hw23008_2)).trans hw23008_2), ((HB.out.cell (World.block_lt_of_cell? w _ hw23011_0)).trans hw23011_0), ((HB.out.cell (World.block_lt_of_cell? w _ hw23011_1)).trans hw23011_1), ((HB.out.cell (World.block_lt_of_cell? w _ hw23011_2)).trans hw23011_2)⟩ (fun hHeld => ?_)
                clear hK K
                refine norm_ (a' := ?_) ?_ ?_
                rotate_left
                ·show Act.put _ (some 8) _ = _
                 simp only [Act.put, List.setIfInBounds_toArray, List.set_cons_zero, List.set_cons_succ, i64_w, i32_w]
                 rfl
                exact norm_ (by first | (simp only [putAll, Act.put, List.setIfInBounds_toArray, List.set_cons_zero, List.set_cons_succ]; done) | (simp only [putAll, Act.put, List.setIfInBounds_toArray, List.set_cons_zero, List.set_cons_succ]; rfl)) (hJ4_10_11_12 (gb23014, gb23015) _ ⟨hHeld, (fR_ HO_3.out), (fb_ BK23014.out), (fb_ BK23015.out), GW23014.out, GE23014.out, NB23015_23014.out, NB23014_23015.out, GW23015.out, GE23015.out, be_⟩)
              rintro ⟨gb23014, gb23015⟩ w32 ⟨hS_, h0_, h1_, h2_, h3_, h4_, h5_, h6_, h7_, h8_, h9_⟩
              have n0_ : Aside0 (Kd.R (Kd.int .i64) 3 w32 w.heap.size (fun _ => True) v23003 x3_2) := ⟨h0_⟩
              have n1_ : Aside0 (w32.heap[gb23014]? = some (.cells #[.int .i64 0, .int .i64 0] 28 (0, 0))) := ⟨h1_⟩
              have n2_ : Aside0 (w32.heap[gb23015]? = some (.cells #[.int .i64 0, .int .i64 0] 28 (0, 0))) := ⟨h2_⟩
              have n3_ : Aside0 (w.heap.size ≤ gb23014) := ⟨h3_⟩
              have n4_ : Aside0 (w.heap.size ≤ gb23014) := ⟨h4_⟩
              have n5_ : Aside0 (gb23015 ≠ gb23014) := ⟨h5_⟩
              have n6_ : Aside0 (gb23014 ≠ gb23015) := ⟨h6_⟩
              have n7_ : Aside0 (w.heap.size ≤ gb23015) := ⟨h7_⟩
              have n8_ : Aside0 (w.heap.size ≤ gb23015) := ⟨h8_⟩
              have n9_ : Aside0 (Below w.heap.size w w32) := ⟨h9_⟩
              clear HO_3 HB h0_ h1_ h2_ h3_ h4_ h5_ h6_ h7_ h8_ h9_
              have HO_3 := n0_
              have BK23014 := n1_
              have BK23015 := n2_
              have GW23014 := n3_
              have GE23014 := n4_
              have NB23015_23014 := n5_
              have NB23014_23015 := n6_
              have GW23015 := n7_
              have GE23015 := n8_
              have HB := n9_
              clear n0_ n1_ n2_ n3_ n4_ n5_ n6_ n7_ n8_ n9_
              have hHeld : w32.cell? ad23008 = some (.int .i64 ((rd_T36 l0 0).f0)) ∧ w32.cell? ⟨ad23008.block, ad23008.off + 1, none⟩ = some (.int .i64 ((rd_T36 l0 0).f1.f0)) ∧ w32.cell? ⟨ad23008.block, ad23008.off + 2, none⟩ = some (.slice A23008_2 ((rd_T36 l0 0).f1.f1).length c23008_2) ∧ w32.cell? (ad23008.add (((ji21)).toNat * 3)) = some (.int .i64 ((rd_T36 l0 (ji21)).f0)) ∧ w32.cell? ⟨(ad23008.add (((ji21)).toNat * 3)).block, (ad23008.add (((ji21)).toNat * 3)).off + 1, none⟩ = some (.int .i64 ((rd_T36 l0 (ji21)).f1.f0)) ∧ w32.cell? ⟨(ad23008.add (((ji21)).toNat * 3)).block, (ad23008.add (((ji21)).toNat * 3)).off + 2, none⟩ = some (.slice A23011_2 ((rd_T36 l0 (ji21)).f1.f1).length c23011_2) := hS_
              refine norm_ (a' := ?_) ?_ ?_
              rotate_left
              ·simp only [putAll, Act.put, List.setIfInBounds_toArray, List.set_cons_zero, List.set_cons_succ]
               rfl
              refine one_ (i := 13) (N := none) #[true, true, true, true, true, true, true, true, true, true, true, true, true, true, false] rfl rfl (one_of HT_.out (by kernel_rfl)) (by decide) (fun K hK => ?_)
              have hs33 : w32.cell? ⟨gb23014, 0, none⟩ = some (.int .i64 0) := (blk_cell BK23014.out 0).trans rfl
              have hfs33 := blk_frozen BK23014.out 0
              have hns33_1 := NB23015_23014.out
              have hms33_1 := NB23014_23015.out
              have hs34 : w32.cell? ⟨gb23014, 1, none⟩ = some (.int .i64 0) := (blk_cell BK23014.out 1).trans rfl
              have hfs34 := blk_frozen BK23014.out 1
              have hns34_1 := NB23015_23014.out
              have hms34_1 := NB23014_23015.out
              refine skip_ (w1 := ?_) (by rfl) rfl ?_ ?_
              rotate_left
              ·go_simp
               rfl
              refine hK.out _ _ ⟨((cell_far (p := ⟨gb23014, _, none⟩) (by first | exact Nat.ne_of_lt (Nat.lt_of_lt_of_le (by have := World.block_lt_of_cell? _ _ hw23008_0; first | rwa [add_block] at this | exact this) GW23014.out) | (rw [add_block]; exact Nat.ne_of_lt (Nat.lt_of_lt_of_le (by have := World.block_lt_of_cell? _ _ hw23008_0; first | rwa [add_block] at this | exact this) GW23014.out)) | (show (Addr.add _ _).block ≠ _; rw [add_block]; exact Nat.ne_of_lt (Nat.lt_of_lt_of_le (by have := World.block_lt_of_cell? _ _ hw23008_0; first | rwa [add_block] at this | exact this) GW23014.out)) | (dsimp only; exact Nat.ne_of_lt (Nat.lt_of_lt_of_le (by have := World.block_lt_of_cell? _ _ hw23008_0; first | rwa [add_block] at this | exact this) GW23014.out))) _).trans (((cell_far (p := ⟨gb23014, _, none⟩) (by first | exact Nat.ne_of_lt (Nat.lt_of_lt_of_le (by have := World.block_lt_of_cell? _ _ hw23008_0; first | rwa [add_block] at this | exact this) GW23014.out) | (rw [add_block]; exact Nat.ne_of_lt (Nat.lt_of_lt_of_le (by have := World.block_lt_of_cell? _ _ hw23008_0; first | rwa [add_block] at this | exact this) GW23014.out)) | (show (Addr.add _ _).block ≠ _; rw [add_block]; exact Nat.ne_of_lt (Nat.lt_of_lt_of_le (by have := World.block_lt_of_cell? _ _ hw23008_0; first | rwa [add_block] at this | exact this) GW23014.out)) | (dsimp only; exact Nat.ne_of_lt (Nat.lt_of_lt_of_le (by have := World.block_lt_of_cell? _ _ hw23008_0; first | rwa [add_block] at this | exact this) GW23014.out))) _).trans (hHeld.1)))), ((cell_far (p := ⟨gb23014, _, none⟩) (by first | exact Nat.ne_of_lt (Nat.lt_of_lt_of_le (by have := World.block_lt_of_cell? _ _ hw23008_1; first | rwa [add_block] at this | exact this) GW23014.out) | (rw [add_block]; exact Nat.ne_of_lt (Nat.lt_of_lt_of_le (by have := World.block_lt_of_cell? _ _ hw23008_1; first | rwa [add_block] at this | exact this) GW23014.out)) | (show (Addr.add _ _).block ≠ _; rw [add_block]; exact Nat.ne_of_lt (Nat.lt_of_lt_of_le (by have := World.block_lt_of_cell? _ _ hw23008_1; first | rwa [add_block] at this | exact this) GW23014.out)) | (dsimp only; exact Nat.ne_of_lt (Nat.lt_of_lt_of_le (by have := World.block_lt_of_cell? _ _ hw23008_1; first | rwa [add_block] at this | exact this) GW23014.out))) _).trans (((cell_far (p := ⟨gb23014, _, none⟩) (by first | exact Nat.ne_of_lt (Nat.lt_of_lt_of_le (by have := World.block_lt_of_cell? _ _ hw23008_1; first | rwa [add_block] at this | exact this) GW23014.out) | (rw [add_block]; exact Nat.ne_of_lt (Nat.lt_of_lt_of_le (by have := World.block_lt_of_cell? _ _ hw23008_1; first | rwa [add_block] at this | exact this) GW23014.out)) | (show (Addr.add _ _).block ≠ _; rw [add_block]; exact Nat.ne_of_lt (Nat.lt_of_lt_of_le (by have := World.block_lt_of_cell? _ _ hw23008_1; first | rwa [add_block] at this | exact this) GW23014.out)) | (dsimp only; exact Nat.ne_of_lt (Nat.lt_of_lt_of_le (by have := World.block_lt_of_cell? _ _ hw23008_1; first | rwa [add_block] at this | exact this) GW23014.out))) _).trans (hHeld.2.1)))), ((cell_far (p := ⟨gb23014, _, none⟩) (by first | exact Nat.ne_of_lt (Nat.lt_of_lt_of_le (by have := World.block_lt_of_cell? _ _ hw23008_2; first | rwa [add_block] at this | exact this) GW23014.out) | (rw [add_block]; exact Nat.ne_of_lt (Nat.lt_of_lt_of_le (by have := World.block_lt_of_cell? _ _ hw23008_2; first | rwa [add_block] at this | exact this) GW23014.out)) | (show (Addr.add _ _).block ≠ _; rw [add_block]; exact Nat.ne_of_lt (Nat.lt_of_lt_of_le (by have := World.block_lt_of_cell? _ _ hw23008_2; first | rwa [add_block] at this | exact this) GW23014.out)) | (dsimp only; exact Nat.ne_of_lt (Nat.lt_of_lt_of_le (by have := World.block_lt_of_cell? _ _ hw23008_2; first | rwa [add_block] at this | exact this) GW23014.out))) _).trans (((cell_far (p := ⟨gb23014, _, none⟩) (by first | exact Nat.ne_of_lt (Nat.lt_of_lt_of_le (by have := World.block_lt_of_cell? _ _ hw23008_2; first | rwa [add_block] at this | exact this) GW23014.out) | (rw [add_block]; exact Nat.ne_of_lt (Nat.lt_of_lt_of_le (by have := World.block_lt_of_cell? _ _ hw23008_2; first | rwa [add_block] at this | exact this) GW23014.out)) | (show (Addr.add _ _).block ≠ _; rw [add_block]; exact Nat.ne_of_lt (Nat.lt_of_lt_of_le (by have := World.block_lt_of_cell? _ _ hw23008_2; first | rwa [add_block] at this | exact this) GW23014.out)) | (dsimp only; exact Nat.ne_of_lt (Nat.lt_of_lt_of_le (by have := World.block_lt_of_cell? _ _ hw23008_2; first | rwa [add_block] at this | exact this) GW23014.out))) _).trans (hHeld.2.2.1)))), ((cell_far (p := ⟨gb23014, _, none⟩) (by first | exact Nat.ne_of_lt (Nat.lt_of_lt_of_le (by have := World.block_lt_of_cell? _ _ hw23011_0; first | rwa [add_block] at this | exact this) GW23014.out) | (rw [add_block]; exact Nat.ne_of_lt (Nat.lt_of_lt_of_le (by have := World.block_lt_of_cell? _ _ hw23011_0; first | rwa [add_block] at this | exact this) GW23014.out)) | (show (Addr.add _ _).block ≠ _; rw [add_block]; exact Nat.ne_of_lt (Nat.lt_of_lt_of_le (by have := World.block_lt_of_cell? _ _ hw23011_0; first | rwa [add_block] at this | exact this) GW23014.out)) | (dsimp only; exact Nat.ne_of_lt (Nat.lt_of_lt_of_le (by have := World.block_lt_of_cell? _ _ hw23011_0; first | rwa [add_block] at this | exact this) GW23014.out))) _).trans (((cell_far (p := ⟨gb23014, _, none⟩) (by first | exact Nat.ne_of_lt (Nat.lt_of_lt_of_le (by have := World.block_lt_of_cell? _ _ hw23011_0; first | rwa [add_block] at this | exact this) GW23014.out) | (rw [add_block]; exact Nat.ne_of_lt (Nat.lt_of_lt_of_le (by have := World.block_lt_of_cell? _ _ hw23011_0; first | rwa [add_block] at this | exact this) GW23014.out)) | (show (Addr.add _ _).block ≠ _; rw [add_block]; exact Nat.ne_of_lt (Nat.lt_of_lt_of_le (by have := World.block_lt_of_cell? _ _ hw23011_0; first | rwa [add_block] at this | exact this) GW23014.out)) | (dsimp only; exact Nat.ne_of_lt (Nat.lt_of_lt_of_le (by have := World.block_lt_of_cell? _ _ hw23011_0; first | rwa [add_block] at this | exact this) GW23014.out))) _).trans (hHeld.2.2.2.1)))), ((cell_far (p := ⟨gb23014, _, none⟩) (by first | exact Nat.ne_of_lt (Nat.lt_of_lt_of_le (by have := World.block_lt_of_cell? _ _ hw23011_1; first | rwa [add_block] at this | exact this) GW23014.out) | (rw [add_block]; exact Nat.ne_of_lt (Nat.lt_of_lt_of_le (by have := World.block_lt_of_cell? _ _ hw23011_1; first | rwa [add_block] at this | exact this) GW23014.out)) | (show (Addr.add _ _).block ≠ _; rw [add_block]; exact Nat.ne_of_lt (Nat.lt_of_lt_of_le (by have := World.block_lt_of_cell? _ _ hw23011_1; first | rwa [add_block] at this | exact this) GW23014.out)) | (dsimp only; exact Nat.ne_of_lt (Nat.lt_of_lt_of_le (by have := World.block_lt_of_cell? _ _ hw23011_1; first | rwa [add_block] at this | exact this) GW23014.out))) _).trans (((cell_far (p := ⟨gb23014, _, none⟩) (by first | exact Nat.ne_of_lt (Nat.lt_of_lt_of_le (by have := World.block_lt_of_cell? _ _ hw23011_1; first | rwa [add_block] at this | exact this) GW23014.out) | (rw [add_block]; exact Nat.ne_of_lt (Nat.lt_of_lt_of_le (by have := World.block_lt_of_cell? _ _ hw23011_1; first | rwa [add_block] at this | exact this) GW23014.out)) | (show (Addr.add _ _).block ≠ _; rw [add_block]; exact Nat.ne_of_lt (Nat.lt_of_lt_of_le (by have := World.block_lt_of_cell? _ _ hw23011_1; first | rwa [add_block] at this | exact this) GW23014.out)) | (dsimp only; exact Nat.ne_of_lt (Nat.lt_of_lt_of_le (by have := World.block_lt_of_cell? _ _ hw23011_1; first | rwa [add_block] at this | exact this) GW23014.out))) _).trans (hHeld.2.2.2.2.1)))), ((cell_far (p := ⟨gb23014, _, none⟩) (by first | exact Nat.ne_of_lt (Nat.lt_of_lt_of_le (by have := World.block_lt_of_cell? _ _ hw23011_2; first | rwa [add_block] at this | exact this) GW23014.out) | (rw [add_block]; exact Nat.ne_of_lt (Nat.lt_of_lt_of_le (by have := World.block_lt_of_cell? _ _ hw23011_2; first | rwa [add_block] at this | exact this) GW23014.out)) | (show (Addr.add _ _).block ≠ _; rw [add_block]; exact Nat.ne_of_lt (Nat.lt_of_lt_of_le (by have := World.block_lt_of_cell? _ _ hw23011_2; first | rwa [add_block] at this | exact this) GW23014.out)) | (dsimp only; exact Nat.ne_of_lt (Nat.lt_of_lt_of_le (by have := World.block_lt_of_cell? _ _ hw23011_2; first | rwa [add_block] at this | exact this) GW23014.out))) _).trans (((cell_far (p := ⟨gb23014, _, none⟩) (by first | exact Nat.ne_of_lt (Nat.lt_of_lt_of_le (by have := World.block_lt_of_cell? _ _ hw23011_2; first | rwa [add_block] at this | exact this) GW23014.out) | (rw [add_block]; exact Nat.ne_of_lt (Nat.lt_of_lt_of_le (by have := World.block_lt_of_cell? _ _ hw23011_2; first | rwa [add_block] at this | exact this) GW23014.out)) | (show (Addr.add _ _).block ≠ _; rw [add_block]; exact Nat.ne_of_lt (Nat.lt_of_lt_of_le (by have := World.block_lt_of_cell? _ _ hw23011_2; first | rwa [add_block] at this | exact this) GW23014.out)) | (dsimp only; exact Nat.ne_of_lt (Nat.lt_of_lt_of_le (by have := World.block_lt_of_cell? _ _ hw23011_2; first | rwa [add_block] at this | exact this) GW23014.out))) _).trans (hHeld.2.2.2.2.2))))⟩ (fun hHeld => ?_)
              clear hK K
              refine one_ (i := 14) (N := none) #[true, true, true, true, true, true, true, true, true, true, true, true, true, true, true] rfl rfl (one_of HT_.out (by kernel_rfl)) (by decide) (fun K hK => ?_)
              have hs35 : w32.cell? ⟨gb23015, 0, none⟩ = some (.int .i64 0) := (blk_cell BK23015.out 0).trans rfl
              have hfs35 := blk_frozen BK23015.out 0
              have hns35_0 := NB23014_23015.out
              have hms35_0 := NB23015_23014.out
              have hs36 : w32.cell? ⟨gb23015, 1, none⟩ = some (.int .i64 0) := (blk_cell BK23015.out 1).trans rfl
              have hfs36 := blk_frozen BK23015.out 1
              have hns36_0 := NB23014_23015.out
              have hms36_0 := NB23015_23014.out
              refine skip_ (w1 := ?_) (by rfl) rfl ?_ ?_
              rotate_left
              ·go_simp
               rfl
              refine hK.out _ _ ⟨((cell_far (p := ⟨gb23015, _, none⟩) (by first | exact Nat.ne_of_lt (Nat.lt_of_lt_of_le (by have := World.block_lt_of_cell? _ _ hw23008_0; first | rwa [add_block] at this | exact this) GW23015.out) | (rw [add_block]; exact Nat.ne_of_lt (Nat.lt_of_lt_of_le (by have := World.block_lt_of_cell? _ _ hw23008_0; first | rwa [add_block] at this | exact this) GW23015.out)) | (show (Addr.add _ _).block ≠ _; rw [add_block]; exact Nat.ne_of_lt (Nat.lt_of_lt_of_le (by have := World.block_lt_of_cell? _ _ hw23008_0; first | rwa [add_block] at this | exact this) GW23015.out)) | (dsimp only; exact Nat.ne_of_lt (Nat.lt_of_lt_of_le (by have := World.block_lt_of_cell? _ _ hw23008_0; first | rwa [add_block] at this | exact this) GW23015.out))) _).trans (((cell_far (p := ⟨gb23015, _, none⟩) (by first | exact Nat.ne_of_lt (Nat.lt_of_lt_of_le (by have := World.block_lt_of_cell? _ _ hw23008_0; first | rwa [add_block] at this | exact this) GW23015.out) | (rw [add_block]; exact Nat.ne_of_lt (Nat.lt_of_lt_of_le (by have := World.block_lt_of_cell? _ _ hw23008_0; first | rwa [add_block] at this | exact this) GW23015.out)) | (show (Addr.add _ _).block ≠ _; rw [add_block]; exact Nat.ne_of_lt (Nat.lt_of_lt_of_le (by have := World.block_lt_of_cell? _ _ hw23008_0; first | rwa [add_block] at this | exact this) GW23015.out)) | (dsimp only; exact Nat.ne_of_lt (Nat.lt_of_lt_of_le (by have := World.block_lt_of_cell? _ _ hw23008_0; first | rwa [add_block] at this | exact this) GW23015.out))) _).trans (hHeld.1)))), ((cell_far (p := ⟨gb23015, _, none⟩) (by first | exact Nat.ne_of_lt (Nat.lt_of_lt_of_le (by have := World.block_lt_of_cell? _ _ hw23008_1; first | rwa [add_block] at this | exact this) GW23015.out) | (rw [add_block]; exact Nat.ne_of_lt (Nat.lt_of_lt_of_le (by have := World.block_lt_of_cell? _ _ hw23008_1; first | rwa [add_block] at this | exact this) GW23015.out)) | (show (Addr.add _ _).block ≠ _; rw [add_block]; exact Nat.ne_of_lt (Nat.lt_of_lt_of_le (by have := World.block_lt_of_cell? _ _ hw23008_1; first | rwa [add_block] at this | exact this) GW23015.out)) | (dsimp only; exact Nat.ne_of_lt (Nat.lt_of_lt_of_le (by have := World.block_lt_of_cell? _ _ hw23008_1; first | rwa [add_block] at this | exact this) GW23015.out))) _).trans (((cell_far (p := ⟨gb23015, _, none⟩) (by first | exact Nat.ne_of_lt (Nat.lt_of_lt_of_le (by have := World.block_lt_of_cell? _ _ hw23008_1; first | rwa [add_block] at this | exact this) GW23015.out) | (rw [add_block]; exact Nat.ne_of_lt (Nat.lt_of_lt_of_le (by have := World.block_lt_of_cell? _ _ hw23008_1; first | rwa [add_block] at this | exact this) GW23015.out)) | (show (Addr.add _ _).block ≠ _; rw [add_block]; exact Nat.ne_of_lt (Nat.lt_of_lt_of_le (by have := World.block_lt_of_cell? _ _ hw23008_1; first | rwa [add_block] at this | exact this) GW23015.out)) | (dsimp only; exact Nat.ne_of_lt (Nat.lt_of_lt_of_le (by have := World.block_lt_of_cell? _ _ hw23008_1; first | rwa [add_block] at this | exact this) GW23015.out))) _).trans (hHeld.2.1)))), ((cell_far (p := ⟨gb23015, _, none⟩) (by first | exact Nat.ne_of_lt (Nat.lt_of_lt_of_le (by have := World.block_lt_of_cell? _ _ hw23008_2; first | rwa [add_block] at this | exact this) GW23015.out) | (rw [add_block]; exact Nat.ne_of_lt (Nat.lt_of_lt_of_le (by have := World.block_lt_of_cell? _ _ hw23008_2; first | rwa [add_block] at this | exact this) GW23015.out)) | (show (Addr.add _ _).block ≠ _; rw [add_block]; exact Nat.ne_of_lt (Nat.lt_of_lt_of_le (by have := World.block_lt_of_cell? _ _ hw23008_2; first | rwa [add_block] at this | exact this) GW23015.out)) | (dsimp only; exact Nat.ne_of_lt (Nat.lt_of_lt_of_le (by have := World.block_lt_of_cell? _ _ hw23008_2; first | rwa [add_block] at this | exact this) GW23015.out))) _).trans (((cell_far (p := ⟨gb23015, _, none⟩) (by first | exact Nat.ne_of_lt (Nat.lt_of_lt_of_le (by have := World.block_lt_of_cell? _ _ hw23008_2; first | rwa [add_block] at this | exact this) GW23015.out) | (rw [add_block]; exact Nat.ne_of_lt (Nat.lt_of_lt_of_le (by have := World.block_lt_of_cell? _ _ hw23008_2; first | rwa [add_block] at this | exact this) GW23015.out)) | (show (Addr.add _ _).block ≠ _; rw [add_block]; exact Nat.ne_of_lt (Nat.lt_of_lt_of_le (by have := World.block_lt_of_cell? _ _ hw23008_2; first | rwa [add_block] at this | exact this) GW23015.out)) | (dsimp only; exact Nat.ne_of_lt (Nat.lt_of_lt_of_le (by have := World.block_lt_of_cell? _ _ hw23008_2; first | rwa [add_block] at this | exact this) GW23015.out))) _).trans (hHeld.2.2.1)))), ((cell_far (p := ⟨gb23015, _, none⟩) (by first | exact Nat.ne_of_lt (Nat.lt_of_lt_of_le (by have := World.block_lt_of_cell? _ _ hw23011_0; first | rwa [add_block] at this | exact this) GW23015.out) | (rw [add_block]; exact Nat.ne_of_lt (Nat.lt_of_lt_of_le (by have := World.block_lt_of_cell? _ _ hw23011_0; first | rwa [add_block] at this | exact this) GW23015.out)) | (show (Addr.add _ _).block ≠ _; rw [add_block]; exact Nat.ne_of_lt (Nat.lt_of_lt_of_le (by have := World.block_lt_of_cell? _ _ hw23011_0; first | rwa [add_block] at this | exact this) GW23015.out)) | (dsimp only; exact Nat.ne_of_lt (Nat.lt_of_lt_of_le (by have := World.block_lt_of_cell? _ _ hw23011_0; first | rwa [add_block] at this | exact this) GW23015.out))) _).trans (((cell_far (p := ⟨gb23015, _, none⟩) (by first | exact Nat.ne_of_lt (Nat.lt_of_lt_of_le (by have := World.block_lt_of_cell? _ _ hw23011_0; first | rwa [add_block] at this | exact this) GW23015.out) | (rw [add_block]; exact Nat.ne_of_lt (Nat.lt_of_lt_of_le (by have := World.block_lt_of_cell? _ _ hw23011_0; first | rwa [add_block] at this | exact this) GW23015.out)) | (show (Addr.add _ _).block ≠ _; rw [add_block]; exact Nat.ne_of_lt (Nat.lt_of_lt_of_le (by have := World.block_lt_of_cell? _ _ hw23011_0; first | rwa [add_block] at this | exact this) GW23015.out)) | (dsimp only; exact Nat.ne_of_lt (Nat.lt_of_lt_of_le (by have := World.block_lt_of_cell? _ _ hw23011_0; first | rwa [add_block] at this | exact this) GW23015.out))) _).trans (hHeld.2.2.2.1)))), ((cell_far (p := ⟨gb23015, _, none⟩) (by first | exact Nat.ne_of_lt (Nat.lt_of_lt_of_le (by have := World.block_lt_of_cell? _ _ hw23011_1; first | rwa [add_block] at this | exact this) GW23015.out) | (rw [add_block]; exact Nat.ne_of_lt (Nat.lt_of_lt_of_le (by have := World.block_lt_of_cell? _ _ hw23011_1; first | rwa [add_block] at this | exact this) GW23015.out)) | (show (Addr.add _ _).block ≠ _; rw [add_block]; exact Nat.ne_of_lt (Nat.lt_of_lt_of_le (by have := World.block_lt_of_cell? _ _ hw23011_1; first | rwa [add_block] at this | exact this) GW23015.out)) | (dsimp only; exact Nat.ne_of_lt (Nat.lt_of_lt_of_le (by have := World.block_lt_of_cell? _ _ hw23011_1; first | rwa [add_block] at this | exact this) GW23015.out))) _).trans (((cell_far (p := ⟨gb23015, _, none⟩) (by first | exact Nat.ne_of_lt (Nat.lt_of_lt_of_le (by have := World.block_lt_of_cell? _ _ hw23011_1; first | rwa [add_block] at this | exact this) GW23015.out) | (rw [add_block]; exact Nat.ne_of_lt (Nat.lt_of_lt_of_le (by have := World.block_lt_of_cell? _ _ hw23011_1; first | rwa [add_block] at this | exact this) GW23015.out)) | (show (Addr.add _ _).block ≠ _; rw [add_block]; exact Nat.ne_of_lt (Nat.lt_of_lt_of_le (by have := World.block_lt_of_cell? _ _ hw23011_1; first | rwa [add_block] at this | exact this) GW23015.out)) | (dsimp only; exact Nat.ne_of_lt (Nat.lt_of_lt_of_le (by have := World.block_lt_of_cell? _ _ hw23011_1; first | rwa [add_block] at this | exact this) GW23015.out))) _).trans (hHeld.2.2.2.2.1)))), ((cell_far (p := ⟨gb23015, _, none⟩) (by first | exact Nat.ne_of_lt (Nat.lt_of_lt_of_le (by have := World.block_lt_of_cell? _ _ hw23011_2; first | rwa [add_block] at this | exact this) GW23015.out) | (rw [add_block]; exact Nat.ne_of_lt (Nat.lt_of_lt_of_le (by have := World.block_lt_of_cell? _ _ hw23011_2; first | rwa [add_block] at this | exact this) GW23015.out)) | (show (Addr.add _ _).block ≠ _; rw [add_block]; exact Nat.ne_of_lt (Nat.lt_of_lt_of_le (by have := World.block_lt_of_cell? _ _ hw23011_2; first | rwa [add_block] at this | exact this) GW23015.out)) | (dsimp only; exact Nat.ne_of_lt (Nat.lt_of_lt_of_le (by have := World.block_lt_of_cell? _ _ hw23011_2; first | rwa [add_block] at this | exact this) GW23015.out))) _).trans (((cell_far (p := ⟨gb23015, _, none⟩) (by first | exact Nat.ne_of_lt (Nat.lt_of_lt_of_le (by have := World.block_lt_of_cell? _ _ hw23011_2; first | rwa [add_block] at this | exact this) GW23015.out) | (rw [add_block]; exact Nat.ne_of_lt (Nat.lt_of_lt_of_le (by have := World.block_lt_of_cell? _ _ hw23011_2; first | rwa [add_block] at this | exact this) GW23015.out)) | (show (Addr.add _ _).block ≠ _; rw [add_block]; exact Nat.ne_of_lt (Nat.lt_of_lt_of_le (by have := World.block_lt_of_cell? _ _ hw23011_2; first | rwa [add_block] at this | exact this) GW23015.out)) | (dsimp only; exact Nat.ne_of_lt (Nat.lt_of_lt_of_le (by have := World.block_lt_of_cell? _ _ hw23011_2; first | rwa [add_block] at this | exact this) GW23015.out))) _).trans (hHeld.2.2.2.2.2))))⟩ (fun hHeld => ?_)
              clear hK K
              refine done_ (done_of HT_.out (by kernel_rfl)) ?_
              (try clear HS0_)
              (try clear HS1_)
              (try clear HS2_)
              (try clear HS3_)
              (try clear HS4_)
              (try clear HS5_)
              (try clear HS6_)
              (try clear HS7_)
              (try clear HS8_)
              (try clear HS9_)
              (try clear HS10_)
              (try clear HS11_)
              (try clear hHeld)
              try go_wp2
              have n0_ : Aside0 (Kd.R (Kd.int .i64) 3 ((((w32.setCell ⟨gb23014, 0, none⟩ (.int .i64 t23009)).setCell ⟨gb23014, 1, none⟩ (.int .i64 t23010)).setCell ⟨gb23015, 0, none⟩ (.int .i64 t23012)).setCell ⟨gb23015, 1, none⟩ (.int .i64 t23013)) w.heap.size (fun _ => True) v23003 x3_2) := ⟨by (with_reducible repeat (first | apply Kd.R_alloc | apply Kd.R_drewN | apply Kd.R_drew)); exact Kd.R_mono (Kd.R_far (p := ⟨gb23015, 1, none⟩) (Kd.R_far (p := ⟨gb23015, 0, none⟩) (Kd.R_far (p := ⟨gb23014, 1, none⟩) (Kd.R_far (p := ⟨gb23014, 0, none⟩) (Kd.R_types (Kd.R_types HO_3.out BK23014.out (by decide)) BK23015.out (by decide)) (fun _ hk => hk.1.2) (.int .i64 t23009)) (fun _ hk => hk.1.2) (.int .i64 t23010)) (fun _ hk => hk.2) (.int .i64 t23012)) (fun _ hk => hk.2) (.int .i64 t23013)) (fun _ hk => trivial)⟩
              have n1_ : Aside0 (((((w32.setCell ⟨gb23014, 0, none⟩ (.int .i64 t23009)).setCell ⟨gb23014, 1, none⟩ (.int .i64 t23010)).setCell ⟨gb23015, 0, none⟩ (.int .i64 t23012)).setCell ⟨gb23015, 1, none⟩ (.int .i64 t23013)).heap[gb23014]? = some (.cells #[.int .i64 t23009, .int .i64 t23010] 28 (0, 0))) := ⟨by (with_reducible repeat (first | refine blk_drewN ?_ _ | refine blk_drew ?_ | refine blk_alloc ?_ _)); refine blk_far ?_ NB23014_23015.out _; (with_reducible repeat (first | refine blk_drewN ?_ _ | refine blk_drew ?_ | refine blk_alloc ?_ _)); refine blk_far ?_ NB23014_23015.out _; (with_reducible repeat (first | refine blk_drewN ?_ _ | refine blk_drew ?_ | refine blk_alloc ?_ _)); refine blk_put (cs := #[.int .i64 t23009, .int .i64 0]) ?_ 1 _ rfl; (with_reducible repeat (first | refine blk_drewN ?_ _ | refine blk_drew ?_ | refine blk_alloc ?_ _)); refine blk_put (cs := #[.int .i64 0, .int .i64 0]) ?_ 0 _ rfl; (with_reducible repeat (first | refine blk_drewN ?_ _ | refine blk_drew ?_ | refine blk_alloc ?_ _)); exact BK23014.out⟩
              have n2_ : Aside0 (((((w32.setCell ⟨gb23014, 0, none⟩ (.int .i64 t23009)).setCell ⟨gb23014, 1, none⟩ (.int .i64 t23010)).setCell ⟨gb23015, 0, none⟩ (.int .i64 t23012)).setCell ⟨gb23015, 1, none⟩ (.int .i64 t23013)).heap[gb23015]? = some (.cells #[.int .i64 t23012, .int .i64 t23013] 28 (0, 0))) := ⟨by (with_reducible repeat (first | refine blk_drewN ?_ _ | refine blk_drew ?_ | refine blk_alloc ?_ _)); refine blk_put (cs := #[.int .i64 t23012, .int .i64 0]) ?_ 1 _ rfl; (with_reducible repeat (first | refine blk_drewN ?_ _ | refine blk_drew ?_ | refine blk_alloc ?_ _)); refine blk_put (cs := #[.int .i64 0, .int .i64 0]) ?_ 0 _ rfl; (with_reducible repeat (first | refine blk_drewN ?_ _ | refine blk_drew ?_ | refine blk_alloc ?_ _)); refine blk_far ?_ NB23015_23014.out _; (with_reducible repeat (first | refine blk_drewN ?_ _ | refine blk_drew ?_ | refine blk_alloc ?_ _)); refine blk_far ?_ NB23015_23014.out _; (with_reducible repeat (first | refine blk_drewN ?_ _ | refine blk_drew ?_ | refine blk_alloc ?_ _)); exact BK23015.out⟩
              have n3_ : Aside0 (Below w.heap.size w ((((w32.setCell ⟨gb23014, 0, none⟩ (.int .i64 t23009)).setCell ⟨gb23014, 1, none⟩ (.int .i64 t23010)).setCell ⟨gb23015, 0, none⟩ (.int .i64 t23012)).setCell ⟨gb23015, 1, none⟩ (.int .i64 t23013))) := ⟨be_⟩
              (try clear HO_3)
              (try clear BK23014)
              (try clear BK23015)
              (try clear HB)
              generalize ((((w32.setCell ⟨gb23014, 0, none⟩ (.int .i64 t23009)).setCell ⟨gb23014, 1, none⟩ (.int .i64 t23010)).setCell ⟨gb23015, 0, none⟩ (.int .i64 t23012)).setCell ⟨gb23015, 1, none⟩ (.int .i64 t23013)) = w37 at n0_ n1_ n2_ n3_ ⊢
              have HO_3 := n0_
              have BK23014 := n1_
              have BK23015 := n2_
              have HB := n3_
              clear n0_ n1_ n2_ n3_
              have n0_ := Aside0.mk (Kd.R_drew HO_3.out)
              have n1_ := Aside0.mk (blk_drew BK23014.out)
              have n2_ := Aside0.mk (blk_drew BK23015.out)
              have n3_ := Aside0.mk (below_drew1 HB.out)
              clear HO_3 BK23014 BK23015 HB
              have HO_3 := n0_
              have BK23014 := n1_
              have BK23015 := n2_
              have HB := n3_
              clear n0_ n1_ n2_ n3_
              obtain ⟨Ao39, co39, eo39⟩ := Kd.R_slice HO_3.out
              (first | subst eo39 | (injection eo39 with f1_ f2_ f3_; have f4_ := f1_.symm; have f5_ := f3_.symm; clear f1_ f2_ f3_; subst f4_; subst f5_))
              have p23016 : 0 ≤ ((ji21) : Int) := of_decide_eq_true (by first | (with_reducible assumption) | assumption)
              have q23016 : (ji21) < (x3_2.length : Int) := of_decide_eq_true (by first | (with_reducible assumption) | assumption)
              obtain ⟨ad23016, e23016, hx23016_0⟩ := Kd.at_int (Kd.R_reads' HO_3.out).2.2 (ji21) p23016 q23016
              cases e23016
              replace p23016 := eq_true p23016
              replace q23016 := eq_true q23016
              have p23017 : 0 ≤ (0 : Int) := (by omega)
              have q23017 : 0 < (x3_2.length : Int) := of_decide_eq_true (by first | (with_reducible assumption) | assumption)
              obtain ⟨ad23017, e23017, hx23017_0⟩ := Kd.at_int (Kd.R_reads' HO_3.out).2.2 0 p23017 q23017
              obtain rfl : ad23016 = ad23017 := (by injection e23017)
              have qi23017 : (0 < x3_2.length) = True := eq_true (by omega)
              (try rw [show ((0 : Int)).toNat = 0 from rfl] at hx23017_0)
              (try rw [Addr.add_zero'] at hx23017_0)
              replace p23017 := eq_true p23017
              replace q23017 := eq_true q23017
              refine start_ (n := 9) (S := fun w' => w'.cell? (ad23016.add ((ji21)).toNat) = some (.int .i64 (rd x3_2 (ji21))) ∧ w'.cell? ad23016 = some (.int .i64 (rd x3_2 0))) (ds := []) #[false, false, false, false, false, false, false, false, false] (by kernel_rfl) rfl rfl ⟨hx23016_0, hx23017_0⟩ (fun hHeld => ?_); refine with_tabW shape_Sweep.tab13 shape_Sweep.bits13 (fun HT_ HW_ => ?_)
              generalize w37.drew = w38 at HO_3 BK23014 BK23015 HB hx23016_0 hx23017_0 hHeld ⊢
              refine pure_ (i := 0) (N := some 67) (v := ?_) (a' := ?_) #[true, false, false, false, false, false, false, false, false] rfl rfl (any_of HT_.out (by kernel_rfl)) (fun _ _ _ h => h) (Or.inl ⟨by rfl, ?_⟩) ?_ ?_
              rotate_left
              ·intro w'
               go_simp
               with_reducible rfl
              rotate_left
              ·simp only [Act.put, List.setIfInBounds_toArray, List.set_cons_zero, List.set_cons_succ, i64_w, i32_w]
               rfl
              refine pure_ (i := 1) (N := some 68) (v := ?_) (a' := ?_) #[true, true, false, false, false, false, false, false, false] rfl rfl (any_of HT_.out (by kernel_rfl)) (fun _ _ _ h => h) (Or.inl ⟨by rfl, ?_⟩) ?_ ?_
              rotate_left
              ·intro w'
               go_simp
               with_reducible rfl
              rotate_left
              ·simp only [Act.put, List.setIfInBounds_toArray, List.set_cons_zero, List.set_cons_succ, i64_w, i32_w]
               rfl
              refine pure_ (i := 2) (N := some 69) (v := ?_) (a' := ?_) #[true, true, true, false, false, false, false, false, false] rfl rfl (any_of HT_.out (by kernel_rfl)) (fun _ _ _ h => h) (Or.inl ⟨by rfl, ?_⟩) ?_ ?_
              rotate_left
              ·intro w'
               go_simp
               with_reducible rfl
              rotate_left
              ·simp only [Act.put, List.setIfInBounds_toArray, List.set_cons_zero, List.set_cons_succ, i64_w, i32_w]
               rfl
              refine pure_ (i := 4) (N := some 71) (v := ?_) (a' := ?_) #[true, true, true, false, true, false, false, false, false] rfl rfl (any_of HT_.out (by kernel_rfl)) (fun _ _ _ h => h) (Or.inl ⟨by rfl, ?_⟩) ?_ ?_
              rotate_left
              ·intro w'
               go_simp
               with_reducible rfl
              rotate_left
              ·simp only [Act.put, List.setIfInBounds_toArray, List.set_cons_zero, List.set_cons_succ, i64_w, i32_w]
               rfl
              refine pure_ (i := 5) (N := some 72) (v := ?_) (a' := ?_) #[true, true, true, false, true, true, false, false, false] rfl rfl (any_of HT_.out (by kernel_rfl)) (fun _ _ _ h => h) (Or.inl ⟨by rfl, ?_⟩) ?_ ?_
              rotate_left
              ·intro w'
               go_simp
               with_reducible rfl
              rotate_left
              ·simp only [Act.put, List.setIfInBounds_toArray, List.set_cons_zero, List.set_cons_succ, i64_w, i32_w]
               rfl
              refine take_ (i := 3) (N := some 70) (v := ?_) (a' := ?_) #[true, true, true, true, true, true, false, false, false] rfl rfl (take_ofW HT_.out HW_.out (by kernel_rfl)) (fun _ _ _ h => h) (Or.inl ⟨by rfl, ?_⟩) hHeld ?_ ?_
              rotate_left
              ·rintro w' ⟨s0, s1⟩
               go_simp
               with_reducible rfl
              rotate_left
              ·simp only [Act.put, List.setIfInBounds_toArray, List.set_cons_zero, List.set_cons_succ, i64_w, i32_w]
               rfl
              refine take_ (i := 6) (N := some 73) (v := ?_) (a' := ?_) #[true, true, true, true, true, true, true, false, false] rfl rfl (take_ofW HT_.out HW_.out (by kernel_rfl)) (fun _ _ _ h => h) (Or.inl ⟨by rfl, ?_⟩) hHeld ?_ ?_
              rotate_left
              ·rintro w' ⟨s0, s1⟩
               go_simp
               with_reducible rfl
              rotate_left
              ·simp only [Act.put, List.setIfInBounds_toArray, List.set_cons_zero, List.set_cons_succ, i64_w, i32_w]
               rfl
              refine pure_ (i := 7) (N := some 74) (v := ?_) (a' := ?_) #[true, true, true, true, true, true, true, true, false] rfl rfl (any_of HT_.out (by kernel_rfl)) (fun _ _ _ h => h) (Or.inl ⟨by rfl, ?_⟩) ?_ ?_
              rotate_left
              ·intro w'
               go_simp
               with_reducible rfl
              rotate_left
              ·simp only [Act.put, List.setIfInBounds_toArray, List.set_cons_zero, List.set_cons_succ, i64_w, i32_w]
               rfl
              refine pure_ (i := 8) (N := some 9) (v := ?_) (a' := ?_) #[true, true, true, true, true, true, true, true, true] rfl rfl (any_of HT_.out (by kernel_rfl)) (fun _ _ _ h => h) (Or.inl ⟨by rfl, ?_⟩) ?_ ?_
              rotate_left
              ·intro w'
               go_simp
               with_reducible rfl
              rotate_left
              ·simp only [Act.put, List.setIfInBounds_toArray, List.set_cons_zero, List.set_cons_succ, i64_w, i32_w]
               rfl
              refine done_ (done_of HT_.out (by kernel_rfl)) ?_
              (try clear HS0_)
              (try clear HS1_)
              (try clear HS2_)
              (try clear HS3_)
              (try clear HS4_)
              (try clear HS5_)
              (try clear HS6_)
              (try clear HS7_)
              (try clear HS8_)
              (try clear HS9_)
              (try clear HS10_)
              (try clear HS11_)
              (try clear hHeld)
              try go_wp2
              go_loopg [10, 77] k2 (fun kq v10 v77 w' => ∃ (x10_3 : Int) (x77_3 : Int), v10 = .int .i64 x10_3 ∧ v77 = .int .i64 x77_3 ∧ Aside0 (shape_Sweep.l1 kq l0 x3_2 (wrap64 ((rd x3_2 (ji21)) - (rd x3_2 0))) x10_3 (l0.length : Int) x77_3 t23009 t23010 t23012 t23013 = some r) ∧ Aside0 (kq ≤ k2) ∧ Aside0 (Kd.R (Kd.int .i64) 3 w' w.heap.size (fun _ => True) (.slice (some ad23016) x3_2.length co39) x3_2) ∧ Aside0 (w'.heap[gb23014]? = some (.cells #[.int .i64 t23009, .int .i64 t23010] 28 (0, 0))) ∧ Aside0 (w'.heap[gb23015]? = some (.cells #[.int .i64 t23012, .int .i64 t23013] 28 (0, 0))) ∧ Aside0 (Below w.heap.size w w'))
              case atStart => exact ⟨(0), (0), (by first | rfl | (simp; done) | (simp [*]; done)), (by first | rfl | (simp; done) | (simp [*]; done)), H', ⟨Nat.le_refl _⟩, ⟨fR_ HO_3.out⟩, ⟨fb_ BK23014.out⟩, ⟨fb_ BK23015.out⟩, ⟨be_⟩⟩
              case round =>
               clear H'
               try clear c1
               try clear c2
               try clear p2
               try clear q2
               try clear hx2
               try clear qi2
               try clear p6
               try clear c14
               try clear c23
               try clear p23
               try clear q23
               try clear hx23
               try clear qi23
               try clear hx23016_0
               try clear hx23017_0
               try clear p23016
               try clear p23017
               try clear q23016
               try clear q23017
               obtain ⟨x10_3, x77_3, rfl, rfl, HA, HK3, HO_3, BK23014, BK23015, HB⟩ := hrel
               cases gk with
               | zero => exact absurd HA.out (by simp [shape_Sweep.l1])
               | succ k3 =>
                have H := HA.out
                clear HA
                simp only [shape_Sweep.l1] at H
                by_cases c40 : x77_3 < (l0.length : Int)
                ·rw [if_pos c40] at H
                 have c40b0 : decide (x77_3 < (l0.length : Int)) = true := decide_eq_true c40
                 clear c40
                 by_cases c41 : 0 ≤ x77_3
                 ·rw [if_pos c41] at H
                  have c41b0 : decide (0 ≤ x77_3) = true := decide_eq_true c41
                  clear c41
                  by_cases c42 : x77_3 < (l0.length : Int)
                  ·rw [if_pos c42] at H
                   have c42b0 : decide (x77_3 < (l0.length : Int)) = true := decide_eq_true c42
                   clear c42
                   replace H := Option.bind_eq_some_iff.mp H
                   obtain ⟨⟨t23019, t23020⟩, A430, H⟩ := H
                   replace H : (if x77_3 < (x3_2.length : Int) then (if 0 < (x3_2.length : Int) then ((units_Floor.f k3 (wrap64 ((wrap64 (t23012 - t23009)) * (wrap64 ((rd x3_2 x77_3) - (rd x3_2 0))))) (wrap64 ((rd x3_2 (ji21)) - (rd x3_2 0)))).bind fun bt23024 => ((units_Floor.f k3 (wrap64 ((wrap64 (t23013 - t23010)) * (wrap64 ((rd x3_2 x77_3) - (rd x3_2 0))))) (wrap64 ((rd x3_2 (ji21)) - (rd x3_2 0)))).bind fun bt23026 => (shape_Sweep.l1 k3 l0 x3_2 (wrap64 ((rd x3_2 (ji21)) - (rd x3_2 0))) (mx (mx (mx (mx x10_3 (wrap64 ((wrap64 (t23019 - t23009)) - bt23024.1))) (wrap64 (-(wrap64 ((wrap64 (t23019 - t23009)) - bt23024.1))))) (wrap64 ((wrap64 (t23020 - t23010)) - bt23026.1))) (wrap64 (-(wrap64 ((wrap64 (t23020 - t23010)) - bt23026.1))))) (l0.length : Int) (wrap64 (x77_3 + 1)) t23009 t23010 t23012 t23013))) else (none)) else (none)) = some r := H
                   have A43 := Aside0.mk A430
                   clear A430
                   by_cases c44 : x77_3 < (x3_2.length : Int)
                   ·rw [if_pos c44] at H
                    have c44b0 : decide (x77_3 < (x3_2.length : Int)) = true := decide_eq_true c44
                    clear c44
                    by_cases c45 : 0 < (x3_2.length : Int)
                    ·rw [if_pos c45] at H
                     have c45b0 : decide (0 < (x3_2.length : Int)) = true := decide_eq_true c45
                     have c45b1 : decide (0 < x3_2.length) = true := decide_eq_true (by omega)
                     clear c45
                     replace H := Option.bind_eq_some_iff.mp H
                     obtain ⟨⟨t23024, t23025⟩, A460, H⟩ := H
                     replace H : ((units_Floor.f k3 (wrap64 ((wrap64 (t23013 - t23010)) * (wrap64 ((rd x3_2 x77_3) - (rd x3_2 0))))) (wrap64 ((rd x3_2 (ji21)) - (rd x3_2 0)))).bind fun bt23026 => (shape_Sweep.l1 k3 l0 x3_2 (wrap64 ((rd x3_2 (ji21)) - (rd x3_2 0))) (mx (mx (mx (mx x10_3 (wrap64 ((wrap64 (t23019 - t23009)) - t23024))) (wrap64 (-(wrap64 ((wrap64 (t23019 - t23009)) - t23024))))) (wrap64 ((wrap64 (t23020 - t23010)) - bt23026.1))) (wrap64 (-(wrap64 ((wrap64 (t23020 - t23010)) - bt23026.1))))) (l0.length : Int) (wrap64 (x77_3 + 1)) t23009 t23010 t23012 t23013)) = some r := H
                     have A46 := Aside0.mk A460
                     clear A460
                     replace H := Option.bind_eq_some_iff.mp H
                     obtain ⟨⟨t23026, t23027⟩, A470, H⟩ := H
                     replace H : (shape_Sweep.l1 k3 l0 x3_2 (wrap64 ((rd x3_2 (ji21)) - (rd x3_2 0))) (mx (mx (mx (mx x10_3 (wrap64 ((wrap64 (t23019 - t23009)) - t23024))) (wrap64 (-(wrap64 ((wrap64 (t23019 - t23009)) - t23024))))) (wrap64 ((wrap64 (t23020 - t23010)) - t23026))) (wrap64 (-(wrap64 ((wrap64 (t23020 - t23010)) - t23026))))) (l0.length : Int) (wrap64 (x77_3 + 1)) t23009 t23010 t23012 t23013) = some r := H
                     have A47 := Aside0.mk A470
                     clear A470
                     obtain ⟨ji48, hji48⟩ : ∃ j_ : Int, (mx x10_3 (wrap64 ((wrap64 (t23019 - t23009)) - t23024))) = j_ := ⟨_, rfl⟩
                     replace H : (shape_Sweep.l1 k3 l0 x3_2 (wrap64 ((rd x3_2 (ji21)) - (rd x3_2 0))) (mx (mx (mx (ji48) (wrap64 (-(wrap64 ((wrap64 (t23019 - t23009)) - t23024))))) (wrap64 ((wrap64 (t23020 - t23010)) - t23026))) (wrap64 (-(wrap64 ((wrap64 (t23020 - t23010)) - t23026))))) (l0.length : Int) (wrap64 (x77_3 + 1)) t23009 t23010 t23012 t23013) = some r := by first | (rw [hji48] at H; exact H) | (simp only [hji48] at H ⊢; exact H)
                     (try rw [hji48] at A43)
                     (try rw [hji48] at A46)
                     (try rw [hji48] at A47)
                     have hji48_ : (if x10_3 < (wrap64 ((wrap64 (t23019 - t23009)) - t23024)) then (wrap64 ((wrap64 (t23019 - t23009)) - t23024)) else x10_3) = ji48 := hji48
                     obtain ⟨ji49, hji49⟩ : ∃ j_ : Int, (mx (ji48) (wrap64 (-(wrap64 ((wrap64 (t23019 - t23009)) - t23024))))) = j_ := ⟨_, rfl⟩
                     replace H : (shape_Sweep.l1 k3 l0 x3_2 (wrap64 ((rd x3_2 (ji21)) - (rd x3_2 0))) (mx (mx (ji49) (wrap64 ((wrap64 (t23020 - t23010)) - t23026))) (wrap64 (-(wrap64 ((wrap64 (t23020 - t23010)) - t23026))))) (l0.length : Int) (wrap64 (x77_3 + 1)) t23009 t23010 t23012 t23013) = some r := by first | (rw [hji49] at H; exact H) | (simp only [hji49] at H ⊢; exact H)
                     (try rw [hji49] at A43)
                     (try rw [hji49] at A46)
                     (try rw [hji49] at A47)
                     have hji49_ : (if (ji48) < (wrap64 (-(wrap64 ((wrap64 (t23019 - t23009)) - t23024)))) then (wrap64 (-(wrap64 ((wrap64 (t23019 - t23009)) - t23024)))) else (ji48)) = ji49 := hji49
                     obtain ⟨ji50, hji50⟩ : ∃ j_ : Int, (mx (ji49) (wrap64 ((wrap64 (t23020 - t23010)) - t23026))) = j_ := ⟨_, rfl⟩
                     replace H : (shape_Sweep.l1 k3 l0 x3_2 (wrap64 ((rd x3_2 (ji21)) - (rd x3_2 0))) (mx (ji50) (wrap64 (-(wrap64 ((wrap64 (t23020 - t23010)) - t23026))))) (l0.length : Int) (wrap64 (x77_3 + 1)) t23009 t23010 t23012 t23013) = some r := by first | (rw [hji50] at H; exact H) | (simp only [hji50] at H ⊢; exact H)
                     (try rw [hji50] at A43)
                     (try rw [hji50] at A46)
                     (try rw [hji50] at A47)
                     have hji50_ : (if (ji49) < (wrap64 ((wrap64 (t23020 - t23010)) - t23026)) then (wrap64 ((wrap64 (t23020 - t23010)) - t23026)) else (ji49)) = ji50 := hji50
                     obtain ⟨ji51, hji51⟩ : ∃ j_ : Int, (mx (ji50) (wrap64 (-(wrap64 ((wrap64 (t23020 - t23010)) - t23026))))) = j_ := ⟨_, rfl⟩
                     replace H : (shape_Sweep.l1 k3 l0 x3_2 (wrap64 ((rd x3_2 (ji21)) - (rd x3_2 0))) ji51 (l0.length : Int) (wrap64 (x77_3 + 1)) t23009 t23010 t23012 t23013) = some r := by first | (rw [hji51] at H; exact H) | (simp only [hji51] at H ⊢; exact H)
                     (try rw [hji51] at A43)
                     (try rw [hji51] at A46)
                     (try rw [hji51] at A47)
                     have hji51_ : (if (ji50) < (wrap64 (-(wrap64 ((wrap64 (t23020 - t23010)) - t23026)))) then (wrap64 (-(wrap64 ((wrap64 (t23020 - t23010)) - t23026)))) else (ji50)) = ji51 := hji51
                     have H' := Aside0.mk H
                     clear H
                     have p23018 : 0 ≤ (x77_3 : Int) := of_decide_eq_true (by first | (with_reducible assumption) | assumption)
                     have q23018 : x77_3 < (l0.length : Int) := of_decide_eq_true (by first | (with_reducible assumption) | assumption)
                     obtain ⟨ad23018, A23018_2, c23018_2, e23018, hx23018_0, hx23018_1, hx23018_2, hl23018_2, hi23018_2⟩ := at_T36 HR0.out x77_3 p23018 q23018
                     obtain rfl : ad23008 = ad23018 := (by injection e23018)
                     replace hx23018_0 := (HB.out.cell (World.block_lt_of_cell? w _ hx23018_0)).trans hx23018_0
                     replace hx23018_1 := (HB.out.cell (World.block_lt_of_cell? w _ hx23018_1)).trans hx23018_1
                     replace hx23018_2 := (HB.out.cell (World.block_lt_of_cell? w _ hx23018_2)).trans hx23018_2
                     have HR23018_2 := Aside0.mk hi23018_2
                     have HC23018_2 := Aside0.mk hl23018_2
                     clear hi23018_2 hl23018_2
                     replace p23018 := eq_true p23018
                     replace q23018 := eq_true q23018
                     try go_wp2_with (first | ((with_reducible refine gate_callee (f := 14) rfl ?_); refine goesL_ (some 85) rfl rfl Try.func14 (by kernel_rfl) rfl #[.agg #[.int .i64 ((rd_T36 l0 x77_3).f1.f0), .slice A23018_2 ((rd_T36 l0 x77_3).f1.f1).length c23018_2]] rfl la_ ?_; (with_reducible refine (shape_Center2.calls k3 ((rd_T36 l0 x77_3).f1.f0) _ _ ((rd_T36 l0 x77_3).f1.f1) t23019 t23020 _ ?side1 ?side2 A43.out).mono ?_); (case side1 => repeat (first | exact (Kd.C_below HR23018_2.out HB.out) | (with_reducible refine Kd.C_alloc ?_ _) | (with_reducible refine Kd.C_drewN ?_ _) | (with_reducible refine Kd.C_drew ?_))); (case side2 => exact HC23018_2.out); rintro e w52 ⟨rfl, hb⟩; refine ⟨_, rfl, ?_⟩; have n0_ := Aside0.mk (Kd.R_below (fR_ HO_3.out) hb); have n1_ := Aside0.mk (blk_below (g := gb23014) (o := .cells #[.int .i64 t23009, .int .i64 t23010] 28 (0, 0)) (fb_ BK23014.out) hb); have n2_ := Aside0.mk (blk_below (g := gb23015) (o := .cells #[.int .i64 t23012, .int .i64 t23013] 28 (0, 0)) (fb_ BK23015.out) hb); have n3_ := Aside0.mk (bs_ hb); clear HO_3 BK23014 BK23015 HB; have HO_3 := n0_; have BK23014 := n1_; have BK23015 := n2_; have HB := n3_; clear n0_ n1_ n2_ n3_; (try clear hb); (try clear hb2); (try clear hk); (try clear hi)) | ((with_reducible refine gate_dst (N := 12) rfl ?_); (try (refine gate_guard (by rfl) ?_; dsimp only)); refine box_event ?hg (N := 12) ?hd (cs := #[.int .i64 0, .int .i64 0]) (t := 28) ?hr ?_; (case hd => rfl); (case hg => rfl); (case hr => first | (go_simp; done) | (go_simp; rfl)); intro gb23021 hg w53 hbox hb; have n0_ := Aside0.mk (Kd.R_below (fR_ HO_3.out) hb); have n1_ := Aside0.mk (blk_below (g := gb23014) (o := .cells #[.int .i64 t23009, .int .i64 t23010] 28 (0, 0)) (fb_ BK23014.out) hb); have n2_ := Aside0.mk (blk_below (g := gb23015) (o := .cells #[.int .i64 t23012, .int .i64 t23013] 28 (0, 0)) (fb_ BK23015.out) hb); have n3_ := Aside0.mk (bs_ hb); have n4_ := Aside0.mk (hbox); have n5_ := Aside0.mk ((by rw [hg]; exact bz_ : w.heap.size ≤ gb23021)); have n6_ := Aside0.mk ((by rw [hg]; exact bz_ : w.heap.size ≤ gb23021)); have n7_ := Aside0.mk ((by rw [hg]; exact Nat.ne_of_lt (blk_lt (g := gb23014) (o := .cells #[.int .i64 t23009, .int .i64 t23010] 28 (0, 0)) (fb_ BK23014.out)) : gb23014 ≠ gb23021)); have n8_ := Aside0.mk ((by rw [hg]; exact Nat.ne_of_gt (blk_lt (g := gb23014) (o := .cells #[.int .i64 t23009, .int .i64 t23010] 28 (0, 0)) (fb_ BK23014.out)) : gb23021 ≠ gb23014)); have n9_ := Aside0.mk ((by rw [hg]; exact Nat.ne_of_lt (blk_lt (g := gb23015) (o := .cells #[.int .i64 t23012, .int .i64 t23013] 28 (0, 0)) (fb_ BK23015.out)) : gb23015 ≠ gb23021)); have n10_ := Aside0.mk ((by rw [hg]; exact Nat.ne_of_gt (blk_lt (g := gb23015) (o := .cells #[.int .i64 t23012, .int .i64 t23013] 28 (0, 0)) (fb_ BK23015.out)) : gb23021 ≠ gb23015)); clear HO_3 BK23014 BK23015 HB; have HO_3 := n0_; have BK23014 := n1_; have BK23015 := n2_; have HB := n3_; have BK23021 := n4_; have GW23021 := n5_; have GE23021 := n6_; have NB23014_23021 := n7_; have NB23021_23014 := n8_; have NB23015_23021 := n9_; have NB23021_23015 := n10_; clear n0_ n1_ n2_ n3_ n4_ n5_ n6_ n7_ n8_ n9_ n10_ hb hbox hg; have hnb54 := NB23021_23014.out; have hnc54 := NB23014_23021.out; have hnb55 := NB23021_23015.out; have hnc55 := NB23015_23021.out; have hcz56_0 : w53.cell? ⟨gb23021, 0, none⟩ = some (.int .i64 0) := (blk_cell BK23021.out 0).trans rfl; have hcz56_1 : w53.cell? ⟨gb23021, 1, none⟩ = some (.int .i64 0) := (blk_cell BK23021.out 1).trans rfl; have hfz56_0 := blk_frozen BK23021.out 0; have hfz56_1 := blk_frozen BK23021.out 1))
                     have n0_ : Aside0 (Kd.R (Kd.int .i64) 3 ((w53.setCell ⟨gb23021, 0, none⟩ (.int .i64 t23019)).setCell ⟨gb23021, 1, none⟩ (.int .i64 t23020)) w.heap.size (fun _ => True) (.slice (some ad23016) x3_2.length co39) x3_2) := ⟨by (with_reducible repeat (first | apply Kd.R_alloc | apply Kd.R_drewN | apply Kd.R_drew)); exact Kd.R_mono (Kd.R_far (p := ⟨gb23021, 1, none⟩) (Kd.R_far (p := ⟨gb23021, 0, none⟩) (Kd.R_types HO_3.out BK23021.out (by decide)) (fun _ hk => hk.2) (.int .i64 t23019)) (fun _ hk => hk.2) (.int .i64 t23020)) (fun _ hk => trivial)⟩
                     have n1_ : Aside0 (((w53.setCell ⟨gb23021, 0, none⟩ (.int .i64 t23019)).setCell ⟨gb23021, 1, none⟩ (.int .i64 t23020)).heap[gb23014]? = some (.cells #[.int .i64 t23009, .int .i64 t23010] 28 (0, 0))) := ⟨by (with_reducible repeat (first | refine blk_drewN ?_ _ | refine blk_drew ?_ | refine blk_alloc ?_ _)); refine blk_far ?_ NB23014_23021.out _; (with_reducible repeat (first | refine blk_drewN ?_ _ | refine blk_drew ?_ | refine blk_alloc ?_ _)); refine blk_far ?_ NB23014_23021.out _; (with_reducible repeat (first | refine blk_drewN ?_ _ | refine blk_drew ?_ | refine blk_alloc ?_ _)); exact BK23014.out⟩
                     have n2_ : Aside0 (((w53.setCell ⟨gb23021, 0, none⟩ (.int .i64 t23019)).setCell ⟨gb23021, 1, none⟩ (.int .i64 t23020)).heap[gb23015]? = some (.cells #[.int .i64 t23012, .int .i64 t23013] 28 (0, 0))) := ⟨by (with_reducible repeat (first | refine blk_drewN ?_ _ | refine blk_drew ?_ | refine blk_alloc ?_ _)); refine blk_far ?_ NB23015_23021.out _; (with_reducible repeat (first | refine blk_drewN ?_ _ | refine blk_drew ?_ | refine blk_alloc ?_ _)); refine blk_far ?_ NB23015_23021.out _; (with_reducible repeat (first | refine blk_drewN ?_ _ | refine blk_drew ?_ | refine blk_alloc ?_ _)); exact BK23015.out⟩
                     have n3_ : Aside0 (((w53.setCell ⟨gb23021, 0, none⟩ (.int .i64 t23019)).setCell ⟨gb23021, 1, none⟩ (.int .i64 t23020)).heap[gb23021]? = some (.cells #[.int .i64 t23019, .int .i64 t23020] 28 (0, 0))) := ⟨by (with_reducible repeat (first | refine blk_drewN ?_ _ | refine blk_drew ?_ | refine blk_alloc ?_ _)); refine blk_put (cs := #[.int .i64 t23019, .int .i64 0]) ?_ 1 _ rfl; (with_reducible repeat (first | refine blk_drewN ?_ _ | refine blk_drew ?_ | refine blk_alloc ?_ _)); refine blk_put (cs := #[.int .i64 0, .int .i64 0]) ?_ 0 _ rfl; (with_reducible repeat (first | refine blk_drewN ?_ _ | refine blk_drew ?_ | refine blk_alloc ?_ _)); exact BK23021.out⟩
                     have n4_ : Aside0 (Below w.heap.size w ((w53.setCell ⟨gb23021, 0, none⟩ (.int .i64 t23019)).setCell ⟨gb23021, 1, none⟩ (.int .i64 t23020))) := ⟨be_⟩
                     (try clear HO_3)
                     (try clear BK23014)
                     (try clear BK23015)
                     (try clear BK23021)
                     (try clear HB)
                     generalize ((w53.setCell ⟨gb23021, 0, none⟩ (.int .i64 t23019)).setCell ⟨gb23021, 1, none⟩ (.int .i64 t23020)) = w57 at n0_ n1_ n2_ n3_ n4_ ⊢
                     have HO_3 := n0_
                     have BK23014 := n1_
                     have BK23015 := n2_
                     have BK23021 := n3_
                     have HB := n4_
                     clear n0_ n1_ n2_ n3_ n4_
                     have n0_ := Aside0.mk (Kd.R_drew HO_3.out)
                     have n1_ := Aside0.mk (blk_drew BK23014.out)
                     have n2_ := Aside0.mk (blk_drew BK23015.out)
                     have n3_ := Aside0.mk (blk_drew BK23021.out)
                     have n4_ := Aside0.mk (below_drew1 HB.out)
                     clear HO_3 BK23014 BK23015 BK23021 HB
                     have HO_3 := n0_
                     have BK23014 := n1_
                     have BK23015 := n2_
                     have BK23021 := n3_
                     have HB := n4_
                     clear n0_ n1_ n2_ n3_ n4_
                     have p23022 : 0 ≤ (x77_3 : Int) := of_decide_eq_true (by first | (with_reducible assumption) | assumption)
                     have q23022 : x77_3 < (x3_2.length : Int) := of_decide_eq_true (by first | (with_reducible assumption) | assumption)
                     obtain ⟨ad23022, e23022, hx23022_0⟩ := Kd.at_int (Kd.R_reads' HO_3.out).2.2 x77_3 p23022 q23022
                     obtain rfl : ad23016 = ad23022 := (by injection e23022)
                     replace p23022 := eq_true p23022
                     replace q23022 := eq_true q23022
                     have p23023 : 0 ≤ (0 : Int) := (by omega)
                     have q23023 : 0 < (x3_2.length : Int) := of_decide_eq_true (by first | (with_reducible assumption) | assumption)
                     obtain ⟨ad23023, e23023, hx23023_0⟩ := Kd.at_int (Kd.R_reads' HO_3.out).2.2 0 p23023 q23023
                     obtain rfl : ad23016 = ad23023 := (by injection e23023)
                     have qi23023 : (0 < x3_2.length) = True := eq_true (by omega)
                     (try rw [show ((0 : Int)).toNat = 0 from rfl] at hx23023_0)
                     (try rw [Addr.add_zero'] at hx23023_0)
                     replace p23023 := eq_true p23023
                     replace q23023 := eq_true q23023
                     refine start_ (n := 9) (S := fun w' => w'.cell? (ad23016.add (x77_3).toNat) = some (.int .i64 (rd x3_2 x77_3)) ∧ w'.cell? ad23016 = some (.int .i64 (rd x3_2 0))) (ds := []) #[false, false, false, false, false, false, false, false, false] (by kernel_rfl) rfl rfl ⟨hx23022_0, hx23023_0⟩ (fun hHeld => ?_); refine with_tabW shape_Sweep.tab19 shape_Sweep.bits19 (fun HT_ HW_ => ?_)
                     generalize w57.drew = w58 at HO_3 BK23014 BK23015 BK23021 HB hx23022_0 hx23023_0 hHeld ⊢
                     refine pure_ (i := 0) (N := some 86) (v := ?_) (a' := ?_) #[true, false, false, false, false, false, false, false, false] rfl rfl (any_of HT_.out (by kernel_rfl)) (fun _ _ _ h => h) (Or.inl ⟨by rfl, ?_⟩) ?_ ?_
                     rotate_left
                     ·intro w'
                      go_simp
                      with_reducible rfl
                     rotate_left
                     ·simp only [Act.put, List.setIfInBounds_toArray, List.set_cons_zero, List.set_cons_succ, i64_w, i32_w]
                      rfl
                     refine pure_ (i := 1) (N := some 87) (v := ?_) (a' := ?_) #[true, true, false, false, false, false, false, false, false] rfl rfl (any_of HT_.out (by kernel_rfl)) (fun _ _ _ h => h) (Or.inl ⟨by rfl, ?_⟩) ?_ ?_
                     rotate_left
                     ·intro w'
                      go_simp
                      with_reducible rfl
                     rotate_left
                     ·simp only [Act.put, List.setIfInBounds_toArray, List.set_cons_zero, List.set_cons_succ, i64_w, i32_w]
                      rfl
                     refine pure_ (i := 2) (N := some 88) (v := ?_) (a' := ?_) #[true, true, true, false, false, false, false, false, false] rfl rfl (any_of HT_.out (by kernel_rfl)) (fun _ _ _ h => h) (Or.inl ⟨by rfl, ?_⟩) ?_ ?_
                     rotate_left
                     ·intro w'
                      go_simp
                      with_reducible rfl
                     rotate_left
                     ·simp only [Act.put, List.setIfInBounds_toArray, List.set_cons_zero, List.set_cons_succ, i64_w, i32_w]
                      rfl
                     refine pure_ (i := 4) (N := some 90) (v := ?_) (a' := ?_) #[true, true, true, false, true, false, false, false, false] rfl rfl (any_of HT_.out (by kernel_rfl)) (fun _ _ _ h => h) (Or.inl ⟨by rfl, ?_⟩) ?_ ?_
                     rotate_left
                     ·intro w'
                      go_simp
                      with_reducible rfl
                     rotate_left
                     ·simp only [Act.put, List.setIfInBounds_toArray, List.set_cons_zero, List.set_cons_succ, i64_w, i32_w]
                      rfl
                     refine pure_ (i := 5) (N := some 91) (v := ?_) (a' := ?_) #[true, true, true, false, true, true, false, false, false] rfl rfl (any_of HT_.out (by kernel_rfl)) (fun _ _ _ h => h) (Or.inl ⟨by rfl, ?_⟩) ?_ ?_
                     rotate_left
                     ·intro w'
                      go_simp
                      with_reducible rfl
                     rotate_left
                     ·simp only [Act.put, List.setIfInBounds_toArray, List.set_cons_zero, List.set_cons_succ, i64_w, i32_w]
                      rfl
                     refine take_ (i := 3) (N := some 89) (v := ?_) (a' := ?_) #[true, true, true, true, true, true, false, false, false] rfl rfl (take_ofW HT_.out HW_.out (by kernel_rfl)) (fun _ _ _ h => h) (Or.inl ⟨by rfl, ?_⟩) hHeld ?_ ?_
                     rotate_left
                     ·rintro w' ⟨s0, s1⟩
                      go_simp
                      with_reducible rfl
                     rotate_left
                     ·simp only [Act.put, List.setIfInBounds_toArray, List.set_cons_zero, List.set_cons_succ, i64_w, i32_w]
                      rfl
                     refine take_ (i := 6) (N := some 92) (v := ?_) (a' := ?_) #[true, true, true, true, true, true, true, false, false] rfl rfl (take_ofW HT_.out HW_.out (by kernel_rfl)) (fun _ _ _ h => h) (Or.inl ⟨by rfl, ?_⟩) hHeld ?_ ?_
                     rotate_left
                     ·rintro w' ⟨s0, s1⟩
                      go_simp
                      with_reducible rfl
                     rotate_left
                     ·simp only [Act.put, List.setIfInBounds_toArray, List.set_cons_zero, List.set_cons_succ, i64_w, i32_w]
                      rfl
                     refine pure_ (i := 7) (N := some 93) (v := ?_) (a' := ?_) #[true, true, true, true, true, true, true, true, false] rfl rfl (any_of HT_.out (by kernel_rfl)) (fun _ _ _ h => h) (Or.inl ⟨by rfl, ?_⟩) ?_ ?_
                     rotate_left
                     ·intro w'
                      go_simp
                      with_reducible rfl
                     rotate_left
                     ·simp only [Act.put, List.setIfInBounds_toArray, List.set_cons_zero, List.set_cons_succ, i64_w, i32_w]
                      rfl
                     refine pure_ (i := 8) (N := some 13) (v := ?_) (a' := ?_) #[true, true, true, true, true, true, true, true, true] rfl rfl (any_of HT_.out (by kernel_rfl)) (fun _ _ _ h => h) (Or.inl ⟨by rfl, ?_⟩) ?_ ?_
                     rotate_left
                     ·intro w'
                      go_simp
                      with_reducible rfl
                     rotate_left
                     ·simp only [Act.put, List.setIfInBounds_toArray, List.set_cons_zero, List.set_cons_succ, i64_w, i32_w]
                      rfl
                     refine done_ (done_of HT_.out (by kernel_rfl)) ?_
                     (try clear HS0_)
                     (try clear HS1_)
                     (try clear HS2_)
                     (try clear HS3_)
                     (try clear HS4_)
                     (try clear HS5_)
                     (try clear HS6_)
                     (try clear HS7_)
                     (try clear HS8_)
                     (try clear HS9_)
                     (try clear HS10_)
                     (try clear HS11_)
                     (try clear hHeld)
                     have hnb59 := NB23015_23014.out
                     have hnc59 := NB23014_23015.out
                     have hcz60_0 : w58.cell? ⟨gb23015, 0, none⟩ = some (.int .i64 t23012) := (blk_cell BK23015.out 0).trans rfl
                     have hcz60_1 : w58.cell? ⟨gb23015, 1, none⟩ = some (.int .i64 t23013) := (blk_cell BK23015.out 1).trans rfl
                     have hfz60_0 := blk_frozen BK23015.out 0
                     have hfz60_1 := blk_frozen BK23015.out 1
                     have hcz61_0 : w58.cell? ⟨gb23014, 0, none⟩ = some (.int .i64 t23009) := (blk_cell BK23014.out 0).trans rfl
                     have hcz61_1 : w58.cell? ⟨gb23014, 1, none⟩ = some (.int .i64 t23010) := (blk_cell BK23014.out 1).trans rfl
                     have hfz61_0 := blk_frozen BK23014.out 0
                     have hfz61_1 := blk_frozen BK23014.out 1
                     try go_wp2_with (first | ((with_reducible refine gate_callee (f := 44) rfl ?_); refine goesL_ (some 103) rfl rfl Try.func44 (by kernel_rfl) rfl #[.int .i64 (wrap64 ((wrap64 (t23012 - t23009)) * (wrap64 ((rd x3_2 x77_3) - (rd x3_2 0))))), .int .i64 (wrap64 ((rd x3_2 (ji21)) - (rd x3_2 0)))] rfl (by (try simp only [List.map_toArray, List.map_cons, List.map_nil]); first | done | (simp only [hji21]; rfl) | rfl | (simp only [List.length_drop, List.length_take]; rfl)) ?_; (with_reducible refine (units_Floor.calls k3 (wrap64 ((wrap64 (t23012 - t23009)) * (wrap64 ((rd x3_2 x77_3) - (rd x3_2 0))))) (wrap64 ((rd x3_2 (ji21)) - (rd x3_2 0))) t23024 t23025 _ A46.out).mono ?_); rintro e w62 ⟨rfl, hb⟩; refine ⟨_, rfl, ?_⟩; have n0_ := Aside0.mk (Kd.R_below (fR_ HO_3.out) hb); have n1_ := Aside0.mk (blk_below (g := gb23014) (o := .cells #[.int .i64 t23009, .int .i64 t23010] 28 (0, 0)) (fb_ BK23014.out) hb); have n2_ := Aside0.mk (blk_below (g := gb23015) (o := .cells #[.int .i64 t23012, .int .i64 t23013] 28 (0, 0)) (fb_ BK23015.out) hb); have n3_ := Aside0.mk (blk_below (g := gb23021) (o := .cells #[.int .i64 t23019, .int .i64 t23020] 28 (0, 0)) (fb_ BK23021.out) hb); have n4_ := Aside0.mk (bs_ hb); clear HO_3 BK23014 BK23015 BK23021 HB; have HO_3 := n0_; have BK23014 := n1_; have BK23015 := n2_; have BK23021 := n3_; have HB := n4_; clear n0_ n1_ n2_ n3_ n4_; (try clear hb); (try clear hb2); (try clear hk); (try clear hi); have hcz63_0 : w62.cell? ⟨gb23015, 0, none⟩ = some (.int .i64 t23012) := (blk_cell BK23015.out 0).trans rfl; have hcz63_1 : w62.cell? ⟨gb23015, 1, none⟩ = some (.int .i64 t23013) := (blk_cell BK23015.out 1).trans rfl; have hfz63_0 := blk_frozen BK23015.out 0; have hfz63_1 := blk_frozen BK23015.out 1; have hcz64_0 : w62.cell? ⟨gb23014, 0, none⟩ = some (.int .i64 t23009) := (blk_cell BK23014.out 0).trans rfl; have hcz64_1 : w62.cell? ⟨gb23014, 1, none⟩ = some (.int .i64 t23010) := (blk_cell BK23014.out 1).trans rfl; have hfz64_0 := blk_frozen BK23014.out 0; have hfz64_1 := blk_frozen BK23014.out 1) | ((with_reducible refine gate_callee (f := 44) rfl ?_); refine goesL_ (some 115) rfl rfl Try.func44 (by kernel_rfl) rfl #[.int .i64 (wrap64 ((wrap64 (t23013 - t23010)) * (wrap64 ((rd x3_2 x77_3) - (rd x3_2 0))))), .int .i64 (wrap64 ((rd x3_2 (ji21)) - (rd x3_2 0)))] rfl (by (try simp only [List.map_toArray, List.map_cons, List.map_nil]); first | done | (simp only [hji21]; rfl) | rfl | (simp only [List.length_drop, List.length_take]; rfl)) ?_; (with_reducible refine (units_Floor.calls k3 (wrap64 ((wrap64 (t23013 - t23010)) * (wrap64 ((rd x3_2 x77_3) - (rd x3_2 0))))) (wrap64 ((rd x3_2 (ji21)) - (rd x3_2 0))) t23026 t23027 _ A47.out).mono ?_); rintro e w65 ⟨rfl, hb⟩; refine ⟨_, rfl, ?_⟩; have n0_ := Aside0.mk (Kd.R_below (fR_ HO_3.out) hb); have n1_ := Aside0.mk (blk_below (g := gb23014) (o := .cells #[.int .i64 t23009, .int .i64 t23010] 28 (0, 0)) (fb_ BK23014.out) hb); have n2_ := Aside0.mk (blk_below (g := gb23015) (o := .cells #[.int .i64 t23012, .int .i64 t23013] 28 (0, 0)) (fb_ BK23015.out) hb); have n3_ := Aside0.mk (blk_below (g := gb23021) (o := .cells #[.int .i64 t23019, .int .i64 t23020] 28 (0, 0)) (fb_ BK23021.out) hb); have n4_ := Aside0.mk (bs_ hb); clear HO_3 BK23014 BK23015 BK23021 HB; have HO_3 := n0_; have BK23014 := n1_; have BK23015 := n2_; have BK23021 := n3_; have HB := n4_; clear n0_ n1_ n2_ n3_ n4_; (try clear hb); (try clear hb2); (try clear hk); (try clear hi)))
                     have n0_ := Aside0.mk (Kd.R_drew HO_3.out)
                     have n1_ := Aside0.mk (blk_drew BK23014.out)
                     have n2_ := Aside0.mk (blk_drew BK23015.out)
                     have n3_ := Aside0.mk (blk_drew BK23021.out)
                     have n4_ := Aside0.mk (below_drew1 HB.out)
                     clear HO_3 BK23014 BK23015 BK23021 HB
                     have HO_3 := n0_
                     have BK23014 := n1_
                     have BK23015 := n2_
                     have BK23021 := n3_
                     have HB := n4_
                     clear n0_ n1_ n2_ n3_ n4_
                     refine start_ (n := 16) (S := fun w' => w'.cell? ⟨gb23021, 0, none⟩ = some (.int .i64 t23019) ∧ w'.cell? ⟨gb23021, 1, none⟩ = some (.int .i64 t23020) ∧ w'.cell? ⟨gb23014, 0, none⟩ = some (.int .i64 t23009) ∧ w'.cell? ⟨gb23014, 1, none⟩ = some (.int .i64 t23010)) (ds := []) #[false, false, false, false, false, false, false, false, false, false, false, false, false, false, false, false] (by kernel_rfl) rfl rfl ⟨(blk_cell BK23021.out 0).trans rfl, (blk_cell BK23021.out 1).trans rfl, (blk_cell BK23014.out 0).trans rfl, (blk_cell BK23014.out 1).trans rfl⟩ (fun hHeld => ?_); refine with_tabW shape_Sweep.tab22 shape_Sweep.bits22 (fun HT_ HW_ => ?_)
                     generalize w65.drew = w66 at HO_3 BK23014 BK23015 BK23021 HB hHeld ⊢
                     refine pure_ (i := 0) (N := some 118) (v := ?_) (a' := ?_) #[true, false, false, false, false, false, false, false, false, false, false, false, false, false, false, false] rfl rfl (any_of HT_.out (by kernel_rfl)) (fun _ _ _ h => h) (Or.inl ⟨by rfl, ?_⟩) ?_ ?_
                     rotate_left
                     ·intro w'
                      go_simp
                      with_reducible rfl
                     rotate_left
                     ·simp only [Act.put, List.setIfInBounds_toArray, List.set_cons_zero, List.set_cons_succ, i64_w, i32_w]
                      rfl
                     refine pure_ (i := 2) (N := some 120) (v := ?_) (a' := ?_) #[true, false, true, false, false, false, false, false, false, false, false, false, false, false, false, false] rfl rfl (any_of HT_.out (by kernel_rfl)) (fun _ _ _ h => h) (Or.inl ⟨by rfl, ?_⟩) ?_ ?_
                     rotate_left
                     ·intro w'
                      go_simp
                      with_reducible rfl
                     rotate_left
                     ·simp only [Act.put, List.setIfInBounds_toArray, List.set_cons_zero, List.set_cons_succ, i64_w, i32_w]
                      rfl
                     refine pure_ (i := 5) (N := some 123) (v := ?_) (a' := ?_) #[true, false, true, false, false, true, false, false, false, false, false, false, false, false, false, false] rfl rfl (any_of HT_.out (by kernel_rfl)) (fun _ _ _ h => h) (Or.inl ⟨by rfl, ?_⟩) ?_ ?_
                     rotate_left
                     ·intro w'
                      go_simp
                      with_reducible rfl
                     rotate_left
                     ·simp only [Act.put, List.setIfInBounds_toArray, List.set_cons_zero, List.set_cons_succ, i64_w, i32_w]
                      rfl
                     refine pure_ (i := 7) (N := some 125) (v := ?_) (a' := ?_) #[true, false, true, false, false, true, false, true, false, false, false, false, false, false, false, false] rfl rfl (any_of HT_.out (by kernel_rfl)) (fun _ _ _ h => h) (Or.inl ⟨by rfl, ?_⟩) ?_ ?_
                     rotate_left
                     ·intro w'
                      go_simp
                      with_reducible rfl
                     rotate_left
                     ·simp only [Act.put, List.setIfInBounds_toArray, List.set_cons_zero, List.set_cons_succ, i64_w, i32_w]
                      rfl
                     refine pure_ (i := 9) (N := some 127) (v := ?_) (a' := ?_) #[true, false, true, false, false, true, false, true, false, true, false, false, false, false, false, false] rfl rfl (any_of HT_.out (by kernel_rfl)) (fun _ _ _ h => h) (Or.inl ⟨by rfl, ?_⟩) ?_ ?_
                     rotate_left
                     ·intro w'
                      go_simp
                      with_reducible rfl
                     rotate_left
                     ·simp only [Act.put, List.setIfInBounds_toArray, List.set_cons_zero, List.set_cons_succ, i64_w, i32_w]
                      rfl
                     refine pure_ (i := 12) (N := some 130) (v := ?_) (a' := ?_) #[true, false, true, false, false, true, false, true, false, true, false, false, true, false, false, false] rfl rfl (any_of HT_.out (by kernel_rfl)) (fun _ _ _ h => h) (Or.inl ⟨by rfl, ?_⟩) ?_ ?_
                     rotate_left
                     ·intro w'
                      go_simp
                      with_reducible rfl
                     rotate_left
                     ·simp only [Act.put, List.setIfInBounds_toArray, List.set_cons_zero, List.set_cons_succ, i64_w, i32_w]
                      rfl
                     refine take_ (i := 1) (N := some 119) (v := ?_) (a' := ?_) #[true, true, true, false, false, true, false, true, false, true, false, false, true, false, false, false] rfl rfl (take_ofW HT_.out HW_.out (by kernel_rfl)) (fun _ _ _ h => h) (Or.inl ⟨by rfl, ?_⟩) hHeld ?_ ?_
                     rotate_left
                     ·rintro w' ⟨s0, s1, s2, s3⟩
                      go_simp
                      with_reducible rfl
                     rotate_left
                     ·simp only [Act.put, List.setIfInBounds_toArray, List.set_cons_zero, List.set_cons_succ, i64_w, i32_w]
                      rfl
                     refine take_ (i := 3) (N := some 121) (v := ?_) (a' := ?_) #[true, true, true, true, false, true, false, true, false, true, false, false, true, false, false, false] rfl rfl (take_ofW HT_.out HW_.out (by kernel_rfl)) (fun _ _ _ h => h) (Or.inl ⟨by rfl, ?_⟩) hHeld ?_ ?_
                     rotate_left
                     ·rintro w' ⟨s0, s1, s2, s3⟩
                      go_simp
                      with_reducible rfl
                     rotate_left
                     ·simp only [Act.put, List.setIfInBounds_toArray, List.set_cons_zero, List.set_cons_succ, i64_w, i32_w]
                      rfl
                     refine pure_ (i := 4) (N := some 122) (v := ?_) (a' := ?_) #[true, true, true, true, true, true, false, true, false, true, false, false, true, false, false, false] rfl rfl (any_of HT_.out (by kernel_rfl)) (fun _ _ _ h => h) (Or.inl ⟨by rfl, ?_⟩) ?_ ?_
                     rotate_left
                     ·intro w'
                      go_simp
                      with_reducible rfl
                     rotate_left
                     ·simp only [Act.put, List.setIfInBounds_toArray, List.set_cons_zero, List.set_cons_succ, i64_w, i32_w]
                      rfl
                     refine pure_ (i := 6) (N := some 124) (v := ?_) (a' := ?_) #[true, true, true, true, true, true, true, true, false, true, false, false, true, false, false, false] rfl rfl (any_of HT_.out (by kernel_rfl)) (fun _ _ _ h => h) (Or.inl ⟨by rfl, ?_⟩) ?_ ?_
                     rotate_left
                     ·intro w'
                      go_simp
                      with_reducible rfl
                     rotate_left
                     ·simp only [Act.put, List.setIfInBounds_toArray, List.set_cons_zero, List.set_cons_succ, i64_w, i32_w]
                      rfl
                     refine pure_ (i := 14) (N := some 14) (v := ?_) (a' := ?_) #[true, true, true, true, true, true, true, true, false, true, false, false, true, false, true, false] rfl rfl (any_of HT_.out (by kernel_rfl)) (fun _ _ _ h => h) (Or.inl ⟨by rfl, ?_⟩) ?_ ?_
                     rotate_left
                     ·intro w'
                      go_simp
                      with_reducible rfl
                     rotate_left
                     ·simp only [Act.put, List.setIfInBounds_toArray, List.set_cons_zero, List.set_cons_succ, i64_w, i32_w]
                      rfl
                     refine take_ (i := 8) (N := some 126) (v := ?_) (a' := ?_) #[true, true, true, true, true, true, true, true, true, true, false, false, true, false, true, false] rfl rfl (take_ofW HT_.out HW_.out (by kernel_rfl)) (fun _ _ _ h => h) (Or.inl ⟨by rfl, ?_⟩) hHeld ?_ ?_
                     rotate_left
                     ·rintro w' ⟨s0, s1, s2, s3⟩
                      go_simp
                      with_reducible rfl
                     rotate_left
                     ·simp only [Act.put, List.setIfInBounds_toArray, List.set_cons_zero, List.set_cons_succ, i64_w, i32_w]
                      rfl
                     refine take_ (i := 10) (N := some 128) (v := ?_) (a' := ?_) #[true, true, true, true, true, true, true, true, true, true, true, false, true, false, true, false] rfl rfl (take_ofW HT_.out HW_.out (by kernel_rfl)) (fun _ _ _ h => h) (Or.inl ⟨by rfl, ?_⟩) hHeld ?_ ?_
                     rotate_left
                     ·rintro w' ⟨s0, s1, s2, s3⟩
                      go_simp
                      with_reducible rfl
                     rotate_left
                     ·simp only [Act.put, List.setIfInBounds_toArray, List.set_cons_zero, List.set_cons_succ, i64_w, i32_w]
                      rfl
                     refine pure_ (i := 11) (N := some 129) (v := ?_) (a' := ?_) #[true, true, true, true, true, true, true, true, true, true, true, true, true, false, true, false] rfl rfl (any_of HT_.out (by kernel_rfl)) (fun _ _ _ h => h) (Or.inl ⟨by rfl, ?_⟩) ?_ ?_
                     rotate_left
                     ·intro w'
                      go_simp
                      with_reducible rfl
                     rotate_left
                     ·simp only [Act.put, List.setIfInBounds_toArray, List.set_cons_zero, List.set_cons_succ, i64_w, i32_w]
                      rfl
                     refine pure_ (i := 13) (N := some 131) (v := ?_) (a' := ?_) #[true, true, true, true, true, true, true, true, true, true, true, true, true, true, true, false] rfl rfl (any_of HT_.out (by kernel_rfl)) (fun _ _ _ h => h) (Or.inl ⟨by rfl, ?_⟩) ?_ ?_
                     rotate_left
                     ·intro w'
                      go_simp
                      with_reducible rfl
                     rotate_left
                     ·simp only [Act.put, List.setIfInBounds_toArray, List.set_cons_zero, List.set_cons_succ, i64_w, i32_w]
                      rfl
                     refine pure_ (i := 15) (N := some 16) (v := ?_) (a' := ?_) #[true, true, true, true, true, true, true, true, true, true, true, true, true, true, true, true] rfl rfl (any_of HT_.out (by kernel_rfl)) (fun _ _ _ h => h) (Or.inl ⟨by rfl, ?_⟩) ?_ ?_
                     rotate_left
                     ·intro w'
                      go_simp
                      with_reducible rfl
                     rotate_left
                     ·simp only [Act.put, List.setIfInBounds_toArray, List.set_cons_zero, List.set_cons_succ, i64_w, i32_w]
                      rfl
                     refine done_ (done_of HT_.out (by kernel_rfl)) ?_
                     (try clear HS0_)
                     (try clear HS1_)
                     (try clear HS2_)
                     (try clear HS3_)
                     (try clear HS4_)
                     (try clear HS5_)
                     (try clear HS6_)
                     (try clear HS7_)
                     (try clear HS8_)
                     (try clear HS9_)
                     (try clear HS10_)
                     (try clear HS11_)
                     (try clear hHeld)
                     try go_wp2
                     go_roundg k3
                     case measure => have := HJ1.out; have := HK2.out; have := HK3.out; omega
                     case rel => exact ⟨(ji51), (wrap64 (x77_3 + 1)), (by first | rfl | (simp; done) | (simp only [← hji51] <;> (first | rfl | simp)) | (simp [*]; done)), (by first | rfl | (simp; done) | (simp [*]; done)), H', ⟨by have := HJ1.out; have := HK2.out; have := HK3.out; omega⟩, ⟨fR_ HO_3.out⟩, ⟨fb_ BK23014.out⟩, ⟨fb_ BK23015.out⟩, ⟨be_⟩⟩
                    ·rw [if_neg c45] at H
                     exact absurd H (by simp)
                   ·rw [if_neg c44] at H
                    exact absurd H (by simp)
                  ·rw [if_neg c42] at H
                   exact absurd H (by simp)
                 ·rw [if_neg c41] at H
                  exact absurd H (by simp)
                ·rw [if_neg c40] at H
                 have c40b0 : decide (x77_3 < (l0.length : Int)) = false := decide_eq_false c40
                 clear c40
                 obtain rfl := Option.some.inj H
                 go_wp2
                 go_ret
                 exact ⟨by first | rfl | (simp [errW_none, errW_some] <;> rfl) | (simp only [← hji21]; first | rfl | (simp [errW_none, errW_some] <;> rfl)) | (simp [*, errW_none, errW_some] <;> rfl), be_⟩
             ·rw [if_neg c26] at H
              exact absurd H (by simp)
            ·rw [if_neg c25] at H
             exact absurd H (by simp)
           ·rw [if_neg c23] at H
            exact absurd H (by simp)
          ·rw [if_neg c22] at H
           exact absurd H (by simp)
         ·rw [if_neg c19] at H
          exact absurd H (by simp)
     ·rw [if_neg c9] at H
      exact absurd H (by simp)
    ·rw [if_neg c8] at H
     exact absurd H (by simp)

end Go.Proofs.Ytdbjoopkliafeaa.P

end
section
namespace Go.Proofs.Ytdbjoopkliafeaa.P
open Go Go.RowKit Go.Proofs.YtdbjoopkliafeaaW.PrintWords Go.Proofs.YtdbjoopkliafeaaW.PrintLast Go.Proofs.YtdbjoopkliafeaaW.PrintMore
attribute [local go_sem] max2_int min2_int max_two min_two max_three min_three max_four min_four max_five min_eight max_eight   -- for this text's walks alone
set_option linter.unusedVariables false
set_option linter.unusedSimpArgs false

def sawmilllaw14_one.f (a0 : Int) (a1 : Int) : Option (Int × (List (S49))) := some (0, (([(⟨a0, a1⟩ : S49)] : List (S49))))
set_option maxHeartbeats 8000000 in
set_option maxRecDepth 100000 in
theorem sawmilllaw14_one.calls (a0 : Int) (a1 : Int) (r1 : Int) (r2 : List (S49)) (w : World) (h : sawmilllaw14_one.f a0 a1 = some (r1, r2)) :
  Calls Try.prog 35 #[.int .i64 a0, .int .i64 a1] w fun e w' => ∃ v1_ : Value, e = .returned (.agg #[.int .i64 r1, v1_]) ∧ Kd.R k49 49 w' w.heap.size (fun _ => True) v1_ r2 ∧ Below w.heap.size w w' := by
 have hu24 := Try.underlying24
 have hu49 := Try.underlying49
 have HB := Aside0.mk (Below.refl w.heap.size w)
 have H : (some (0, (([(⟨a0, a1⟩ : S49)] : List (S49))))) = some (r1, r2) := h
 clear h
 obtain ⟨y35002, hy35002⟩ : ∃ y_ : List (S49), y_ = (([(⟨a0, a1⟩ : S49)] : List (S49))) := ⟨_, rfl⟩
 replace H : (some (0, y35002)) = some (r1, r2) := by first | (rw [hy35002]; with_reducible exact H) | (have H2_ := (Option.bind_some _ _).symm.trans H; rw [hy35002]; with_reducible exact H2_) | (have H2_ := (Option.bind_some _ _).symm.trans H; with_reducible exact H2_) | with_reducible exact H | (rw [hy35002]; exact H) | exact H
 have Ny35002 := Aside0.mk hy35002
 clear hy35002
 simp only [Option.some.injEq, Prod.mk.injEq] at H
 obtain ⟨rfl, rfl⟩ := H
 go_enter Try.func35, Try.ntmps35
 go_wp2_with (first | ((with_reducible refine gate_dst (N := 4) rfl ?_); refine box_event ?hg (N := 4) ?hd (cs := #[.int .i64 0, .slice none 0 0]) (t := 24) ?hr ?_; (case hd => rfl); (case hg => rfl); (case hr => first | (go_simp; done) | (go_simp; rfl)); intro gb35001 hg w3 hbox hb; have n0_ := Aside0.mk (bs_ hb); have n1_ := Aside0.mk (hbox); have n2_ := Aside0.mk ((by rw [hg]; exact bz_ : w.heap.size ≤ gb35001)); have n3_ := Aside0.mk ((by rw [hg]; exact bz_ : w.heap.size ≤ gb35001)); clear HB; have HB := n0_; have BK35001 := n1_; have GW35001 := n2_; have GE35001 := n3_; clear n0_ n1_ n2_ n3_; clear hb hbox hg) | ((with_reducible refine gate_dst (N := 8) rfl ?_); refine Kd.R_lit k49 _ 49 ?hg (N := 8) ?hd (xs := ([(⟨a0, a1⟩ : S49)] : List (S49))) (inner := [.int .i64 a0, .int .i64 a1]) (ok := fun _ => True) (okp := fun _ => True) ?hr ?hp (fun _ hk => hk) trivial (Below.refl _ _) (Nat.le_refl _) (by simp) ?_; (case hd => rfl); (case hg => rfl); (case hr => first | (go_simp; done) | (go_simp; rfl)); (case hp => exact (Reps.c2 (show Kd.M k49 _ _ _ (⟨a0, a1⟩ : S49) [.int .i64 a0, .int .i64 a1] from (k49_mkM _ _ _ (⟨a0, a1⟩ : S49) )) (Reps.none _ _))); intro v35003 w4 ho5 hb hg_ hnew_; clear hg_ hnew_; (first | rw [← Ny35002.out] at ho5 | (simp only [Int.reduceToNat] at ho5; rw [← Ny35002.out] at ho5)); have n0_ := Aside0.mk (Kd.R_lower ho5 bz_); have n1_ := Aside0.mk (blk_below (g := gb35001) (o := .cells #[.int .i64 0, .slice none 0 0] 24 (0, 0)) (fb_ BK35001.out) hb); have n2_ := Aside0.mk (bs_ hb); clear BK35001 HB; have HO35004 := n0_; have BK35001 := n1_; have HB := n2_; clear n0_ n1_ n2_ hb ho5; obtain ⟨Ao6, co6, eo6⟩ := Kd.R_slice HO35004.out; subst eo6; have hcz7_0 : w4.cell? ⟨gb35001, 0, none⟩ = some (.int .i64 0) := (blk_cell BK35001.out 0).trans rfl; have hcz7_1 : w4.cell? ⟨gb35001, 1, none⟩ = some (.slice none 0 0) := (blk_cell BK35001.out 1).trans rfl; have hfz7_0 := blk_frozen BK35001.out 0; have hfz7_1 := blk_frozen BK35001.out 1))
 refine bodyPost_ret (results_cell_row rfl _ _ gb35001 24 #[.int .i64 0, .slice Ao6 y35002.length co6] (0, 0) _ rfl (by (with_reducible repeat (first | refine blk_drewN ?_ _ | refine blk_drew ?_ | refine blk_alloc ?_ _)); refine blk_put (cs := #[.int .i64 0, .slice none 0 0]) ?_ 1 _ rfl; (with_reducible repeat (first | refine blk_drewN ?_ _ | refine blk_drew ?_ | refine blk_alloc ?_ _)); refine blk_put (cs := #[.int .i64 0, .slice none 0 0]) ?_ 0 _ rfl; (with_reducible repeat (first | refine blk_drewN ?_ _ | refine blk_drew ?_ | refine blk_alloc ?_ _)); exact BK35001.out) Try.underlying24 rfl (by kernel_rfl)) rfl ?_
 exact ⟨_, er_, by (with_reducible repeat (first | apply Kd.R_alloc | apply Kd.R_drewN | apply Kd.R_drew)); exact Kd.R_mono (Kd.R_far (p := ⟨gb35001, 1, none⟩) (Kd.R_far (p := ⟨gb35001, 0, none⟩) (Kd.R_types HO35004.out BK35001.out (by decide)) (fun _ hk => hk.2) (.int .i64 0)) (fun _ hk => hk.2) (.slice Ao6 y35002.length co6)) (fun _ hk => trivial), be_⟩

end Go.Proofs.Ytdbjoopkliafeaa.P

end
