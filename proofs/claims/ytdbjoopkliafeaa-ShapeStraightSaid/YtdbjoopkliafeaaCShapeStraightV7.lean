/- Functions of the program: what each computes, and that the call computes it; conditions: the fuel that the plain function asks for. -/
import Derived.Test.YtdbjoopkliafeaaCShapeStraightV6
section
namespace Go.Proofs.Ytdbjoopkliafeaa.P
open Go Go.RowKit Go.Proofs.YtdbjoopkliafeaaW.PrintWords Go.Proofs.YtdbjoopkliafeaaW.PrintLast Go.Proofs.YtdbjoopkliafeaaW.PrintMore
attribute [local go_sem] max2_int min2_int max_two min_two max_three min_three max_four min_four max_five min_eight max_eight   -- for this text's walks alone
set_option linter.unusedVariables false
set_option linter.unusedSimpArgs false

def sawmillref11_Check.l0 : Nat → List (S36) → Int → Int → Option (Int)
 | 0, _, _, _ => none
 | k + 1, x0, x3, x4 => if x4 < (x0.length : Int) then (if 0 ≤ x4 then ((sawmillref10_Check.f k ((rd_T36 x0 x4).f1.f0) ((rd_T36 x0 x4).f1.f1)).bind fun t41002 => (if t41002 = 0 then (if (((rd_T36 x0 x4).f1.f1).length : Int) = 0 then (some 18) else (if ((rd_T36 x0 x4).f0) < 1 then (some 9) else (if ((rd_T36 x0 x4).f0) > (wrap64 (20000 - x3)) then (some 9) else (sawmillref11_Check.l0 k x0 (wrap64 (x3 + ((rd_T36 x0 x4).f0))) (wrap64 (x4 + 1)))))) else (some t41002))) else (none)) else (some 0)
def sawmillref11_Check.f (k : Nat) (l0 : List (S36)) : Option (Int) := if (l0.length : Int) = 0 then (some 3) else (if (l0.length : Int) > 24 then (some 4) else (sawmillref11_Check.l0 k l0 0 0))
theorem sawmillref11_Check.mono_l : ∀ k, (∀ y0 y1 y2, LeO (sawmillref11_Check.l0 k y0 y1 y2) (sawmillref11_Check.l0 (k + 1) y0 y1 y2))
 | 0 => fun _ _ _ r h => by simp [sawmillref11_Check.l0] at h
 | k + 1 => by
  have ih0 := sawmillref11_Check.mono_l k
  ·intro y0 y1 y2;unfold sawmillref11_Check.l0
   repeat' first
   | (with_reducible exact ih0 _ _ _)
   | (with_reducible exact sawmillref10_Check.mono _ _ _)
   | (with_reducible exact LeO.refl _)
   | (with_reducible exact LeO.none _)
   | (with_reducible refine LeO.ite ?_ ?_)
   | (with_reducible refine LeO.bind ?_ (fun _ => ?_))
   | exact ih0 _ _ _
   | exact sawmillref10_Check.mono _ _ _
   | exact LeO.none _
   | refine LeO.ite ?_ ?_
   | refine LeO.bind ?_ (fun _ => ?_)
theorem sawmillref11_Check.mono : ∀ a0 k, LeO (sawmillref11_Check.f k a0) (sawmillref11_Check.f (k + 1) a0) := by
 intro a0 k;have ih0 := sawmillref11_Check.mono_l k;unfold sawmillref11_Check.f
 repeat' first
   | (with_reducible exact ih0 _ _ _)
   | (with_reducible exact sawmillref10_Check.mono _ _ _)
   | (with_reducible exact LeO.refl _)
   | (with_reducible exact LeO.none _)
   | (with_reducible refine LeO.ite ?_ ?_)
   | (with_reducible refine LeO.bind ?_ (fun _ => ?_))
   | exact ih0 _ _ _
   | exact sawmillref10_Check.mono _ _ _
   | exact LeO.none _
   | refine LeO.ite ?_ ?_
   | refine LeO.bind ?_ (fun _ => ?_)
set_option maxHeartbeats 8000000 in
set_option maxRecDepth 100000 in
theorem sawmillref11_Check.calls (k : Nat) (A0 : Option Addr) (c0 : Nat) (l0 : List (S36)) (r : Int) (w : World) (hr0 : Kd.C k36 w A0 l0.length l0) (hc0 : l0.length ≤ c0) (h : sawmillref11_Check.f k l0 = some r) :
  Calls Try.prog 41 #[.slice A0 l0.length c0] w fun e w' => e = .returned (.int .i64 r) ∧ Below w.heap.size w w' := by
 have hu24 := Try.underlying24;have HR0 := Aside0.mk hr0;have HC0 := Aside0.mk hc0;clear hr0 hc0;have HB := A_ (Below.refl w.heap.size w);have H : (if (l0.length : Int) = 0 then (some 3) else (if (l0.length : Int) > 24 then (some 4) else (sawmillref11_Check.l0 k l0 0 0))) = some r := h;clear h
 by_cases c2 : (l0.length : Int) = 0
 ·rw [if_pos c2] at H;have c2b0 : ((l0.length : Int) == 0) = true := beq_iff_eq.mpr c2;have c2b1 : ((l0.length : Int) != 0) = false := bne_eq_false_iff_eq.mpr c2;clear c2;obtain rfl := Option.some.inj H;go_enter Try.func41, Try.ntmps41;go_wp2;go_ret;exact ⟨er_, be_⟩
 ·rw [if_neg c2] at H;have c2b0 : ((l0.length : Int) == 0) = false := beq_eq_false_iff_ne.mpr c2;have c2b1 : ((l0.length : Int) != 0) = true := bne_iff_ne.mpr c2;have c2b2 : ¬ (l0 = []) := fun h_ => c2 (by rw [h_]; rfl)
  by_cases c3 : (l0.length : Int) > 24
  ·rw [if_pos c3] at H;have c3b0 : decide (24 < (l0.length : Int)) = true := decide_eq_true c3;have c3b1 : decide (24 < l0.length) = true := decide_eq_true (by omega);clear c3;obtain rfl := Option.some.inj H;go_enter Try.func41, Try.ntmps41;go_wp2;go_ret;exact ⟨er_, be_⟩
  ·rw [if_neg c3] at H;have c3b0 : decide (24 < (l0.length : Int)) = false := decide_eq_false c3;have c3b1 : decide (24 < l0.length) = false := decide_eq_false (by omega);clear c3;have H' := Aside0.mk H;clear H;go_enter Try.func41, Try.ntmps41;go_wp2
   go_loopg [3, 4] k (fun kq v3 v4 w' => ∃ (x3_1 : Int) (x4_1 : Int), v3 = .int .i64 x3_1 ∧ v4 = .int .i64 x4_1 ∧ Aside0 (sawmillref11_Check.l0 kq l0 x3_1 x4_1 = some r) ∧ Aside0 (kq ≤ k) ∧ Aside0 (Below w.heap.size w w'))
   case atStart => exact ⟨(0), (0), (by first | rfl | (simp; done) | (simp [*]; done)), (by first | rfl | (simp; done) | (simp [*]; done)), H', ⟨Nat.le_refl _⟩, ⟨be_⟩⟩
   case round =>
    clear H';(try clear c2);(try clear c2b0);(try clear c2b1);(try clear c2b2);(try clear p2);(try clear c3);(try clear c3b0);(try clear c3b1);obtain ⟨x3_1, x4_1, rfl, rfl, HA, HK1, HB⟩ := hrel;cases gk with
    | zero => exact absurd HA.out (by simp [sawmillref11_Check.l0])
    | succ k1 =>
     have H := HA.out;clear HA;simp only [sawmillref11_Check.l0] at H
     by_cases c4 : x4_1 < (l0.length : Int)
     ·rw [if_pos c4] at H;have c4b0 : decide (x4_1 < (l0.length : Int)) = true := decide_eq_true c4;clear c4
      by_cases c5 : 0 ≤ x4_1
      ·rw [if_pos c5] at H;have c5b0 : decide (0 ≤ x4_1) = true := decide_eq_true c5;clear c5;replace H := Option.bind_eq_some_iff.mp H;obtain ⟨t41002, A60, H⟩ := H;replace H : (if t41002 = 0 then (if (((rd_T36 l0 x4_1).f1.f1).length : Int) = 0 then (some 18) else (if ((rd_T36 l0 x4_1).f0) < 1 then (some 9) else (if ((rd_T36 l0 x4_1).f0) > (wrap64 (20000 - x3_1)) then (some 9) else (sawmillref11_Check.l0 k1 l0 (wrap64 (x3_1 + ((rd_T36 l0 x4_1).f0))) (wrap64 (x4_1 + 1)))))) else (some t41002)) = some r := H;have A6 := Aside0.mk A60;clear A60
       by_cases c7 : t41002 = 0
       ·rw [if_pos c7] at H;have c7b0 : (t41002 == 0) = true := beq_iff_eq.mpr c7;have c7b1 : (t41002 != 0) = false := bne_eq_false_iff_eq.mpr c7;clear c7
        by_cases c8 : (((rd_T36 l0 x4_1).f1.f1).length : Int) = 0
        ·rw [if_pos c8] at H;have c8b0 : ((((rd_T36 l0 x4_1).f1.f1).length : Int) == 0) = true := beq_iff_eq.mpr c8;have c8b1 : ((((rd_T36 l0 x4_1).f1.f1).length : Int) != 0) = false := bne_eq_false_iff_eq.mpr c8;clear c8;obtain rfl := Option.some.inj H;have p41001 : 0 ≤ (x4_1 : Int) := as_;have q41001 : x4_1 < (l0.length : Int) := as_;obtain ⟨ad41001, A41001_2, c41001_2, e41001, hx41001_0, hx41001_1, hx41001_2, hl41001_2, hi41001_2⟩ := at_T36 HR0.out x4_1 p41001 q41001;cases e41001;replace hx41001_0 := bc_ HB hx41001_0;replace hx41001_1 := bc_ HB hx41001_1;replace hx41001_2 := bc_ HB hx41001_2;have HR41001_2 := Aside0.mk hi41001_2;have HC41001_2 := Aside0.mk hl41001_2;clear hi41001_2 hl41001_2;replace p41001 := eq_true p41001;replace q41001 := eq_true q41001;go_wp2_with (first | ((with_reducible refine gate_callee (f := 37) rfl ?_); refine goesL_ (some 23) rfl rfl Try.func37 (by kernel_rfl) rfl #[.agg #[.int .i64 ((rd_T36 l0 x4_1).f1.f0), .slice A41001_2 ((rd_T36 l0 x4_1).f1.f1).length c41001_2]] rfl la_ ?_; (with_reducible refine (sawmillref10_Check.calls k1 ((rd_T36 l0 x4_1).f1.f0) _ _ ((rd_T36 l0 x4_1).f1.f1) t41002 _ ?side1 ?side2 A6.out).mono ?_); (case side1 => repeat (first | exact (Kd.C_below HR41001_2.out HB.out) | (with_reducible refine Kd.C_alloc ?_ _) | (with_reducible refine Kd.C_drewN ?_ _) | (with_reducible refine Kd.C_drew ?_))); (case side2 => exact HC41001_2.out); rintro e w9 ⟨rfl, hb⟩; refine ⟨_, rfl, ?_⟩; have n0_ := bA_ hb; clear HB; have HB := n0_; clear n0_; (try clear hb); (try clear hb2); (try clear hk); (try clear hi); have p41003 : 0 ≤ (x4_1 : Int) := as_; have q41003 : x4_1 < (l0.length : Int) := as_; obtain ⟨ad41003, A41003_2, c41003_2, e41003, hx41003_0, hx41003_1, hx41003_2, hl41003_2, hi41003_2⟩ := at_T36 HR0.out x4_1 p41003 q41003; obtain rfl : ad41001 = ad41003 := (by injection e41003); replace hx41003_0 := bc_ HB hx41003_0; replace hx41003_1 := bc_ HB hx41003_1; replace hx41003_2 := bc_ HB hx41003_2; have HR41003_2 := Aside0.mk hi41003_2; have HC41003_2 := Aside0.mk hl41003_2; clear hi41003_2 hl41003_2; replace p41003 := eq_true p41003; replace q41003 := eq_true q41003));go_ret;exact ⟨er_, be_⟩
        ·rw [if_neg c8] at H;have c8b0 : ((((rd_T36 l0 x4_1).f1.f1).length : Int) == 0) = false := beq_eq_false_iff_ne.mpr c8;have c8b1 : ((((rd_T36 l0 x4_1).f1.f1).length : Int) != 0) = true := bne_iff_ne.mpr c8;have c8b2 : ¬ (((rd_T36 l0 x4_1).f1.f1) = []) := fun h_ => c8 (by rw [h_]; rfl)
         by_cases c10 : ((rd_T36 l0 x4_1).f0) < 1
         ·rw [if_pos c10] at H;have c10b0 : decide (((rd_T36 l0 x4_1).f0) < 1) = true := decide_eq_true c10;clear c10;obtain rfl := Option.some.inj H;have p41001 : 0 ≤ (x4_1 : Int) := as_;have q41001 : x4_1 < (l0.length : Int) := as_;obtain ⟨ad41001, A41001_2, c41001_2, e41001, hx41001_0, hx41001_1, hx41001_2, hl41001_2, hi41001_2⟩ := at_T36 HR0.out x4_1 p41001 q41001;cases e41001;replace hx41001_0 := bc_ HB hx41001_0;replace hx41001_1 := bc_ HB hx41001_1;replace hx41001_2 := bc_ HB hx41001_2;have HR41001_2 := Aside0.mk hi41001_2;have HC41001_2 := Aside0.mk hl41001_2;clear hi41001_2 hl41001_2;replace p41001 := eq_true p41001;replace q41001 := eq_true q41001;go_wp2_with (first | ((with_reducible refine gate_callee (f := 37) rfl ?_); refine goesL_ (some 23) rfl rfl Try.func37 (by kernel_rfl) rfl #[.agg #[.int .i64 ((rd_T36 l0 x4_1).f1.f0), .slice A41001_2 ((rd_T36 l0 x4_1).f1.f1).length c41001_2]] rfl la_ ?_; (with_reducible refine (sawmillref10_Check.calls k1 ((rd_T36 l0 x4_1).f1.f0) _ _ ((rd_T36 l0 x4_1).f1.f1) t41002 _ ?side1 ?side2 A6.out).mono ?_); (case side1 => repeat (first | exact (Kd.C_below HR41001_2.out HB.out) | (with_reducible refine Kd.C_alloc ?_ _) | (with_reducible refine Kd.C_drewN ?_ _) | (with_reducible refine Kd.C_drew ?_))); (case side2 => exact HC41001_2.out); rintro e w11 ⟨rfl, hb⟩; refine ⟨_, rfl, ?_⟩; have n0_ := bA_ hb; clear HB; have HB := n0_; clear n0_; (try clear hb); (try clear hb2); (try clear hk); (try clear hi); have p41003 : 0 ≤ (x4_1 : Int) := as_; have q41003 : x4_1 < (l0.length : Int) := as_; obtain ⟨ad41003, A41003_2, c41003_2, e41003, hx41003_0, hx41003_1, hx41003_2, hl41003_2, hi41003_2⟩ := at_T36 HR0.out x4_1 p41003 q41003; obtain rfl : ad41001 = ad41003 := (by injection e41003); replace hx41003_0 := bc_ HB hx41003_0; replace hx41003_1 := bc_ HB hx41003_1; replace hx41003_2 := bc_ HB hx41003_2; have HR41003_2 := Aside0.mk hi41003_2; have HC41003_2 := Aside0.mk hl41003_2; clear hi41003_2 hl41003_2; replace p41003 := eq_true p41003; replace q41003 := eq_true q41003; have p41004 : 0 ≤ (x4_1 : Int) := as_; have q41004 : x4_1 < (l0.length : Int) := as_; obtain ⟨ad41004, A41004_2, c41004_2, e41004, hx41004_0, hx41004_1, hx41004_2, hl41004_2, hi41004_2⟩ := at_T36 HR0.out x4_1 p41004 q41004; obtain rfl : ad41001 = ad41004 := (by injection e41004); replace hx41004_0 := bc_ HB hx41004_0; replace hx41004_1 := bc_ HB hx41004_1; replace hx41004_2 := bc_ HB hx41004_2; have HR41004_2 := Aside0.mk hi41004_2; have HC41004_2 := Aside0.mk hl41004_2; clear hi41004_2 hl41004_2; replace p41004 := eq_true p41004; replace q41004 := eq_true q41004; have ea_ := Option.some.inj (hx41003_2.symm.trans hx41004_2); injection ea_ with ea_ en_ ec_; subst ea_; subst ec_; clear en_));go_ret;exact ⟨er_, be_⟩
         ·rw [if_neg c10] at H;have c10b0 : decide (((rd_T36 l0 x4_1).f0) < 1) = false := decide_eq_false c10;clear c10
          by_cases c12 : ((rd_T36 l0 x4_1).f0) > (wrap64 (20000 - x3_1))
          ·rw [if_pos c12] at H;have c12b0 : decide ((wrap64 (20000 - x3_1)) < ((rd_T36 l0 x4_1).f0)) = true := decide_eq_true c12;clear c12;obtain rfl := Option.some.inj H;have p41001 : 0 ≤ (x4_1 : Int) := as_;have q41001 : x4_1 < (l0.length : Int) := as_;obtain ⟨ad41001, A41001_2, c41001_2, e41001, hx41001_0, hx41001_1, hx41001_2, hl41001_2, hi41001_2⟩ := at_T36 HR0.out x4_1 p41001 q41001;cases e41001;replace hx41001_0 := bc_ HB hx41001_0;replace hx41001_1 := bc_ HB hx41001_1;replace hx41001_2 := bc_ HB hx41001_2;have HR41001_2 := Aside0.mk hi41001_2;have HC41001_2 := Aside0.mk hl41001_2;clear hi41001_2 hl41001_2;replace p41001 := eq_true p41001;replace q41001 := eq_true q41001;go_wp2_with (first | ((with_reducible refine gate_callee (f := 37) rfl ?_); refine goesL_ (some 23) rfl rfl Try.func37 (by kernel_rfl) rfl #[.agg #[.int .i64 ((rd_T36 l0 x4_1).f1.f0), .slice A41001_2 ((rd_T36 l0 x4_1).f1.f1).length c41001_2]] rfl la_ ?_; (with_reducible refine (sawmillref10_Check.calls k1 ((rd_T36 l0 x4_1).f1.f0) _ _ ((rd_T36 l0 x4_1).f1.f1) t41002 _ ?side1 ?side2 A6.out).mono ?_); (case side1 => repeat (first | exact (Kd.C_below HR41001_2.out HB.out) | (with_reducible refine Kd.C_alloc ?_ _) | (with_reducible refine Kd.C_drewN ?_ _) | (with_reducible refine Kd.C_drew ?_))); (case side2 => exact HC41001_2.out); rintro e w13 ⟨rfl, hb⟩; refine ⟨_, rfl, ?_⟩; have n0_ := bA_ hb; clear HB; have HB := n0_; clear n0_; (try clear hb); (try clear hb2); (try clear hk); (try clear hi); have p41003 : 0 ≤ (x4_1 : Int) := as_; have q41003 : x4_1 < (l0.length : Int) := as_; obtain ⟨ad41003, A41003_2, c41003_2, e41003, hx41003_0, hx41003_1, hx41003_2, hl41003_2, hi41003_2⟩ := at_T36 HR0.out x4_1 p41003 q41003; obtain rfl : ad41001 = ad41003 := (by injection e41003); replace hx41003_0 := bc_ HB hx41003_0; replace hx41003_1 := bc_ HB hx41003_1; replace hx41003_2 := bc_ HB hx41003_2; have HR41003_2 := Aside0.mk hi41003_2; have HC41003_2 := Aside0.mk hl41003_2; clear hi41003_2 hl41003_2; replace p41003 := eq_true p41003; replace q41003 := eq_true q41003; have p41004 : 0 ≤ (x4_1 : Int) := as_; have q41004 : x4_1 < (l0.length : Int) := as_; obtain ⟨ad41004, A41004_2, c41004_2, e41004, hx41004_0, hx41004_1, hx41004_2, hl41004_2, hi41004_2⟩ := at_T36 HR0.out x4_1 p41004 q41004; obtain rfl : ad41001 = ad41004 := (by injection e41004); replace hx41004_0 := bc_ HB hx41004_0; replace hx41004_1 := bc_ HB hx41004_1; replace hx41004_2 := bc_ HB hx41004_2; have HR41004_2 := Aside0.mk hi41004_2; have HC41004_2 := Aside0.mk hl41004_2; clear hi41004_2 hl41004_2; replace p41004 := eq_true p41004; replace q41004 := eq_true q41004; have ea_ := Option.some.inj (hx41003_2.symm.trans hx41004_2); injection ea_ with ea_ en_ ec_; subst ea_; subst ec_; clear en_; have p41005 : 0 ≤ (x4_1 : Int) := as_; have q41005 : x4_1 < (l0.length : Int) := as_; obtain ⟨ad41005, A41005_2, c41005_2, e41005, hx41005_0, hx41005_1, hx41005_2, hl41005_2, hi41005_2⟩ := at_T36 HR0.out x4_1 p41005 q41005; obtain rfl : ad41001 = ad41005 := (by injection e41005); replace hx41005_0 := bc_ HB hx41005_0; replace hx41005_1 := bc_ HB hx41005_1; replace hx41005_2 := bc_ HB hx41005_2; have HR41005_2 := Aside0.mk hi41005_2; have HC41005_2 := Aside0.mk hl41005_2; clear hi41005_2 hl41005_2; replace p41005 := eq_true p41005; replace q41005 := eq_true q41005; have ea_ := Option.some.inj (hx41003_2.symm.trans hx41005_2); injection ea_ with ea_ en_ ec_; subst ea_; subst ec_; clear en_));go_ret;exact ⟨er_, be_⟩
          ·rw [if_neg c12] at H;have c12b0 : decide ((wrap64 (20000 - x3_1)) < ((rd_T36 l0 x4_1).f0)) = false := decide_eq_false c12;clear c12;have H' := Aside0.mk H;clear H;have p41001 : 0 ≤ (x4_1 : Int) := as_;have q41001 : x4_1 < (l0.length : Int) := as_;obtain ⟨ad41001, A41001_2, c41001_2, e41001, hx41001_0, hx41001_1, hx41001_2, hl41001_2, hi41001_2⟩ := at_T36 HR0.out x4_1 p41001 q41001;cases e41001;replace hx41001_0 := bc_ HB hx41001_0;replace hx41001_1 := bc_ HB hx41001_1;replace hx41001_2 := bc_ HB hx41001_2;have HR41001_2 := Aside0.mk hi41001_2;have HC41001_2 := Aside0.mk hl41001_2;clear hi41001_2 hl41001_2;replace p41001 := eq_true p41001;replace q41001 := eq_true q41001
           go_wp2_with (first | ((with_reducible refine gate_callee (f := 37) rfl ?_); refine goesL_ (some 23) rfl rfl Try.func37 (by kernel_rfl) rfl #[.agg #[.int .i64 ((rd_T36 l0 x4_1).f1.f0), .slice A41001_2 ((rd_T36 l0 x4_1).f1.f1).length c41001_2]] rfl la_ ?_; (with_reducible refine (sawmillref10_Check.calls k1 ((rd_T36 l0 x4_1).f1.f0) _ _ ((rd_T36 l0 x4_1).f1.f1) t41002 _ ?side1 ?side2 A6.out).mono ?_); (case side1 => repeat (first | exact (Kd.C_below HR41001_2.out HB.out) | (with_reducible refine Kd.C_alloc ?_ _) | (with_reducible refine Kd.C_drewN ?_ _) | (with_reducible refine Kd.C_drew ?_))); (case side2 => exact HC41001_2.out); rintro e w14 ⟨rfl, hb⟩; refine ⟨_, rfl, ?_⟩; have n0_ := bA_ hb; clear HB; have HB := n0_; clear n0_; (try clear hb); (try clear hb2); (try clear hk); (try clear hi); have p41003 : 0 ≤ (x4_1 : Int) := as_; have q41003 : x4_1 < (l0.length : Int) := as_; obtain ⟨ad41003, A41003_2, c41003_2, e41003, hx41003_0, hx41003_1, hx41003_2, hl41003_2, hi41003_2⟩ := at_T36 HR0.out x4_1 p41003 q41003; obtain rfl : ad41001 = ad41003 := (by injection e41003); replace hx41003_0 := bc_ HB hx41003_0; replace hx41003_1 := bc_ HB hx41003_1; replace hx41003_2 := bc_ HB hx41003_2; have HR41003_2 := Aside0.mk hi41003_2; have HC41003_2 := Aside0.mk hl41003_2; clear hi41003_2 hl41003_2; replace p41003 := eq_true p41003; replace q41003 := eq_true q41003; have p41004 : 0 ≤ (x4_1 : Int) := as_; have q41004 : x4_1 < (l0.length : Int) := as_; obtain ⟨ad41004, A41004_2, c41004_2, e41004, hx41004_0, hx41004_1, hx41004_2, hl41004_2, hi41004_2⟩ := at_T36 HR0.out x4_1 p41004 q41004; obtain rfl : ad41001 = ad41004 := (by injection e41004); replace hx41004_0 := bc_ HB hx41004_0; replace hx41004_1 := bc_ HB hx41004_1; replace hx41004_2 := bc_ HB hx41004_2; have HR41004_2 := Aside0.mk hi41004_2; have HC41004_2 := Aside0.mk hl41004_2; clear hi41004_2 hl41004_2; replace p41004 := eq_true p41004; replace q41004 := eq_true q41004; have ea_ := Option.some.inj (hx41003_2.symm.trans hx41004_2); injection ea_ with ea_ en_ ec_; subst ea_; subst ec_; clear en_; have p41005 : 0 ≤ (x4_1 : Int) := as_; have q41005 : x4_1 < (l0.length : Int) := as_; obtain ⟨ad41005, A41005_2, c41005_2, e41005, hx41005_0, hx41005_1, hx41005_2, hl41005_2, hi41005_2⟩ := at_T36 HR0.out x4_1 p41005 q41005; obtain rfl : ad41001 = ad41005 := (by injection e41005); replace hx41005_0 := bc_ HB hx41005_0; replace hx41005_1 := bc_ HB hx41005_1; replace hx41005_2 := bc_ HB hx41005_2; have HR41005_2 := Aside0.mk hi41005_2; have HC41005_2 := Aside0.mk hl41005_2; clear hi41005_2 hl41005_2; replace p41005 := eq_true p41005; replace q41005 := eq_true q41005; have ea_ := Option.some.inj (hx41003_2.symm.trans hx41005_2); injection ea_ with ea_ en_ ec_; subst ea_; subst ec_; clear en_; have p41006 : 0 ≤ (x4_1 : Int) := as_; have q41006 : x4_1 < (l0.length : Int) := as_; obtain ⟨ad41006, A41006_2, c41006_2, e41006, hx41006_0, hx41006_1, hx41006_2, hl41006_2, hi41006_2⟩ := at_T36 HR0.out x4_1 p41006 q41006; obtain rfl : ad41001 = ad41006 := (by injection e41006); replace hx41006_0 := bc_ HB hx41006_0; replace hx41006_1 := bc_ HB hx41006_1; replace hx41006_2 := bc_ HB hx41006_2; have HR41006_2 := Aside0.mk hi41006_2; have HC41006_2 := Aside0.mk hl41006_2; clear hi41006_2 hl41006_2; replace p41006 := eq_true p41006; replace q41006 := eq_true q41006; have ea_ := Option.some.inj (hx41003_2.symm.trans hx41006_2); injection ea_ with ea_ en_ ec_; subst ea_; subst ec_; clear en_))
           go_roundg k1
           case measure => have := HK1.out; omega
           case rel => exact ⟨(wrap64 (x3_1 + ((rd_T36 l0 x4_1).f0))), (wrap64 (x4_1 + 1)), (by first | rfl | (simp; done) | (simp [*]; done)), (by first | rfl | (simp; done) | (simp [*]; done)), H', ⟨by have := HK1.out; omega⟩, ⟨be_⟩⟩
       ·rw [if_neg c7] at H;have c7b0 : (t41002 == 0) = false := beq_eq_false_iff_ne.mpr c7;have c7b1 : (t41002 != 0) = true := bne_iff_ne.mpr c7;obtain rfl := Option.some.inj H;have p41001 : 0 ≤ (x4_1 : Int) := as_;have q41001 : x4_1 < (l0.length : Int) := as_;obtain ⟨ad41001, A41001_2, c41001_2, e41001, hx41001_0, hx41001_1, hx41001_2, hl41001_2, hi41001_2⟩ := at_T36 HR0.out x4_1 p41001 q41001;cases e41001;replace hx41001_0 := bc_ HB hx41001_0;replace hx41001_1 := bc_ HB hx41001_1;replace hx41001_2 := bc_ HB hx41001_2;have HR41001_2 := Aside0.mk hi41001_2;have HC41001_2 := Aside0.mk hl41001_2;clear hi41001_2 hl41001_2;replace p41001 := eq_true p41001;replace q41001 := eq_true q41001;go_wp2_with (first | ((with_reducible refine gate_callee (f := 37) rfl ?_); refine goesL_ (some 23) rfl rfl Try.func37 (by kernel_rfl) rfl #[.agg #[.int .i64 ((rd_T36 l0 x4_1).f1.f0), .slice A41001_2 ((rd_T36 l0 x4_1).f1.f1).length c41001_2]] rfl la_ ?_; (with_reducible refine (sawmillref10_Check.calls k1 ((rd_T36 l0 x4_1).f1.f0) _ _ ((rd_T36 l0 x4_1).f1.f1) t41002 _ ?side1 ?side2 A6.out).mono ?_); (case side1 => repeat (first | exact (Kd.C_below HR41001_2.out HB.out) | (with_reducible refine Kd.C_alloc ?_ _) | (with_reducible refine Kd.C_drewN ?_ _) | (with_reducible refine Kd.C_drew ?_))); (case side2 => exact HC41001_2.out); rintro e w15 ⟨rfl, hb⟩; refine ⟨_, rfl, ?_⟩; have n0_ := bA_ hb; clear HB; have HB := n0_; clear n0_; (try clear hb); (try clear hb2); (try clear hk); (try clear hi)));go_ret;exact ⟨er_, be_⟩
      ·rw [if_neg c5] at H;exact absurd H (by simp)
     ·rw [if_neg c4] at H;have c4b0 : decide (x4_1 < (l0.length : Int)) = false := decide_eq_false c4;clear c4;obtain rfl := Option.some.inj H;go_wp2;go_ret;exact ⟨er_, be_⟩

end Go.Proofs.Ytdbjoopkliafeaa.P

end
section
namespace Go.Proofs.Ytdbjoopkliafeaa.P
open Go Go.RowKit Go.Proofs.YtdbjoopkliafeaaW.PrintWords Go.Proofs.YtdbjoopkliafeaaW.PrintLast Go.Proofs.YtdbjoopkliafeaaW.PrintMore
attribute [local go_sem] max2_int min2_int max_two min_two max_three min_three max_four min_four max_five min_eight max_eight   -- for this text's walks alone
set_option linter.unusedVariables false
set_option linter.unusedSimpArgs false

def sawmillref11_Length.l0 : Nat → List (S36) → Int → Int → Option (Int)
 | 0, _, _, _ => none
 | k + 1, x0, x3, x4 => if x4 < (x0.length : Int) then (if 0 ≤ x4 then (sawmillref11_Length.l0 k x0 (wrap64 (x3 + ((rd_T36 x0 x4).f0))) (wrap64 (x4 + 1))) else (none)) else (some x3)
def sawmillref11_Length.f (k : Nat) (l0 : List (S36)) : Option (Int) := (sawmillref11_Check.f k l0).bind fun t43001 => (if t43001 = 0 then (sawmillref11_Length.l0 k l0 0 0) else (some 0))
theorem sawmillref11_Length.mono_l : ∀ k, (∀ y0 y1 y2, LeO (sawmillref11_Length.l0 k y0 y1 y2) (sawmillref11_Length.l0 (k + 1) y0 y1 y2))
 | 0 => fun _ _ _ r h => by simp [sawmillref11_Length.l0] at h
 | k + 1 => by
  have ih0 := sawmillref11_Length.mono_l k
  ·intro y0 y1 y2;unfold sawmillref11_Length.l0
   repeat' first
   | (with_reducible exact ih0 _ _ _)
   | (with_reducible exact sawmillref11_Check.mono _ _)
   | (with_reducible exact LeO.refl _)
   | (with_reducible exact LeO.none _)
   | (with_reducible refine LeO.ite ?_ ?_)
   | (with_reducible refine LeO.bind ?_ (fun _ => ?_))
   | exact ih0 _ _ _
   | exact sawmillref11_Check.mono _ _
   | exact LeO.none _
   | refine LeO.ite ?_ ?_
   | refine LeO.bind ?_ (fun _ => ?_)
theorem sawmillref11_Length.mono : ∀ a0 k, LeO (sawmillref11_Length.f k a0) (sawmillref11_Length.f (k + 1) a0) := by
 intro a0 k;have ih0 := sawmillref11_Length.mono_l k;unfold sawmillref11_Length.f
 repeat' first
   | (with_reducible exact ih0 _ _ _)
   | (with_reducible exact sawmillref11_Check.mono _ _)
   | (with_reducible exact LeO.refl _)
   | (with_reducible exact LeO.none _)
   | (with_reducible refine LeO.ite ?_ ?_)
   | (with_reducible refine LeO.bind ?_ (fun _ => ?_))
   | exact ih0 _ _ _
   | exact sawmillref11_Check.mono _ _
   | exact LeO.none _
   | refine LeO.ite ?_ ?_
   | refine LeO.bind ?_ (fun _ => ?_)
set_option maxHeartbeats 8000000 in
set_option maxRecDepth 100000 in
theorem sawmillref11_Length.calls (k : Nat) (A0 : Option Addr) (c0 : Nat) (l0 : List (S36)) (r : Int) (w : World) (hr0 : Kd.C k36 w A0 l0.length l0) (hc0 : l0.length ≤ c0) (h : sawmillref11_Length.f k l0 = some r) :
  Calls Try.prog 43 #[.slice A0 l0.length c0] w fun e w' => e = .returned (.int .i64 r) ∧ Below w.heap.size w w' := by
 have HR0 := Aside0.mk hr0;have HC0 := Aside0.mk hc0;clear hr0 hc0;have HB := A_ (Below.refl w.heap.size w);have H : ((sawmillref11_Check.f k l0).bind fun t43001 => (if t43001 = 0 then (sawmillref11_Length.l0 k l0 0 0) else (some 0))) = some r := h;clear h;replace H := Option.bind_eq_some_iff.mp H;obtain ⟨t43001, A20, H⟩ := H;replace H : (if t43001 = 0 then (sawmillref11_Length.l0 k l0 0 0) else (some 0)) = some r := H;have A2 := Aside0.mk A20;clear A20
 by_cases c3 : t43001 = 0
 ·rw [if_pos c3] at H;have c3b0 : (t43001 == 0) = true := beq_iff_eq.mpr c3;have c3b1 : (t43001 != 0) = false := bne_eq_false_iff_eq.mpr c3;clear c3;have H' := Aside0.mk H;clear H;go_enter Try.func43, Try.ntmps43;go_wp2_with (first | ((with_reducible refine gate_callee (f := 41) rfl ?_); refine goesL_ (some 6) rfl rfl Try.func41 (by kernel_rfl) rfl #[.slice A0 l0.length c0] rfl la_ ?_; (with_reducible refine (sawmillref11_Check.calls k _ _ l0 t43001 _ ?side1 ?side2 A2.out).mono ?_); (case side1 => repeat (first | exact HR0.out | (with_reducible refine Kd.C_alloc ?_ _) | (with_reducible refine Kd.C_drewN ?_ _) | (with_reducible refine Kd.C_drew ?_))); (case side2 => exact HC0.out); rintro e w4 ⟨rfl, hb⟩; refine ⟨_, rfl, ?_⟩; have n0_ := bA_ hb; clear HB; have HB := n0_; clear n0_; (try clear hb); (try clear hb2); (try clear hk); (try clear hi)))
  go_loopg [3, 4] k (fun kq v3 v4 w' => ∃ (x3_1 : Int) (x4_1 : Int), v3 = .int .i64 x3_1 ∧ v4 = .int .i64 x4_1 ∧ Aside0 (sawmillref11_Length.l0 kq l0 x3_1 x4_1 = some r) ∧ Aside0 (kq ≤ k) ∧ Aside0 (Below w.heap.size w w'))
  case atStart => exact ⟨(0), (0), (by first | rfl | (simp; done) | (simp [*]; done)), (by first | rfl | (simp; done) | (simp [*]; done)), H', ⟨Nat.le_refl _⟩, ⟨be_⟩⟩
  case round =>
   clear H';(try clear p2);(try clear c3);(try clear c3b0);(try clear c3b1);(try clear c4);obtain ⟨x3_1, x4_1, rfl, rfl, HA, HK1, HB⟩ := hrel;cases gk with
   | zero => exact absurd HA.out (by simp [sawmillref11_Length.l0])
   | succ k1 =>
    have H := HA.out;clear HA;simp only [sawmillref11_Length.l0] at H
    by_cases c5 : x4_1 < (l0.length : Int)
    ·rw [if_pos c5] at H;have c5b0 : decide (x4_1 < (l0.length : Int)) = true := decide_eq_true c5;clear c5
     by_cases c6 : 0 ≤ x4_1
     ·rw [if_pos c6] at H;have c6b0 : decide (0 ≤ x4_1) = true := decide_eq_true c6;clear c6;have H' := Aside0.mk H;clear H;have p43002 : 0 ≤ (x4_1 : Int) := as_;have q43002 : x4_1 < (l0.length : Int) := as_;obtain ⟨ad43002, A43002_2, c43002_2, e43002, hx43002_0, hx43002_1, hx43002_2, hl43002_2, hi43002_2⟩ := at_T36 HR0.out x4_1 p43002 q43002;cases e43002;replace hx43002_0 := bc_ HB hx43002_0;replace hx43002_1 := bc_ HB hx43002_1;replace hx43002_2 := bc_ HB hx43002_2;have HR43002_2 := Aside0.mk hi43002_2;have HC43002_2 := Aside0.mk hl43002_2;clear hi43002_2 hl43002_2;replace p43002 := eq_true p43002;replace q43002 := eq_true q43002;go_wp2
      go_roundg k1
      case measure => have := HK1.out; omega
      case rel => exact ⟨(wrap64 (x3_1 + ((rd_T36 l0 x4_1).f0))), (wrap64 (x4_1 + 1)), (by first | rfl | (simp; done) | (simp [*]; done)), (by first | rfl | (simp; done) | (simp [*]; done)), H', ⟨by have := HK1.out; omega⟩, ⟨be_⟩⟩
     ·rw [if_neg c6] at H;exact absurd H (by simp)
    ·rw [if_neg c5] at H;have c5b0 : decide (x4_1 < (l0.length : Int)) = false := decide_eq_false c5;clear c5;obtain rfl := Option.some.inj H;go_wp2;go_ret;exact ⟨er_, be_⟩
 ·rw [if_neg c3] at H;have c3b0 : (t43001 == 0) = false := beq_eq_false_iff_ne.mpr c3;have c3b1 : (t43001 != 0) = true := bne_iff_ne.mpr c3;obtain rfl := Option.some.inj H;go_enter Try.func43, Try.ntmps43;go_wp2_with (first | ((with_reducible refine gate_callee (f := 41) rfl ?_); refine goesL_ (some 6) rfl rfl Try.func41 (by kernel_rfl) rfl #[.slice A0 l0.length c0] rfl la_ ?_; (with_reducible refine (sawmillref11_Check.calls k _ _ l0 t43001 _ ?side1 ?side2 A2.out).mono ?_); (case side1 => repeat (first | exact HR0.out | (with_reducible refine Kd.C_alloc ?_ _) | (with_reducible refine Kd.C_drewN ?_ _) | (with_reducible refine Kd.C_drew ?_))); (case side2 => exact HC0.out); rintro e w7 ⟨rfl, hb⟩; refine ⟨_, rfl, ?_⟩; have n0_ := bA_ hb; clear HB; have HB := n0_; clear n0_; (try clear hb); (try clear hb2); (try clear hk); (try clear hi)));go_ret;exact ⟨er_, be_⟩

end Go.Proofs.Ytdbjoopkliafeaa.P

end
section
namespace Go.Proofs.Ytdbjoopkliafeaa.P
open Go Go.RowKit Go.Proofs.YtdbjoopkliafeaaW.PrintWords Go.Proofs.YtdbjoopkliafeaaW.PrintLast Go.Proofs.YtdbjoopkliafeaaW.PrintMore
attribute [local go_sem] max2_int min2_int max_two min_two max_three min_three max_four min_four max_five min_eight max_eight   -- for this text's walks alone
set_option linter.unusedVariables false
set_option linter.unusedSimpArgs false

mutual
def sawmillref14_Diameter.j0 : Nat → Int → Option (Int)
 | 0, _ => none
 | k + 1, x3 => sawmillref14_Diameter.l0 k x3 0
def sawmillref14_Diameter.l0 : Nat → Int → Int → Option (Int)
 | 0, _, _ => none
 | k + 1, x3, x4 => if (wrap64 ((wrap64 (x4 + 1)) * (wrap64 (x4 + 1)))) ≤ x3 then (sawmillref14_Diameter.l0 k x3 (wrap64 (x4 + 1))) else (some x4)
end
def sawmillref14_Diameter.f (k : Nat) (a0_0 : Int) (l0_1 : List (S49)) : Option (Int) := (sawmillref10_Check.f k a0_0 l0_1).bind fun t13002 => (if t13002 = 0 then ((sawmillref10_Area.f k a0_0 l0_1).bind fun t13003 => (sawmillref14_Diameter.j0 k (wrap64 (Int.tdiv (wrap64 (452 * t13003)) 355)))) else (sawmillref14_Diameter.j0 k 0))
theorem sawmillref14_Diameter.mono_l : ∀ k, (∀ y0, LeO (sawmillref14_Diameter.j0 k y0) (sawmillref14_Diameter.j0 (k + 1) y0)) ∧ (∀ y0 y1, LeO (sawmillref14_Diameter.l0 k y0 y1) (sawmillref14_Diameter.l0 (k + 1) y0 y1))
 | 0 => ⟨fun _ r h => by simp [sawmillref14_Diameter.j0] at h, fun _ _ r h => by simp [sawmillref14_Diameter.l0] at h⟩
 | k + 1 => by
  obtain ⟨ih0, ih1⟩ := sawmillref14_Diameter.mono_l k;refine ⟨?_, ?_⟩
  ·intro y0;unfold sawmillref14_Diameter.j0
   repeat' first
   | (with_reducible exact ih0 _)
   | (with_reducible exact ih1 _ _)
   | (with_reducible exact sawmillref10_Area.mono _ _ _)
   | (with_reducible exact sawmillref10_Check.mono _ _ _)
   | (with_reducible exact LeO.refl _)
   | (with_reducible exact LeO.none _)
   | (with_reducible refine LeO.ite ?_ ?_)
   | (with_reducible refine LeO.bind ?_ (fun _ => ?_))
   | exact ih0 _
   | exact ih1 _ _
   | exact sawmillref10_Area.mono _ _ _
   | exact sawmillref10_Check.mono _ _ _
   | exact LeO.none _
   | refine LeO.ite ?_ ?_
   | refine LeO.bind ?_ (fun _ => ?_)
  ·intro y0 y1;unfold sawmillref14_Diameter.l0
   repeat' first
   | (with_reducible exact ih0 _)
   | (with_reducible exact ih1 _ _)
   | (with_reducible exact sawmillref10_Area.mono _ _ _)
   | (with_reducible exact sawmillref10_Check.mono _ _ _)
   | (with_reducible exact LeO.refl _)
   | (with_reducible exact LeO.none _)
   | (with_reducible refine LeO.ite ?_ ?_)
   | (with_reducible refine LeO.bind ?_ (fun _ => ?_))
   | exact ih0 _
   | exact ih1 _ _
   | exact sawmillref10_Area.mono _ _ _
   | exact sawmillref10_Check.mono _ _ _
   | exact LeO.none _
   | refine LeO.ite ?_ ?_
   | refine LeO.bind ?_ (fun _ => ?_)
theorem sawmillref14_Diameter.mono : ∀ a0 a1 k, LeO (sawmillref14_Diameter.f k a0 a1) (sawmillref14_Diameter.f (k + 1) a0 a1) := by
 intro a0 a1 k;obtain ⟨ih0, ih1⟩ := sawmillref14_Diameter.mono_l k;unfold sawmillref14_Diameter.f
 repeat' first
   | (with_reducible exact ih0 _)
   | (with_reducible exact ih1 _ _)
   | (with_reducible exact sawmillref10_Area.mono _ _ _)
   | (with_reducible exact sawmillref10_Check.mono _ _ _)
   | (with_reducible exact LeO.refl _)
   | (with_reducible exact LeO.none _)
   | (with_reducible refine LeO.ite ?_ ?_)
   | (with_reducible refine LeO.bind ?_ (fun _ => ?_))
   | exact ih0 _
   | exact ih1 _ _
   | exact sawmillref10_Area.mono _ _ _
   | exact sawmillref10_Check.mono _ _ _
   | exact LeO.none _
   | refine LeO.ite ?_ ?_
   | refine LeO.bind ?_ (fun _ => ?_)
set_option maxHeartbeats 8000000 in
set_option maxRecDepth 100000 in
theorem sawmillref14_Diameter.calls (k : Nat) (a0_0 : Int) (A0_1 : Option Addr) (c0_1 : Nat) (l0_1 : List (S49)) (r : Int) (w : World) (hr0_1 : Kd.C k49 w A0_1 l0_1.length l0_1) (hc0_1 : l0_1.length ≤ c0_1) (h : sawmillref14_Diameter.f k a0_0 l0_1 = some r) :
  Calls Try.prog 13 #[.agg #[.int .i64 a0_0, .slice A0_1 l0_1.length c0_1]] w fun e w' => e = .returned (.int .i64 r) ∧ Below w.heap.size w w' := by
 have hu24 := Try.underlying24;have HR0_1 := Aside0.mk hr0_1;have HC0_1 := Aside0.mk hc0_1;clear hr0_1 hc0_1;have HB := A_ (Below.refl w.heap.size w);have H : ((sawmillref10_Check.f k a0_0 l0_1).bind fun t13002 => (if t13002 = 0 then ((sawmillref10_Area.f k a0_0 l0_1).bind fun t13003 => (sawmillref14_Diameter.j0 k (wrap64 (Int.tdiv (wrap64 (452 * t13003)) 355)))) else (sawmillref14_Diameter.j0 k 0))) = some r := h;clear h;replace H := Option.bind_eq_some_iff.mp H;obtain ⟨t13002, A20, H⟩ := H;replace H : (if t13002 = 0 then ((sawmillref10_Area.f k a0_0 l0_1).bind fun t13003 => (sawmillref14_Diameter.j0 k (wrap64 (Int.tdiv (wrap64 (452 * t13003)) 355)))) else (sawmillref14_Diameter.j0 k 0)) = some r := H;have A2 := Aside0.mk A20;clear A20;have HC3 := Aside0.mk H;clear H;go_enter Try.func13, Try.ntmps13
 go_upto_if 7 with (first | ((with_reducible refine gate_dst (N := 1) rfl ?_); refine box_event ?hg (N := 1) ?hd (cs := #[.int .i64 a0_0, .slice A0_1 l0_1.length c0_1]) (t := 24) ?hr ?_; (case hd => rfl); (case hg => rfl); (case hr => first | (go_simp; done) | (go_simp; rfl)); intro gb13001 hg w4 hbox hb; have n0_ := bA_ hb; have n1_ := A_ hbox; have n2_ := A_ ((by rw [hg]; exact bz_ : w.heap.size ≤ gb13001)); have n3_ := A_ ((by rw [hg]; exact bz_ : w.heap.size ≤ gb13001)); clear HB; have HB := n0_; have BK13001 := n1_; have GW13001 := n2_; have GE13001 := n3_; clear n0_ n1_ n2_ n3_ hb hbox hg; have hcz5_0 := cz0_ BK13001; have hcz5_1 := cz1_ BK13001; have hfz5_0 := blk_frozen BK13001.out 0; have hfz5_1 := blk_frozen BK13001.out 1) | ((with_reducible refine gate_callee (f := 37) rfl ?_); refine goesL_ (some 6) rfl rfl Try.func37 (by kernel_rfl) rfl #[.agg #[.int .i64 a0_0, .slice A0_1 l0_1.length c0_1]] rfl la_ ?_; (with_reducible refine (sawmillref10_Check.calls k a0_0 _ _ l0_1 t13002 _ ?side1 ?side2 A2.out).mono ?_); (case side1 => repeat (first | exact (Kd.C_below HR0_1.out HB.out) | (with_reducible refine Kd.C_alloc ?_ _) | (with_reducible refine Kd.C_drewN ?_ _) | (with_reducible refine Kd.C_drew ?_))); (case side2 => exact HC0_1.out); rintro e w6 ⟨rfl, hb⟩; refine ⟨_, rfl, ?_⟩; have n0_ := bb_ BK13001 hb; have n1_ := bA_ hb; clear BK13001 HB; have BK13001 := n0_; have HB := n1_; clear n0_ n1_; (try clear hb); (try clear hb2); (try clear hk); (try clear hi)))
 (try simp only [Act.put, List.setIfInBounds_toArray, List.set_cons_zero, List.set_cons_succ])
 go_cut [3] (fun v3 wc => ∃ (kq : Nat) (x3_2 : Int), v3 = .int .i64 x3_2 ∧ Aside0 (sawmillref14_Diameter.j0 kq x3_2 = some r) ∧ Aside0 (kq ≤ k) ∧ Aside0 (wc.heap[gb13001]? = some (.cells #[.int .i64 a0_0, (.slice A0_1 l0_1.length c0_1)] 24 (0, 0))) ∧ Aside0 (Below w.heap.size w wc))
 case first =>
  have H := HC3.out;clear HC3
  by_cases c7 : t13002 = 0
  ·rw [if_pos c7] at H;have c7b0 : (t13002 == 0) = true := beq_iff_eq.mpr c7;have c7b1 : (t13002 != 0) = false := bne_eq_false_iff_eq.mpr c7;clear c7;(first | rw [c7b0] | (simp only [i64_w, i32_w]; rw [c7b0]) | skip);replace H := Option.bind_eq_some_iff.mp H;obtain ⟨t13003, A80, H⟩ := H;replace H : (sawmillref14_Diameter.j0 k (wrap64 (Int.tdiv (wrap64 (452 * t13003)) 355))) = some r := H;have A8 := Aside0.mk A80;clear A80;have H' := Aside0.mk H;clear H;have hcz9_0 := cz0_ BK13001;have hcz9_1 := cz1_ BK13001;have hfz9_0 := blk_frozen BK13001.out 0;have hfz9_1 := blk_frozen BK13001.out 1;go_wp2_with (first | ((with_reducible refine gate_callee (f := 38) rfl ?_); refine goesL_ (some 9) rfl rfl Try.func38 (by kernel_rfl) rfl #[.agg #[.int .i64 a0_0, .slice A0_1 l0_1.length c0_1]] rfl la_ ?_; (with_reducible refine (sawmillref10_Area.calls k a0_0 _ _ l0_1 t13003 _ ?side1 ?side2 A8.out).mono ?_); (case side1 => repeat (first | exact (Kd.C_below HR0_1.out HB.out) | (with_reducible refine Kd.C_alloc ?_ _) | (with_reducible refine Kd.C_drewN ?_ _) | (with_reducible refine Kd.C_drew ?_))); (case side2 => exact HC0_1.out); rintro e w10 ⟨rfl, hb⟩; refine ⟨_, rfl, ?_⟩; have n0_ := bb_ BK13001 hb; have n1_ := bA_ hb; clear BK13001 HB; have BK13001 := n0_; have HB := n1_; clear n0_ n1_; (try clear hb); (try clear hb2); (try clear hk); (try clear hi)))
   go_meet
   case rel => exact ⟨_, (wrap64 (Int.tdiv (wrap64 (452 * t13003)) 355)), (by first | rfl | (simp; done) | (simp [*]; done)), H', ⟨by first | omega | exact Nat.le_refl _⟩, ⟨fb_ BK13001.out⟩, ⟨be_⟩⟩
  ·rw [if_neg c7] at H;have c7b0 : (t13002 == 0) = false := beq_eq_false_iff_ne.mpr c7;have c7b1 : (t13002 != 0) = true := bne_iff_ne.mpr c7;(first | rw [c7b0] | (simp only [i64_w, i32_w]; rw [c7b0]) | skip);have H' := Aside0.mk H;clear H;go_wp2
   go_meet
   case rel => exact ⟨_, (0), (by first | rfl | (simp; done) | (simp [*]; done)), H', ⟨by first | omega | exact Nat.le_refl _⟩, ⟨fb_ BK13001.out⟩, ⟨be_⟩⟩
 case rest =>
  clear HC3;(try clear c1);(try clear p2);(try clear c3);(try clear p6);(try clear c7);(try clear c7b0);(try clear c7b1);(try clear hcz5_0);(try clear hcz5_1);(try clear hcz9_0);(try clear hcz9_1);(try clear hfz5_0);(try clear hfz5_1);(try clear hfz9_0);(try clear hfz9_1);obtain ⟨kq, x3_2, rfl, HA, HJ2, BK13001, HB⟩ := hcut;cases kq with
  | zero => exact absurd HA.out (by simp [sawmillref14_Diameter.j0])
  | succ kj2 =>
   have H := HA.out;clear HA;simp only [sawmillref14_Diameter.j0] at H;have H' := Aside0.mk H;clear H;go_wp2
   go_loopg [4] kj2 (fun kq v4 w' => ∃ (x4_2 : Int), v4 = .int .i64 x4_2 ∧ Aside0 (sawmillref14_Diameter.l0 kq x3_2 x4_2 = some r) ∧ Aside0 (kq ≤ kj2) ∧ Aside0 (w'.heap[gb13001]? = some (.cells #[.int .i64 a0_0, (.slice A0_1 l0_1.length c0_1)] 24 (0, 0))) ∧ Aside0 (Below w.heap.size w w'))
   case atStart => exact ⟨(0), (by first | rfl | (simp; done) | (simp [*]; done)), H', ⟨Nat.le_refl _⟩, ⟨fb_ BK13001.out⟩, ⟨be_⟩⟩
   case round =>
    clear H';(try clear c1);(try clear p2);(try clear c3);(try clear p6);(try clear c7);(try clear c7b0);(try clear c7b1);(try clear hcz5_0);(try clear hcz5_1);(try clear hcz9_0);(try clear hcz9_1);(try clear hfz5_0);(try clear hfz5_1);(try clear hfz9_0);(try clear hfz9_1);(try clear p2);(try clear p6);obtain ⟨x4_2, rfl, HA, HK2, BK13001, HB⟩ := hrel;cases gk with
    | zero => exact absurd HA.out (by simp [sawmillref14_Diameter.l0])
    | succ k2 =>
     have H := HA.out;clear HA;simp only [sawmillref14_Diameter.l0] at H
     by_cases c11 : (wrap64 ((wrap64 (x4_2 + 1)) * (wrap64 (x4_2 + 1)))) ≤ x3_2
     ·rw [if_pos c11] at H;have c11b0 : decide ((wrap64 ((wrap64 (x4_2 + 1)) * (wrap64 (x4_2 + 1)))) ≤ x3_2) = true := decide_eq_true c11;clear c11;have H' := Aside0.mk H;clear H;go_wp2
      go_roundg k2
      case measure => have := HJ2.out; have := HK2.out; omega
      case rel => exact ⟨(wrap64 (x4_2 + 1)), (by first | rfl | (simp; done) | (simp [*]; done)), H', ⟨by have := HJ2.out; have := HK2.out; omega⟩, ⟨fb_ BK13001.out⟩, ⟨be_⟩⟩
     ·rw [if_neg c11] at H;have c11b0 : decide ((wrap64 ((wrap64 (x4_2 + 1)) * (wrap64 (x4_2 + 1)))) ≤ x3_2) = false := decide_eq_false c11;clear c11;obtain rfl := Option.some.inj H;go_wp2;go_ret;exact ⟨er_, be_⟩

end Go.Proofs.Ytdbjoopkliafeaa.P

end
section
namespace Go.Proofs.Ytdbjoopkliafeaa.P
open Go Go.RowKit Go.Proofs.YtdbjoopkliafeaaW.PrintWords Go.Proofs.YtdbjoopkliafeaaW.PrintLast Go.Proofs.YtdbjoopkliafeaaW.PrintMore
attribute [local go_sem] max2_int min2_int max_two min_two max_three min_three max_four min_four max_five min_eight max_eight   -- for this text's walks alone
set_option linter.unusedVariables false
set_option linter.unusedSimpArgs false

def sawmillref14_floor.f (a0 : Int) (a1 : Int) : Option (Int) := if a1 = 0 then (none) else (if (wrap64 ((wrap64 (Int.tdiv a0 a1)) * a1)) > a0 then (some (wrap64 ((wrap64 (Int.tdiv a0 a1)) - 1))) else (some (wrap64 (Int.tdiv a0 a1))))
set_option maxHeartbeats 8000000 in
set_option maxRecDepth 100000 in
theorem sawmillref14_floor.calls (a0 : Int) (a1 : Int) (r : Int) (w : World) (h : sawmillref14_floor.f a0 a1 = some r) :
  Calls Try.prog 42 #[.int .i64 a0, .int .i64 a1] w fun e w' => e = .returned (.int .i64 r) ∧ Drawn0 w w' := by
 have H : (if a1 = 0 then (none) else (if (wrap64 ((wrap64 (Int.tdiv a0 a1)) * a1)) > a0 then (some (wrap64 ((wrap64 (Int.tdiv a0 a1)) - 1))) else (some (wrap64 (Int.tdiv a0 a1))))) = some r := h;clear h
 by_cases c3 : a1 = 0
 ·rw [if_pos c3] at H;exact absurd H (by simp)
 ·rw [if_neg c3] at H;have c3b0 : (a1 == 0) = false := beq_eq_false_iff_ne.mpr c3;have c3b1 : (a1 != 0) = true := bne_iff_ne.mpr c3
  by_cases c4 : (wrap64 ((wrap64 (Int.tdiv a0 a1)) * a1)) > a0
  ·rw [if_pos c4] at H;have c4b0 : decide (a0 < (wrap64 ((wrap64 (Int.tdiv a0 a1)) * a1))) = true := decide_eq_true c4;clear c4;obtain rfl := Option.some.inj H;go_enter Try.func42, Try.ntmps42;go_wp2;go_ret;exact ⟨by first | rfl | (simp; done) | (simp [*]; done), by repeat (first | exact Drawn0.refl _ | apply Drawn0.step)⟩
  ·rw [if_neg c4] at H;have c4b0 : decide (a0 < (wrap64 ((wrap64 (Int.tdiv a0 a1)) * a1))) = false := decide_eq_false c4;clear c4;obtain rfl := Option.some.inj H;go_enter Try.func42, Try.ntmps42;go_wp2;go_ret;exact ⟨by first | rfl | (simp; done) | (simp [*]; done), by repeat (first | exact Drawn0.refl _ | apply Drawn0.step)⟩

end Go.Proofs.Ytdbjoopkliafeaa.P

end
section
namespace Go.Proofs.Ytdbjoopkliafeaa.P
open Go Go.RowKit Go.Proofs.YtdbjoopkliafeaaW.PrintWords Go.Proofs.YtdbjoopkliafeaaW.PrintLast Go.Proofs.YtdbjoopkliafeaaW.PrintMore
attribute [local go_sem] max2_int min2_int max_two min_two max_three min_three max_four min_four max_five min_eight max_eight   -- for this text's walks alone
set_option linter.unusedVariables false
set_option linter.unusedSimpArgs false

def sawmillref14_away.f (a0 : Int) (a1 : Int) : Option (Int) := some (mx (wrap64 (a0 - a1)) (wrap64 (a1 - a0)))
set_option maxHeartbeats 8000000 in
set_option maxRecDepth 100000 in
theorem sawmillref14_away.calls (a0 : Int) (a1 : Int) (r : Int) (w : World) (h : sawmillref14_away.f a0 a1 = some r) :
  Calls Try.prog 46 #[.int .i64 a0, .int .i64 a1] w fun e w' => e = .returned (.int .i64 r) ∧ Below w.heap.size w w' := by
 have HB := A_ (Below.refl w.heap.size w);have H : (some (mx (wrap64 (a0 - a1)) (wrap64 (a1 - a0)))) = some r := h;clear h;obtain ⟨ji3, hji3⟩ : ∃ j_ : Int, (mx (wrap64 (a0 - a1)) (wrap64 (a1 - a0))) = j_ := ⟨_, rfl⟩;(replace H : (some ji3) = some r := by first | (rw [hji3] at H; exact H) | (simp only [hji3] at H ⊢; exact H));have hji3_ : (if (wrap64 (a0 - a1)) < (wrap64 (a1 - a0)) then (wrap64 (a1 - a0)) else (wrap64 (a0 - a1))) = ji3 := hji3;obtain rfl := Option.some.inj H;go_enter Try.func46, Try.ntmps46;go_wp2;go_ret;exact ⟨by first | rfl | (simp [errW_none, errW_some] <;> rfl) | (simp only [← hji3]; first | rfl | (simp [errW_none, errW_some] <;> rfl)) | (simp [*, errW_none, errW_some] <;> rfl), be_⟩

end Go.Proofs.Ytdbjoopkliafeaa.P

end
section
namespace Go.Proofs.Ytdbjoopkliafeaa.P
open Go Go.RowKit Go.Proofs.YtdbjoopkliafeaaW.PrintWords Go.Proofs.YtdbjoopkliafeaaW.PrintLast Go.Proofs.YtdbjoopkliafeaaW.PrintMore
attribute [local go_sem] max2_int min2_int max_two min_two max_three min_three max_four min_four max_five min_eight max_eight   -- for this text's walks alone
set_option linter.unusedVariables false
set_option linter.unusedSimpArgs false

def sawmilllaw14_small.l0 : Nat → List (S36) → Int → Option (Bool)
 | 0, _, _ => none
 | k + 1, x0, x3 => if x3 < (x0.length : Int) then (if 0 ≤ x3 then (if (((rd_T36 x0 x3).f1.f1).length : Int) > 130 then (some false) else (sawmilllaw14_small.l0 k x0 (wrap64 (x3 + 1)))) else (none)) else (some true)
def sawmilllaw14_small.f (k : Nat) (l0 : List (S36)) : Option (Bool) := if (l0.length : Int) > 30 then (some false) else (sawmilllaw14_small.l0 k l0 0)
theorem sawmilllaw14_small.mono_l : ∀ k, (∀ y0 y1, LeO (sawmilllaw14_small.l0 k y0 y1) (sawmilllaw14_small.l0 (k + 1) y0 y1))
 | 0 => fun _ _ r h => by simp [sawmilllaw14_small.l0] at h
 | k + 1 => by
  have ih0 := sawmilllaw14_small.mono_l k
  ·intro y0 y1;unfold sawmilllaw14_small.l0
   repeat' first
   | (with_reducible exact ih0 _ _)
   | (with_reducible exact LeO.refl _)
   | (with_reducible exact LeO.none _)
   | (with_reducible refine LeO.ite ?_ ?_)
   | (with_reducible refine LeO.bind ?_ (fun _ => ?_))
   | exact ih0 _ _
   | exact LeO.none _
   | refine LeO.ite ?_ ?_
   | refine LeO.bind ?_ (fun _ => ?_)
theorem sawmilllaw14_small.mono : ∀ a0 k, LeO (sawmilllaw14_small.f k a0) (sawmilllaw14_small.f (k + 1) a0) := by
 intro a0 k;have ih0 := sawmilllaw14_small.mono_l k;unfold sawmilllaw14_small.f
 repeat' first
   | (with_reducible exact ih0 _ _)
   | (with_reducible exact LeO.refl _)
   | (with_reducible exact LeO.none _)
   | (with_reducible refine LeO.ite ?_ ?_)
   | (with_reducible refine LeO.bind ?_ (fun _ => ?_))
   | exact ih0 _ _
   | exact LeO.none _
   | refine LeO.ite ?_ ?_
   | refine LeO.bind ?_ (fun _ => ?_)
set_option maxHeartbeats 8000000 in
set_option maxRecDepth 100000 in
theorem sawmilllaw14_small.calls (k : Nat) (A0 : Option Addr) (c0 : Nat) (l0 : List (S36)) (r : Bool) (w : World) (hr0 : Kd.C k36 w A0 l0.length l0) (hc0 : l0.length ≤ c0) (h : sawmilllaw14_small.f k l0 = some r) :
  Calls Try.prog 18 #[.slice A0 l0.length c0] w fun e w' => e = .returned (.bool r) ∧ Drawn0 w w' := by
 have HR0 := Aside0.mk hr0;have HC0 := Aside0.mk hc0;clear hr0 hc0;have H : (if (l0.length : Int) > 30 then (some false) else (sawmilllaw14_small.l0 k l0 0)) = some r := h;clear h
 by_cases c2 : (l0.length : Int) > 30
 ·rw [if_pos c2] at H;have c2b0 : decide (30 < (l0.length : Int)) = true := decide_eq_true c2;have c2b1 : decide (30 < l0.length) = true := decide_eq_true (by omega);clear c2;obtain rfl := Option.some.inj H;go_enter Try.func18, Try.ntmps18;go_wp2;go_ret;exact ⟨by first | rfl | (simp; done) | (simp [*]; done), by repeat (first | exact Drawn0.refl _ | apply Drawn0.step)⟩
 ·rw [if_neg c2] at H;have c2b0 : decide (30 < (l0.length : Int)) = false := decide_eq_false c2;have c2b1 : decide (30 < l0.length) = false := decide_eq_false (by omega);clear c2;have H' := Aside0.mk H;clear H;go_enter Try.func18, Try.ntmps18;go_wp2
  go_loopg [3] k (fun kq v3 w' => ∃ (x3_1 : Int), v3 = .int .i64 x3_1 ∧ Aside0 (sawmilllaw14_small.l0 kq l0 x3_1 = some r) ∧ Aside0 (kq ≤ k) ∧ Drawn0 w w')
  case atStart => exact ⟨(0), (by first | rfl | (simp; done) | (simp [*]; done)), H', ⟨Nat.le_refl _⟩, by repeat (first | exact Drawn0.refl _ | apply Drawn0.step)⟩
  case round =>
   clear H';(try clear c1);(try clear c2);(try clear c2b0);(try clear c2b1);(try clear p2);obtain ⟨x3_1, rfl, HA, HK1, ⟨m1, rfl⟩⟩ := hrel;cases gk with
   | zero => exact absurd HA.out (by simp [sawmilllaw14_small.l0])
   | succ k1 =>
    have H := HA.out;clear HA;simp only [sawmilllaw14_small.l0] at H
    by_cases c3 : x3_1 < (l0.length : Int)
    ·rw [if_pos c3] at H;have c3b0 : decide (x3_1 < (l0.length : Int)) = true := decide_eq_true c3;clear c3
     by_cases c4 : 0 ≤ x3_1
     ·rw [if_pos c4] at H;have c4b0 : decide (0 ≤ x3_1) = true := decide_eq_true c4;clear c4
      by_cases c5 : (((rd_T36 l0 x3_1).f1.f1).length : Int) > 130
      ·rw [if_pos c5] at H;have c5b0 : decide (130 < (((rd_T36 l0 x3_1).f1.f1).length : Int)) = true := decide_eq_true c5;have c5b1 : decide (130 < ((rd_T36 l0 x3_1).f1.f1).length) = true := decide_eq_true (by omega);clear c5;obtain rfl := Option.some.inj H;have p18001 : 0 ≤ (x3_1 : Int) := as_;have q18001 : x3_1 < (l0.length : Int) := as_;obtain ⟨ad18001, A18001_2, c18001_2, e18001, hx18001_0, hx18001_1, hx18001_2, hl18001_2, hi18001_2⟩ := at_T36 HR0.out x3_1 p18001 q18001;cases e18001;have HR18001_2 := Aside0.mk hi18001_2;have HC18001_2 := Aside0.mk hl18001_2;clear hi18001_2 hl18001_2;replace p18001 := eq_true p18001;replace q18001 := eq_true q18001;go_wp2;go_ret;exact ⟨by first | rfl | (simp; done) | (simp [*]; done), by repeat (first | exact Drawn0.refl _ | apply Drawn0.step)⟩
      ·rw [if_neg c5] at H;have c5b0 : decide (130 < (((rd_T36 l0 x3_1).f1.f1).length : Int)) = false := decide_eq_false c5;have c5b1 : decide (130 < ((rd_T36 l0 x3_1).f1.f1).length) = false := decide_eq_false (by omega);clear c5;have H' := Aside0.mk H;clear H;have p18001 : 0 ≤ (x3_1 : Int) := as_;have q18001 : x3_1 < (l0.length : Int) := as_;obtain ⟨ad18001, A18001_2, c18001_2, e18001, hx18001_0, hx18001_1, hx18001_2, hl18001_2, hi18001_2⟩ := at_T36 HR0.out x3_1 p18001 q18001;cases e18001;have HR18001_2 := Aside0.mk hi18001_2;have HC18001_2 := Aside0.mk hl18001_2;clear hi18001_2 hl18001_2;replace p18001 := eq_true p18001;replace q18001 := eq_true q18001;go_wp2
       go_roundg k1
       case measure => have := HK1.out; omega
       case rel => exact ⟨(wrap64 (x3_1 + 1)), (by first | rfl | (simp; done) | (simp [*]; done)), H', ⟨by have := HK1.out; omega⟩, by repeat (first | exact Drawn0.refl _ | apply Drawn0.step)⟩
     ·rw [if_neg c4] at H;exact absurd H (by simp)
    ·rw [if_neg c3] at H;have c3b0 : decide (x3_1 < (l0.length : Int)) = false := decide_eq_false c3;clear c3;obtain rfl := Option.some.inj H;go_wp2;go_ret;exact ⟨by first | rfl | (simp; done) | (simp [*]; done), by repeat (first | exact Drawn0.refl _ | apply Drawn0.step)⟩

end Go.Proofs.Ytdbjoopkliafeaa.P

end
section
namespace Go.Proofs.Ytdbjoopkliafeaa.P
open Go Go.RowKit Go.Proofs.YtdbjoopkliafeaaW.PrintWords Go.Proofs.YtdbjoopkliafeaaW.PrintLast Go.Proofs.YtdbjoopkliafeaaW.PrintMore
attribute [local go_sem] max2_int min2_int max_two min_two max_three min_three max_four min_four max_five min_eight max_eight   -- for this text's walks alone
set_option linter.unusedVariables false
set_option linter.unusedSimpArgs false

def sawmillref14_Top.f (k : Nat) (l0 : List (S36)) : Option (Int) := (sawmillref11_Check.f k l0).bind fun t20001 => (if t20001 = 0 then (if 0 ≤ (wrap64 ((l0.length : Int) - 1)) then (if (wrap64 ((l0.length : Int) - 1)) < (l0.length : Int) then ((sawmillref14_Diameter.f k ((rd_T36 l0 (wrap64 ((l0.length : Int) - 1))).f1.f0) ((rd_T36 l0 (wrap64 ((l0.length : Int) - 1))).f1.f1)).bind fun t20003 => (some t20003)) else (none)) else (none)) else (some 0))
theorem sawmillref14_Top.mono : ∀ a0 k, LeO (sawmillref14_Top.f k a0) (sawmillref14_Top.f (k + 1) a0) := by
 intro a0 k;unfold sawmillref14_Top.f
 repeat' first
   | (with_reducible exact sawmillref11_Check.mono _ _)
   | (with_reducible exact sawmillref14_Diameter.mono _ _ _)
   | (with_reducible exact LeO.refl _)
   | (with_reducible exact LeO.none _)
   | (with_reducible refine LeO.ite ?_ ?_)
   | (with_reducible refine LeO.bind ?_ (fun _ => ?_))
   | exact sawmillref11_Check.mono _ _
   | exact sawmillref14_Diameter.mono _ _ _
   | exact LeO.none _
   | refine LeO.ite ?_ ?_
   | refine LeO.bind ?_ (fun _ => ?_)
set_option maxHeartbeats 8000000 in
set_option maxRecDepth 100000 in
theorem sawmillref14_Top.calls (k : Nat) (A0 : Option Addr) (c0 : Nat) (l0 : List (S36)) (r : Int) (w : World) (hr0 : Kd.C k36 w A0 l0.length l0) (hc0 : l0.length ≤ c0) (h : sawmillref14_Top.f k l0 = some r) :
  Calls Try.prog 20 #[.slice A0 l0.length c0] w fun e w' => e = .returned (.int .i64 r) ∧ Below w.heap.size w w' := by
 have hu24 := Try.underlying24;have HR0 := Aside0.mk hr0;have HC0 := Aside0.mk hc0;clear hr0 hc0;have HB := A_ (Below.refl w.heap.size w);have H : ((sawmillref11_Check.f k l0).bind fun t20001 => (if t20001 = 0 then (if 0 ≤ (wrap64 ((l0.length : Int) - 1)) then (if (wrap64 ((l0.length : Int) - 1)) < (l0.length : Int) then ((sawmillref14_Diameter.f k ((rd_T36 l0 (wrap64 ((l0.length : Int) - 1))).f1.f0) ((rd_T36 l0 (wrap64 ((l0.length : Int) - 1))).f1.f1)).bind fun t20003 => (some t20003)) else (none)) else (none)) else (some 0))) = some r := h;clear h;replace H := Option.bind_eq_some_iff.mp H;obtain ⟨t20001, A20, H⟩ := H;replace H : (if t20001 = 0 then (if 0 ≤ (wrap64 ((l0.length : Int) - 1)) then (if (wrap64 ((l0.length : Int) - 1)) < (l0.length : Int) then ((sawmillref14_Diameter.f k ((rd_T36 l0 (wrap64 ((l0.length : Int) - 1))).f1.f0) ((rd_T36 l0 (wrap64 ((l0.length : Int) - 1))).f1.f1)).bind fun t20003 => (some t20003)) else (none)) else (none)) else (some 0)) = some r := H;have A2 := Aside0.mk A20;clear A20
 by_cases c3 : t20001 = 0
 ·rw [if_pos c3] at H;have c3b0 : (t20001 == 0) = true := beq_iff_eq.mpr c3;have c3b1 : (t20001 != 0) = false := bne_eq_false_iff_eq.mpr c3;clear c3;obtain ⟨ji4, hji4⟩ : ∃ j_ : Int, (wrap64 ((l0.length : Int) - 1)) = j_ := ⟨_, rfl⟩;(replace H : (if 0 ≤ (ji4) then (if (ji4) < (l0.length : Int) then ((sawmillref14_Diameter.f k ((rd_T36 l0 (ji4)).f1.f0) ((rd_T36 l0 (ji4)).f1.f1)).bind fun t20003 => (some t20003)) else (none)) else (none)) = some r := by first | (rw [hji4] at H; exact H) | (simp only [hji4] at H ⊢; exact H));(try rw [hji4] at A2);have hji4w : (IntKind.i64.wrap ((l0.length : Int) - 1)) = ji4 := (i64_w _).trans hji4
  by_cases c5 : 0 ≤ (ji4)
  ·rw [if_pos c5] at H;have c5b0 : decide (0 ≤ (ji4)) = true := decide_eq_true c5;clear c5
   by_cases c6 : (ji4) < (l0.length : Int)
   ·rw [if_pos c6] at H;have c6b0 : decide ((ji4) < (l0.length : Int)) = true := decide_eq_true c6;clear c6;replace H := Option.bind_eq_some_iff.mp H;obtain ⟨t20003, A70, H⟩ := H;replace H : (some t20003) = some r := H;have A7 := Aside0.mk A70;clear A70;obtain rfl := Option.some.inj H;go_enter Try.func20, Try.ntmps20;go_wp2_with (first | ((with_reducible refine gate_callee (f := 41) rfl ?_); refine goesL_ (some 4) rfl rfl Try.func41 (by kernel_rfl) rfl #[.slice A0 l0.length c0] rfl la_ ?_; (with_reducible refine (sawmillref11_Check.calls k _ _ l0 t20001 _ ?side1 ?side2 A2.out).mono ?_); (case side1 => repeat (first | exact HR0.out | (with_reducible refine Kd.C_alloc ?_ _) | (with_reducible refine Kd.C_drewN ?_ _) | (with_reducible refine Kd.C_drew ?_))); (case side2 => exact HC0.out); rintro e w8 ⟨rfl, hb⟩; refine ⟨_, rfl, ?_⟩; have n0_ := bA_ hb; clear HB; have HB := n0_; clear n0_; (try clear hb); (try clear hb2); (try clear hk); (try clear hi); have p20002 : 0 ≤ ((ji4) : Int) := as_; have q20002 : (ji4) < (l0.length : Int) := as_; obtain ⟨ad20002, A20002_2, c20002_2, e20002, hx20002_0, hx20002_1, hx20002_2, hl20002_2, hi20002_2⟩ := at_T36 HR0.out (ji4) p20002 q20002; cases e20002; replace hx20002_0 := bc_ HB hx20002_0; replace hx20002_1 := bc_ HB hx20002_1; replace hx20002_2 := bc_ HB hx20002_2; have HR20002_2 := Aside0.mk hi20002_2; have HC20002_2 := Aside0.mk hl20002_2; clear hi20002_2 hl20002_2; replace p20002 := eq_true p20002; replace q20002 := eq_true q20002) | ((with_reducible refine gate_callee (f := 13) rfl ?_); refine goesL_ (some 13) rfl rfl Try.func13 (by kernel_rfl) rfl #[.agg #[.int .i64 ((rd_T36 l0 (ji4)).f1.f0), .slice A20002_2 ((rd_T36 l0 (ji4)).f1.f1).length c20002_2]] rfl (by (try simp only [List.map_toArray, List.map_cons, List.map_nil]); first | done | (simp only [hji4]; rfl) | rfl | (simp only [List.length_drop, List.length_take]; rfl)) ?_; (with_reducible refine (sawmillref14_Diameter.calls k ((rd_T36 l0 (ji4)).f1.f0) _ _ ((rd_T36 l0 (ji4)).f1.f1) t20003 _ ?side1 ?side2 A7.out).mono ?_); (case side1 => repeat (first | exact (Kd.C_below HR20002_2.out HB.out) | (with_reducible refine Kd.C_alloc ?_ _) | (with_reducible refine Kd.C_drewN ?_ _) | (with_reducible refine Kd.C_drew ?_))); (case side2 => exact HC20002_2.out); rintro e w9 ⟨rfl, hb⟩; refine ⟨_, rfl, ?_⟩; have n0_ := bA_ hb; clear HB; have HB := n0_; clear n0_; (try clear hb); (try clear hb2); (try clear hk); (try clear hi)));go_ret;exact ⟨by first | rfl | (simp [errW_none, errW_some] <;> rfl) | (simp only [← hji4]; first | rfl | (simp [errW_none, errW_some] <;> rfl)) | (simp [*, errW_none, errW_some] <;> rfl), be_⟩
   ·rw [if_neg c6] at H;exact absurd H (by simp)
  ·rw [if_neg c5] at H;exact absurd H (by simp)
 ·rw [if_neg c3] at H;have c3b0 : (t20001 == 0) = false := beq_eq_false_iff_ne.mpr c3;have c3b1 : (t20001 != 0) = true := bne_iff_ne.mpr c3;obtain rfl := Option.some.inj H;go_enter Try.func20, Try.ntmps20;go_wp2_with (first | ((with_reducible refine gate_callee (f := 41) rfl ?_); refine goesL_ (some 4) rfl rfl Try.func41 (by kernel_rfl) rfl #[.slice A0 l0.length c0] rfl la_ ?_; (with_reducible refine (sawmillref11_Check.calls k _ _ l0 t20001 _ ?side1 ?side2 A2.out).mono ?_); (case side1 => repeat (first | exact HR0.out | (with_reducible refine Kd.C_alloc ?_ _) | (with_reducible refine Kd.C_drewN ?_ _) | (with_reducible refine Kd.C_drew ?_))); (case side2 => exact HC0.out); rintro e w10 ⟨rfl, hb⟩; refine ⟨_, rfl, ?_⟩; have n0_ := bA_ hb; clear HB; have HB := n0_; clear n0_; (try clear hb); (try clear hb2); (try clear hk); (try clear hi)));go_ret;exact ⟨er_, be_⟩

end Go.Proofs.Ytdbjoopkliafeaa.P

end
section
namespace Go.Proofs.Ytdbjoopkliafeaa.P
open Go Go.RowKit Go.Proofs.YtdbjoopkliafeaaW.PrintWords Go.Proofs.YtdbjoopkliafeaaW.PrintLast Go.Proofs.YtdbjoopkliafeaaW.PrintMore
attribute [local go_sem] max2_int min2_int max_two min_two max_three min_three max_four min_four max_five min_eight max_eight   -- for this text's walks alone
set_option linter.unusedVariables false
set_option linter.unusedSimpArgs false

def sawmillref14_Taper.f (k : Nat) (l0 : List (S36)) : Option (Int) := (sawmillref11_Check.f k l0).bind fun t22001 => (if t22001 = 0 then (if 0 < (l0.length : Int) then ((sawmillref14_Diameter.f k ((rd_T36 l0 0).f1.f0) ((rd_T36 l0 0).f1.f1)).bind fun t22003 => ((sawmillref14_Top.f k l0).bind fun t22004 => ((sawmillref11_Length.f k l0).bind fun t22005 => ((sawmillref14_floor.f (wrap64 ((wrap64 (t22003 - t22004)) * 10000)) t22005).bind fun t22006 => (some (mx 0 t22006)))))) else (none)) else (some 0))
theorem sawmillref14_Taper.mono : ∀ a0 k, LeO (sawmillref14_Taper.f k a0) (sawmillref14_Taper.f (k + 1) a0) := by
 intro a0 k;unfold sawmillref14_Taper.f
 repeat' first
   | (with_reducible exact sawmillref11_Check.mono _ _)
   | (with_reducible exact sawmillref11_Length.mono _ _)
   | (with_reducible exact sawmillref14_Diameter.mono _ _ _)
   | (with_reducible exact sawmillref14_Top.mono _ _)
   | (with_reducible exact LeO.refl _)
   | (with_reducible exact LeO.none _)
   | (with_reducible refine LeO.ite ?_ ?_)
   | (with_reducible refine LeO.bind ?_ (fun _ => ?_))
   | exact sawmillref11_Check.mono _ _
   | exact sawmillref11_Length.mono _ _
   | exact sawmillref14_Diameter.mono _ _ _
   | exact sawmillref14_Top.mono _ _
   | exact LeO.none _
   | refine LeO.ite ?_ ?_
   | refine LeO.bind ?_ (fun _ => ?_)
set_option maxHeartbeats 8000000 in
set_option maxRecDepth 100000 in
theorem sawmillref14_Taper.calls (k : Nat) (A0 : Option Addr) (c0 : Nat) (l0 : List (S36)) (r : Int) (w : World) (hr0 : Kd.C k36 w A0 l0.length l0) (hc0 : l0.length ≤ c0) (h : sawmillref14_Taper.f k l0 = some r) :
  Calls Try.prog 22 #[.slice A0 l0.length c0] w fun e w' => e = .returned (.int .i64 r) ∧ Below w.heap.size w w' := by
 have hu24 := Try.underlying24;have HR0 := Aside0.mk hr0;have HC0 := Aside0.mk hc0;clear hr0 hc0;have HB := A_ (Below.refl w.heap.size w);have H : ((sawmillref11_Check.f k l0).bind fun t22001 => (if t22001 = 0 then (if 0 < (l0.length : Int) then ((sawmillref14_Diameter.f k ((rd_T36 l0 0).f1.f0) ((rd_T36 l0 0).f1.f1)).bind fun t22003 => ((sawmillref14_Top.f k l0).bind fun t22004 => ((sawmillref11_Length.f k l0).bind fun t22005 => ((sawmillref14_floor.f (wrap64 ((wrap64 (t22003 - t22004)) * 10000)) t22005).bind fun t22006 => (some (mx 0 t22006)))))) else (none)) else (some 0))) = some r := h;clear h;replace H := Option.bind_eq_some_iff.mp H;obtain ⟨t22001, A20, H⟩ := H;replace H : (if t22001 = 0 then (if 0 < (l0.length : Int) then ((sawmillref14_Diameter.f k ((rd_T36 l0 0).f1.f0) ((rd_T36 l0 0).f1.f1)).bind fun t22003 => ((sawmillref14_Top.f k l0).bind fun t22004 => ((sawmillref11_Length.f k l0).bind fun t22005 => ((sawmillref14_floor.f (wrap64 ((wrap64 (t22003 - t22004)) * 10000)) t22005).bind fun t22006 => (some (mx 0 t22006)))))) else (none)) else (some 0)) = some r := H;have A2 := Aside0.mk A20;clear A20
 by_cases c3 : t22001 = 0
 ·rw [if_pos c3] at H;have c3b0 : (t22001 == 0) = true := beq_iff_eq.mpr c3;have c3b1 : (t22001 != 0) = false := bne_eq_false_iff_eq.mpr c3;clear c3
  by_cases c4 : 0 < (l0.length : Int)
  ·rw [if_pos c4] at H;have c4b0 : decide (0 < (l0.length : Int)) = true := decide_eq_true c4;have c4b1 : decide (0 < l0.length) = true := decide_eq_true (by omega);clear c4;replace H := Option.bind_eq_some_iff.mp H;obtain ⟨t22003, A50, H⟩ := H;replace H : ((sawmillref14_Top.f k l0).bind fun t22004 => ((sawmillref11_Length.f k l0).bind fun t22005 => ((sawmillref14_floor.f (wrap64 ((wrap64 (t22003 - t22004)) * 10000)) t22005).bind fun t22006 => (some (mx 0 t22006))))) = some r := H;have A5 := Aside0.mk A50;clear A50;replace H := Option.bind_eq_some_iff.mp H;obtain ⟨t22004, A60, H⟩ := H;replace H : ((sawmillref11_Length.f k l0).bind fun t22005 => ((sawmillref14_floor.f (wrap64 ((wrap64 (t22003 - t22004)) * 10000)) t22005).bind fun t22006 => (some (mx 0 t22006)))) = some r := H;have A6 := Aside0.mk A60;clear A60;replace H := Option.bind_eq_some_iff.mp H;obtain ⟨t22005, A70, H⟩ := H;replace H : ((sawmillref14_floor.f (wrap64 ((wrap64 (t22003 - t22004)) * 10000)) t22005).bind fun t22006 => (some (mx 0 t22006))) = some r := H;have A7 := Aside0.mk A70;clear A70;replace H := Option.bind_eq_some_iff.mp H;obtain ⟨t22006, A80, H⟩ := H;replace H : (some (mx 0 t22006)) = some r := H;have A8 := Aside0.mk A80;clear A80;obtain ⟨ji9, hji9⟩ : ∃ j_ : Int, (mx 0 t22006) = j_ := ⟨_, rfl⟩;(replace H : (some ji9) = some r := by first | (rw [hji9] at H; exact H) | (simp only [hji9] at H ⊢; exact H));(try rw [hji9] at A2);(try rw [hji9] at A5);(try rw [hji9] at A6);(try rw [hji9] at A7);(try rw [hji9] at A8);(try (have hji9l : 0 ≤ ji9 := by (rw [← hji9]; unfold mx; (repeat' split) <;> omega)));(try (have hji9m : 0 ≤ ji9 := by omega));have hji9_ : (if 0 < t22006 then t22006 else 0) = ji9 := hji9;obtain rfl := Option.some.inj H;go_enter Try.func22, Try.ntmps22
   go_wp2_with (first | ((with_reducible refine gate_callee (f := 41) rfl ?_); refine goesL_ (some 4) rfl rfl Try.func41 (by kernel_rfl) rfl #[.slice A0 l0.length c0] rfl la_ ?_; (with_reducible refine (sawmillref11_Check.calls k _ _ l0 t22001 _ ?side1 ?side2 A2.out).mono ?_); (case side1 => repeat (first | exact HR0.out | (with_reducible refine Kd.C_alloc ?_ _) | (with_reducible refine Kd.C_drewN ?_ _) | (with_reducible refine Kd.C_drew ?_))); (case side2 => exact HC0.out); rintro e w10 ⟨rfl, hb⟩; refine ⟨_, rfl, ?_⟩; have n0_ := bA_ hb; clear HB; have HB := n0_; clear n0_; (try clear hb); (try clear hb2); (try clear hk); (try clear hi); have p22002 : 0 ≤ (0 : Int) := (by omega); have q22002 : 0 < (l0.length : Int) := as_; obtain ⟨ad22002, A22002_2, c22002_2, e22002, hx22002_0, hx22002_1, hx22002_2, hl22002_2, hi22002_2⟩ := at_T36 HR0.out 0 p22002 q22002; cases e22002; have qi22002 : (0 < l0.length) = True := eq_true (by omega); (try rw [show ((0 : Int)).toNat = 0 from rfl] at hx22002_0); (try rw [show 0 * 3 = 0 from rfl] at hx22002_0); (try rw [Addr.add_zero'] at hx22002_0); (try rw [show ((0 : Int)).toNat = 0 from rfl] at hx22002_1); (try rw [show 0 * 3 = 0 from rfl] at hx22002_1); (try rw [Addr.add_zero'] at hx22002_1); (try rw [show ((0 : Int)).toNat = 0 from rfl] at hx22002_2); (try rw [show 0 * 3 = 0 from rfl] at hx22002_2); (try rw [Addr.add_zero'] at hx22002_2); replace hx22002_0 := bc_ HB hx22002_0; replace hx22002_1 := bc_ HB hx22002_1; replace hx22002_2 := bc_ HB hx22002_2; have HR22002_2 := Aside0.mk hi22002_2; have HC22002_2 := Aside0.mk hl22002_2; clear hi22002_2 hl22002_2; replace p22002 := eq_true p22002; replace q22002 := eq_true q22002) | ((with_reducible refine gate_callee (f := 13) rfl ?_); refine goesL_ (some 10) rfl rfl Try.func13 (by kernel_rfl) rfl #[.agg #[.int .i64 ((rd_T36 l0 0).f1.f0), .slice A22002_2 ((rd_T36 l0 0).f1.f1).length c22002_2]] rfl la_ ?_; (with_reducible refine (sawmillref14_Diameter.calls k ((rd_T36 l0 0).f1.f0) _ _ ((rd_T36 l0 0).f1.f1) t22003 _ ?side1 ?side2 A5.out).mono ?_); (case side1 => repeat (first | exact (Kd.C_below HR22002_2.out HB.out) | (with_reducible refine Kd.C_alloc ?_ _) | (with_reducible refine Kd.C_drewN ?_ _) | (with_reducible refine Kd.C_drew ?_))); (case side2 => exact HC22002_2.out); rintro e w11 ⟨rfl, hb⟩; refine ⟨_, rfl, ?_⟩; have n0_ := bA_ hb; clear HB; have HB := n0_; clear n0_; (try clear hb); (try clear hb2); (try clear hk); (try clear hi)) | ((with_reducible refine gate_callee (f := 20) rfl ?_); refine goesL_ (some 12) rfl rfl Try.func20 (by kernel_rfl) rfl #[.slice (some ad22002) l0.length c0] rfl la_ ?_; (with_reducible refine (sawmillref14_Top.calls k _ _ l0 t22004 _ ?side1 ?side2 A6.out).mono ?_); (case side1 => repeat (first | exact (Kd.C_below HR0.out HB.out) | (with_reducible refine Kd.C_alloc ?_ _) | (with_reducible refine Kd.C_drewN ?_ _) | (with_reducible refine Kd.C_drew ?_))); (case side2 => exact HC0.out); rintro e w12 ⟨rfl, hb⟩; refine ⟨_, rfl, ?_⟩; have n0_ := bA_ hb; clear HB; have HB := n0_; clear n0_; (try clear hb); (try clear hb2); (try clear hk); (try clear hi)) | ((with_reducible refine gate_callee (f := 43) rfl ?_); refine goesL_ (some 16) rfl rfl Try.func43 (by kernel_rfl) rfl #[.slice (some ad22002) l0.length c0] rfl la_ ?_; (with_reducible refine (sawmillref11_Length.calls k _ _ l0 t22005 _ ?side1 ?side2 A7.out).mono ?_); (case side1 => repeat (first | exact (Kd.C_below HR0.out HB.out) | (with_reducible refine Kd.C_alloc ?_ _) | (with_reducible refine Kd.C_drewN ?_ _) | (with_reducible refine Kd.C_drew ?_))); (case side2 => exact HC0.out); rintro e w13 ⟨rfl, hb⟩; refine ⟨_, rfl, ?_⟩; have n0_ := bA_ hb; clear HB; have HB := n0_; clear n0_; (try clear hb); (try clear hb2); (try clear hk); (try clear hi)) | ((with_reducible refine gate_callee (f := 42) rfl ?_); refine goesL_ (some 17) rfl rfl Try.func42 (by kernel_rfl) rfl #[.int .i64 (wrap64 ((wrap64 (t22003 - t22004)) * 10000)), .int .i64 t22005] rfl la_ ?_; (with_reducible refine (sawmillref14_floor.calls (wrap64 ((wrap64 (t22003 - t22004)) * 10000)) t22005 t22006 _ A8.out).mono ?_); rintro e w' ⟨rfl, ⟨nd, rfl⟩⟩; refine ⟨_, rfl, ?_⟩))
   go_ret;exact ⟨by first | rfl | (simp [errW_none, errW_some] <;> rfl) | (simp only [← hji9]; first | rfl | (simp [errW_none, errW_some] <;> rfl)) | (simp [*, errW_none, errW_some] <;> rfl), be_⟩
  ·rw [if_neg c4] at H;exact absurd H (by simp)
 ·rw [if_neg c3] at H;have c3b0 : (t22001 == 0) = false := beq_eq_false_iff_ne.mpr c3;have c3b1 : (t22001 != 0) = true := bne_iff_ne.mpr c3;obtain rfl := Option.some.inj H;go_enter Try.func22, Try.ntmps22;go_wp2_with (first | ((with_reducible refine gate_callee (f := 41) rfl ?_); refine goesL_ (some 4) rfl rfl Try.func41 (by kernel_rfl) rfl #[.slice A0 l0.length c0] rfl la_ ?_; (with_reducible refine (sawmillref11_Check.calls k _ _ l0 t22001 _ ?side1 ?side2 A2.out).mono ?_); (case side1 => repeat (first | exact HR0.out | (with_reducible refine Kd.C_alloc ?_ _) | (with_reducible refine Kd.C_drewN ?_ _) | (with_reducible refine Kd.C_drew ?_))); (case side2 => exact HC0.out); rintro e w14 ⟨rfl, hb⟩; refine ⟨_, rfl, ?_⟩; have n0_ := bA_ hb; clear HB; have HB := n0_; clear n0_; (try clear hb); (try clear hb2); (try clear hk); (try clear hi)));go_ret;exact ⟨er_, be_⟩

end Go.Proofs.Ytdbjoopkliafeaa.P

end
section
namespace Go.Proofs.Ytdbjoopkliafeaa.P
open Go Go.RowKit Go.Proofs.YtdbjoopkliafeaaW.PrintWords Go.Proofs.YtdbjoopkliafeaaW.PrintLast Go.Proofs.YtdbjoopkliafeaaW.PrintMore
attribute [local go_sem] max2_int min2_int max_two min_two max_three min_three max_four min_four max_five min_eight max_eight   -- for this text's walks alone
set_option linter.unusedVariables false
set_option linter.unusedSimpArgs false

def sawmillref14_bounds.f (k : Nat) (a0_0 : Int) (l0_1 : List (S49)) : Option (Int × Int × Int × Int) := (sawmillref10_Check.f k a0_0 l0_1).bind fun t40003 => (if t40003 = 0 then ((sawmillref10_Bounds.f k a0_0 l0_1).bind fun bt40004 => (some (bt40004.1, bt40004.2.1, bt40004.2.2.1, bt40004.2.2.2))) else (some (0, 0, 0, 0)))
theorem sawmillref14_bounds.mono : ∀ a0 a1 k, LeO (sawmillref14_bounds.f k a0 a1) (sawmillref14_bounds.f (k + 1) a0 a1) := by
 intro a0 a1 k;unfold sawmillref14_bounds.f
 repeat' first
   | (with_reducible exact sawmillref10_Bounds.mono _ _ _)
   | (with_reducible exact sawmillref10_Check.mono _ _ _)
   | (with_reducible exact LeO.refl _)
   | (with_reducible exact LeO.none _)
   | (with_reducible refine LeO.ite ?_ ?_)
   | (with_reducible refine LeO.bind ?_ (fun _ => ?_))
   | exact sawmillref10_Bounds.mono _ _ _
   | exact sawmillref10_Check.mono _ _ _
   | exact LeO.none _
   | refine LeO.ite ?_ ?_
   | refine LeO.bind ?_ (fun _ => ?_)
set_option maxHeartbeats 8000000 in
set_option maxRecDepth 100000 in
theorem sawmillref14_bounds.calls (k : Nat) (a0_0 : Int) (A0_1 : Option Addr) (c0_1 : Nat) (l0_1 : List (S49)) (r1 : Int) (r2 : Int) (r3 : Int) (r4 : Int) (w : World) (hr0_1 : Kd.C k49 w A0_1 l0_1.length l0_1) (hc0_1 : l0_1.length ≤ c0_1) (h : sawmillref14_bounds.f k a0_0 l0_1 = some (r1, r2, r3, r4)) :
  Calls Try.prog 40 #[.agg #[.int .i64 a0_0, .slice A0_1 l0_1.length c0_1]] w fun e w' => e = .returned (.agg #[.int .i64 r1, .int .i64 r2, .int .i64 r3, .int .i64 r4]) ∧ Below w.heap.size w w' := by
 have hu24 := Try.underlying24;have hu54 := Try.underlying54;have HR0_1 := Aside0.mk hr0_1;have HC0_1 := Aside0.mk hc0_1;clear hr0_1 hc0_1;have HB := A_ (Below.refl w.heap.size w);have H : ((sawmillref10_Check.f k a0_0 l0_1).bind fun t40003 => (if t40003 = 0 then ((sawmillref10_Bounds.f k a0_0 l0_1).bind fun bt40004 => (some (bt40004.1, bt40004.2.1, bt40004.2.2.1, bt40004.2.2.2))) else (some (0, 0, 0, 0)))) = some (r1, r2, r3, r4) := h;clear h;replace H := Option.bind_eq_some_iff.mp H;obtain ⟨t40003, A20, H⟩ := H;replace H : (if t40003 = 0 then ((sawmillref10_Bounds.f k a0_0 l0_1).bind fun bt40004 => (some (bt40004.1, bt40004.2.1, bt40004.2.2.1, bt40004.2.2.2))) else (some (0, 0, 0, 0))) = some (r1, r2, r3, r4) := H;have A2 := Aside0.mk A20;clear A20
 by_cases c3 : t40003 = 0
 ·rw [if_pos c3] at H;have c3b0 : (t40003 == 0) = true := beq_iff_eq.mpr c3;have c3b1 : (t40003 != 0) = false := bne_eq_false_iff_eq.mpr c3;clear c3;replace H := Option.bind_eq_some_iff.mp H;obtain ⟨⟨t40004, t40005, t40006, t40007⟩, A40, H⟩ := H;replace H : (some (t40004, t40005, t40006, t40007)) = some (r1, r2, r3, r4) := H;have A4 := Aside0.mk A40;clear A40;simp only [Option.some.injEq, Prod.mk.injEq] at H;obtain ⟨rfl, rfl, rfl, rfl⟩ := H;go_enter Try.func40, Try.ntmps40
  go_wp2_with (first | ((with_reducible refine gate_dst (N := 1) rfl ?_); refine box_event ?hg (N := 1) ?hd (cs := #[.int .i64 a0_0, .slice A0_1 l0_1.length c0_1]) (t := 24) ?hr ?_; (case hd => rfl); (case hg => rfl); (case hr => first | (go_simp; done) | (go_simp; rfl)); intro gb40001 hg w5 hbox hb; have n0_ := bA_ hb; have n1_ := A_ hbox; have n2_ := A_ ((by rw [hg]; exact bz_ : w.heap.size ≤ gb40001)); have n3_ := A_ ((by rw [hg]; exact bz_ : w.heap.size ≤ gb40001)); clear HB; have HB := n0_; have BK40001 := n1_; have GW40001 := n2_; have GE40001 := n3_; clear n0_ n1_ n2_ n3_; clear hb hbox hg) | ((with_reducible refine gate_dst (N := 2) rfl ?_); refine box_event ?hg (N := 2) ?hd (cs := #[.int .i64 0, .int .i64 0, .int .i64 0, .int .i64 0]) (t := 54) ?hr ?_; (case hd => rfl); (case hg => rfl); (case hr => first | (go_simp; done) | (go_simp; rfl)); intro gb40002 hg w6 hbox hb; have n0_ := bb_ BK40001 hb; have n1_ := bA_ hb; have n2_ := A_ hbox; have n3_ := A_ ((by rw [hg]; exact bz_ : w.heap.size ≤ gb40002)); have n4_ := A_ ((by rw [hg]; exact bz_ : w.heap.size ≤ gb40002)); have n5_ := A_ ((by rw [hg]; exact Nat.ne_of_lt (blk_lt (g := gb40001) (o := .cells #[.int .i64 a0_0, .slice A0_1 l0_1.length c0_1] 24 (0, 0)) (fb_ BK40001.out)) : gb40001 ≠ gb40002)); have n6_ := A_ ((by rw [hg]; exact Nat.ne_of_gt (blk_lt (g := gb40001) (o := .cells #[.int .i64 a0_0, .slice A0_1 l0_1.length c0_1] 24 (0, 0)) (fb_ BK40001.out)) : gb40002 ≠ gb40001)); clear BK40001 HB; have BK40001 := n0_; have HB := n1_; have BK40002 := n2_; have GW40002 := n3_; have GE40002 := n4_; have NB40001_40002 := n5_; have NB40002_40001 := n6_; clear n0_ n1_ n2_ n3_ n4_ n5_ n6_ hb hbox hg; have hnb7 := NB40001_40002.out; have hnc7 := NB40002_40001.out; have hcz8_0 := cz0_ BK40001; have hcz8_1 := cz1_ BK40001; have hfz8_0 := blk_frozen BK40001.out 0; have hfz8_1 := blk_frozen BK40001.out 1) | ((with_reducible refine gate_callee (f := 37) rfl ?_); refine goesL_ (some 4) rfl rfl Try.func37 (by kernel_rfl) rfl #[.agg #[.int .i64 a0_0, .slice A0_1 l0_1.length c0_1]] rfl la_ ?_; (with_reducible refine (sawmillref10_Check.calls k a0_0 _ _ l0_1 t40003 _ ?side1 ?side2 A2.out).mono ?_); (case side1 => repeat (first | exact (Kd.C_below HR0_1.out HB.out) | (with_reducible refine Kd.C_alloc ?_ _) | (with_reducible refine Kd.C_drewN ?_ _) | (with_reducible refine Kd.C_drew ?_))); (case side2 => exact HC0_1.out); rintro e w9 ⟨rfl, hb⟩; refine ⟨_, rfl, ?_⟩; have n0_ := bb_ BK40001 hb; have n1_ := bb_ BK40002 hb; have n2_ := bA_ hb; clear BK40001 BK40002 HB; have BK40001 := n0_; have BK40002 := n1_; have HB := n2_; clear n0_ n1_ n2_; (try clear hb); (try clear hb2); (try clear hk); (try clear hi); have hcz10_0 := cz0_ BK40001; have hcz10_1 := cz1_ BK40001; have hfz10_0 := blk_frozen BK40001.out 0; have hfz10_1 := blk_frozen BK40001.out 1) | ((with_reducible refine gate_callee (f := 66) rfl ?_); refine goesL_ (some 8) rfl rfl Try.func66 (by kernel_rfl) rfl #[.agg #[.int .i64 a0_0, .slice A0_1 l0_1.length c0_1]] rfl la_ ?_; (with_reducible refine (sawmillref10_Bounds.calls k a0_0 _ _ l0_1 t40004 t40005 t40006 t40007 _ ?side1 ?side2 A4.out).mono ?_); (case side1 => repeat (first | exact (Kd.C_below HR0_1.out HB.out) | (with_reducible refine Kd.C_alloc ?_ _) | (with_reducible refine Kd.C_drewN ?_ _) | (with_reducible refine Kd.C_drew ?_))); (case side2 => exact HC0_1.out); rintro e w11 ⟨rfl, hb⟩; refine ⟨_, rfl, ?_⟩; have n0_ := bb_ BK40001 hb; have n1_ := bb_ BK40002 hb; have n2_ := bA_ hb; clear BK40001 BK40002 HB; have BK40001 := n0_; have BK40002 := n1_; have HB := n2_; clear n0_ n1_ n2_; (try clear hb); (try clear hb2); (try clear hk); (try clear hi); have hcz12_0 := cz0_ BK40002; have hcz12_1 := cz1_ BK40002; have hcz12_2 := cz2_ BK40002; have hcz12_3 := cz3_ BK40002; have hfz12_0 := blk_frozen BK40002.out 0; have hfz12_1 := blk_frozen BK40002.out 1; have hfz12_2 := blk_frozen BK40002.out 2; have hfz12_3 := blk_frozen BK40002.out 3))
  refine bodyPost_ret (results_cell_row rfl _ _ gb40002 54 #[.int .i64 t40004, .int .i64 t40005, .int .i64 t40006, .int .i64 t40007] (0, 0) _ rfl (by (with_reducible repeat (first | refine blk_drewN ?_ _ | refine blk_drew ?_ | refine blk_alloc ?_ _)); refine blk_put (cs := #[.int .i64 t40004, .int .i64 t40005, .int .i64 t40006, .int .i64 0]) ?_ 3 _ rfl; (with_reducible repeat (first | refine blk_drewN ?_ _ | refine blk_drew ?_ | refine blk_alloc ?_ _)); refine blk_put (cs := #[.int .i64 t40004, .int .i64 t40005, .int .i64 0, .int .i64 0]) ?_ 2 _ rfl; (with_reducible repeat (first | refine blk_drewN ?_ _ | refine blk_drew ?_ | refine blk_alloc ?_ _)); refine blk_put (cs := #[.int .i64 t40004, .int .i64 0, .int .i64 0, .int .i64 0]) ?_ 1 _ rfl; (with_reducible repeat (first | refine blk_drewN ?_ _ | refine blk_drew ?_ | refine blk_alloc ?_ _)); refine blk_put (cs := #[.int .i64 0, .int .i64 0, .int .i64 0, .int .i64 0]) ?_ 0 _ rfl; (with_reducible repeat (first | refine blk_drewN ?_ _ | refine blk_drew ?_ | refine blk_alloc ?_ _)); exact BK40002.out) Try.underlying54 rfl (by kernel_rfl)) rfl ?_;exact ⟨er_, be_⟩
 ·rw [if_neg c3] at H;have c3b0 : (t40003 == 0) = false := beq_eq_false_iff_ne.mpr c3;have c3b1 : (t40003 != 0) = true := bne_iff_ne.mpr c3;simp only [Option.some.injEq, Prod.mk.injEq] at H;obtain ⟨rfl, rfl, rfl, rfl⟩ := H;go_enter Try.func40, Try.ntmps40;go_wp2_with (first | ((with_reducible refine gate_dst (N := 1) rfl ?_); refine box_event ?hg (N := 1) ?hd (cs := #[.int .i64 a0_0, .slice A0_1 l0_1.length c0_1]) (t := 24) ?hr ?_; (case hd => rfl); (case hg => rfl); (case hr => first | (go_simp; done) | (go_simp; rfl)); intro gb40001 hg w13 hbox hb; have n0_ := bA_ hb; have n1_ := A_ hbox; have n2_ := A_ ((by rw [hg]; exact bz_ : w.heap.size ≤ gb40001)); have n3_ := A_ ((by rw [hg]; exact bz_ : w.heap.size ≤ gb40001)); clear HB; have HB := n0_; have BK40001 := n1_; have GW40001 := n2_; have GE40001 := n3_; clear n0_ n1_ n2_ n3_; clear hb hbox hg) | ((with_reducible refine gate_dst (N := 2) rfl ?_); refine box_event ?hg (N := 2) ?hd (cs := #[.int .i64 0, .int .i64 0, .int .i64 0, .int .i64 0]) (t := 54) ?hr ?_; (case hd => rfl); (case hg => rfl); (case hr => first | (go_simp; done) | (go_simp; rfl)); intro gb40002 hg w14 hbox hb; have n0_ := bb_ BK40001 hb; have n1_ := bA_ hb; have n2_ := A_ hbox; have n3_ := A_ ((by rw [hg]; exact bz_ : w.heap.size ≤ gb40002)); have n4_ := A_ ((by rw [hg]; exact bz_ : w.heap.size ≤ gb40002)); have n5_ := A_ ((by rw [hg]; exact Nat.ne_of_lt (blk_lt (g := gb40001) (o := .cells #[.int .i64 a0_0, .slice A0_1 l0_1.length c0_1] 24 (0, 0)) (fb_ BK40001.out)) : gb40001 ≠ gb40002)); have n6_ := A_ ((by rw [hg]; exact Nat.ne_of_gt (blk_lt (g := gb40001) (o := .cells #[.int .i64 a0_0, .slice A0_1 l0_1.length c0_1] 24 (0, 0)) (fb_ BK40001.out)) : gb40002 ≠ gb40001)); clear BK40001 HB; have BK40001 := n0_; have HB := n1_; have BK40002 := n2_; have GW40002 := n3_; have GE40002 := n4_; have NB40001_40002 := n5_; have NB40002_40001 := n6_; clear n0_ n1_ n2_ n3_ n4_ n5_ n6_ hb hbox hg; have hnb15 := NB40001_40002.out; have hnc15 := NB40002_40001.out; have hcz16_0 := cz0_ BK40001; have hcz16_1 := cz1_ BK40001; have hfz16_0 := blk_frozen BK40001.out 0; have hfz16_1 := blk_frozen BK40001.out 1) | ((with_reducible refine gate_callee (f := 37) rfl ?_); refine goesL_ (some 4) rfl rfl Try.func37 (by kernel_rfl) rfl #[.agg #[.int .i64 a0_0, .slice A0_1 l0_1.length c0_1]] rfl la_ ?_; (with_reducible refine (sawmillref10_Check.calls k a0_0 _ _ l0_1 t40003 _ ?side1 ?side2 A2.out).mono ?_); (case side1 => repeat (first | exact (Kd.C_below HR0_1.out HB.out) | (with_reducible refine Kd.C_alloc ?_ _) | (with_reducible refine Kd.C_drewN ?_ _) | (with_reducible refine Kd.C_drew ?_))); (case side2 => exact HC0_1.out); rintro e w17 ⟨rfl, hb⟩; refine ⟨_, rfl, ?_⟩; have n0_ := bb_ BK40001 hb; have n1_ := bb_ BK40002 hb; have n2_ := bA_ hb; clear BK40001 BK40002 HB; have BK40001 := n0_; have BK40002 := n1_; have HB := n2_; clear n0_ n1_ n2_; (try clear hb); (try clear hb2); (try clear hk); (try clear hi); have hcz18_0 := cz0_ BK40002; have hcz18_1 := cz1_ BK40002; have hcz18_2 := cz2_ BK40002; have hcz18_3 := cz3_ BK40002; have hfz18_0 := blk_frozen BK40002.out 0; have hfz18_1 := blk_frozen BK40002.out 1; have hfz18_2 := blk_frozen BK40002.out 2; have hfz18_3 := blk_frozen BK40002.out 3))
  refine bodyPost_ret (results_cell_row rfl _ _ gb40002 54 #[.int .i64 0, .int .i64 0, .int .i64 0, .int .i64 0] (0, 0) _ rfl (by (with_reducible repeat (first | refine blk_drewN ?_ _ | refine blk_drew ?_ | refine blk_alloc ?_ _)); refine blk_put (cs := #[.int .i64 0, .int .i64 0, .int .i64 0, .int .i64 0]) ?_ 3 _ rfl; (with_reducible repeat (first | refine blk_drewN ?_ _ | refine blk_drew ?_ | refine blk_alloc ?_ _)); refine blk_put (cs := #[.int .i64 0, .int .i64 0, .int .i64 0, .int .i64 0]) ?_ 2 _ rfl; (with_reducible repeat (first | refine blk_drewN ?_ _ | refine blk_drew ?_ | refine blk_alloc ?_ _)); refine blk_put (cs := #[.int .i64 0, .int .i64 0, .int .i64 0, .int .i64 0]) ?_ 1 _ rfl; (with_reducible repeat (first | refine blk_drewN ?_ _ | refine blk_drew ?_ | refine blk_alloc ?_ _)); refine blk_put (cs := #[.int .i64 0, .int .i64 0, .int .i64 0, .int .i64 0]) ?_ 0 _ rfl; (with_reducible repeat (first | refine blk_drewN ?_ _ | refine blk_drew ?_ | refine blk_alloc ?_ _)); exact BK40002.out) Try.underlying54 rfl (by kernel_rfl)) rfl ?_;exact ⟨er_, be_⟩

end Go.Proofs.Ytdbjoopkliafeaa.P

end
section
namespace Go.Proofs.Ytdbjoopkliafeaa.P
open Go Go.RowKit Go.Proofs.YtdbjoopkliafeaaW.PrintWords Go.Proofs.YtdbjoopkliafeaaW.PrintLast Go.Proofs.YtdbjoopkliafeaaW.PrintMore
attribute [local go_sem] max2_int min2_int max_two min_two max_three min_three max_four min_four max_five min_eight max_eight   -- for this text's walks alone
set_option linter.unusedVariables false
set_option linter.unusedSimpArgs false

def sawmillref14_Center2.f (k : Nat) (a0_0 : Int) (l0_1 : List (S49)) : Option (Int × Int) := (sawmillref14_bounds.f k a0_0 l0_1).bind fun bt15003 => (some (wrap64 (bt15003.1 + bt15003.2.1), wrap64 (bt15003.2.2.1 + bt15003.2.2.2)))
theorem sawmillref14_Center2.mono : ∀ a0 a1 k, LeO (sawmillref14_Center2.f k a0 a1) (sawmillref14_Center2.f (k + 1) a0 a1) := by
 intro a0 a1 k;unfold sawmillref14_Center2.f
 repeat' first
   | (with_reducible exact sawmillref14_bounds.mono _ _ _)
   | (with_reducible exact LeO.refl _)
   | (with_reducible exact LeO.none _)
   | (with_reducible refine LeO.ite ?_ ?_)
   | (with_reducible refine LeO.bind ?_ (fun _ => ?_))
   | exact sawmillref14_bounds.mono _ _ _
   | exact LeO.none _
   | refine LeO.ite ?_ ?_
   | refine LeO.bind ?_ (fun _ => ?_)
set_option maxHeartbeats 8000000 in
set_option maxRecDepth 100000 in
theorem sawmillref14_Center2.calls (k : Nat) (a0_0 : Int) (A0_1 : Option Addr) (c0_1 : Nat) (l0_1 : List (S49)) (r1 : Int) (r2 : Int) (w : World) (hr0_1 : Kd.C k49 w A0_1 l0_1.length l0_1) (hc0_1 : l0_1.length ≤ c0_1) (h : sawmillref14_Center2.f k a0_0 l0_1 = some (r1, r2)) :
  Calls Try.prog 15 #[.agg #[.int .i64 a0_0, .slice A0_1 l0_1.length c0_1]] w fun e w' => e = .returned (.agg #[.int .i64 r1, .int .i64 r2]) ∧ Below w.heap.size w w' := by
 have hu24 := Try.underlying24;have hu28 := Try.underlying28;have hu54 := Try.underlying54;have HR0_1 := Aside0.mk hr0_1;have HC0_1 := Aside0.mk hc0_1;clear hr0_1 hc0_1;have HB := A_ (Below.refl w.heap.size w);have H : ((sawmillref14_bounds.f k a0_0 l0_1).bind fun bt15003 => (some (wrap64 (bt15003.1 + bt15003.2.1), wrap64 (bt15003.2.2.1 + bt15003.2.2.2)))) = some (r1, r2) := h;clear h;replace H := Option.bind_eq_some_iff.mp H;obtain ⟨⟨t15003, t15004, t15005, t15006⟩, A20, H⟩ := H;replace H : (some (wrap64 (t15003 + t15004), wrap64 (t15005 + t15006))) = some (r1, r2) := H;have A2 := Aside0.mk A20;clear A20;simp only [Option.some.injEq, Prod.mk.injEq] at H;obtain ⟨rfl, rfl⟩ := H;go_enter Try.func15, Try.ntmps15
 go_wp2_with (first | ((with_reducible refine gate_dst (N := 1) rfl ?_); refine box_event ?hg (N := 1) ?hd (cs := #[.int .i64 a0_0, .slice A0_1 l0_1.length c0_1]) (t := 24) ?hr ?_; (case hd => rfl); (case hg => rfl); (case hr => first | (go_simp; done) | (go_simp; rfl)); intro gb15001 hg w3 hbox hb; have n0_ := bA_ hb; have n1_ := A_ hbox; have n2_ := A_ ((by rw [hg]; exact bz_ : w.heap.size ≤ gb15001)); have n3_ := A_ ((by rw [hg]; exact bz_ : w.heap.size ≤ gb15001)); clear HB; have HB := n0_; have BK15001 := n1_; have GW15001 := n2_; have GE15001 := n3_; clear n0_ n1_ n2_ n3_; clear hb hbox hg) | ((with_reducible refine gate_dst (N := 2) rfl ?_); refine box_event ?hg (N := 2) ?hd (cs := #[.int .i64 0, .int .i64 0]) (t := 28) ?hr ?_; (case hd => rfl); (case hg => rfl); (case hr => first | (go_simp; done) | (go_simp; rfl)); intro gb15002 hg w4 hbox hb; have n0_ := bb_ BK15001 hb; have n1_ := bA_ hb; have n2_ := A_ hbox; have n3_ := A_ ((by rw [hg]; exact bz_ : w.heap.size ≤ gb15002)); have n4_ := A_ ((by rw [hg]; exact bz_ : w.heap.size ≤ gb15002)); have n5_ := A_ ((by rw [hg]; exact Nat.ne_of_lt (blk_lt (g := gb15001) (o := .cells #[.int .i64 a0_0, .slice A0_1 l0_1.length c0_1] 24 (0, 0)) (fb_ BK15001.out)) : gb15001 ≠ gb15002)); have n6_ := A_ ((by rw [hg]; exact Nat.ne_of_gt (blk_lt (g := gb15001) (o := .cells #[.int .i64 a0_0, .slice A0_1 l0_1.length c0_1] 24 (0, 0)) (fb_ BK15001.out)) : gb15002 ≠ gb15001)); clear BK15001 HB; have BK15001 := n0_; have HB := n1_; have BK15002 := n2_; have GW15002 := n3_; have GE15002 := n4_; have NB15001_15002 := n5_; have NB15002_15001 := n6_; clear n0_ n1_ n2_ n3_ n4_ n5_ n6_ hb hbox hg; have hnb5 := NB15001_15002.out; have hnc5 := NB15002_15001.out; have hcz6_0 := cz0_ BK15001; have hcz6_1 := cz1_ BK15001; have hfz6_0 := blk_frozen BK15001.out 0; have hfz6_1 := blk_frozen BK15001.out 1) | ((with_reducible refine gate_callee (f := 40) rfl ?_); refine goesL_ (some 5) rfl rfl Try.func40 (by kernel_rfl) rfl #[.agg #[.int .i64 a0_0, .slice A0_1 l0_1.length c0_1]] rfl la_ ?_; (with_reducible refine (sawmillref14_bounds.calls k a0_0 _ _ l0_1 t15003 t15004 t15005 t15006 _ ?side1 ?side2 A2.out).mono ?_); (case side1 => repeat (first | exact (Kd.C_below HR0_1.out HB.out) | (with_reducible refine Kd.C_alloc ?_ _) | (with_reducible refine Kd.C_drewN ?_ _) | (with_reducible refine Kd.C_drew ?_))); (case side2 => exact HC0_1.out); rintro e w7 ⟨rfl, hb⟩; refine ⟨_, rfl, ?_⟩; have n0_ := bb_ BK15001 hb; have n1_ := bb_ BK15002 hb; have n2_ := bA_ hb; clear BK15001 BK15002 HB; have BK15001 := n0_; have BK15002 := n1_; have HB := n2_; clear n0_ n1_ n2_; (try clear hb); (try clear hb2); (try clear hk); (try clear hi)) | ((with_reducible refine gate_dst (N := 3) rfl ?_); refine box_event ?hg (N := 3) ?hd (cs := #[.int .i64 0, .int .i64 0, .int .i64 0, .int .i64 0]) (t := 54) ?hr ?_; (case hd => rfl); (case hg => rfl); (case hr => first | (go_simp; done) | (go_simp; rfl)); intro gb15007 hg w8 hbox hb; have n0_ := bb_ BK15001 hb; have n1_ := bb_ BK15002 hb; have n2_ := bA_ hb; have n3_ := A_ hbox; have n4_ := A_ ((by rw [hg]; exact bz_ : w.heap.size ≤ gb15007)); have n5_ := A_ ((by rw [hg]; exact bz_ : w.heap.size ≤ gb15007)); have n6_ := A_ ((by rw [hg]; exact Nat.ne_of_lt (blk_lt (g := gb15001) (o := .cells #[.int .i64 a0_0, .slice A0_1 l0_1.length c0_1] 24 (0, 0)) (fb_ BK15001.out)) : gb15001 ≠ gb15007)); have n7_ := A_ ((by rw [hg]; exact Nat.ne_of_gt (blk_lt (g := gb15001) (o := .cells #[.int .i64 a0_0, .slice A0_1 l0_1.length c0_1] 24 (0, 0)) (fb_ BK15001.out)) : gb15007 ≠ gb15001)); have n8_ := A_ ((by rw [hg]; exact Nat.ne_of_lt (blk_lt (g := gb15002) (o := .cells #[.int .i64 0, .int .i64 0] 28 (0, 0)) (fb_ BK15002.out)) : gb15002 ≠ gb15007)); have n9_ := A_ ((by rw [hg]; exact Nat.ne_of_gt (blk_lt (g := gb15002) (o := .cells #[.int .i64 0, .int .i64 0] 28 (0, 0)) (fb_ BK15002.out)) : gb15007 ≠ gb15002)); clear BK15001 BK15002 HB; have BK15001 := n0_; have BK15002 := n1_; have HB := n2_; have BK15007 := n3_; have GW15007 := n4_; have GE15007 := n5_; have NB15001_15007 := n6_; have NB15007_15001 := n7_; have NB15002_15007 := n8_; have NB15007_15002 := n9_; clear n0_ n1_ n2_ n3_ n4_ n5_ n6_ n7_ n8_ n9_ hb hbox hg; have hnb9 := NB15007_15001.out; have hnc9 := NB15001_15007.out; have hnb10 := NB15007_15002.out; have hnc10 := NB15002_15007.out; have hcz11_0 := cz0_ BK15007; have hcz11_1 := cz1_ BK15007; have hcz11_2 := cz2_ BK15007; have hcz11_3 := cz3_ BK15007; have hfz11_0 := blk_frozen BK15007.out 0; have hfz11_1 := blk_frozen BK15007.out 1; have hfz11_2 := blk_frozen BK15007.out 2; have hfz11_3 := blk_frozen BK15007.out 3; have hcz12_0 := cz0_ BK15002; have hcz12_1 := cz1_ BK15002; have hfz12_0 := blk_frozen BK15002.out 0; have hfz12_1 := blk_frozen BK15002.out 1))
 refine bodyPost_ret (results_cell_row rfl _ _ gb15002 28 #[.int .i64 (wrap64 (t15003 + t15004)), .int .i64 (wrap64 (t15005 + t15006))] (0, 0) _ rfl (by (with_reducible repeat (first | refine blk_drewN ?_ _ | refine blk_drew ?_ | refine blk_alloc ?_ _)); refine blk_put (cs := #[.int .i64 (wrap64 (t15003 + t15004)), .int .i64 0]) ?_ 1 _ rfl; (with_reducible repeat (first | refine blk_drewN ?_ _ | refine blk_drew ?_ | refine blk_alloc ?_ _)); refine blk_put (cs := #[.int .i64 0, .int .i64 0]) ?_ 0 _ rfl; (with_reducible repeat (first | refine blk_drewN ?_ _ | refine blk_drew ?_ | refine blk_alloc ?_ _)); refine blk_far ?_ NB15002_15007.out _; (with_reducible repeat (first | refine blk_drewN ?_ _ | refine blk_drew ?_ | refine blk_alloc ?_ _)); refine blk_far ?_ NB15002_15007.out _; (with_reducible repeat (first | refine blk_drewN ?_ _ | refine blk_drew ?_ | refine blk_alloc ?_ _)); refine blk_far ?_ NB15002_15007.out _; (with_reducible repeat (first | refine blk_drewN ?_ _ | refine blk_drew ?_ | refine blk_alloc ?_ _)); refine blk_far ?_ NB15002_15007.out _; (with_reducible repeat (first | refine blk_drewN ?_ _ | refine blk_drew ?_ | refine blk_alloc ?_ _)); exact BK15002.out) Try.underlying28 rfl (by kernel_rfl)) rfl ?_;exact ⟨er_, be_⟩

end Go.Proofs.Ytdbjoopkliafeaa.P

end
section
namespace Go.Proofs.Ytdbjoopkliafeaa.P
open Go Go.RowKit Go.Proofs.YtdbjoopkliafeaaW.PrintWords Go.Proofs.YtdbjoopkliafeaaW.PrintLast Go.Proofs.YtdbjoopkliafeaaW.PrintMore
attribute [local go_sem] max2_int min2_int max_two min_two max_three min_three max_four min_four max_five min_eight max_eight   -- for this text's walks alone
set_option linter.unusedVariables false
set_option linter.unusedSimpArgs false

def sawmillref14_Oval.f (k : Nat) (a0_0 : Int) (l0_1 : List (S49)) : Option (Int) := (sawmillref14_bounds.f k a0_0 l0_1).bind fun bt17002 => (some (wrap64 ((wrap64 (bt17002.2.1 - bt17002.1)) - (wrap64 (bt17002.2.2.2 - bt17002.2.2.1)))))
theorem sawmillref14_Oval.mono : ∀ a0 a1 k, LeO (sawmillref14_Oval.f k a0 a1) (sawmillref14_Oval.f (k + 1) a0 a1) := by
 intro a0 a1 k;unfold sawmillref14_Oval.f
 repeat' first
   | (with_reducible exact sawmillref14_bounds.mono _ _ _)
   | (with_reducible exact LeO.refl _)
   | (with_reducible exact LeO.none _)
   | (with_reducible refine LeO.ite ?_ ?_)
   | (with_reducible refine LeO.bind ?_ (fun _ => ?_))
   | exact sawmillref14_bounds.mono _ _ _
   | exact LeO.none _
   | refine LeO.ite ?_ ?_
   | refine LeO.bind ?_ (fun _ => ?_)
set_option maxHeartbeats 8000000 in
set_option maxRecDepth 100000 in
theorem sawmillref14_Oval.calls (k : Nat) (a0_0 : Int) (A0_1 : Option Addr) (c0_1 : Nat) (l0_1 : List (S49)) (r : Int) (w : World) (hr0_1 : Kd.C k49 w A0_1 l0_1.length l0_1) (hc0_1 : l0_1.length ≤ c0_1) (h : sawmillref14_Oval.f k a0_0 l0_1 = some r) :
  Calls Try.prog 17 #[.agg #[.int .i64 a0_0, .slice A0_1 l0_1.length c0_1]] w fun e w' => e = .returned (.int .i64 r) ∧ Below w.heap.size w w' := by
 have hu24 := Try.underlying24;have hu54 := Try.underlying54;have HR0_1 := Aside0.mk hr0_1;have HC0_1 := Aside0.mk hc0_1;clear hr0_1 hc0_1;have HB := A_ (Below.refl w.heap.size w);have H : ((sawmillref14_bounds.f k a0_0 l0_1).bind fun bt17002 => (some (wrap64 ((wrap64 (bt17002.2.1 - bt17002.1)) - (wrap64 (bt17002.2.2.2 - bt17002.2.2.1)))))) = some r := h;clear h;replace H := Option.bind_eq_some_iff.mp H;obtain ⟨⟨t17002, t17003, t17004, t17005⟩, A20, H⟩ := H;replace H : (some (wrap64 ((wrap64 (t17003 - t17002)) - (wrap64 (t17005 - t17004))))) = some r := H;have A2 := Aside0.mk A20;clear A20;obtain rfl := Option.some.inj H;go_enter Try.func17, Try.ntmps17;go_wp2_with (first | ((with_reducible refine gate_dst (N := 1) rfl ?_); refine box_event ?hg (N := 1) ?hd (cs := #[.int .i64 a0_0, .slice A0_1 l0_1.length c0_1]) (t := 24) ?hr ?_; (case hd => rfl); (case hg => rfl); (case hr => first | (go_simp; done) | (go_simp; rfl)); intro gb17001 hg w3 hbox hb; have n0_ := bA_ hb; have n1_ := A_ hbox; have n2_ := A_ ((by rw [hg]; exact bz_ : w.heap.size ≤ gb17001)); have n3_ := A_ ((by rw [hg]; exact bz_ : w.heap.size ≤ gb17001)); clear HB; have HB := n0_; have BK17001 := n1_; have GW17001 := n2_; have GE17001 := n3_; clear n0_ n1_ n2_ n3_ hb hbox hg; have hcz4_0 := cz0_ BK17001; have hcz4_1 := cz1_ BK17001; have hfz4_0 := blk_frozen BK17001.out 0; have hfz4_1 := blk_frozen BK17001.out 1) | ((with_reducible refine gate_callee (f := 40) rfl ?_); refine goesL_ (some 5) rfl rfl Try.func40 (by kernel_rfl) rfl #[.agg #[.int .i64 a0_0, .slice A0_1 l0_1.length c0_1]] rfl la_ ?_; (with_reducible refine (sawmillref14_bounds.calls k a0_0 _ _ l0_1 t17002 t17003 t17004 t17005 _ ?side1 ?side2 A2.out).mono ?_); (case side1 => repeat (first | exact (Kd.C_below HR0_1.out HB.out) | (with_reducible refine Kd.C_alloc ?_ _) | (with_reducible refine Kd.C_drewN ?_ _) | (with_reducible refine Kd.C_drew ?_))); (case side2 => exact HC0_1.out); rintro e w5 ⟨rfl, hb⟩; refine ⟨_, rfl, ?_⟩; have n0_ := bb_ BK17001 hb; have n1_ := bA_ hb; clear BK17001 HB; have BK17001 := n0_; have HB := n1_; clear n0_ n1_; (try clear hb); (try clear hb2); (try clear hk); (try clear hi)) | ((with_reducible refine gate_dst (N := 3) rfl ?_); refine box_event ?hg (N := 3) ?hd (cs := #[.int .i64 0, .int .i64 0, .int .i64 0, .int .i64 0]) (t := 54) ?hr ?_; (case hd => rfl); (case hg => rfl); (case hr => first | (go_simp; done) | (go_simp; rfl)); intro gb17006 hg w6 hbox hb; have n0_ := bb_ BK17001 hb; have n1_ := bA_ hb; have n2_ := A_ hbox; have n3_ := A_ ((by rw [hg]; exact bz_ : w.heap.size ≤ gb17006)); have n4_ := A_ ((by rw [hg]; exact bz_ : w.heap.size ≤ gb17006)); have n5_ := A_ ((by rw [hg]; exact Nat.ne_of_lt (blk_lt (g := gb17001) (o := .cells #[.int .i64 a0_0, .slice A0_1 l0_1.length c0_1] 24 (0, 0)) (fb_ BK17001.out)) : gb17001 ≠ gb17006)); have n6_ := A_ ((by rw [hg]; exact Nat.ne_of_gt (blk_lt (g := gb17001) (o := .cells #[.int .i64 a0_0, .slice A0_1 l0_1.length c0_1] 24 (0, 0)) (fb_ BK17001.out)) : gb17006 ≠ gb17001)); clear BK17001 HB; have BK17001 := n0_; have HB := n1_; have BK17006 := n2_; have GW17006 := n3_; have GE17006 := n4_; have NB17001_17006 := n5_; have NB17006_17001 := n6_; clear n0_ n1_ n2_ n3_ n4_ n5_ n6_ hb hbox hg; have hnb7 := NB17006_17001.out; have hnc7 := NB17001_17006.out; have hcz8_0 := cz0_ BK17006; have hcz8_1 := cz1_ BK17006; have hcz8_2 := cz2_ BK17006; have hcz8_3 := cz3_ BK17006; have hfz8_0 := blk_frozen BK17006.out 0; have hfz8_1 := blk_frozen BK17006.out 1; have hfz8_2 := blk_frozen BK17006.out 2; have hfz8_3 := blk_frozen BK17006.out 3));go_ret;exact ⟨er_, be_⟩

end Go.Proofs.Ytdbjoopkliafeaa.P

end
section
namespace Go.Proofs.Ytdbjoopkliafeaa.P
open Go Go.RowKit Go.Proofs.YtdbjoopkliafeaaW.PrintWords Go.Proofs.YtdbjoopkliafeaaW.PrintLast Go.Proofs.YtdbjoopkliafeaaW.PrintMore
attribute [local go_sem] max2_int min2_int max_two min_two max_three min_three max_four min_four max_five min_eight max_eight   -- for this text's walks alone
set_option linter.unusedVariables false
set_option linter.unusedSimpArgs false

def sawmillref14_Middles.l0 : Nat → List (S36) → List Int → Int → Int → Option (List Int)
 | 0, _, _, _, _ => none
 | k + 1, x0, x3, x4, x5 => if x5 < (x0.length : Int) then (if 0 ≤ x5 then (if x3.length < 17592186044416 then (sawmillref14_Middles.l0 k x0 (x3 ++ [wrap64 ((wrap64 (2 * x4)) + ((rd_T36 x0 x5).f0))]) (wrap64 (x4 + ((rd_T36 x0 x5).f0))) (wrap64 (x5 + 1))) else (none)) else (none)) else (some x3)
def sawmillref14_Middles.f (k : Nat) (l0 : List (S36)) : Option (List Int) := sawmillref14_Middles.l0 k l0 ([] : List Int) 0 0
theorem sawmillref14_Middles.mono_l : ∀ k, (∀ y0 y1 y2 y3, LeO (sawmillref14_Middles.l0 k y0 y1 y2 y3) (sawmillref14_Middles.l0 (k + 1) y0 y1 y2 y3))
 | 0 => fun _ _ _ _ r h => by simp [sawmillref14_Middles.l0] at h
 | k + 1 => by
  have ih0 := sawmillref14_Middles.mono_l k
  ·intro y0 y1 y2 y3;unfold sawmillref14_Middles.l0
   repeat' first
   | (with_reducible exact ih0 _ _ _ _)
   | (with_reducible exact LeO.refl _)
   | (with_reducible exact LeO.none _)
   | (with_reducible refine LeO.ite ?_ ?_)
   | (with_reducible refine LeO.bind ?_ (fun _ => ?_))
   | exact ih0 _ _ _ _
   | exact LeO.none _
   | refine LeO.ite ?_ ?_
   | refine LeO.bind ?_ (fun _ => ?_)
theorem sawmillref14_Middles.mono : ∀ a0 k, LeO (sawmillref14_Middles.f k a0) (sawmillref14_Middles.f (k + 1) a0) := by
 intro a0 k;have ih0 := sawmillref14_Middles.mono_l k;unfold sawmillref14_Middles.f
 repeat' first
   | (with_reducible exact ih0 _ _ _ _)
   | (with_reducible exact LeO.refl _)
   | (with_reducible exact LeO.none _)
   | (with_reducible refine LeO.ite ?_ ?_)
   | (with_reducible refine LeO.bind ?_ (fun _ => ?_))
   | exact ih0 _ _ _ _
   | exact LeO.none _
   | refine LeO.ite ?_ ?_
   | refine LeO.bind ?_ (fun _ => ?_)
set_option maxHeartbeats 8000000 in
set_option maxRecDepth 100000 in
theorem sawmillref14_Middles.calls (k : Nat) (A0 : Option Addr) (c0 : Nat) (l0 : List (S36)) (r : List Int) (w : World) (hr0 : Kd.C k36 w A0 l0.length l0) (hc0 : l0.length ≤ c0) (h : sawmillref14_Middles.f k l0 = some r) :
  Calls Try.prog 45 #[.slice A0 l0.length c0] w fun e w' => ∃ v0_ : Value, e = .returned (v0_) ∧ Kd.R (Kd.int .i64) 3 w' w.heap.size (fun _ => True) v0_ r ∧ Below w.heap.size w w' := by
 have HR0 := Aside0.mk hr0;have HC0 := Aside0.mk hc0;clear hr0 hc0;have HB := A_ (Below.refl w.heap.size w);have H : (sawmillref14_Middles.l0 k l0 ([] : List Int) 0 0) = some r := h;clear h;have H' := Aside0.mk H;clear H;go_enter Try.func45, Try.ntmps45;go_wp2
 go_loopg [3, 4, 5] k (fun kq v3 v4 v5 w' => ∃ (x3_1 : List Int) (x4_1 : Int) (x5_1 : Int), v4 = .int .i64 x4_1 ∧ v5 = .int .i64 x5_1 ∧ Aside0 (sawmillref14_Middles.l0 kq l0 x3_1 x4_1 x5_1 = some r) ∧ Aside0 (kq ≤ k) ∧ Aside0 (Kd.R (Kd.int .i64) 3 w' w.heap.size (fun _ => True) v3 x3_1) ∧ Aside0 (Below w.heap.size w w'))
 case atStart => exact ⟨(([] : List Int)), (0), (0), (by first | rfl | (simp; done) | (simp [*]; done)), (by first | rfl | (simp; done) | (simp [*]; done)), H', ⟨Nat.le_refl _⟩, ⟨by first | exact Kd.R_nil _ _ _ _ _ | exact Kd.N_nil _ _ _ _ _ | exact Kd.V_nil _ _ _ _ _ | exact Kd.Q_nil _ _ _ _ _ | exact Kd.S_nil _ _ _ _ _⟩, ⟨be_⟩⟩
 case round =>
  clear H';obtain ⟨x3_1, x4_1, x5_1, rfl, rfl, HA, HK1, HO_3, HB⟩ := hrel;cases gk with
  | zero => exact absurd HA.out (by simp [sawmillref14_Middles.l0])
  | succ k1 =>
   have H := HA.out;clear HA;simp only [sawmillref14_Middles.l0] at H
   by_cases c2 : x5_1 < (l0.length : Int)
   ·rw [if_pos c2] at H;have c2b0 : decide (x5_1 < (l0.length : Int)) = true := decide_eq_true c2;clear c2
    by_cases c3 : 0 ≤ x5_1
    ·rw [if_pos c3] at H;have c3b0 : decide (0 ≤ x5_1) = true := decide_eq_true c3;clear c3
     by_cases c4 : x3_1.length < 17592186044416
     ·rw [if_pos c4] at H;have LMc4 := Aside0.mk c4;clear c4;obtain ⟨y45002, hy45002⟩ : ∃ y_ : List Int, y_ = (x3_1 ++ [wrap64 ((wrap64 (2 * x4_1)) + ((rd_T36 l0 x5_1).f0))]) := ⟨_, rfl⟩;(replace H : (sawmillref14_Middles.l0 k1 l0 y45002 (wrap64 (x4_1 + ((rd_T36 l0 x5_1).f0))) (wrap64 (x5_1 + 1))) = some r := by first | (rw [hy45002]; with_reducible exact H) | (have H2_ := (Option.bind_some _ _).symm.trans H; rw [hy45002]; with_reducible exact H2_) | (have H2_ := (Option.bind_some _ _).symm.trans H; with_reducible exact H2_) | with_reducible exact H | (rw [hy45002]; exact H) | exact H);have Ny45002 := Aside0.mk hy45002;clear hy45002;have H' := Aside0.mk H;clear H;have p45001 : 0 ≤ (x5_1 : Int) := as_;have q45001 : x5_1 < (l0.length : Int) := as_;obtain ⟨ad45001, A45001_2, c45001_2, e45001, hx45001_0, hx45001_1, hx45001_2, hl45001_2, hi45001_2⟩ := at_T36 HR0.out x5_1 p45001 q45001;cases e45001;replace hx45001_0 := bc_ HB hx45001_0;replace hx45001_1 := bc_ HB hx45001_1;replace hx45001_2 := bc_ HB hx45001_2;have HR45001_2 := Aside0.mk hi45001_2;have HC45001_2 := Aside0.mk hl45001_2;clear hi45001_2 hl45001_2;replace p45001 := eq_true p45001;replace q45001 := eq_true q45001;go_wp2_with (first | ((with_reducible refine gate_builtin (b := .append) (xs := #[.tmp 12, .tmp 21]) rfl ?_); at_builtin; refine Kd.R_append (Kd.int .i64) (w0 := w) w.heap.size rfl (.tmp 12) (.tmp 21) 34 3 (.int .i64 0) 8 rfl Try.underlying34 info3 rfl (by decide) (by omega) u3 x3_1 (wrap64 ((wrap64 (2 * x4_1)) + ((rd_T36 l0 x5_1).f0))) [.int .i64 (wrap64 ((wrap64 (2 * x4_1)) + ((rd_T36 l0 x5_1).f0)))] (fun _ => True) (fun _ => False) rfl rfl ?aP (fun _ hk => hk.elim) ?aF ?aO ?aB ?aS ?aL ?_; (case aP => exact rfl); (case aB => exact be_); (case aF => exact (fun _ _ => trivial)); (case aO => exact (fR_ HO_3.out)); (case aS => exact bz_); (case aL => have := LMc4.out; omega); intro v45003 w5 ho hb hg hat; rw [← Ny45002.out] at ho; have n0_ := A_ (hb); have n1_ := A_ (ho); clear HB HO_3; have HB := n0_; have HO45004 := n1_; clear n0_ n1_ ho hb hg hat; have p45005 : 0 ≤ (x5_1 : Int) := as_; have q45005 : x5_1 < (l0.length : Int) := as_; obtain ⟨ad45005, A45005_2, c45005_2, e45005, hx45005_0, hx45005_1, hx45005_2, hl45005_2, hi45005_2⟩ := at_T36 HR0.out x5_1 p45005 q45005; obtain rfl : ad45001 = ad45005 := (by injection e45005); replace hx45005_0 := bc_ HB hx45005_0; replace hx45005_1 := bc_ HB hx45005_1; replace hx45005_2 := bc_ HB hx45005_2; have HR45005_2 := Aside0.mk hi45005_2; have HC45005_2 := Aside0.mk hl45005_2; clear hi45005_2 hl45005_2; replace p45005 := eq_true p45005; replace q45005 := eq_true q45005))
      go_roundg k1
      case measure => have := HK1.out; omega
      case rel => exact ⟨(y45002), (wrap64 (x4_1 + ((rd_T36 l0 x5_1).f0))), (wrap64 (x5_1 + 1)), (by first | rfl | (simp; done) | (simp [*]; done)), (by first | rfl | (simp; done) | (simp [*]; done)), H', ⟨by have := HK1.out; omega⟩, ⟨fR_ HO45004.out⟩, ⟨be_⟩⟩
     ·rw [if_neg c4] at H;exact absurd H (by simp)
    ·rw [if_neg c3] at H;exact absurd H (by simp)
   ·rw [if_neg c2] at H;have c2b0 : decide (x5_1 < (l0.length : Int)) = false := decide_eq_false c2;clear c2;obtain rfl := Option.some.inj H;go_wp2;go_ret;exact ⟨_, er_, fR_ HO_3.out, be_⟩

end Go.Proofs.Ytdbjoopkliafeaa.P

end
