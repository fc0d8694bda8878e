/- Functions of the program: what each computes, and that the call computes it; conditions: the fuel that the plain function asks for. -/
import Derived.Test.YtboegckbilnldaaCSolidChecksV4
import Derived.ChangeSlices
import Derived.ChangeSame
section
namespace Go.Proofs.Ytboegckbilnldaa.P
open Go Go.RowKit Go.Proofs.YtboegckbilnldaaW.PrintWords Go.Proofs.YtboegckbilnldaaW.PrintLast Go.Proofs.YtboegckbilnldaaW.PrintMore
attribute [local go_sem] max2_int min2_int max_two min_two max_three min_three max_four min_four max_five min_eight max_eight   -- for this text's walks alone
set_option linter.unusedVariables false
set_option linter.unusedSimpArgs false

attribute [local go_sem high] eqA29
mutual
def sawmillref10_Check.j0 : Nat → Int → Bool → Int → List (S29) → Option (Int)
 | 0, _, _, _, _ => none
 | k + 1, x3, x20, x39002000, x39002001 => if x20 = true then (some 9) else (sawmillref10_Check.l0 k x3 0 x39002000 x39002001)
def sawmillref10_Check.l0 : Nat → Int → Int → Int → List (S29) → Option (Int)
 | 0, _, _, _, _ => none
 | k + 1, x3, x4, x39002000, x39002001 => if x4 < x3 then (if 0 ≤ x4 then (if x4 < (x39002001.length : Int) then ((sawmillref10_beyond.f ((rd_T29 x39002001 x4).f0)).bind fun t39003 => (if t39003 = true then (some 9) else ((sawmillref10_beyond.f ((rd_T29 x39002001 x4).f1)).bind fun t39005 => (if t39005 = true then (some 9) else (sawmillref10_Check.l0 k x3 (wrap64 (x4 + 1)) x39002000 x39002001))))) else (none)) else (none)) else (if x3 = 0 then (if x39002000 = 0 then (some 0) else (some 19)) else (if 0 < (x39002001.length : Int) then ((sawmillref10_empty.f ((rd_T29 x39002001 0).f0) ((rd_T29 x39002001 0).f1)).bind fun t39007 => (if t39007 = true then (sawmillref10_Check.j2 k x3 true x39002000 x39002001) else (if 0 ≤ (wrap64 (x3 - 1)) then (if (wrap64 (x3 - 1)) < (x39002001.length : Int) then ((sawmillref10_empty.f ((rd_T29 x39002001 (wrap64 (x3 - 1))).f0) ((rd_T29 x39002001 (wrap64 (x3 - 1))).f1)).bind fun t39009 => (sawmillref10_Check.j2 k x3 t39009 x39002000 x39002001)) else (none)) else (none)))) else (none)))
def sawmillref10_Check.j2 : Nat → Int → Bool → Int → List (S29) → Option (Int)
 | 0, _, _, _, _ => none
 | k + 1, x3, x60, x39002000, x39002001 => if x60 = true then (some 19) else (sawmillref10_Check.l1 k x3 0 x39002000 x39002001)
def sawmillref10_Check.l1 : Nat → Int → Int → Int → List (S29) → Option (Int)
 | 0, _, _, _, _ => none
 | k + 1, x3, x5, x39002000, x39002001 => if x5 < x3 then (if 0 ≤ x5 then (if x5 < (x39002001.length : Int) then ((sawmillref10_empty.f ((rd_T29 x39002001 x5).f0) ((rd_T29 x39002001 x5).f1)).bind fun t39011 => (if t39011 = true then (if (!(((rd_T29 x39002001 x5).f0) == 0) || (!(((rd_T29 x39002001 x5).f1) == 0))) = true then (some 19) else (sawmillref10_Check.l1 k x3 (wrap64 (x5 + 1)) x39002000 x39002001)) else (sawmillref10_Check.l1 k x3 (wrap64 (x5 + 1)) x39002000 x39002001))) else (none)) else (none)) else (some 0)
end
def sawmillref10_Check.f (k : Nat) (a0_0 : Int) (l0_1 : List (S29)) : Option (Int) := if (l0_1.length : Int) > 120 then (some 4) else (if a0_0 < (-60) then (sawmillref10_Check.j0 k (l0_1.length : Int) true a0_0 l0_1) else (sawmillref10_Check.j0 k (l0_1.length : Int) (decide (a0_0 > (wrap64 (60 - (l0_1.length : Int))))) a0_0 l0_1))
theorem sawmillref10_Check.mono_l : ∀ k, (∀ y0 y1 y2 y3, LeO (sawmillref10_Check.j0 k y0 y1 y2 y3) (sawmillref10_Check.j0 (k + 1) y0 y1 y2 y3)) ∧ (∀ y0 y1 y2 y3, LeO (sawmillref10_Check.l0 k y0 y1 y2 y3) (sawmillref10_Check.l0 (k + 1) y0 y1 y2 y3)) ∧ (∀ y0 y1 y2 y3, LeO (sawmillref10_Check.j2 k y0 y1 y2 y3) (sawmillref10_Check.j2 (k + 1) y0 y1 y2 y3)) ∧ (∀ y0 y1 y2 y3, LeO (sawmillref10_Check.l1 k y0 y1 y2 y3) (sawmillref10_Check.l1 (k + 1) y0 y1 y2 y3))
 | 0 => ⟨fun _ _ _ _ r h => by simp [sawmillref10_Check.j0] at h, fun _ _ _ _ r h => by simp [sawmillref10_Check.l0] at h, fun _ _ _ _ r h => by simp [sawmillref10_Check.j2] at h, fun _ _ _ _ r h => by simp [sawmillref10_Check.l1] at h⟩
 | k + 1 => by
  obtain ⟨ih0, ih1, ih2, ih3⟩ := sawmillref10_Check.mono_l k;refine ⟨?_, ?_, ?_, ?_⟩
  ·intro y0 y1 y2 y3;unfold sawmillref10_Check.j0
   repeat' first
   | (with_reducible exact ih0 _ _ _ _)
   | (with_reducible exact ih1 _ _ _ _)
   | (with_reducible exact ih2 _ _ _ _)
   | (with_reducible exact ih3 _ _ _ _)
   | (with_reducible exact LeO.refl _)
   | (with_reducible exact LeO.none _)
   | (with_reducible refine LeO.ite ?_ ?_)
   | (with_reducible refine LeO.bind ?_ (fun _ => ?_))
   | exact ih0 _ _ _ _
   | exact ih1 _ _ _ _
   | exact ih2 _ _ _ _
   | exact ih3 _ _ _ _
   | exact LeO.none _
   | refine LeO.ite ?_ ?_
   | refine LeO.bind ?_ (fun _ => ?_)
  ·intro y0 y1 y2 y3;unfold sawmillref10_Check.l0
   repeat' first
   | (with_reducible exact ih0 _ _ _ _)
   | (with_reducible exact ih1 _ _ _ _)
   | (with_reducible exact ih2 _ _ _ _)
   | (with_reducible exact ih3 _ _ _ _)
   | (with_reducible exact LeO.refl _)
   | (with_reducible exact LeO.none _)
   | (with_reducible refine LeO.ite ?_ ?_)
   | (with_reducible refine LeO.bind ?_ (fun _ => ?_))
   | exact ih0 _ _ _ _
   | exact ih1 _ _ _ _
   | exact ih2 _ _ _ _
   | exact ih3 _ _ _ _
   | exact LeO.none _
   | refine LeO.ite ?_ ?_
   | refine LeO.bind ?_ (fun _ => ?_)
  ·intro y0 y1 y2 y3;unfold sawmillref10_Check.j2
   repeat' first
   | (with_reducible exact ih0 _ _ _ _)
   | (with_reducible exact ih1 _ _ _ _)
   | (with_reducible exact ih2 _ _ _ _)
   | (with_reducible exact ih3 _ _ _ _)
   | (with_reducible exact LeO.refl _)
   | (with_reducible exact LeO.none _)
   | (with_reducible refine LeO.ite ?_ ?_)
   | (with_reducible refine LeO.bind ?_ (fun _ => ?_))
   | exact ih0 _ _ _ _
   | exact ih1 _ _ _ _
   | exact ih2 _ _ _ _
   | exact ih3 _ _ _ _
   | exact LeO.none _
   | refine LeO.ite ?_ ?_
   | refine LeO.bind ?_ (fun _ => ?_)
  ·intro y0 y1 y2 y3;unfold sawmillref10_Check.l1
   repeat' first
   | (with_reducible exact ih0 _ _ _ _)
   | (with_reducible exact ih1 _ _ _ _)
   | (with_reducible exact ih2 _ _ _ _)
   | (with_reducible exact ih3 _ _ _ _)
   | (with_reducible exact LeO.refl _)
   | (with_reducible exact LeO.none _)
   | (with_reducible refine LeO.ite ?_ ?_)
   | (with_reducible refine LeO.bind ?_ (fun _ => ?_))
   | exact ih0 _ _ _ _
   | exact ih1 _ _ _ _
   | exact ih2 _ _ _ _
   | exact ih3 _ _ _ _
   | exact LeO.none _
   | refine LeO.ite ?_ ?_
   | refine LeO.bind ?_ (fun _ => ?_)
theorem sawmillref10_Check.mono : ∀ a0 a1 k, LeO (sawmillref10_Check.f k a0 a1) (sawmillref10_Check.f (k + 1) a0 a1) := by
 intro a0 a1 k;obtain ⟨ih0, ih1, ih2, ih3⟩ := sawmillref10_Check.mono_l k;unfold sawmillref10_Check.f
 repeat' first
   | (with_reducible exact ih0 _ _ _ _)
   | (with_reducible exact ih1 _ _ _ _)
   | (with_reducible exact ih2 _ _ _ _)
   | (with_reducible exact ih3 _ _ _ _)
   | (with_reducible exact LeO.refl _)
   | (with_reducible exact LeO.none _)
   | (with_reducible refine LeO.ite ?_ ?_)
   | (with_reducible refine LeO.bind ?_ (fun _ => ?_))
   | exact ih0 _ _ _ _
   | exact ih1 _ _ _ _
   | exact ih2 _ _ _ _
   | exact ih3 _ _ _ _
   | exact LeO.none _
   | refine LeO.ite ?_ ?_
   | refine LeO.bind ?_ (fun _ => ?_)
set_option maxHeartbeats 8000000 in
set_option maxRecDepth 100000 in
theorem sawmillref10_Check.calls (k : Nat) (a0_0 : Int) (A0_1 : Option Addr) (c0_1 : Nat) (l0_1 : List (S29)) (r : Int) (w : World) (hr0_1 : Kd.C k29 w A0_1 l0_1.length l0_1) (hc0_1 : l0_1.length ≤ c0_1) (h : sawmillref10_Check.f k a0_0 l0_1 = some r) :
  Calls Try.prog 39 #[.agg #[.int .i64 a0_0, .slice A0_1 l0_1.length c0_1]] w fun e w' => e = .returned (.int .i64 r) ∧ Below w.heap.size w w' := by
 have hu36 := Try.underlying36;have hu29 := Try.underlying29;have HR0_1 := Aside0.mk hr0_1;have HC0_1 := Aside0.mk hc0_1;clear hr0_1 hc0_1;have HB := A_ (Below.refl w.heap.size w);have H : (if (l0_1.length : Int) > 120 then (some 4) else (if a0_0 < (-60) then (sawmillref10_Check.j0 k (l0_1.length : Int) true a0_0 l0_1) else (sawmillref10_Check.j0 k (l0_1.length : Int) (decide (a0_0 > (wrap64 (60 - (l0_1.length : Int))))) a0_0 l0_1))) = some r := h;clear h
 by_cases c2 : (l0_1.length : Int) > 120
 ·rw [if_pos c2] at H;have c2b0 : decide (120 < (l0_1.length : Int)) = true := decide_eq_true c2;have c2b1 : decide (120 < l0_1.length) = true := decide_eq_true (by omega);clear c2;obtain rfl := Option.some.inj H;go_enter Try.func39, Try.ntmps39;go_wp2_with (first | ((with_reducible refine gate_dst (N := 1) rfl ?_); refine bx_ 1 (cs := #[.int .i64 a0_0, .slice A0_1 l0_1.length c0_1]) (t := 36) ?_; intro gb39001 hg w3 hbox hb; have BK39001 := A_ hbox; have GW39001 := gz_ (w := w) hg; have GE39001 := gz_ (w := w) hg; replace HB := bA_ hb; clear hb hbox hg; have hcz4_0 := cz0_ BK39001; have hcz4_1 := cz1_ BK39001; have hfz4_0 := fz_ BK39001 0; have hfz4_1 := fz_ BK39001 1));go_ret;exact ⟨er_, be_⟩
 ·rw [if_neg c2] at H;have c2b0 : decide (120 < (l0_1.length : Int)) = false := decide_eq_false c2;have c2b1 : decide (120 < l0_1.length) = false := decide_eq_false (by omega);clear c2;have HC5 := Aside0.mk H;clear H;go_enter Try.func39, Try.ntmps39
  go_upto_region 4 with (first | ((with_reducible refine gate_dst (N := 1) rfl ?_); refine bx_ 1 (cs := #[.int .i64 a0_0, .slice A0_1 l0_1.length c0_1]) (t := 36) ?_; intro gb39001 hg w6 hbox hb; have BK39001 := A_ hbox; have GW39001 := gz_ (w := w) hg; have GE39001 := gz_ (w := w) hg; replace HB := bA_ hb; clear hb hbox hg; have hcz7_0 := cz0_ BK39001; have hcz7_1 := cz1_ BK39001; have hfz7_0 := fz_ BK39001 0; have hfz7_1 := fz_ BK39001 1))
  (try simp only [Act.put, List.setIfInBounds_toArray, List.set_cons_zero, List.set_cons_succ])
  go_cut [20] (fun v20 wc => ∃ (kq : Nat) (x20_4 : Bool), v20 = .bool x20_4 ∧ Aside0 (sawmillref10_Check.j0 kq (l0_1.length : Int) x20_4 a0_0 l0_1 = some r) ∧ Aside0 (kq ≤ k) ∧ Aside0 (wc.heap[gb39001]? = some (.cells #[.int .i64 a0_0, (.slice A0_1 l0_1.length c0_1)] 36 (0, 0))) ∧ Aside0 (Below w.heap.size w wc))
  case first =>
   have H := HC5.out;clear HC5
   by_cases c8 : a0_0 < (-60)
   ·rw [if_pos c8] at H;have c8b0 : decide (a0_0 < (-60)) = true := decide_eq_true c8;clear c8;(first | rw [c8b0] | (simp only [i64_w, i32_w]; rw [c8b0]) | skip);have H' := Aside0.mk H;clear H;have hcz9_0 := cz0_ BK39001;have hcz9_1 := cz1_ BK39001;have hfz9_0 := fz_ BK39001 0;have hfz9_1 := fz_ BK39001 1;go_wp2
    go_meet
    case rel => exact ⟨_, (true), rs_, H', ⟨by first | omega | exact Nat.le_refl _⟩, ⟨fb_ BK39001.out⟩, ⟨be_⟩⟩
   ·rw [if_neg c8] at H;have c8b0 : decide (a0_0 < (-60)) = false := decide_eq_false c8;clear c8;(first | rw [c8b0] | (simp only [i64_w, i32_w]; rw [c8b0]) | skip);have H' := Aside0.mk H;clear H;have hcz10_0 := cz0_ BK39001;have hcz10_1 := cz1_ BK39001;have hfz10_0 := fz_ BK39001 0;have hfz10_1 := fz_ BK39001 1;go_wp2
    go_meet
    case rel => exact ⟨_, (decide (a0_0 > (wrap64 (60 - (l0_1.length : Int))))), rs_, H', ⟨by first | omega | exact Nat.le_refl _⟩, ⟨fb_ BK39001.out⟩, ⟨be_⟩⟩
  case rest =>
   clear HC5;(try clear c2);(try clear c2b0);(try clear c2b1);(try clear p2);(try clear c3);(try clear p6);(try clear c8);(try clear c8b0);(try clear hcz10_0);(try clear hcz10_1);(try clear hcz4_0);(try clear hcz4_1);(try clear hcz7_0);(try clear hcz7_1);(try clear hcz9_0);(try clear hcz9_1);(try clear hfz10_0);(try clear hfz10_1);(try clear hfz4_0);(try clear hfz4_1);(try clear hfz7_0);(try clear hfz7_1);(try clear hfz9_0);(try clear hfz9_1);obtain ⟨kq, x20_4, rfl, HA, HJ4, BK39001, HB⟩ := hcut;cases kq with
   | zero => exact absurd HA.out (by simp [sawmillref10_Check.j0])
   | succ kj4 =>
    have H := HA.out;clear HA;simp only [sawmillref10_Check.j0] at H
    by_cases c11 : x20_4 = true
    ·subst c11;(have H1 : (some 9) = some r := by rw [if_pos rfl] at H; exact H);clear H;have H := H1;clear H1;obtain rfl := Option.some.inj H;go_wp2;go_ret;exact ⟨er_, be_⟩
    ·replace c11 := Bool.eq_false_iff.mpr c11;subst c11;(have H1 : (sawmillref10_Check.l0 kj4 (l0_1.length : Int) 0 a0_0 l0_1) = some r := by rw [if_neg (show ¬ (false = true) by decide)] at H; exact H);clear H;have H := H1;clear H1;have H' := Aside0.mk H;clear H;go_wp2
     go_loopg [4] kj4 (fun kq v4 w' => ∃ (x4_2 : Int), v4 = .int .i64 x4_2 ∧ Aside0 (sawmillref10_Check.l0 kq (l0_1.length : Int) x4_2 a0_0 l0_1 = some r) ∧ Aside0 (kq ≤ kj4) ∧ Aside0 (w'.heap[gb39001]? = some (.cells #[.int .i64 a0_0, (.slice A0_1 l0_1.length c0_1)] 36 (0, 0))) ∧ Aside0 (Below w.heap.size w w'))
     case atStart => exact ⟨(0), rs_, H', ⟨Nat.le_refl _⟩, ⟨fb_ BK39001.out⟩, ⟨be_⟩⟩
     case round =>
      clear H';(try clear c1);(try clear c2);(try clear c2b0);(try clear c2b1);(try clear p2);(try clear c3);(try clear p6);(try clear c8);(try clear c8b0);(try clear c11);(try clear hcz10_0);(try clear hcz10_1);(try clear hcz4_0);(try clear hcz4_1);(try clear hcz7_0);(try clear hcz7_1);(try clear hcz9_0);(try clear hcz9_1);(try clear hfz10_0);(try clear hfz10_1);(try clear hfz4_0);(try clear hfz4_1);(try clear hfz7_0);(try clear hfz7_1);(try clear hfz9_0);(try clear hfz9_1);(try clear p2);(try clear p6);obtain ⟨x4_2, rfl, HA, HK2, BK39001, HB⟩ := hrel;cases gk with
      | zero => exact absurd HA.out (by simp [sawmillref10_Check.l0])
      | succ k2 =>
       have H := HA.out;clear HA;simp only [sawmillref10_Check.l0] at H
       by_cases c12 : x4_2 < (l0_1.length : Int)
       ·rw [if_pos c12] at H;have c12b0 : decide (x4_2 < (l0_1.length : Int)) = true := decide_eq_true c12;clear c12
        by_cases c13 : 0 ≤ x4_2
        ·rw [if_pos c13] at H;have c13b0 : decide (0 ≤ x4_2) = true := decide_eq_true c13;clear c13
         by_cases c14 : x4_2 < (l0_1.length : Int)
         ·rw [if_pos c14] at H;have c14b0 : decide (x4_2 < (l0_1.length : Int)) = true := decide_eq_true c14;clear c14;replace H := Option.bind_eq_some_iff.mp H;obtain ⟨t39003, A150, H⟩ := H;replace H : (if t39003 = true then (some 9) else ((sawmillref10_beyond.f ((rd_T29 l0_1 x4_2).f1)).bind fun t39005 => (if t39005 = true then (some 9) else (sawmillref10_Check.l0 k2 (l0_1.length : Int) (wrap64 (x4_2 + 1)) a0_0 l0_1)))) = some r := H;have A15 := Aside0.mk A150;clear A150
          by_cases c16 : t39003 = true
          ·subst c16;(have H1 : (some 9) = some r := by rw [if_pos rfl] at H; exact H);clear H;have H := H1;clear H1;obtain rfl := Option.some.inj H;have hcz17_0 := cz0_ BK39001;have hcz17_1 := cz1_ BK39001;have hfz17_0 := fz_ BK39001 0;have hfz17_1 := fz_ BK39001 1;have p39002 : 0 ≤ (x4_2 : Int) := as_;have q39002 : x4_2 < (l0_1.length : Int) := as_;obtain ⟨ad39002, e39002, hx39002_0, hx39002_1⟩ := at_T29 HR0_1.out x4_2 p39002 q39002;cases e39002;replace hx39002_0 := bc_ HB hx39002_0;replace hx39002_1 := bc_ HB hx39002_1;replace p39002 := eq_true p39002;replace q39002 := eq_true q39002;go_wp2_with (first | ((with_reducible refine gate_callee (f := 58) rfl ?_); refine goesL_ (some 32) rfl rfl Try.func58 (by kernel_rfl) rfl #[.int .i64 ((rd_T29 l0_1 x4_2).f0)] rfl la_ ?_; (with_reducible refine (sawmillref10_beyond.calls ((rd_T29 l0_1 x4_2).f0) true _ A15.out).mono ?_); rintro e w' ⟨rfl, ⟨nd, rfl⟩⟩; refine ⟨_, rfl, ?_⟩));go_ret;exact ⟨er_, be_⟩
          ·replace c16 := Bool.eq_false_iff.mpr c16;subst c16;(have H1 : ((sawmillref10_beyond.f ((rd_T29 l0_1 x4_2).f1)).bind fun t39005 => (if t39005 = true then (some 9) else (sawmillref10_Check.l0 k2 (l0_1.length : Int) (wrap64 (x4_2 + 1)) a0_0 l0_1))) = some r := by rw [if_neg (show ¬ (false = true) by decide)] at H; exact H);clear H;have H := H1;clear H1;replace H := Option.bind_eq_some_iff.mp H;obtain ⟨t39005, A180, H⟩ := H;replace H : (if t39005 = true then (some 9) else (sawmillref10_Check.l0 k2 (l0_1.length : Int) (wrap64 (x4_2 + 1)) a0_0 l0_1)) = some r := H;have A18 := Aside0.mk A180;clear A180
           by_cases c19 : t39005 = true
           ·subst c19;(have H1 : (some 9) = some r := by rw [if_pos rfl] at H; exact H);clear H;have H := H1;clear H1;obtain rfl := Option.some.inj H;have hcz20_0 := cz0_ BK39001;have hcz20_1 := cz1_ BK39001;have hfz20_0 := fz_ BK39001 0;have hfz20_1 := fz_ BK39001 1;have p39002 : 0 ≤ (x4_2 : Int) := as_;have q39002 : x4_2 < (l0_1.length : Int) := as_;obtain ⟨ad39002, e39002, hx39002_0, hx39002_1⟩ := at_T29 HR0_1.out x4_2 p39002 q39002;cases e39002;replace hx39002_0 := bc_ HB hx39002_0;replace hx39002_1 := bc_ HB hx39002_1;replace p39002 := eq_true p39002;replace q39002 := eq_true q39002;go_wp2_with (first | ((with_reducible refine gate_callee (f := 58) rfl ?_); refine goesL_ (some 32) rfl rfl Try.func58 (by kernel_rfl) rfl #[.int .i64 ((rd_T29 l0_1 x4_2).f0)] rfl la_ ?_; (with_reducible refine (sawmillref10_beyond.calls ((rd_T29 l0_1 x4_2).f0) false _ A15.out).mono ?_); rintro e w' ⟨rfl, ⟨nd, rfl⟩⟩; refine ⟨_, rfl, ?_⟩; have p39004 : 0 ≤ (x4_2 : Int) := as_; have q39004 : x4_2 < (l0_1.length : Int) := as_; obtain ⟨ad39004, e39004, hx39004_0, hx39004_1⟩ := at_T29 HR0_1.out x4_2 p39004 q39004; obtain rfl : ad39002 = ad39004 := (by injection e39004); replace hx39004_0 := bc_ HB hx39004_0; replace hx39004_1 := bc_ HB hx39004_1; replace p39004 := eq_true p39004; replace q39004 := eq_true q39004) | (go_at_call 58; (with_reducible refine (sawmillref10_beyond.calls ((rd_T29 l0_1 x4_2).f1) true _ A18.out).mono ?_); rintro e w' ⟨rfl, ⟨nd, rfl⟩⟩));go_ret;exact ⟨er_, be_⟩
           ·replace c19 := Bool.eq_false_iff.mpr c19;subst c19;(have H1 : (sawmillref10_Check.l0 k2 (l0_1.length : Int) (wrap64 (x4_2 + 1)) a0_0 l0_1) = some r := by rw [if_neg (show ¬ (false = true) by decide)] at H; exact H);clear H;have H := H1;clear H1;have H' := Aside0.mk H;clear H;have hcz21_0 := cz0_ BK39001;have hcz21_1 := cz1_ BK39001;have hfz21_0 := fz_ BK39001 0;have hfz21_1 := fz_ BK39001 1;have p39002 : 0 ≤ (x4_2 : Int) := as_;have q39002 : x4_2 < (l0_1.length : Int) := as_;obtain ⟨ad39002, e39002, hx39002_0, hx39002_1⟩ := at_T29 HR0_1.out x4_2 p39002 q39002;cases e39002;replace hx39002_0 := bc_ HB hx39002_0;replace hx39002_1 := bc_ HB hx39002_1;replace p39002 := eq_true p39002;replace q39002 := eq_true q39002;go_wp2_with (first | ((with_reducible refine gate_callee (f := 58) rfl ?_); refine goesL_ (some 32) rfl rfl Try.func58 (by kernel_rfl) rfl #[.int .i64 ((rd_T29 l0_1 x4_2).f0)] rfl la_ ?_; (with_reducible refine (sawmillref10_beyond.calls ((rd_T29 l0_1 x4_2).f0) false _ A15.out).mono ?_); rintro e w' ⟨rfl, ⟨nd, rfl⟩⟩; refine ⟨_, rfl, ?_⟩; have p39004 : 0 ≤ (x4_2 : Int) := as_; have q39004 : x4_2 < (l0_1.length : Int) := as_; obtain ⟨ad39004, e39004, hx39004_0, hx39004_1⟩ := at_T29 HR0_1.out x4_2 p39004 q39004; obtain rfl : ad39002 = ad39004 := (by injection e39004); replace hx39004_0 := bc_ HB hx39004_0; replace hx39004_1 := bc_ HB hx39004_1; replace p39004 := eq_true p39004; replace q39004 := eq_true q39004) | (go_at_call 58; (with_reducible refine (sawmillref10_beyond.calls ((rd_T29 l0_1 x4_2).f1) false _ A18.out).mono ?_); rintro e w' ⟨rfl, ⟨nd, rfl⟩⟩))
            go_roundg k2
            case measure => have := HJ4.out; have := HK2.out; omega
            case rel => exact ⟨(wrap64 (x4_2 + 1)), rs_, H', ⟨by have := HJ4.out; have := HK2.out; omega⟩, ⟨fb_ BK39001.out⟩, ⟨be_⟩⟩
         ·rw [if_neg c14] at H;exact absurd H (by simp)
        ·rw [if_neg c13] at H;exact absurd H (by simp)
       ·rw [if_neg c12] at H;have c12b0 : decide (x4_2 < (l0_1.length : Int)) = false := decide_eq_false c12;clear c12
        by_cases c22 : (l0_1.length : Int) = 0
        ·rw [if_pos c22] at H;have c22b0 : ((l0_1.length : Int) == 0) = true := beq_iff_eq.mpr c22;have c22b1 : ((l0_1.length : Int) != 0) = false := bne_eq_false_iff_eq.mpr c22;clear c22
         by_cases c23 : a0_0 = 0
         ·rw [if_pos c23] at H;have c23b0 : (a0_0 == 0) = true := beq_iff_eq.mpr c23;have c23b1 : (a0_0 != 0) = false := bne_eq_false_iff_eq.mpr c23;clear c23;obtain rfl := Option.some.inj H;have hcz24_0 := cz0_ BK39001;have hcz24_1 := cz1_ BK39001;have hfz24_0 := fz_ BK39001 0;have hfz24_1 := fz_ BK39001 1;go_wp2;go_ret;exact ⟨er_, be_⟩
         ·rw [if_neg c23] at H;have c23b0 : (a0_0 == 0) = false := beq_eq_false_iff_ne.mpr c23;have c23b1 : (a0_0 != 0) = true := bne_iff_ne.mpr c23;obtain rfl := Option.some.inj H;have hcz25_0 := cz0_ BK39001;have hcz25_1 := cz1_ BK39001;have hfz25_0 := fz_ BK39001 0;have hfz25_1 := fz_ BK39001 1;go_wp2;go_ret;exact ⟨er_, be_⟩
        ·rw [if_neg c22] at H;have c22b0 : ((l0_1.length : Int) == 0) = false := beq_eq_false_iff_ne.mpr c22;have c22b1 : ((l0_1.length : Int) != 0) = true := bne_iff_ne.mpr c22;have c22b2 : ¬ (l0_1 = []) := fun h_ => c22 (by rw [h_]; rfl);have HC26 := Aside0.mk H;clear H
         go_upto_region 15 with (fail)
         go_cut [60] (fun v60 wc => ∃ (kq : Nat) (x60_25 : Bool), v60 = .bool x60_25 ∧ Aside0 (sawmillref10_Check.j2 kq (l0_1.length : Int) x60_25 a0_0 l0_1 = some r) ∧ Aside0 (kq ≤ k2) ∧ Aside0 (wc.heap[gb39001]? = some (.cells #[.int .i64 a0_0, (.slice A0_1 l0_1.length c0_1)] 36 (0, 0))) ∧ Aside0 (Below w.heap.size w wc))
         case first =>
          have H := HC26.out;clear HC26
          by_cases c27 : 0 < (l0_1.length : Int)
          ·rw [if_pos c27] at H;have c27b0 : decide (0 < (l0_1.length : Int)) = true := decide_eq_true c27;have c27b1 : decide (0 < l0_1.length) = true := decide_eq_true (by omega);clear c27;(first | rw [c27b0] | (simp only [i64_w, i32_w]; rw [c27b0]) | skip);replace H := Option.bind_eq_some_iff.mp H;obtain ⟨t39007, A280, H⟩ := H;replace H : (if t39007 = true then (sawmillref10_Check.j2 k2 (l0_1.length : Int) true a0_0 l0_1) else (if 0 ≤ (wrap64 ((l0_1.length : Int) - 1)) then (if (wrap64 ((l0_1.length : Int) - 1)) < (l0_1.length : Int) then ((sawmillref10_empty.f ((rd_T29 l0_1 (wrap64 ((l0_1.length : Int) - 1))).f0) ((rd_T29 l0_1 (wrap64 ((l0_1.length : Int) - 1))).f1)).bind fun t39009 => (sawmillref10_Check.j2 k2 (l0_1.length : Int) t39009 a0_0 l0_1)) else (none)) else (none))) = some r := H;have A28 := Aside0.mk A280;clear A280
           by_cases c29 : t39007 = true
           ·subst c29;(have H1 : (sawmillref10_Check.j2 k2 (l0_1.length : Int) true a0_0 l0_1) = some r := by rw [if_pos rfl] at H; exact H);clear H;have H := H1;clear H1;have H' := Aside0.mk H;clear H;have hcz30_0 := cz0_ BK39001;have hcz30_1 := cz1_ BK39001;have hfz30_0 := fz_ BK39001 0;have hfz30_1 := fz_ BK39001 1;have p39006 : 0 ≤ (0 : Int) := (by omega);have q39006 : 0 < (l0_1.length : Int) := as_;obtain ⟨ad39006, e39006, hx39006_0, hx39006_1⟩ := at_T29 HR0_1.out 0 p39006 q39006;cases e39006;have qi39006 : (0 < l0_1.length) = True := eq_true (by omega);(try rw [show ((0 : Int)).toNat = 0 from rfl] at hx39006_0);(try rw [show 0 * 2 = 0 from rfl] at hx39006_0);(try rw [Addr.add_zero'] at hx39006_0);(try rw [show ((0 : Int)).toNat = 0 from rfl] at hx39006_1);(try rw [show 0 * 2 = 0 from rfl] at hx39006_1);(try rw [Addr.add_zero'] at hx39006_1);replace hx39006_0 := bc_ HB hx39006_0;replace hx39006_1 := bc_ HB hx39006_1;replace p39006 := eq_true p39006;replace q39006 := eq_true q39006;go_wp2_with (first | ((with_reducible refine gate_callee (f := 59) rfl ?_); refine goesL_ (some 51) rfl rfl Try.func59 (by kernel_rfl) rfl #[.agg #[.int .i64 ((rd_T29 l0_1 0).f0), .int .i64 ((rd_T29 l0_1 0).f1)]] rfl la_ ?_; (with_reducible refine (sawmillref10_empty.calls ((rd_T29 l0_1 0).f0) ((rd_T29 l0_1 0).f1) true _ A28.out).mono ?_); rintro e w31 ⟨rfl, hb⟩; refine ⟨_, rfl, ?_⟩; replace BK39001 := bb_ BK39001 hb; replace HB := bA_ hb; (try clear hb)))
            go_meet
            case rel => exact ⟨_, (true), rs_, H', ⟨by have := HJ4.out; have := HK2.out; first | omega | exact Nat.le_refl _⟩, ⟨fb_ BK39001.out⟩, ⟨be_⟩⟩
           ·replace c29 := Bool.eq_false_iff.mpr c29;subst c29;(have H1 : (if 0 ≤ (wrap64 ((l0_1.length : Int) - 1)) then (if (wrap64 ((l0_1.length : Int) - 1)) < (l0_1.length : Int) then ((sawmillref10_empty.f ((rd_T29 l0_1 (wrap64 ((l0_1.length : Int) - 1))).f0) ((rd_T29 l0_1 (wrap64 ((l0_1.length : Int) - 1))).f1)).bind fun t39009 => (sawmillref10_Check.j2 k2 (l0_1.length : Int) t39009 a0_0 l0_1)) else (none)) else (none)) = some r := by rw [if_neg (show ¬ (false = true) by decide)] at H; exact H);clear H;have H := H1;clear H1;obtain ⟨ji32, hji32⟩ : ∃ j_ : Int, (wrap64 ((l0_1.length : Int) - 1)) = j_ := ⟨_, rfl⟩;(replace H : (if 0 ≤ (ji32) then (if (ji32) < (l0_1.length : Int) then ((sawmillref10_empty.f ((rd_T29 l0_1 (ji32)).f0) ((rd_T29 l0_1 (ji32)).f1)).bind fun t39009 => (sawmillref10_Check.j2 k2 (l0_1.length : Int) t39009 a0_0 l0_1)) else (none)) else (none)) = some r := by first | (rw [hji32] at H; exact H) | (simp only [hji32] at H ⊢; exact H));(try rw [hji32] at A28);have hji32w : (IntKind.i64.wrap ((l0_1.length : Int) - 1)) = ji32 := (i64_w _).trans hji32
            by_cases c33 : 0 ≤ (ji32)
            ·rw [if_pos c33] at H;have c33b0 : decide (0 ≤ (ji32)) = true := decide_eq_true c33;clear c33
             by_cases c34 : (ji32) < (l0_1.length : Int)
             ·rw [if_pos c34] at H;have c34b0 : decide ((ji32) < (l0_1.length : Int)) = true := decide_eq_true c34;clear c34;replace H := Option.bind_eq_some_iff.mp H;obtain ⟨t39009, A350, H⟩ := H;replace H : (sawmillref10_Check.j2 k2 (l0_1.length : Int) t39009 a0_0 l0_1) = some r := H;have A35 := Aside0.mk A350;clear A350;have H' := Aside0.mk H;clear H;have hcz36_0 := cz0_ BK39001;have hcz36_1 := cz1_ BK39001;have hfz36_0 := fz_ BK39001 0;have hfz36_1 := fz_ BK39001 1;have p39006 : 0 ≤ (0 : Int) := (by omega);have q39006 : 0 < (l0_1.length : Int) := as_;obtain ⟨ad39006, e39006, hx39006_0, hx39006_1⟩ := at_T29 HR0_1.out 0 p39006 q39006;cases e39006;have qi39006 : (0 < l0_1.length) = True := eq_true (by omega);(try rw [show ((0 : Int)).toNat = 0 from rfl] at hx39006_0);(try rw [show 0 * 2 = 0 from rfl] at hx39006_0);(try rw [Addr.add_zero'] at hx39006_0);(try rw [show ((0 : Int)).toNat = 0 from rfl] at hx39006_1);(try rw [show 0 * 2 = 0 from rfl] at hx39006_1);(try rw [Addr.add_zero'] at hx39006_1);replace hx39006_0 := bc_ HB hx39006_0;replace hx39006_1 := bc_ HB hx39006_1;replace p39006 := eq_true p39006;replace q39006 := eq_true q39006;go_wp2_with (first | ((with_reducible refine gate_callee (f := 59) rfl ?_); refine goesL_ (some 51) rfl rfl Try.func59 (by kernel_rfl) rfl #[.agg #[.int .i64 ((rd_T29 l0_1 0).f0), .int .i64 ((rd_T29 l0_1 0).f1)]] rfl la_ ?_; (with_reducible refine (sawmillref10_empty.calls ((rd_T29 l0_1 0).f0) ((rd_T29 l0_1 0).f1) false _ A28.out).mono ?_); rintro e w37 ⟨rfl, hb⟩; refine ⟨_, rfl, ?_⟩; replace BK39001 := bb_ BK39001 hb; replace HB := bA_ hb; (try clear hb); have hcz38_0 := cz0_ BK39001; have hcz38_1 := cz1_ BK39001; have hfz38_0 := fz_ BK39001 0; have hfz38_1 := fz_ BK39001 1; have p39008 : 0 ≤ ((ji32) : Int) := as_; have q39008 : (ji32) < (l0_1.length : Int) := as_; obtain ⟨ad39008, e39008, hx39008_0, hx39008_1⟩ := at_T29 HR0_1.out (ji32) p39008 q39008; obtain rfl : ad39006 = ad39008 := (by injection e39008); replace hx39008_0 := bc_ HB hx39008_0; replace hx39008_1 := bc_ HB hx39008_1; replace p39008 := eq_true p39008; replace q39008 := eq_true q39008) | (go_at_call 59; (with_reducible refine (sawmillref10_empty.calls ((rd_T29 l0_1 (ji32)).f0) ((rd_T29 l0_1 (ji32)).f1) t39009 _ A35.out).mono ?_); rintro e w39 ⟨rfl, hb⟩; replace BK39001 := bb_ BK39001 hb; replace HB := bA_ hb; (try clear hb)))
              go_meet
              case rel => exact ⟨_, (t39009), rs_, H', ⟨by have := HJ4.out; have := HK2.out; first | omega | exact Nat.le_refl _⟩, ⟨fb_ BK39001.out⟩, ⟨be_⟩⟩
             ·rw [if_neg c34] at H;exact absurd H (by simp)
            ·rw [if_neg c33] at H;exact absurd H (by simp)
          ·rw [if_neg c27] at H;exact absurd H (by simp)
         case rest =>
          clear HC26;(try clear c1);(try clear c2);(try clear c2b0);(try clear c2b1);(try clear p2);(try clear c3);(try clear p3);(try clear q3);(try clear hx3);(try clear qi3);(try clear c5);(try clear p6);(try clear c8);(try clear c8b0);(try clear c11);(try clear c12);(try clear c12b0);(try clear c13);(try clear c13b0);(try clear c14);(try clear c14b0);(try clear c16);(try clear c19);(try clear c22);(try clear c22b0);(try clear c22b1);(try clear c22b2);(try clear c23);(try clear c23b0);(try clear c23b1);(try clear c27);(try clear c27b0);(try clear c27b1);(try clear c29);(try clear c33);(try clear c33b0);(try clear c34);(try clear c34b0);(try clear c39);(try clear p39);(try clear q39);(try clear hx39);(try clear qi39);(try clear hcz10_0);(try clear hcz10_1);(try clear hcz17_0);(try clear hcz17_1);(try clear hcz20_0);(try clear hcz20_1);(try clear hcz21_0);(try clear hcz21_1);(try clear hcz24_0);(try clear hcz24_1);(try clear hcz25_0);(try clear hcz25_1);(try clear hcz30_0);(try clear hcz30_1);(try clear hcz36_0);(try clear hcz36_1);(try clear hcz38_0);(try clear hcz38_1);(try clear hcz4_0);(try clear hcz4_1);(try clear hcz7_0);(try clear hcz7_1);(try clear hcz9_0);(try clear hcz9_1);(try clear hfz10_0);(try clear hfz10_1);(try clear hfz17_0);(try clear hfz17_1);(try clear hfz20_0);(try clear hfz20_1);(try clear hfz21_0);(try clear hfz21_1);(try clear hfz24_0);(try clear hfz24_1);(try clear hfz25_0);(try clear hfz25_1);(try clear hfz30_0);(try clear hfz30_1);(try clear hfz36_0);(try clear hfz36_1);(try clear hfz38_0);(try clear hfz38_1);(try clear hfz4_0);(try clear hfz4_1);(try clear hfz7_0);(try clear hfz7_1);(try clear hfz9_0);(try clear hfz9_1);(try clear hx39002_0);(try clear hx39002_1);(try clear hx39004_0);(try clear hx39004_1);(try clear hx39006_0);(try clear hx39006_1);(try clear hx39008_0);(try clear hx39008_1);(try clear p2);(try clear p39002);(try clear p39004);(try clear p39006);(try clear p39008);(try clear p6);(try clear q39002);(try clear q39004);(try clear q39006);(try clear q39008);obtain ⟨kq, x60_25, rfl, HA, HJ25, BK39001, HB⟩ := hcut;cases kq with
          | zero => exact absurd HA.out (by simp [sawmillref10_Check.j2])
          | succ kj25 =>
           have H := HA.out;clear HA;simp only [sawmillref10_Check.j2] at H
           by_cases c40 : x60_25 = true
           ·subst c40;(have H1 : (some 19) = some r := by rw [if_pos rfl] at H; exact H);clear H;have H := H1;clear H1;obtain rfl := Option.some.inj H;go_wp2;go_ret;exact ⟨er_, be_⟩
           ·replace c40 := Bool.eq_false_iff.mpr c40;subst c40;(have H1 : (sawmillref10_Check.l1 kj25 (l0_1.length : Int) 0 a0_0 l0_1) = some r := by rw [if_neg (show ¬ (false = true) by decide)] at H; exact H);clear H;have H := H1;clear H1;have H' := Aside0.mk H;clear H;go_wp2
            go_loopg [5] kj25 (fun kq v5 w' => ∃ (x5_4 : Int), v5 = .int .i64 x5_4 ∧ Aside0 (sawmillref10_Check.l1 kq (l0_1.length : Int) x5_4 a0_0 l0_1 = some r) ∧ Aside0 (kq ≤ kj25) ∧ Aside0 (w'.heap[gb39001]? = some (.cells #[.int .i64 a0_0, (.slice A0_1 l0_1.length c0_1)] 36 (0, 0))) ∧ Aside0 (Below w.heap.size w w'))
            case atStart => exact ⟨(0), rs_, H', ⟨Nat.le_refl _⟩, ⟨fb_ BK39001.out⟩, ⟨be_⟩⟩
            case round =>
             clear H';(try clear c1);(try clear c2);(try clear c2b0);(try clear c2b1);(try clear p2);(try clear c3);(try clear p3);(try clear q3);(try clear hx3);(try clear qi3);(try clear c4);(try clear c5);(try clear p6);(try clear c8);(try clear c8b0);(try clear c11);(try clear c12);(try clear c12b0);(try clear c13);(try clear c13b0);(try clear c14);(try clear c14b0);(try clear c16);(try clear c19);(try clear c22);(try clear c22b0);(try clear c22b1);(try clear c22b2);(try clear c23);(try clear c23b0);(try clear c23b1);(try clear c27);(try clear c27b0);(try clear c27b1);(try clear c29);(try clear c33);(try clear c33b0);(try clear c34);(try clear c34b0);(try clear c39);(try clear p39);(try clear q39);(try clear hx39);(try clear qi39);(try clear c40);(try clear hcz10_0);(try clear hcz10_1);(try clear hcz17_0);(try clear hcz17_1);(try clear hcz20_0);(try clear hcz20_1);(try clear hcz21_0);(try clear hcz21_1);(try clear hcz24_0);(try clear hcz24_1);(try clear hcz25_0);(try clear hcz25_1);(try clear hcz30_0);(try clear hcz30_1);(try clear hcz36_0);(try clear hcz36_1);(try clear hcz38_0);(try clear hcz38_1);(try clear hcz4_0);(try clear hcz4_1);(try clear hcz7_0);(try clear hcz7_1);(try clear hcz9_0);(try clear hcz9_1);(try clear hfz10_0);(try clear hfz10_1);(try clear hfz17_0);(try clear hfz17_1);(try clear hfz20_0);(try clear hfz20_1);(try clear hfz21_0);(try clear hfz21_1);(try clear hfz24_0);(try clear hfz24_1);(try clear hfz25_0);(try clear hfz25_1);(try clear hfz30_0);(try clear hfz30_1);(try clear hfz36_0);(try clear hfz36_1);(try clear hfz38_0);(try clear hfz38_1);(try clear hfz4_0);(try clear hfz4_1);(try clear hfz7_0);(try clear hfz7_1);(try clear hfz9_0);(try clear hfz9_1);(try clear hx39002_0);(try clear hx39002_1);(try clear hx39004_0);(try clear hx39004_1);(try clear hx39006_0);(try clear hx39006_1);(try clear hx39008_0);(try clear hx39008_1);(try clear p2);(try clear p3);(try clear p39);(try clear p39002);(try clear p39004);(try clear p39006);(try clear p39008);(try clear p6);(try clear q3);(try clear q39);(try clear q39002);(try clear q39004);(try clear q39006);(try clear q39008);obtain ⟨x5_4, rfl, HA, HK4, BK39001, HB⟩ := hrel;cases gk with
             | zero => exact absurd HA.out (by simp [sawmillref10_Check.l1])
             | succ k4 =>
              have H := HA.out;clear HA;simp only [sawmillref10_Check.l1] at H
              by_cases c41 : x5_4 < (l0_1.length : Int)
              ·rw [if_pos c41] at H;have c41b0 : decide (x5_4 < (l0_1.length : Int)) = true := decide_eq_true c41;clear c41
               by_cases c42 : 0 ≤ x5_4
               ·rw [if_pos c42] at H;have c42b0 : decide (0 ≤ x5_4) = true := decide_eq_true c42;clear c42
                by_cases c43 : x5_4 < (l0_1.length : Int)
                ·rw [if_pos c43] at H;have c43b0 : decide (x5_4 < (l0_1.length : Int)) = true := decide_eq_true c43;clear c43;replace H := Option.bind_eq_some_iff.mp H;obtain ⟨t39011, A440, H⟩ := H;replace H : (if t39011 = true then (if (!(((rd_T29 l0_1 x5_4).f0) == 0) || (!(((rd_T29 l0_1 x5_4).f1) == 0))) = true then (some 19) else (sawmillref10_Check.l1 k4 (l0_1.length : Int) (wrap64 (x5_4 + 1)) a0_0 l0_1)) else (sawmillref10_Check.l1 k4 (l0_1.length : Int) (wrap64 (x5_4 + 1)) a0_0 l0_1)) = some r := H;have A44 := Aside0.mk A440;clear A440
                 by_cases c45 : t39011 = true
                 ·subst c45;(have H1 : (if (!(((rd_T29 l0_1 x5_4).f0) == 0) || (!(((rd_T29 l0_1 x5_4).f1) == 0))) = true then (some 19) else (sawmillref10_Check.l1 k4 (l0_1.length : Int) (wrap64 (x5_4 + 1)) a0_0 l0_1)) = some r := by rw [if_pos rfl] at H; exact H);clear H;have H := H1;clear H1
                  by_cases c46 : (!(((rd_T29 l0_1 x5_4).f0) == 0) || (!(((rd_T29 l0_1 x5_4).f1) == 0))) = true
                  ·rw [if_pos c46] at H;have c46b0 : (!(((rd_T29 l0_1 x5_4).f0) == 0) || (!(((rd_T29 l0_1 x5_4).f1) == 0))) = true := c46;clear c46;obtain rfl := Option.some.inj H;have hcz47_0 := cz0_ BK39001;have hcz47_1 := cz1_ BK39001;have hfz47_0 := fz_ BK39001 0;have hfz47_1 := fz_ BK39001 1;have p39010 : 0 ≤ (x5_4 : Int) := as_;have q39010 : x5_4 < (l0_1.length : Int) := as_;obtain ⟨ad39010, e39010, hx39010_0, hx39010_1⟩ := at_T29 HR0_1.out x5_4 p39010 q39010;cases e39010;replace hx39010_0 := bc_ HB hx39010_0;replace hx39010_1 := bc_ HB hx39010_1;replace p39010 := eq_true p39010;replace q39010 := eq_true q39010;go_wp2_with (first | ((with_reducible refine gate_callee (f := 59) rfl ?_); refine goesL_ (some 71) rfl rfl Try.func59 (by kernel_rfl) rfl #[.agg #[.int .i64 ((rd_T29 l0_1 x5_4).f0), .int .i64 ((rd_T29 l0_1 x5_4).f1)]] rfl la_ ?_; (with_reducible refine (sawmillref10_empty.calls ((rd_T29 l0_1 x5_4).f0) ((rd_T29 l0_1 x5_4).f1) true _ A44.out).mono ?_); rintro e w48 ⟨rfl, hb⟩; refine ⟨_, rfl, ?_⟩; replace BK39001 := bb_ BK39001 hb; replace HB := bA_ hb; (try clear hb); have hcz49_0 := cz0_ BK39001; have hcz49_1 := cz1_ BK39001; have hfz49_0 := fz_ BK39001 0; have hfz49_1 := fz_ BK39001 1; have p39012 : 0 ≤ (x5_4 : Int) := as_; have q39012 : x5_4 < (l0_1.length : Int) := as_; obtain ⟨ad39012, e39012, hx39012_0, hx39012_1⟩ := at_T29 HR0_1.out x5_4 p39012 q39012; obtain rfl : ad39010 = ad39012 := (by injection e39012); replace hx39012_0 := bc_ HB hx39012_0; replace hx39012_1 := bc_ HB hx39012_1; replace p39012 := eq_true p39012; replace q39012 := eq_true q39012));go_ret;exact ⟨er_, be_⟩
                  ·rw [if_neg c46] at H;(have c46b0 : (!(((rd_T29 l0_1 x5_4).f0) == 0) || (!(((rd_T29 l0_1 x5_4).f1) == 0))) = false := by simpa using c46);clear c46;have H' := Aside0.mk H;clear H;have hcz50_0 := cz0_ BK39001;have hcz50_1 := cz1_ BK39001;have hfz50_0 := fz_ BK39001 0;have hfz50_1 := fz_ BK39001 1;have p39010 : 0 ≤ (x5_4 : Int) := as_;have q39010 : x5_4 < (l0_1.length : Int) := as_;obtain ⟨ad39010, e39010, hx39010_0, hx39010_1⟩ := at_T29 HR0_1.out x5_4 p39010 q39010;cases e39010;replace hx39010_0 := bc_ HB hx39010_0;replace hx39010_1 := bc_ HB hx39010_1;replace p39010 := eq_true p39010;replace q39010 := eq_true q39010;go_wp2_with (first | ((with_reducible refine gate_callee (f := 59) rfl ?_); refine goesL_ (some 71) rfl rfl Try.func59 (by kernel_rfl) rfl #[.agg #[.int .i64 ((rd_T29 l0_1 x5_4).f0), .int .i64 ((rd_T29 l0_1 x5_4).f1)]] rfl la_ ?_; (with_reducible refine (sawmillref10_empty.calls ((rd_T29 l0_1 x5_4).f0) ((rd_T29 l0_1 x5_4).f1) true _ A44.out).mono ?_); rintro e w51 ⟨rfl, hb⟩; refine ⟨_, rfl, ?_⟩; replace BK39001 := bb_ BK39001 hb; replace HB := bA_ hb; (try clear hb); have hcz52_0 := cz0_ BK39001; have hcz52_1 := cz1_ BK39001; have hfz52_0 := fz_ BK39001 0; have hfz52_1 := fz_ BK39001 1; have p39012 : 0 ≤ (x5_4 : Int) := as_; have q39012 : x5_4 < (l0_1.length : Int) := as_; obtain ⟨ad39012, e39012, hx39012_0, hx39012_1⟩ := at_T29 HR0_1.out x5_4 p39012 q39012; obtain rfl : ad39010 = ad39012 := (by injection e39012); replace hx39012_0 := bc_ HB hx39012_0; replace hx39012_1 := bc_ HB hx39012_1; replace p39012 := eq_true p39012; replace q39012 := eq_true q39012))
                   go_roundg k4
                   case measure => have := HJ4.out; have := HK2.out; have := HJ25.out; have := HK4.out; omega
                   case rel => exact ⟨(wrap64 (x5_4 + 1)), rs_, H', ⟨by have := HJ4.out; have := HK2.out; have := HJ25.out; have := HK4.out; omega⟩, ⟨fb_ BK39001.out⟩, ⟨be_⟩⟩
                 ·replace c45 := Bool.eq_false_iff.mpr c45;subst c45;(have H1 : (sawmillref10_Check.l1 k4 (l0_1.length : Int) (wrap64 (x5_4 + 1)) a0_0 l0_1) = some r := by rw [if_neg (show ¬ (false = true) by decide)] at H; exact H);clear H;have H := H1;clear H1;have H' := Aside0.mk H;clear H;have hcz53_0 := cz0_ BK39001;have hcz53_1 := cz1_ BK39001;have hfz53_0 := fz_ BK39001 0;have hfz53_1 := fz_ BK39001 1;have p39010 : 0 ≤ (x5_4 : Int) := as_;have q39010 : x5_4 < (l0_1.length : Int) := as_;obtain ⟨ad39010, e39010, hx39010_0, hx39010_1⟩ := at_T29 HR0_1.out x5_4 p39010 q39010;cases e39010;replace hx39010_0 := bc_ HB hx39010_0;replace hx39010_1 := bc_ HB hx39010_1;replace p39010 := eq_true p39010;replace q39010 := eq_true q39010;go_wp2_with (first | ((with_reducible refine gate_callee (f := 59) rfl ?_); refine goesL_ (some 71) rfl rfl Try.func59 (by kernel_rfl) rfl #[.agg #[.int .i64 ((rd_T29 l0_1 x5_4).f0), .int .i64 ((rd_T29 l0_1 x5_4).f1)]] rfl la_ ?_; (with_reducible refine (sawmillref10_empty.calls ((rd_T29 l0_1 x5_4).f0) ((rd_T29 l0_1 x5_4).f1) false _ A44.out).mono ?_); rintro e w54 ⟨rfl, hb⟩; refine ⟨_, rfl, ?_⟩; replace BK39001 := bb_ BK39001 hb; replace HB := bA_ hb; (try clear hb)))
                  go_roundg k4
                  case measure => have := HJ4.out; have := HK2.out; have := HJ25.out; have := HK4.out; omega
                  case rel => exact ⟨(wrap64 (x5_4 + 1)), rs_, H', ⟨by have := HJ4.out; have := HK2.out; have := HJ25.out; have := HK4.out; omega⟩, ⟨fb_ BK39001.out⟩, ⟨be_⟩⟩
                ·rw [if_neg c43] at H;exact absurd H (by simp)
               ·rw [if_neg c42] at H;exact absurd H (by simp)
              ·rw [if_neg c41] at H;have c41b0 : decide (x5_4 < (l0_1.length : Int)) = false := decide_eq_false c41;clear c41;obtain rfl := Option.some.inj H;go_wp2;go_ret;exact ⟨er_, be_⟩

end Go.Proofs.Ytboegckbilnldaa.P

end
section
namespace Go.Proofs.Ytboegckbilnldaa.P
open Go Go.RowKit Go.Proofs.YtboegckbilnldaaW.PrintWords Go.Proofs.YtboegckbilnldaaW.PrintLast Go.Proofs.YtboegckbilnldaaW.PrintMore
attribute [local go_sem] max2_int min2_int max_two min_two max_three min_three max_four min_four max_five min_eight max_eight   -- for this text's walks alone
set_option linter.unusedVariables false
set_option linter.unusedSimpArgs false

def sawmillref11_Check.l0 : Nat → List (S60) → Int → Int → Option (Int)
 | 0, _, _, _ => none
 | k + 1, x0, x3, x4 => if x4 < (x0.length : Int) then (if 0 ≤ x4 then ((sawmillref10_Check.f k ((rd_T60 x0 x4).f1.f0) ((rd_T60 x0 x4).f1.f1)).bind fun t14002 => (if t14002 = 0 then (if (((rd_T60 x0 x4).f1.f1).length : Int) = 0 then (some 18) else (if ((rd_T60 x0 x4).f0) < 1 then (some 9) else (if ((rd_T60 x0 x4).f0) > (wrap64 (20000 - x3)) then (some 9) else (sawmillref11_Check.l0 k x0 (wrap64 (x3 + ((rd_T60 x0 x4).f0))) (wrap64 (x4 + 1)))))) else (some t14002))) else (none)) else (some 0)
def sawmillref11_Check.f (k : Nat) (l0 : List (S60)) : Option (Int) := if (l0.length : Int) = 0 then (some 3) else (if (l0.length : Int) > 24 then (some 4) else (sawmillref11_Check.l0 k l0 0 0))
theorem sawmillref11_Check.mono_l : ∀ k, (∀ y0 y1 y2, LeO (sawmillref11_Check.l0 k y0 y1 y2) (sawmillref11_Check.l0 (k + 1) y0 y1 y2))
 | 0 => fun _ _ _ r h => by simp [sawmillref11_Check.l0] at h
 | k + 1 => by
  have ih0 := sawmillref11_Check.mono_l k
  ·intro y0 y1 y2;unfold sawmillref11_Check.l0
   repeat' first
   | (with_reducible exact ih0 _ _ _)
   | (with_reducible exact sawmillref10_Check.mono _ _ _)
   | (with_reducible exact LeO.refl _)
   | (with_reducible exact LeO.none _)
   | (with_reducible refine LeO.ite ?_ ?_)
   | (with_reducible refine LeO.bind ?_ (fun _ => ?_))
   | exact ih0 _ _ _
   | exact sawmillref10_Check.mono _ _ _
   | exact LeO.none _
   | refine LeO.ite ?_ ?_
   | refine LeO.bind ?_ (fun _ => ?_)
theorem sawmillref11_Check.mono : ∀ a0 k, LeO (sawmillref11_Check.f k a0) (sawmillref11_Check.f (k + 1) a0) := by
 intro a0 k;have ih0 := sawmillref11_Check.mono_l k;unfold sawmillref11_Check.f
 repeat' first
   | (with_reducible exact ih0 _ _ _)
   | (with_reducible exact sawmillref10_Check.mono _ _ _)
   | (with_reducible exact LeO.refl _)
   | (with_reducible exact LeO.none _)
   | (with_reducible refine LeO.ite ?_ ?_)
   | (with_reducible refine LeO.bind ?_ (fun _ => ?_))
   | exact ih0 _ _ _
   | exact sawmillref10_Check.mono _ _ _
   | exact LeO.none _
   | refine LeO.ite ?_ ?_
   | refine LeO.bind ?_ (fun _ => ?_)
set_option maxHeartbeats 8000000 in
set_option maxRecDepth 100000 in
theorem sawmillref11_Check.calls (k : Nat) (A0 : Option Addr) (c0 : Nat) (l0 : List (S60)) (r : Int) (w : World) (hr0 : Kd.C k60 w A0 l0.length l0) (hc0 : l0.length ≤ c0) (h : sawmillref11_Check.f k l0 = some r) :
  Calls Try.prog 14 #[.slice A0 l0.length c0] w fun e w' => e = .returned (.int .i64 r) ∧ Below w.heap.size w w' := by
 have hu36 := Try.underlying36;have HR0 := Aside0.mk hr0;have HC0 := Aside0.mk hc0;clear hr0 hc0;have HB := A_ (Below.refl w.heap.size w);have H : (if (l0.length : Int) = 0 then (some 3) else (if (l0.length : Int) > 24 then (some 4) else (sawmillref11_Check.l0 k l0 0 0))) = some r := h;clear h
 by_cases c2 : (l0.length : Int) = 0
 ·rw [if_pos c2] at H;have c2b0 : ((l0.length : Int) == 0) = true := beq_iff_eq.mpr c2;have c2b1 : ((l0.length : Int) != 0) = false := bne_eq_false_iff_eq.mpr c2;clear c2;obtain rfl := Option.some.inj H;go_enter Try.func14, Try.ntmps14;go_wp2;go_ret;exact ⟨er_, be_⟩
 ·rw [if_neg c2] at H;have c2b0 : ((l0.length : Int) == 0) = false := beq_eq_false_iff_ne.mpr c2;have c2b1 : ((l0.length : Int) != 0) = true := bne_iff_ne.mpr c2;have c2b2 : ¬ (l0 = []) := fun h_ => c2 (by rw [h_]; rfl)
  by_cases c3 : (l0.length : Int) > 24
  ·rw [if_pos c3] at H;have c3b0 : decide (24 < (l0.length : Int)) = true := decide_eq_true c3;have c3b1 : decide (24 < l0.length) = true := decide_eq_true (by omega);clear c3;obtain rfl := Option.some.inj H;go_enter Try.func14, Try.ntmps14;go_wp2;go_ret;exact ⟨er_, be_⟩
  ·rw [if_neg c3] at H;have c3b0 : decide (24 < (l0.length : Int)) = false := decide_eq_false c3;have c3b1 : decide (24 < l0.length) = false := decide_eq_false (by omega);clear c3;have H' := Aside0.mk H;clear H;go_enter Try.func14, Try.ntmps14;go_wp2
   go_loopg [3, 4] k (fun kq v3 v4 w' => ∃ (x3_1 : Int) (x4_1 : Int), v3 = .int .i64 x3_1 ∧ v4 = .int .i64 x4_1 ∧ Aside0 (sawmillref11_Check.l0 kq l0 x3_1 x4_1 = some r) ∧ Aside0 (kq ≤ k) ∧ Aside0 (Below w.heap.size w w'))
   case atStart => exact ⟨(0), (0), rs_, rs_, H', ⟨Nat.le_refl _⟩, ⟨be_⟩⟩
   case round =>
    clear H';(try clear c1);(try clear c2);(try clear c2b0);(try clear c2b1);(try clear c2b2);(try clear p2);(try clear c3);(try clear c3b0);(try clear c3b1);obtain ⟨x3_1, x4_1, rfl, rfl, HA, HK1, HB⟩ := hrel;cases gk with
    | zero => exact absurd HA.out (by simp [sawmillref11_Check.l0])
    | succ k1 =>
     have H := HA.out;clear HA;simp only [sawmillref11_Check.l0] at H
     by_cases c4 : x4_1 < (l0.length : Int)
     ·rw [if_pos c4] at H;have c4b0 : decide (x4_1 < (l0.length : Int)) = true := decide_eq_true c4;clear c4
      by_cases c5 : 0 ≤ x4_1
      ·rw [if_pos c5] at H;have c5b0 : decide (0 ≤ x4_1) = true := decide_eq_true c5;clear c5;replace H := Option.bind_eq_some_iff.mp H;obtain ⟨t14002, A60, H⟩ := H;replace H : (if t14002 = 0 then (if (((rd_T60 l0 x4_1).f1.f1).length : Int) = 0 then (some 18) else (if ((rd_T60 l0 x4_1).f0) < 1 then (some 9) else (if ((rd_T60 l0 x4_1).f0) > (wrap64 (20000 - x3_1)) then (some 9) else (sawmillref11_Check.l0 k1 l0 (wrap64 (x3_1 + ((rd_T60 l0 x4_1).f0))) (wrap64 (x4_1 + 1)))))) else (some t14002)) = some r := H;have A6 := Aside0.mk A60;clear A60
       by_cases c7 : t14002 = 0
       ·rw [if_pos c7] at H;have c7b0 : (t14002 == 0) = true := beq_iff_eq.mpr c7;have c7b1 : (t14002 != 0) = false := bne_eq_false_iff_eq.mpr c7;clear c7
        by_cases c8 : (((rd_T60 l0 x4_1).f1.f1).length : Int) = 0
        ·rw [if_pos c8] at H;have c8b0 : ((((rd_T60 l0 x4_1).f1.f1).length : Int) == 0) = true := beq_iff_eq.mpr c8;have c8b1 : ((((rd_T60 l0 x4_1).f1.f1).length : Int) != 0) = false := bne_eq_false_iff_eq.mpr c8;clear c8;obtain rfl := Option.some.inj H;have p14001 : 0 ≤ (x4_1 : Int) := as_;have q14001 : x4_1 < (l0.length : Int) := as_;obtain ⟨ad14001, A14001_2, c14001_2, e14001, hx14001_0, hx14001_1, hx14001_2, hl14001_2, hi14001_2⟩ := at_T60 HR0.out x4_1 p14001 q14001;cases e14001;replace hx14001_0 := bc_ HB hx14001_0;replace hx14001_1 := bc_ HB hx14001_1;replace hx14001_2 := bc_ HB hx14001_2;have HR14001_2 := Aside0.mk hi14001_2;have HC14001_2 := Aside0.mk hl14001_2;clear hi14001_2 hl14001_2;replace p14001 := eq_true p14001;replace q14001 := eq_true q14001;go_wp2_with (first | ((with_reducible refine gate_callee (f := 39) rfl ?_); refine goesL_ (some 23) rfl rfl Try.func39 (by kernel_rfl) rfl #[.agg #[.int .i64 ((rd_T60 l0 x4_1).f1.f0), .slice A14001_2 ((rd_T60 l0 x4_1).f1.f1).length c14001_2]] rfl la_ ?_; (with_reducible refine (sawmillref10_Check.calls k1 ((rd_T60 l0 x4_1).f1.f0) _ _ ((rd_T60 l0 x4_1).f1.f1) t14002 _ ?side1 ?side2 A6.out).mono ?_); (case side1 => exact csC_ ((Kd.C_below HR14001_2.out HB.out))); (case side2 => exact HC14001_2.out); rintro e w9 ⟨rfl, hb⟩; refine ⟨_, rfl, ?_⟩; replace HB := bA_ hb; (try clear hb); have p14003 : 0 ≤ (x4_1 : Int) := as_; have q14003 : x4_1 < (l0.length : Int) := as_; obtain ⟨ad14003, A14003_2, c14003_2, e14003, hx14003_0, hx14003_1, hx14003_2, hl14003_2, hi14003_2⟩ := at_T60 HR0.out x4_1 p14003 q14003; obtain rfl : ad14001 = ad14003 := (by injection e14003); replace hx14003_0 := bc_ HB hx14003_0; replace hx14003_1 := bc_ HB hx14003_1; replace hx14003_2 := bc_ HB hx14003_2; have HR14003_2 := Aside0.mk hi14003_2; have HC14003_2 := Aside0.mk hl14003_2; clear hi14003_2 hl14003_2; replace p14003 := eq_true p14003; replace q14003 := eq_true q14003));go_ret;exact ⟨er_, be_⟩
        ·rw [if_neg c8] at H;have c8b0 : ((((rd_T60 l0 x4_1).f1.f1).length : Int) == 0) = false := beq_eq_false_iff_ne.mpr c8;have c8b1 : ((((rd_T60 l0 x4_1).f1.f1).length : Int) != 0) = true := bne_iff_ne.mpr c8;have c8b2 : ¬ (((rd_T60 l0 x4_1).f1.f1) = []) := fun h_ => c8 (by rw [h_]; rfl)
         by_cases c10 : ((rd_T60 l0 x4_1).f0) < 1
         ·rw [if_pos c10] at H;have c10b0 : decide (((rd_T60 l0 x4_1).f0) < 1) = true := decide_eq_true c10;clear c10;obtain rfl := Option.some.inj H;have p14001 : 0 ≤ (x4_1 : Int) := as_;have q14001 : x4_1 < (l0.length : Int) := as_;obtain ⟨ad14001, A14001_2, c14001_2, e14001, hx14001_0, hx14001_1, hx14001_2, hl14001_2, hi14001_2⟩ := at_T60 HR0.out x4_1 p14001 q14001;cases e14001;replace hx14001_0 := bc_ HB hx14001_0;replace hx14001_1 := bc_ HB hx14001_1;replace hx14001_2 := bc_ HB hx14001_2;have HR14001_2 := Aside0.mk hi14001_2;have HC14001_2 := Aside0.mk hl14001_2;clear hi14001_2 hl14001_2;replace p14001 := eq_true p14001;replace q14001 := eq_true q14001;go_wp2_with (first | ((with_reducible refine gate_callee (f := 39) rfl ?_); refine goesL_ (some 23) rfl rfl Try.func39 (by kernel_rfl) rfl #[.agg #[.int .i64 ((rd_T60 l0 x4_1).f1.f0), .slice A14001_2 ((rd_T60 l0 x4_1).f1.f1).length c14001_2]] rfl la_ ?_; (with_reducible refine (sawmillref10_Check.calls k1 ((rd_T60 l0 x4_1).f1.f0) _ _ ((rd_T60 l0 x4_1).f1.f1) t14002 _ ?side1 ?side2 A6.out).mono ?_); (case side1 => exact csC_ ((Kd.C_below HR14001_2.out HB.out))); (case side2 => exact HC14001_2.out); rintro e w11 ⟨rfl, hb⟩; refine ⟨_, rfl, ?_⟩; replace HB := bA_ hb; (try clear hb); have p14003 : 0 ≤ (x4_1 : Int) := as_; have q14003 : x4_1 < (l0.length : Int) := as_; obtain ⟨ad14003, A14003_2, c14003_2, e14003, hx14003_0, hx14003_1, hx14003_2, hl14003_2, hi14003_2⟩ := at_T60 HR0.out x4_1 p14003 q14003; obtain rfl : ad14001 = ad14003 := (by injection e14003); replace hx14003_0 := bc_ HB hx14003_0; replace hx14003_1 := bc_ HB hx14003_1; replace hx14003_2 := bc_ HB hx14003_2; have HR14003_2 := Aside0.mk hi14003_2; have HC14003_2 := Aside0.mk hl14003_2; clear hi14003_2 hl14003_2; replace p14003 := eq_true p14003; replace q14003 := eq_true q14003; have p14004 : 0 ≤ (x4_1 : Int) := as_; have q14004 : x4_1 < (l0.length : Int) := as_; obtain ⟨ad14004, A14004_2, c14004_2, e14004, hx14004_0, hx14004_1, hx14004_2, hl14004_2, hi14004_2⟩ := at_T60 HR0.out x4_1 p14004 q14004; obtain rfl : ad14001 = ad14004 := (by injection e14004); replace hx14004_0 := bc_ HB hx14004_0; replace hx14004_1 := bc_ HB hx14004_1; replace hx14004_2 := bc_ HB hx14004_2; have HR14004_2 := Aside0.mk hi14004_2; have HC14004_2 := Aside0.mk hl14004_2; clear hi14004_2 hl14004_2; replace p14004 := eq_true p14004; replace q14004 := eq_true q14004; have ea_ := Option.some.inj (hx14003_2.symm.trans hx14004_2); injection ea_ with ea_ en_ ec_; subst ea_; subst ec_; clear en_));go_ret;exact ⟨er_, be_⟩
         ·rw [if_neg c10] at H;have c10b0 : decide (((rd_T60 l0 x4_1).f0) < 1) = false := decide_eq_false c10;clear c10
          by_cases c12 : ((rd_T60 l0 x4_1).f0) > (wrap64 (20000 - x3_1))
          ·rw [if_pos c12] at H;have c12b0 : decide ((wrap64 (20000 - x3_1)) < ((rd_T60 l0 x4_1).f0)) = true := decide_eq_true c12;clear c12;obtain rfl := Option.some.inj H;have p14001 : 0 ≤ (x4_1 : Int) := as_;have q14001 : x4_1 < (l0.length : Int) := as_;obtain ⟨ad14001, A14001_2, c14001_2, e14001, hx14001_0, hx14001_1, hx14001_2, hl14001_2, hi14001_2⟩ := at_T60 HR0.out x4_1 p14001 q14001;cases e14001;replace hx14001_0 := bc_ HB hx14001_0;replace hx14001_1 := bc_ HB hx14001_1;replace hx14001_2 := bc_ HB hx14001_2;have HR14001_2 := Aside0.mk hi14001_2;have HC14001_2 := Aside0.mk hl14001_2;clear hi14001_2 hl14001_2;replace p14001 := eq_true p14001;replace q14001 := eq_true q14001;go_wp2_with (first | ((with_reducible refine gate_callee (f := 39) rfl ?_); refine goesL_ (some 23) rfl rfl Try.func39 (by kernel_rfl) rfl #[.agg #[.int .i64 ((rd_T60 l0 x4_1).f1.f0), .slice A14001_2 ((rd_T60 l0 x4_1).f1.f1).length c14001_2]] rfl la_ ?_; (with_reducible refine (sawmillref10_Check.calls k1 ((rd_T60 l0 x4_1).f1.f0) _ _ ((rd_T60 l0 x4_1).f1.f1) t14002 _ ?side1 ?side2 A6.out).mono ?_); (case side1 => exact csC_ ((Kd.C_below HR14001_2.out HB.out))); (case side2 => exact HC14001_2.out); rintro e w13 ⟨rfl, hb⟩; refine ⟨_, rfl, ?_⟩; replace HB := bA_ hb; (try clear hb); have p14003 : 0 ≤ (x4_1 : Int) := as_; have q14003 : x4_1 < (l0.length : Int) := as_; obtain ⟨ad14003, A14003_2, c14003_2, e14003, hx14003_0, hx14003_1, hx14003_2, hl14003_2, hi14003_2⟩ := at_T60 HR0.out x4_1 p14003 q14003; obtain rfl : ad14001 = ad14003 := (by injection e14003); replace hx14003_0 := bc_ HB hx14003_0; replace hx14003_1 := bc_ HB hx14003_1; replace hx14003_2 := bc_ HB hx14003_2; have HR14003_2 := Aside0.mk hi14003_2; have HC14003_2 := Aside0.mk hl14003_2; clear hi14003_2 hl14003_2; replace p14003 := eq_true p14003; replace q14003 := eq_true q14003; have p14004 : 0 ≤ (x4_1 : Int) := as_; have q14004 : x4_1 < (l0.length : Int) := as_; obtain ⟨ad14004, A14004_2, c14004_2, e14004, hx14004_0, hx14004_1, hx14004_2, hl14004_2, hi14004_2⟩ := at_T60 HR0.out x4_1 p14004 q14004; obtain rfl : ad14001 = ad14004 := (by injection e14004); replace hx14004_0 := bc_ HB hx14004_0; replace hx14004_1 := bc_ HB hx14004_1; replace hx14004_2 := bc_ HB hx14004_2; have HR14004_2 := Aside0.mk hi14004_2; have HC14004_2 := Aside0.mk hl14004_2; clear hi14004_2 hl14004_2; replace p14004 := eq_true p14004; replace q14004 := eq_true q14004; have ea_ := Option.some.inj (hx14003_2.symm.trans hx14004_2); injection ea_ with ea_ en_ ec_; subst ea_; subst ec_; clear en_; have p14005 : 0 ≤ (x4_1 : Int) := as_; have q14005 : x4_1 < (l0.length : Int) := as_; obtain ⟨ad14005, A14005_2, c14005_2, e14005, hx14005_0, hx14005_1, hx14005_2, hl14005_2, hi14005_2⟩ := at_T60 HR0.out x4_1 p14005 q14005; obtain rfl : ad14001 = ad14005 := (by injection e14005); replace hx14005_0 := bc_ HB hx14005_0; replace hx14005_1 := bc_ HB hx14005_1; replace hx14005_2 := bc_ HB hx14005_2; have HR14005_2 := Aside0.mk hi14005_2; have HC14005_2 := Aside0.mk hl14005_2; clear hi14005_2 hl14005_2; replace p14005 := eq_true p14005; replace q14005 := eq_true q14005; have ea_ := Option.some.inj (hx14003_2.symm.trans hx14005_2); injection ea_ with ea_ en_ ec_; subst ea_; subst ec_; clear en_));go_ret;exact ⟨er_, be_⟩
          ·rw [if_neg c12] at H;have c12b0 : decide ((wrap64 (20000 - x3_1)) < ((rd_T60 l0 x4_1).f0)) = false := decide_eq_false c12;clear c12;have H' := Aside0.mk H;clear H;have p14001 : 0 ≤ (x4_1 : Int) := as_;have q14001 : x4_1 < (l0.length : Int) := as_;obtain ⟨ad14001, A14001_2, c14001_2, e14001, hx14001_0, hx14001_1, hx14001_2, hl14001_2, hi14001_2⟩ := at_T60 HR0.out x4_1 p14001 q14001;cases e14001;replace hx14001_0 := bc_ HB hx14001_0;replace hx14001_1 := bc_ HB hx14001_1;replace hx14001_2 := bc_ HB hx14001_2;have HR14001_2 := Aside0.mk hi14001_2;have HC14001_2 := Aside0.mk hl14001_2;clear hi14001_2 hl14001_2;replace p14001 := eq_true p14001;replace q14001 := eq_true q14001;go_wp2_with (first | ((with_reducible refine gate_callee (f := 39) rfl ?_); refine goesL_ (some 23) rfl rfl Try.func39 (by kernel_rfl) rfl #[.agg #[.int .i64 ((rd_T60 l0 x4_1).f1.f0), .slice A14001_2 ((rd_T60 l0 x4_1).f1.f1).length c14001_2]] rfl la_ ?_; (with_reducible refine (sawmillref10_Check.calls k1 ((rd_T60 l0 x4_1).f1.f0) _ _ ((rd_T60 l0 x4_1).f1.f1) t14002 _ ?side1 ?side2 A6.out).mono ?_); (case side1 => exact csC_ ((Kd.C_below HR14001_2.out HB.out))); (case side2 => exact HC14001_2.out); rintro e w14 ⟨rfl, hb⟩; refine ⟨_, rfl, ?_⟩; replace HB := bA_ hb; (try clear hb); have p14003 : 0 ≤ (x4_1 : Int) := as_; have q14003 : x4_1 < (l0.length : Int) := as_; obtain ⟨ad14003, A14003_2, c14003_2, e14003, hx14003_0, hx14003_1, hx14003_2, hl14003_2, hi14003_2⟩ := at_T60 HR0.out x4_1 p14003 q14003; obtain rfl : ad14001 = ad14003 := (by injection e14003); replace hx14003_0 := bc_ HB hx14003_0; replace hx14003_1 := bc_ HB hx14003_1; replace hx14003_2 := bc_ HB hx14003_2; have HR14003_2 := Aside0.mk hi14003_2; have HC14003_2 := Aside0.mk hl14003_2; clear hi14003_2 hl14003_2; replace p14003 := eq_true p14003; replace q14003 := eq_true q14003; have p14004 : 0 ≤ (x4_1 : Int) := as_; have q14004 : x4_1 < (l0.length : Int) := as_; obtain ⟨ad14004, A14004_2, c14004_2, e14004, hx14004_0, hx14004_1, hx14004_2, hl14004_2, hi14004_2⟩ := at_T60 HR0.out x4_1 p14004 q14004; obtain rfl : ad14001 = ad14004 := (by injection e14004); replace hx14004_0 := bc_ HB hx14004_0; replace hx14004_1 := bc_ HB hx14004_1; replace hx14004_2 := bc_ HB hx14004_2; have HR14004_2 := Aside0.mk hi14004_2; have HC14004_2 := Aside0.mk hl14004_2; clear hi14004_2 hl14004_2; replace p14004 := eq_true p14004; replace q14004 := eq_true q14004; have ea_ := Option.some.inj (hx14003_2.symm.trans hx14004_2); injection ea_ with ea_ en_ ec_; subst ea_; subst ec_; clear en_; have p14005 : 0 ≤ (x4_1 : Int) := as_; have q14005 : x4_1 < (l0.length : Int) := as_; obtain ⟨ad14005, A14005_2, c14005_2, e14005, hx14005_0, hx14005_1, hx14005_2, hl14005_2, hi14005_2⟩ := at_T60 HR0.out x4_1 p14005 q14005; obtain rfl : ad14001 = ad14005 := (by injection e14005); replace hx14005_0 := bc_ HB hx14005_0; replace hx14005_1 := bc_ HB hx14005_1; replace hx14005_2 := bc_ HB hx14005_2; have HR14005_2 := Aside0.mk hi14005_2; have HC14005_2 := Aside0.mk hl14005_2; clear hi14005_2 hl14005_2; replace p14005 := eq_true p14005; replace q14005 := eq_true q14005; have ea_ := Option.some.inj (hx14003_2.symm.trans hx14005_2); injection ea_ with ea_ en_ ec_; subst ea_; subst ec_; clear en_; have p14006 : 0 ≤ (x4_1 : Int) := as_; have q14006 : x4_1 < (l0.length : Int) := as_; obtain ⟨ad14006, A14006_2, c14006_2, e14006, hx14006_0, hx14006_1, hx14006_2, hl14006_2, hi14006_2⟩ := at_T60 HR0.out x4_1 p14006 q14006; obtain rfl : ad14001 = ad14006 := (by injection e14006); replace hx14006_0 := bc_ HB hx14006_0; replace hx14006_1 := bc_ HB hx14006_1; replace hx14006_2 := bc_ HB hx14006_2; have HR14006_2 := Aside0.mk hi14006_2; have HC14006_2 := Aside0.mk hl14006_2; clear hi14006_2 hl14006_2; replace p14006 := eq_true p14006; replace q14006 := eq_true q14006; have ea_ := Option.some.inj (hx14003_2.symm.trans hx14006_2); injection ea_ with ea_ en_ ec_; subst ea_; subst ec_; clear en_))
           go_roundg k1
           case measure => have := HK1.out; omega
           case rel => exact ⟨(wrap64 (x3_1 + ((rd_T60 l0 x4_1).f0))), (wrap64 (x4_1 + 1)), rs_, rs_, H', ⟨by have := HK1.out; omega⟩, ⟨be_⟩⟩
       ·rw [if_neg c7] at H;have c7b0 : (t14002 == 0) = false := beq_eq_false_iff_ne.mpr c7;have c7b1 : (t14002 != 0) = true := bne_iff_ne.mpr c7;obtain rfl := Option.some.inj H;have p14001 : 0 ≤ (x4_1 : Int) := as_;have q14001 : x4_1 < (l0.length : Int) := as_;obtain ⟨ad14001, A14001_2, c14001_2, e14001, hx14001_0, hx14001_1, hx14001_2, hl14001_2, hi14001_2⟩ := at_T60 HR0.out x4_1 p14001 q14001;cases e14001;replace hx14001_0 := bc_ HB hx14001_0;replace hx14001_1 := bc_ HB hx14001_1;replace hx14001_2 := bc_ HB hx14001_2;have HR14001_2 := Aside0.mk hi14001_2;have HC14001_2 := Aside0.mk hl14001_2;clear hi14001_2 hl14001_2;replace p14001 := eq_true p14001;replace q14001 := eq_true q14001;go_wp2_with (first | ((with_reducible refine gate_callee (f := 39) rfl ?_); refine goesL_ (some 23) rfl rfl Try.func39 (by kernel_rfl) rfl #[.agg #[.int .i64 ((rd_T60 l0 x4_1).f1.f0), .slice A14001_2 ((rd_T60 l0 x4_1).f1.f1).length c14001_2]] rfl la_ ?_; (with_reducible refine (sawmillref10_Check.calls k1 ((rd_T60 l0 x4_1).f1.f0) _ _ ((rd_T60 l0 x4_1).f1.f1) t14002 _ ?side1 ?side2 A6.out).mono ?_); (case side1 => exact csC_ ((Kd.C_below HR14001_2.out HB.out))); (case side2 => exact HC14001_2.out); rintro e w15 ⟨rfl, hb⟩; refine ⟨_, rfl, ?_⟩; replace HB := bA_ hb; (try clear hb)));go_ret;exact ⟨er_, be_⟩
      ·rw [if_neg c5] at H;exact absurd H (by simp)
     ·rw [if_neg c4] at H;have c4b0 : decide (x4_1 < (l0.length : Int)) = false := decide_eq_false c4;clear c4;obtain rfl := Option.some.inj H;go_wp2;go_ret;exact ⟨er_, be_⟩

end Go.Proofs.Ytboegckbilnldaa.P

end
section
namespace Go.Proofs.Ytboegckbilnldaa.P
open Go Go.RowKit Go.Proofs.YtboegckbilnldaaW.PrintWords Go.Proofs.YtboegckbilnldaaW.PrintLast Go.Proofs.YtboegckbilnldaaW.PrintMore
attribute [local go_sem] max2_int min2_int max_two min_two max_three min_three max_four min_four max_five min_eight max_eight   -- for this text's walks alone
set_option linter.unusedVariables false
set_option linter.unusedSimpArgs false

def sawmillref11_Length.l0 : Nat → List (S60) → Int → Int → Option (Int)
 | 0, _, _, _ => none
 | k + 1, x0, x3, x4 => if x4 < (x0.length : Int) then (if 0 ≤ x4 then (sawmillref11_Length.l0 k x0 (wrap64 (x3 + ((rd_T60 x0 x4).f0))) (wrap64 (x4 + 1))) else (none)) else (some x3)
def sawmillref11_Length.f (k : Nat) (l0 : List (S60)) : Option (Int) := (sawmillref11_Check.f k l0).bind fun t16001 => (if t16001 = 0 then (sawmillref11_Length.l0 k l0 0 0) else (some 0))
theorem sawmillref11_Length.mono_l : ∀ k, (∀ y0 y1 y2, LeO (sawmillref11_Length.l0 k y0 y1 y2) (sawmillref11_Length.l0 (k + 1) y0 y1 y2))
 | 0 => fun _ _ _ r h => by simp [sawmillref11_Length.l0] at h
 | k + 1 => by
  have ih0 := sawmillref11_Length.mono_l k
  ·intro y0 y1 y2;unfold sawmillref11_Length.l0
   repeat' first
   | (with_reducible exact ih0 _ _ _)
   | (with_reducible exact sawmillref11_Check.mono _ _)
   | (with_reducible exact LeO.refl _)
   | (with_reducible exact LeO.none _)
   | (with_reducible refine LeO.ite ?_ ?_)
   | (with_reducible refine LeO.bind ?_ (fun _ => ?_))
   | exact ih0 _ _ _
   | exact sawmillref11_Check.mono _ _
   | exact LeO.none _
   | refine LeO.ite ?_ ?_
   | refine LeO.bind ?_ (fun _ => ?_)
theorem sawmillref11_Length.mono : ∀ a0 k, LeO (sawmillref11_Length.f k a0) (sawmillref11_Length.f (k + 1) a0) := by
 intro a0 k;have ih0 := sawmillref11_Length.mono_l k;unfold sawmillref11_Length.f
 repeat' first
   | (with_reducible exact ih0 _ _ _)
   | (with_reducible exact sawmillref11_Check.mono _ _)
   | (with_reducible exact LeO.refl _)
   | (with_reducible exact LeO.none _)
   | (with_reducible refine LeO.ite ?_ ?_)
   | (with_reducible refine LeO.bind ?_ (fun _ => ?_))
   | exact ih0 _ _ _
   | exact sawmillref11_Check.mono _ _
   | exact LeO.none _
   | refine LeO.ite ?_ ?_
   | refine LeO.bind ?_ (fun _ => ?_)
set_option maxHeartbeats 8000000 in
set_option maxRecDepth 100000 in
theorem sawmillref11_Length.calls (k : Nat) (A0 : Option Addr) (c0 : Nat) (l0 : List (S60)) (r : Int) (w : World) (hr0 : Kd.C k60 w A0 l0.length l0) (hc0 : l0.length ≤ c0) (h : sawmillref11_Length.f k l0 = some r) :
  Calls Try.prog 16 #[.slice A0 l0.length c0] w fun e w' => e = .returned (.int .i64 r) ∧ Below w.heap.size w w' := by
 have HR0 := Aside0.mk hr0;have HC0 := Aside0.mk hc0;clear hr0 hc0;have HB := A_ (Below.refl w.heap.size w);have H : ((sawmillref11_Check.f k l0).bind fun t16001 => (if t16001 = 0 then (sawmillref11_Length.l0 k l0 0 0) else (some 0))) = some r := h;clear h;replace H := Option.bind_eq_some_iff.mp H;obtain ⟨t16001, A20, H⟩ := H;replace H : (if t16001 = 0 then (sawmillref11_Length.l0 k l0 0 0) else (some 0)) = some r := H;have A2 := Aside0.mk A20;clear A20
 by_cases c3 : t16001 = 0
 ·rw [if_pos c3] at H;have c3b0 : (t16001 == 0) = true := beq_iff_eq.mpr c3;have c3b1 : (t16001 != 0) = false := bne_eq_false_iff_eq.mpr c3;clear c3;have H' := Aside0.mk H;clear H;go_enter Try.func16, Try.ntmps16;go_wp2_with (first | ((with_reducible refine gate_callee (f := 14) rfl ?_); refine goesL_ (some 6) rfl rfl Try.func14 (by kernel_rfl) rfl #[.slice A0 l0.length c0] rfl la_ ?_; (with_reducible refine (sawmillref11_Check.calls k _ _ l0 t16001 _ ?side1 ?side2 A2.out).mono ?_); (case side1 => exact csC_ HR0.out); (case side2 => exact HC0.out); rintro e w4 ⟨rfl, hb⟩; refine ⟨_, rfl, ?_⟩; replace HB := bA_ hb; (try clear hb)))
  go_loopg [3, 4] k (fun kq v3 v4 w' => ∃ (x3_1 : Int) (x4_1 : Int), v3 = .int .i64 x3_1 ∧ v4 = .int .i64 x4_1 ∧ Aside0 (sawmillref11_Length.l0 kq l0 x3_1 x4_1 = some r) ∧ Aside0 (kq ≤ k) ∧ Aside0 (Below w.heap.size w w'))
  case atStart => exact ⟨(0), (0), rs_, rs_, H', ⟨Nat.le_refl _⟩, ⟨be_⟩⟩
  case round =>
   clear H';(try clear c1);(try clear p2);(try clear c3);(try clear c3b0);(try clear c3b1);obtain ⟨x3_1, x4_1, rfl, rfl, HA, HK1, HB⟩ := hrel;cases gk with
   | zero => exact absurd HA.out (by simp [sawmillref11_Length.l0])
   | succ k1 =>
    have H := HA.out;clear HA;simp only [sawmillref11_Length.l0] at H
    by_cases c5 : x4_1 < (l0.length : Int)
    ·rw [if_pos c5] at H;have c5b0 : decide (x4_1 < (l0.length : Int)) = true := decide_eq_true c5;clear c5
     by_cases c6 : 0 ≤ x4_1
     ·rw [if_pos c6] at H;have c6b0 : decide (0 ≤ x4_1) = true := decide_eq_true c6;clear c6;have H' := Aside0.mk H;clear H;have p16002 : 0 ≤ (x4_1 : Int) := as_;have q16002 : x4_1 < (l0.length : Int) := as_;obtain ⟨ad16002, A16002_2, c16002_2, e16002, hx16002_0, hx16002_1, hx16002_2, hl16002_2, hi16002_2⟩ := at_T60 HR0.out x4_1 p16002 q16002;cases e16002;replace hx16002_0 := bc_ HB hx16002_0;replace hx16002_1 := bc_ HB hx16002_1;replace hx16002_2 := bc_ HB hx16002_2;have HR16002_2 := Aside0.mk hi16002_2;have HC16002_2 := Aside0.mk hl16002_2;clear hi16002_2 hl16002_2;replace p16002 := eq_true p16002;replace q16002 := eq_true q16002;go_wp2
      go_roundg k1
      case measure => have := HK1.out; omega
      case rel => exact ⟨(wrap64 (x3_1 + ((rd_T60 l0 x4_1).f0))), (wrap64 (x4_1 + 1)), rs_, rs_, H', ⟨by have := HK1.out; omega⟩, ⟨be_⟩⟩
     ·rw [if_neg c6] at H;exact absurd H (by simp)
    ·rw [if_neg c5] at H;have c5b0 : decide (x4_1 < (l0.length : Int)) = false := decide_eq_false c5;clear c5;obtain rfl := Option.some.inj H;go_wp2;go_ret;exact ⟨er_, be_⟩
 ·rw [if_neg c3] at H;have c3b0 : (t16001 == 0) = false := beq_eq_false_iff_ne.mpr c3;have c3b1 : (t16001 != 0) = true := bne_iff_ne.mpr c3;obtain rfl := Option.some.inj H;go_enter Try.func16, Try.ntmps16;go_wp2_with (first | ((with_reducible refine gate_callee (f := 14) rfl ?_); refine goesL_ (some 6) rfl rfl Try.func14 (by kernel_rfl) rfl #[.slice A0 l0.length c0] rfl la_ ?_; (with_reducible refine (sawmillref11_Check.calls k _ _ l0 t16001 _ ?side1 ?side2 A2.out).mono ?_); (case side1 => exact csC_ HR0.out); (case side2 => exact HC0.out); rintro e w7 ⟨rfl, hb⟩; refine ⟨_, rfl, ?_⟩; replace HB := bA_ hb; (try clear hb)));go_ret;exact ⟨er_, be_⟩

end Go.Proofs.Ytboegckbilnldaa.P

end
section
namespace Go.Proofs.Ytboegckbilnldaa.P
open Go Go.RowKit Go.Proofs.YtboegckbilnldaaW.PrintWords Go.Proofs.YtboegckbilnldaaW.PrintLast Go.Proofs.YtboegckbilnldaaW.PrintMore
attribute [local go_sem] max2_int min2_int max_two min_two max_three min_three max_four min_four max_five min_eight max_eight   -- for this text's walks alone
set_option linter.unusedVariables false
set_option linter.unusedSimpArgs false

def sawmillref10_Valid.f (k : Nat) (a0_0 : Int) (l0_1 : List (S29)) : Option (Int × (List (S29))) := (sawmillref10_Check.f k a0_0 l0_1).bind fun t60003 => (if t60003 = 0 then (some (a0_0, l0_1)) else (some (0, ([] : List (S29)))))
theorem sawmillref10_Valid.mono : ∀ a0 a1 k, LeO (sawmillref10_Valid.f k a0 a1) (sawmillref10_Valid.f (k + 1) a0 a1) := by
 intro a0 a1 k;unfold sawmillref10_Valid.f
 repeat' first
   | (with_reducible exact sawmillref10_Check.mono _ _ _)
   | (with_reducible exact LeO.refl _)
   | (with_reducible exact LeO.none _)
   | (with_reducible refine LeO.ite ?_ ?_)
   | (with_reducible refine LeO.bind ?_ (fun _ => ?_))
   | exact sawmillref10_Check.mono _ _ _
   | exact LeO.none _
   | refine LeO.ite ?_ ?_
   | refine LeO.bind ?_ (fun _ => ?_)
set_option maxHeartbeats 8000000 in
set_option maxRecDepth 100000 in
theorem sawmillref10_Valid.calls (k : Nat) (a0_0 : Int) (P0_1_ : Nat → Prop) (A0_1 : Option Addr) (c0_1 : Nat) (l0_1 : List (S29)) (r1 : Int) (r2 : List (S29)) (w : World) (hs0_1 : Kd.V k29 29 w w.heap.size (fun k_ => P0_1_ k_) (.slice A0_1 l0_1.length c0_1) l0_1) (h : sawmillref10_Valid.f k a0_0 l0_1 = some (r1, r2)) :
  Calls Try.prog 60 #[.agg #[.int .i64 a0_0, .slice A0_1 l0_1.length c0_1]] w fun e w' => ∃ v1_ : Value, e = .returned (.agg #[.int .i64 r1, v1_]) ∧ Kd.V k29 29 w' w.heap.size (fun k_ => (P0_1_ k_ ∨ w.heap.size ≤ k_)) v1_ r2 ∧ Below w.heap.size w w' := by
 have hu36 := Try.underlying36;have HO0_1 := A_ (show Kd.V k29 29 w w.heap.size (fun k_ => (P0_1_ k_ ∨ w.heap.size ≤ k_)) (.slice A0_1 l0_1.length c0_1) l0_1 from Kd.V_mono hs0_1 (fun k_ hk => .inl hk));have HB := A_ (Below.refl w.heap.size w);have H : ((sawmillref10_Check.f k a0_0 l0_1).bind fun t60003 => (if t60003 = 0 then (some (a0_0, l0_1)) else (some (0, ([] : List (S29)))))) = some (r1, r2) := h;clear h;replace H := Option.bind_eq_some_iff.mp H;obtain ⟨t60003, A20, H⟩ := H;replace H : (if t60003 = 0 then (some (a0_0, l0_1)) else (some (0, ([] : List (S29))))) = some (r1, r2) := H;have A2 := Aside0.mk A20;clear A20
 by_cases c3 : t60003 = 0
 ·rw [if_pos c3] at H;have c3b0 : (t60003 == 0) = true := beq_iff_eq.mpr c3;have c3b1 : (t60003 != 0) = false := bne_eq_false_iff_eq.mpr c3;clear c3;simp only [Option.some.injEq, Prod.mk.injEq] at H;obtain ⟨rfl, rfl⟩ := H;go_enter Try.func60, Try.ntmps60;go_wp2_with (first | ((with_reducible refine gate_dst (N := 1) rfl ?_); refine bx_ 1 (cs := #[.int .i64 a0_0, .slice A0_1 l0_1.length c0_1]) (t := 36) ?_; intro gb60001 hg w4 hbox hb; replace HO0_1 := A_ (Kd.V_below (Kd.V_elderB (fV_ HO0_1.out) gb60001 (Nat.le_of_eq hg.symm)) hb); have BK60001 := A_ hbox; have GW60001 := gz_ (w := w) hg; have GE60001 := gz_ (w := w) hg; replace HB := bA_ hb; clear hb hbox hg) | ((with_reducible refine gate_dst (N := 2) rfl ?_); refine bx_ 2 (cs := #[.int .i64 0, .slice none 0 0]) (t := 36) ?_; intro gb60002 hg w5 hbox hb; replace HO0_1 := A_ (Kd.V_below (Kd.V_elderB (fV_ HO0_1.out) gb60002 (Nat.le_of_eq hg.symm)) hb); have BK60002 := A_ hbox; have GW60002 := gz_ (w := w) hg; have GE60002 := gz_ (w := w) hg; replace HB := bA_ hb; have NB60001_60002 := nlt_ BK60001 hg; have NB60002_60001 := ngt_ BK60001 hg; replace BK60001 := bb_ BK60001 hb; clear hb hbox hg; have hnb6 := NB60001_60002.out; have hnc6 := NB60002_60001.out; have hcz7_0 := cz0_ BK60001; have hcz7_1 := cz1_ BK60001; have hfz7_0 := fz_ BK60001 0; have hfz7_1 := fz_ BK60001 1) | ((with_reducible refine gate_callee (f := 39) rfl ?_); refine goesL_ (some 4) rfl rfl Try.func39 (by kernel_rfl) rfl #[.agg #[.int .i64 a0_0, .slice A0_1 l0_1.length c0_1]] rfl la_ ?_; (with_reducible refine (sawmillref10_Check.calls k a0_0 _ _ l0_1 t60003 _ ?side1 ?side2 A2.out).mono ?_); (case side1 => exact csC_ ((Kd.V_reads' HO0_1.out).2.2)); (case side2 => exact (Kd.V_reads' HO0_1.out).2.1); rintro e w8 ⟨rfl, hb⟩; refine ⟨_, rfl, ?_⟩; replace HO0_1 := kV_ HO0_1 hb; replace BK60001 := bb_ BK60001 hb; replace BK60002 := bb_ BK60002 hb; replace HB := bA_ hb; (try clear hb); (try clear hk); have hcz9_0 := cz0_ BK60001; have hcz9_1 := cz1_ BK60001; have hfz9_0 := fz_ BK60001 0; have hfz9_1 := fz_ BK60001 1; have hcz10_0 := cz0_ BK60002; have hcz10_1 := cz1_ BK60002; have hfz10_0 := fz_ BK60002 0; have hfz10_1 := fz_ BK60002 1));refine bodyPost_ret (results_cell_row rfl _ _ gb60002 36 #[.int .i64 a0_0, .slice A0_1 l0_1.length c0_1] (0, 0) _ rfl (ch_ BK60002) Try.underlying36 rfl (by kernel_rfl)) rfl ?_;exact ⟨_, er_, by (with_reducible repeat (first | apply Kd.V_alloc | apply Kd.V_drewN | apply Kd.V_drew)); exact Kd.V_mono (Kd.V_far (p := ⟨gb60002, 1, none⟩) (Kd.V_far (p := ⟨gb60002, 0, none⟩) (Kd.V_mono HO0_1.out (fun k_ hk => (⟨hk, hk.2⟩ : _ ∧ k_ ≠ gb60002))) (fun _ hk => hk.2) (.int .i64 a0_0)) (fun _ hk => hk.2) (.slice A0_1 l0_1.length c0_1)) (fun _ hk => hk.1.1.1), be_⟩
 ·rw [if_neg c3] at H;have c3b0 : (t60003 == 0) = false := beq_eq_false_iff_ne.mpr c3;have c3b1 : (t60003 != 0) = true := bne_iff_ne.mpr c3;simp only [Option.some.injEq, Prod.mk.injEq] at H;obtain ⟨rfl, rfl⟩ := H;go_enter Try.func60, Try.ntmps60;go_wp2_with (first | ((with_reducible refine gate_dst (N := 1) rfl ?_); refine bx_ 1 (cs := #[.int .i64 a0_0, .slice A0_1 l0_1.length c0_1]) (t := 36) ?_; intro gb60001 hg w11 hbox hb; replace HO0_1 := A_ (Kd.V_below (Kd.V_elderB (fV_ HO0_1.out) gb60001 (Nat.le_of_eq hg.symm)) hb); have BK60001 := A_ hbox; have GW60001 := gz_ (w := w) hg; have GE60001 := gz_ (w := w) hg; replace HB := bA_ hb; clear hb hbox hg) | ((with_reducible refine gate_dst (N := 2) rfl ?_); refine bx_ 2 (cs := #[.int .i64 0, .slice none 0 0]) (t := 36) ?_; intro gb60002 hg w12 hbox hb; replace HO0_1 := A_ (Kd.V_below (Kd.V_elderB (fV_ HO0_1.out) gb60002 (Nat.le_of_eq hg.symm)) hb); have BK60002 := A_ hbox; have GW60002 := gz_ (w := w) hg; have GE60002 := gz_ (w := w) hg; replace HB := bA_ hb; have NB60001_60002 := nlt_ BK60001 hg; have NB60002_60001 := ngt_ BK60001 hg; replace BK60001 := bb_ BK60001 hb; clear hb hbox hg; have hnb13 := NB60001_60002.out; have hnc13 := NB60002_60001.out; have hcz14_0 := cz0_ BK60001; have hcz14_1 := cz1_ BK60001; have hfz14_0 := fz_ BK60001 0; have hfz14_1 := fz_ BK60001 1) | ((with_reducible refine gate_callee (f := 39) rfl ?_); refine goesL_ (some 4) rfl rfl Try.func39 (by kernel_rfl) rfl #[.agg #[.int .i64 a0_0, .slice A0_1 l0_1.length c0_1]] rfl la_ ?_; (with_reducible refine (sawmillref10_Check.calls k a0_0 _ _ l0_1 t60003 _ ?side1 ?side2 A2.out).mono ?_); (case side1 => exact csC_ ((Kd.V_reads' HO0_1.out).2.2)); (case side2 => exact (Kd.V_reads' HO0_1.out).2.1); rintro e w15 ⟨rfl, hb⟩; refine ⟨_, rfl, ?_⟩; replace HO0_1 := kV_ HO0_1 hb; replace BK60001 := bb_ BK60001 hb; replace BK60002 := bb_ BK60002 hb; replace HB := bA_ hb; (try clear hb); (try clear hk); have hcz16_0 := cz0_ BK60002; have hcz16_1 := cz1_ BK60002; have hfz16_0 := fz_ BK60002 0; have hfz16_1 := fz_ BK60002 1));refine bodyPost_ret (results_cell_row rfl _ _ gb60002 36 #[.int .i64 0, .slice none 0 0] (0, 0) _ rfl (ch_ BK60002) Try.underlying36 rfl (by kernel_rfl)) rfl ?_;exact ⟨_, er_, Kd.V_nil _ _ _ _ _, be_⟩

end Go.Proofs.Ytboegckbilnldaa.P

end
section
namespace Go.Proofs.Ytboegckbilnldaa.P
open Go Go.RowKit Go.Proofs.YtboegckbilnldaaW.PrintWords Go.Proofs.YtboegckbilnldaaW.PrintLast Go.Proofs.YtboegckbilnldaaW.PrintMore
attribute [local go_sem] max2_int min2_int max_two min_two max_three min_three max_four min_four max_five min_eight max_eight   -- for this text's walks alone
set_option linter.unusedVariables false
set_option linter.unusedSimpArgs false

def sawmillref10_Area.l0 : Nat → Int → Int → Int → List (S29) → Option (Int)
 | 0, _, _, _, _ => none
 | k + 1, x3, x4, x43002000, x43002001 => if x4 < (x43002001.length : Int) then (if 0 ≤ x4 then (sawmillref10_Area.l0 k (wrap64 (x3 + (wrap64 (10 * (wrap64 (((rd_T29 x43002001 x4).f1) - ((rd_T29 x43002001 x4).f0))))))) (wrap64 (x4 + 1)) x43002000 x43002001) else (none)) else (some x3)
def sawmillref10_Area.f (k : Nat) (a0_0 : Int) (l0_1 : List (S29)) : Option (Int) := (sawmillref10_Valid.f k a0_0 l0_1).bind fun bt43002 => (sawmillref10_Area.l0 k 0 0 bt43002.1 bt43002.2)
theorem sawmillref10_Area.mono_l : ∀ k, (∀ y0 y1 y2 y3, LeO (sawmillref10_Area.l0 k y0 y1 y2 y3) (sawmillref10_Area.l0 (k + 1) y0 y1 y2 y3))
 | 0 => fun _ _ _ _ r h => by simp [sawmillref10_Area.l0] at h
 | k + 1 => by
  have ih0 := sawmillref10_Area.mono_l k
  ·intro y0 y1 y2 y3;unfold sawmillref10_Area.l0
   repeat' first
   | (with_reducible exact ih0 _ _ _ _)
   | (with_reducible exact sawmillref10_Valid.mono _ _ _)
   | (with_reducible exact LeO.refl _)
   | (with_reducible exact LeO.none _)
   | (with_reducible refine LeO.ite ?_ ?_)
   | (with_reducible refine LeO.bind ?_ (fun _ => ?_))
   | exact ih0 _ _ _ _
   | exact sawmillref10_Valid.mono _ _ _
   | exact LeO.none _
   | refine LeO.ite ?_ ?_
   | refine LeO.bind ?_ (fun _ => ?_)
theorem sawmillref10_Area.mono : ∀ a0 a1 k, LeO (sawmillref10_Area.f k a0 a1) (sawmillref10_Area.f (k + 1) a0 a1) := by
 intro a0 a1 k;have ih0 := sawmillref10_Area.mono_l k;unfold sawmillref10_Area.f
 repeat' first
   | (with_reducible exact ih0 _ _ _ _)
   | (with_reducible exact sawmillref10_Valid.mono _ _ _)
   | (with_reducible exact LeO.refl _)
   | (with_reducible exact LeO.none _)
   | (with_reducible refine LeO.ite ?_ ?_)
   | (with_reducible refine LeO.bind ?_ (fun _ => ?_))
   | exact ih0 _ _ _ _
   | exact sawmillref10_Valid.mono _ _ _
   | exact LeO.none _
   | refine LeO.ite ?_ ?_
   | refine LeO.bind ?_ (fun _ => ?_)
set_option maxHeartbeats 8000000 in
set_option maxRecDepth 100000 in
theorem sawmillref10_Area.calls (k : Nat) (a0_0 : Int) (A0_1 : Option Addr) (c0_1 : Nat) (l0_1 : List (S29)) (r : Int) (w : World) (hr0_1 : Kd.C k29 w A0_1 l0_1.length l0_1) (hc0_1 : l0_1.length ≤ c0_1) (h : sawmillref10_Area.f k a0_0 l0_1 = some r) :
  Calls Try.prog 43 #[.agg #[.int .i64 a0_0, .slice A0_1 l0_1.length c0_1]] w fun e w' => e = .returned (.int .i64 r) ∧ Below w.heap.size w w' := by
 have hu36 := Try.underlying36;have HR0_1 := Aside0.mk hr0_1;have HC0_1 := Aside0.mk hc0_1;clear hr0_1 hc0_1;have HB := A_ (Below.refl w.heap.size w);have H : ((sawmillref10_Valid.f k a0_0 l0_1).bind fun bt43002 => (sawmillref10_Area.l0 k 0 0 bt43002.1 bt43002.2)) = some r := h;clear h;replace H := Option.bind_eq_some_iff.mp H;obtain ⟨⟨t43002, t43003⟩, A20, H⟩ := H;replace H : (sawmillref10_Area.l0 k 0 0 t43002 t43003) = some r := H;have A2 := Aside0.mk A20;clear A20;have H' := Aside0.mk H;clear H;go_enter Try.func43, Try.ntmps43;go_wp2_with (first | ((with_reducible refine gate_dst (N := 1) rfl ?_); refine bx_ 1 (cs := #[.int .i64 a0_0, .slice A0_1 l0_1.length c0_1]) (t := 36) ?_; intro gb43001 hg w3 hbox hb; have BK43001 := A_ hbox; have GW43001 := gz_ (w := w) hg; have GE43001 := gz_ (w := w) hg; replace HB := bA_ hb; clear hb hbox hg; have hcz4_0 := cz0_ BK43001; have hcz4_1 := cz1_ BK43001; have hfz4_0 := fz_ BK43001 0; have hfz4_1 := fz_ BK43001 1) | (go_at_call 60; (with_reducible refine (sawmillref10_Valid.calls k a0_0 (fun k_ => k_ < w.heap.size) _ _ l0_1 t43002 t43003 _ ?side1 A2.out).mono ?_); (case side1 => exact Kd.V_mk HC0_1.out (Kd.F_below (Kd.C_F k29_heap HR0_1.out) be_)); rintro e w5 ⟨v43004, rfl, ho0, hb⟩; have HO43005 := A_ (Kd.V_lower (Kd.V_mono (ok' := fun k_ => k_ ≠ gb43001) ho0 (fun k_ hk_ => Or.elim hk_ (fun hs_ => fun e_ => Nat.not_le.2 hs_ (by rw [e_]; exact GW43001.out)) (fun hn_ => (Kd.freshB (g := gb43001) (o := .cells #[.int .i64 a0_0, .slice A0_1 l0_1.length c0_1] 36 (0, 0)) (fb_ BK43001.out) k_ hn_)))) bz_); replace BK43001 := bb_ BK43001 hb; replace HB := bA_ hb; (try clear hb); (try clear hk); (try clear ho0); have hcz6_0 := cz0_ BK43001; have hcz6_1 := cz1_ BK43001; have hfz6_0 := fz_ BK43001 0; have hfz6_1 := fz_ BK43001 1; obtain ⟨Ao7, co7, eo7⟩ := Kd.V_slice HO43005.out; subst eo7))
 repeat (go_quiet (first | ((with_reducible refine gate_dst (N := 1) rfl ?_); refine bx_ 1 (cs := #[.int .i64 a0_0, .slice A0_1 l0_1.length c0_1]) (t := 36) ?_; intro gb43001 hg w3 hbox hb; have BK43001 := A_ hbox; have GW43001 := gz_ (w := w) hg; have GE43001 := gz_ (w := w) hg; replace HB := bA_ hb; clear hb hbox hg; have hcz4_0 := cz0_ BK43001; have hcz4_1 := cz1_ BK43001; have hfz4_0 := fz_ BK43001 0; have hfz4_1 := fz_ BK43001 1) | (go_at_call 60; (with_reducible refine (sawmillref10_Valid.calls k a0_0 (fun k_ => k_ < w.heap.size) _ _ l0_1 t43002 t43003 _ ?side1 A2.out).mono ?_); (case side1 => exact Kd.V_mk HC0_1.out (Kd.F_below (Kd.C_F k29_heap HR0_1.out) be_)); rintro e w5 ⟨v43004, rfl, ho0, hb⟩; have HO43005 := A_ (Kd.V_lower (Kd.V_mono (ok' := fun k_ => k_ ≠ gb43001) ho0 (fun k_ hk_ => Or.elim hk_ (fun hs_ => fun e_ => Nat.not_le.2 hs_ (by rw [e_]; exact GW43001.out)) (fun hn_ => (Kd.freshB (g := gb43001) (o := .cells #[.int .i64 a0_0, .slice A0_1 l0_1.length c0_1] 36 (0, 0)) (fb_ BK43001.out) k_ hn_)))) bz_); replace BK43001 := bb_ BK43001 hb; replace HB := bA_ hb; (try clear hb); (try clear hk); (try clear ho0); have hcz6_0 := cz0_ BK43001; have hcz6_1 := cz1_ BK43001; have hfz6_0 := fz_ BK43001 0; have hfz6_1 := fz_ BK43001 1; obtain ⟨Ao7, co7, eo7⟩ := Kd.V_slice HO43005.out; subst eo7)); try go_wp2_with (first | ((with_reducible refine gate_dst (N := 1) rfl ?_); refine bx_ 1 (cs := #[.int .i64 a0_0, .slice A0_1 l0_1.length c0_1]) (t := 36) ?_; intro gb43001 hg w3 hbox hb; have BK43001 := A_ hbox; have GW43001 := gz_ (w := w) hg; have GE43001 := gz_ (w := w) hg; replace HB := bA_ hb; clear hb hbox hg; have hcz4_0 := cz0_ BK43001; have hcz4_1 := cz1_ BK43001; have hfz4_0 := fz_ BK43001 0; have hfz4_1 := fz_ BK43001 1) | (go_at_call 60; (with_reducible refine (sawmillref10_Valid.calls k a0_0 (fun k_ => k_ < w.heap.size) _ _ l0_1 t43002 t43003 _ ?side1 A2.out).mono ?_); (case side1 => exact Kd.V_mk HC0_1.out (Kd.F_below (Kd.C_F k29_heap HR0_1.out) be_)); rintro e w5 ⟨v43004, rfl, ho0, hb⟩; have HO43005 := A_ (Kd.V_lower (Kd.V_mono (ok' := fun k_ => k_ ≠ gb43001) ho0 (fun k_ hk_ => Or.elim hk_ (fun hs_ => fun e_ => Nat.not_le.2 hs_ (by rw [e_]; exact GW43001.out)) (fun hn_ => (Kd.freshB (g := gb43001) (o := .cells #[.int .i64 a0_0, .slice A0_1 l0_1.length c0_1] 36 (0, 0)) (fb_ BK43001.out) k_ hn_)))) bz_); replace BK43001 := bb_ BK43001 hb; replace HB := bA_ hb; (try clear hb); (try clear hk); (try clear ho0); have hcz6_0 := cz0_ BK43001; have hcz6_1 := cz1_ BK43001; have hfz6_0 := fz_ BK43001 0; have hfz6_1 := fz_ BK43001 1; obtain ⟨Ao7, co7, eo7⟩ := Kd.V_slice HO43005.out; subst eo7)))
 go_loopg [3, 4] k (fun kq v3 v4 w' => ∃ (x3_1 : Int) (x4_1 : Int), v3 = .int .i64 x3_1 ∧ v4 = .int .i64 x4_1 ∧ Aside0 (sawmillref10_Area.l0 kq x3_1 x4_1 t43002 t43003 = some r) ∧ Aside0 (kq ≤ k) ∧ Aside0 (Kd.V k29 29 w' w.heap.size (fun k_ => k_ ≠ gb43001) (.slice Ao7 t43003.length co7) t43003) ∧ Aside0 (w'.heap[gb43001]? = some (.cells #[.int .i64 t43002, (.slice Ao7 t43003.length co7)] 36 (0, 0))) ∧ Aside0 (Below w.heap.size w w'))
 case atStart => exact ⟨(0), (0), rs_, rs_, H', ⟨Nat.le_refl _⟩, ⟨by (with_reducible repeat (first | apply Kd.V_alloc | apply Kd.V_drewN | apply Kd.V_drew)); exact Kd.V_mono (Kd.V_far (p := ⟨gb43001, 1, none⟩) (Kd.V_far (p := ⟨gb43001, 0, none⟩) (Kd.V_mono HO43005.out (fun k_ hk => (⟨hk, hk⟩ : _ ∧ k_ ≠ gb43001))) (fun _ hk => hk.2) (.int .i64 t43002)) (fun _ hk => hk.2) (.slice Ao7 t43003.length co7)) (fun _ hk => hk.1)⟩, ⟨ch_ BK43001⟩, ⟨be_⟩⟩
 case round =>
  clear H';(try clear p2);(try clear c4);(try clear hcz4_0);(try clear hcz4_1);(try clear hcz6_0);(try clear hcz6_1);(try clear hfz4_0);(try clear hfz4_1);(try clear hfz6_0);(try clear hfz6_1);obtain ⟨x3_1, x4_1, rfl, rfl, HA, HK1, HO_43002001, BK43001, HB⟩ := hrel;cases gk with
  | zero => exact absurd HA.out (by simp [sawmillref10_Area.l0])
  | succ k1 =>
   have H := HA.out;clear HA;simp only [sawmillref10_Area.l0] at H
   by_cases c8 : x4_1 < (t43003.length : Int)
   ·rw [if_pos c8] at H;have c8b0 : decide (x4_1 < (t43003.length : Int)) = true := decide_eq_true c8;clear c8
    by_cases c9 : 0 ≤ x4_1
    ·rw [if_pos c9] at H;have c9b0 : decide (0 ≤ x4_1) = true := decide_eq_true c9;clear c9;have H' := Aside0.mk H;clear H;have hcz10_0 := cz0_ BK43001;have hcz10_1 := cz1_ BK43001;have hfz10_0 := fz_ BK43001 0;have hfz10_1 := fz_ BK43001 1;have p43006 : 0 ≤ (x4_1 : Int) := as_;have q43006 : x4_1 < (t43003.length : Int) := as_;obtain ⟨ad43006, e43006, hx43006_0, hx43006_1⟩ := at_T29 (Kd.V_reads' HO_43002001.out).2.2 x4_1 p43006 q43006;cases e43006;replace p43006 := eq_true p43006;replace q43006 := eq_true q43006;have p43007 : 0 ≤ (x4_1 : Int) := as_;have q43007 : x4_1 < (t43003.length : Int) := as_;obtain ⟨ad43007, e43007, hx43007_0, hx43007_1⟩ := at_T29 (Kd.V_reads' HO_43002001.out).2.2 x4_1 p43007 q43007;obtain rfl : ad43006 = ad43007 := (by injection e43007);replace p43007 := eq_true p43007;replace q43007 := eq_true q43007;go_wp2
     repeat (go_quiet (fail); try go_wp2)
     go_roundg k1
     case measure => have := HK1.out; omega
     case rel => exact ⟨(wrap64 (x3_1 + (wrap64 (10 * (wrap64 (((rd_T29 t43003 x4_1).f1) - ((rd_T29 t43003 x4_1).f0))))))), (wrap64 (x4_1 + 1)), rs_, rs_, H', ⟨by have := HK1.out; omega⟩, ⟨fV_ HO_43002001.out⟩, ⟨fb_ BK43001.out⟩, ⟨be_⟩⟩
    ·rw [if_neg c9] at H;exact absurd H (by simp)
   ·rw [if_neg c8] at H;have c8b0 : decide (x4_1 < (t43003.length : Int)) = false := decide_eq_false c8;clear c8;obtain rfl := Option.some.inj H;have hcz11_0 := cz0_ BK43001;have hcz11_1 := cz1_ BK43001;have hfz11_0 := fz_ BK43001 0;have hfz11_1 := fz_ BK43001 1;go_wp2
    repeat (go_quiet (fail); try go_wp2)
    go_ret;exact ⟨er_, be_⟩

end Go.Proofs.Ytboegckbilnldaa.P

end
section
namespace Go.Proofs.Ytboegckbilnldaa.P
open Go Go.RowKit Go.Proofs.YtboegckbilnldaaW.PrintWords Go.Proofs.YtboegckbilnldaaW.PrintLast Go.Proofs.YtboegckbilnldaaW.PrintMore
attribute [local go_sem] max2_int min2_int max_two min_two max_three min_three max_four min_four max_five min_eight max_eight   -- for this text's walks alone
set_option linter.unusedVariables false
set_option linter.unusedSimpArgs false

def sawmillref11_Volume.l0 : Nat → List (S60) → Int → Int → Option (Int)
 | 0, _, _, _ => none
 | k + 1, x0, x3, x4 => if x4 < (x0.length : Int) then (if 0 ≤ x4 then ((sawmillref10_Area.f k ((rd_T60 x0 x4).f1.f0) ((rd_T60 x0 x4).f1.f1)).bind fun t18004 => (sawmillref11_Volume.l0 k x0 (wrap64 (x3 + (wrap64 (((rd_T60 x0 x4).f0) * t18004)))) (wrap64 (x4 + 1)))) else (none)) else (some x3)
def sawmillref11_Volume.f (k : Nat) (l0 : List (S60)) : Option (Int) := (sawmillref11_Check.f k l0).bind fun t18001 => (if t18001 = 0 then (sawmillref11_Volume.l0 k l0 0 0) else (some 0))
theorem sawmillref11_Volume.mono_l : ∀ k, (∀ y0 y1 y2, LeO (sawmillref11_Volume.l0 k y0 y1 y2) (sawmillref11_Volume.l0 (k + 1) y0 y1 y2))
 | 0 => fun _ _ _ r h => by simp [sawmillref11_Volume.l0] at h
 | k + 1 => by
  have ih0 := sawmillref11_Volume.mono_l k
  ·intro y0 y1 y2;unfold sawmillref11_Volume.l0
   repeat' first
   | (with_reducible exact ih0 _ _ _)
   | (with_reducible exact sawmillref10_Area.mono _ _ _)
   | (with_reducible exact sawmillref11_Check.mono _ _)
   | (with_reducible exact LeO.refl _)
   | (with_reducible exact LeO.none _)
   | (with_reducible refine LeO.ite ?_ ?_)
   | (with_reducible refine LeO.bind ?_ (fun _ => ?_))
   | exact ih0 _ _ _
   | exact sawmillref10_Area.mono _ _ _
   | exact sawmillref11_Check.mono _ _
   | exact LeO.none _
   | refine LeO.ite ?_ ?_
   | refine LeO.bind ?_ (fun _ => ?_)
theorem sawmillref11_Volume.mono : ∀ a0 k, LeO (sawmillref11_Volume.f k a0) (sawmillref11_Volume.f (k + 1) a0) := by
 intro a0 k;have ih0 := sawmillref11_Volume.mono_l k;unfold sawmillref11_Volume.f
 repeat' first
   | (with_reducible exact ih0 _ _ _)
   | (with_reducible exact sawmillref10_Area.mono _ _ _)
   | (with_reducible exact sawmillref11_Check.mono _ _)
   | (with_reducible exact LeO.refl _)
   | (with_reducible exact LeO.none _)
   | (with_reducible refine LeO.ite ?_ ?_)
   | (with_reducible refine LeO.bind ?_ (fun _ => ?_))
   | exact ih0 _ _ _
   | exact sawmillref10_Area.mono _ _ _
   | exact sawmillref11_Check.mono _ _
   | exact LeO.none _
   | refine LeO.ite ?_ ?_
   | refine LeO.bind ?_ (fun _ => ?_)
def sawmillref11_Volume.T7 : Bool × List (List Nat × List Nat) := (true, [([], []), ([], []), ([], []), ([1, 2], [1, 2]), ([3], [3]), ([4], [4]), ([], []), ([], []), ([6, 7], [6, 7]), ([8], [8]), ([9], [9]), ([10], [10]), ([5, 11], [5, 11]), ([0, 12], [0, 12]), ([13, 11, 0, 1, 2, 3, 4, 5, 6, 7, 8, 9, 10, 11, 12, 13], [0, 13])])
def sawmillref11_Volume.B7 : List Nat := [0, 0, 0, 6, 14, 30, 0, 0, 192, 448, 960, 1984, 4094, 8191, 16383]
theorem sawmillref11_Volume.tab7 : rtab .any (opsOf Try.f18 7) = sawmillref11_Volume.T7 := by kernel_rfl
theorem sawmillref11_Volume.bits7 : waitsOk sawmillref11_Volume.T7.2 sawmillref11_Volume.B7 = true := by kernel_rfl
set_option maxHeartbeats 8000000 in
set_option maxRecDepth 100000 in
theorem sawmillref11_Volume.calls (k : Nat) (A0 : Option Addr) (c0 : Nat) (l0 : List (S60)) (r : Int) (w : World) (hr0 : Kd.C k60 w A0 l0.length l0) (hc0 : l0.length ≤ c0) (h : sawmillref11_Volume.f k l0 = some r) :
  Calls Try.prog 18 #[.slice A0 l0.length c0] w fun e w' => e = .returned (.int .i64 r) ∧ Below w.heap.size w w' := by
 have hu36 := Try.underlying36;have HR0 := Aside0.mk hr0;have HC0 := Aside0.mk hc0;clear hr0 hc0;have HB := A_ (Below.refl w.heap.size w);have H : ((sawmillref11_Check.f k l0).bind fun t18001 => (if t18001 = 0 then (sawmillref11_Volume.l0 k l0 0 0) else (some 0))) = some r := h;clear h;replace H := Option.bind_eq_some_iff.mp H;obtain ⟨t18001, A20, H⟩ := H;replace H : (if t18001 = 0 then (sawmillref11_Volume.l0 k l0 0 0) else (some 0)) = some r := H;have A2 := Aside0.mk A20;clear A20
 by_cases c3 : t18001 = 0
 ·rw [if_pos c3] at H;have c3b0 : (t18001 == 0) = true := beq_iff_eq.mpr c3;have c3b1 : (t18001 != 0) = false := bne_eq_false_iff_eq.mpr c3;clear c3;have H' := Aside0.mk H;clear H;go_enter Try.func18, Try.ntmps18;go_wp2_with (first | ((with_reducible refine gate_callee (f := 14) rfl ?_); refine goesL_ (some 6) rfl rfl Try.func14 (by kernel_rfl) rfl #[.slice A0 l0.length c0] rfl la_ ?_; (with_reducible refine (sawmillref11_Check.calls k _ _ l0 t18001 _ ?side1 ?side2 A2.out).mono ?_); (case side1 => exact csC_ HR0.out); (case side2 => exact HC0.out); rintro e w4 ⟨rfl, hb⟩; refine ⟨_, rfl, ?_⟩; replace HB := bA_ hb; (try clear hb)))
  go_loopg [3, 4] k (fun kq v3 v4 w' => ∃ (x3_1 : Int) (x4_1 : Int), v3 = .int .i64 x3_1 ∧ v4 = .int .i64 x4_1 ∧ Aside0 (sawmillref11_Volume.l0 kq l0 x3_1 x4_1 = some r) ∧ Aside0 (kq ≤ k) ∧ Aside0 (Below w.heap.size w w'))
  case atStart => exact ⟨(0), (0), rs_, rs_, H', ⟨Nat.le_refl _⟩, ⟨be_⟩⟩
  case round =>
   clear H';(try clear c1);(try clear p2);(try clear c3);(try clear c3b0);(try clear c3b1);obtain ⟨x3_1, x4_1, rfl, rfl, HA, HK1, HB⟩ := hrel;cases gk with
   | zero => exact absurd HA.out (by simp [sawmillref11_Volume.l0])
   | succ k1 =>
    have H := HA.out;clear HA;simp only [sawmillref11_Volume.l0] at H
    by_cases c5 : x4_1 < (l0.length : Int)
    ·rw [if_pos c5] at H;have c5b0 : decide (x4_1 < (l0.length : Int)) = true := decide_eq_true c5;clear c5
     by_cases c6 : 0 ≤ x4_1
     ·rw [if_pos c6] at H;have c6b0 : decide (0 ≤ x4_1) = true := decide_eq_true c6;clear c6;replace H := Option.bind_eq_some_iff.mp H;obtain ⟨t18004, A70, H⟩ := H;replace H : (sawmillref11_Volume.l0 k1 l0 (wrap64 (x3_1 + (wrap64 (((rd_T60 l0 x4_1).f0) * t18004)))) (wrap64 (x4_1 + 1))) = some r := H;have A7 := Aside0.mk A70;clear A70;have H' := Aside0.mk H;clear H;(try go_wp2);replace HB := A_ (below_drew1 HB.out);have p18002 : 0 ≤ (x4_1 : Int) := as_;have q18002 : x4_1 < (l0.length : Int) := as_;obtain ⟨ad18002, A18002_2, c18002_2, e18002, hx18002_0, hx18002_1, hx18002_2, hl18002_2, hi18002_2⟩ := at_T60 HR0.out x4_1 p18002 q18002;have hw18002_2 := hx18002_2;have hw18002_1 := hx18002_1;have hw18002_0 := hx18002_0;cases e18002;replace hx18002_0 := bc_ HB hx18002_0;replace hx18002_1 := bc_ HB hx18002_1;replace hx18002_2 := bc_ HB hx18002_2;have HR18002_2 := Aside0.mk hi18002_2;have HC18002_2 := Aside0.mk hl18002_2;clear hi18002_2 hl18002_2;replace p18002 := eq_true p18002;replace q18002 := eq_true q18002;have p18003 : 0 ≤ (x4_1 : Int) := as_;have q18003 : x4_1 < (l0.length : Int) := as_;obtain ⟨ad18003, A18003_2, c18003_2, e18003, hx18003_0, hx18003_1, hx18003_2, hl18003_2, hi18003_2⟩ := at_T60 HR0.out x4_1 p18003 q18003;have hw18003_2 := hx18003_2;have hw18003_1 := hx18003_1;have hw18003_0 := hx18003_0;obtain rfl : ad18002 = ad18003 := (by injection e18003);replace hx18003_0 := bc_ HB hx18003_0;replace hx18003_1 := bc_ HB hx18003_1;replace hx18003_2 := bc_ HB hx18003_2;have HR18003_2 := Aside0.mk hi18003_2;have HC18003_2 := Aside0.mk hl18003_2;clear hi18003_2 hl18003_2;replace p18003 := eq_true p18003;replace q18003 := eq_true q18003;have ea_ := Option.some.inj (hx18002_2.symm.trans hx18003_2);injection ea_ with ea_ en_ ec_;subst ea_;subst ec_;clear en_;refine start_ (n := 15) (S := fun w' => w'.cell? (ad18002.add ((x4_1).toNat * 3)) = some (.int .i64 ((rd_T60 l0 x4_1).f0)) ∧ w'.cell? ⟨(ad18002.add ((x4_1).toNat * 3)).block, (ad18002.add ((x4_1).toNat * 3)).off + 1, none⟩ = some (.int .i64 ((rd_T60 l0 x4_1).f1.f0)) ∧ w'.cell? ⟨(ad18002.add ((x4_1).toNat * 3)).block, (ad18002.add ((x4_1).toNat * 3)).off + 2, none⟩ = some (.slice A18002_2 ((rd_T60 l0 x4_1).f1.f1).length c18002_2) ∧ w'.cell? (ad18002.add ((x4_1).toNat * 3)) = some (.int .i64 ((rd_T60 l0 x4_1).f0)) ∧ w'.cell? ⟨(ad18002.add ((x4_1).toNat * 3)).block, (ad18002.add ((x4_1).toNat * 3)).off + 1, none⟩ = some (.int .i64 ((rd_T60 l0 x4_1).f1.f0)) ∧ w'.cell? ⟨(ad18002.add ((x4_1).toNat * 3)).block, (ad18002.add ((x4_1).toNat * 3)).off + 2, none⟩ = some (.slice A18002_2 ((rd_T60 l0 x4_1).f1.f1).length c18002_2)) (ds := []) #[f_,f_,f_,f_,f_,f_,f_,f_,f_,f_,f_,f_,f_,f_,f_] (by kernel_rfl) rfl rfl ⟨(bc_ HB hw18002_0), (bc_ HB hw18002_1), (bc_ HB hw18002_2), (bc_ HB hw18003_0), (bc_ HB hw18003_1), (bc_ HB hw18003_2)⟩ (fun hHeld => ?_); refine with_tabW sawmillref11_Volume.tab7 sawmillref11_Volume.bits7 (fun HT_ HW_ => ?_);generalize wr.drew = w8 at HB HR18002_2 HR18003_2 hx18002_0 hx18002_1 hx18002_2 hx18003_0 hx18003_1 hx18003_2 hHeld ⊢;refine pu_ (i := 0) (N := some 14) #[t_,f_,f_,f_,f_,f_,f_,f_,f_,f_,f_,f_,f_,f_,f_] ?_;refine pu_ (i := 1) (N := some 15) #[t_,t_,f_,f_,f_,f_,f_,f_,f_,f_,f_,f_,f_,f_,f_] ?_;refine pu_ (i := 2) (N := some 16) #[t_,t_,t_,f_,f_,f_,f_,f_,f_,f_,f_,f_,f_,f_,f_] ?_;refine pu_ (i := 3) (N := some 17) #[t_,t_,t_,t_,f_,f_,f_,f_,f_,f_,f_,f_,f_,f_,f_] ?_;refine pu_ (i := 4) (N := some 18) #[t_,t_,t_,t_,t_,f_,f_,f_,f_,f_,f_,f_,f_,f_,f_] ?_;refine pu_ (i := 6) (N := some 20) #[t_,t_,t_,t_,t_,f_,t_,f_,f_,f_,f_,f_,f_,f_,f_] ?_;refine pu_ (i := 7) (N := some 21) #[t_,t_,t_,t_,t_,f_,t_,t_,f_,f_,f_,f_,f_,f_,f_] ?_;refine pu_ (i := 8) (N := some 22) #[t_,t_,t_,t_,t_,f_,t_,t_,t_,f_,f_,f_,f_,f_,f_] ?_;refine pu_ (i := 9) (N := some 23) #[t_,t_,t_,t_,t_,f_,t_,t_,t_,t_,f_,f_,f_,f_,f_] ?_
      refine take_ (i := 5) (N := some 19) #[t_,t_,t_,t_,t_,t_,t_,t_,t_,t_,f_,f_,f_,f_,f_] rfl rfl (take_ofW HT_.out HW_.out (by kernel_rfl)) id3_ (Or.inl ⟨by rfl, by rintro w' ⟨s0, s1, s2, s3, s4, s5⟩; go_simp; with_reducible rfl⟩) hHeld pt_ ?_;refine take_ (i := 10) (N := some 24) #[t_,t_,t_,t_,t_,t_,t_,t_,t_,t_,t_,f_,f_,f_,f_] rfl rfl (take_ofW HT_.out HW_.out (by kernel_rfl)) id3_ (Or.inl ⟨by rfl, by rintro w' ⟨s0, s1, s2, s3, s4, s5⟩; go_simp; with_reducible rfl⟩) hHeld pt_ ?_;refine one_ (i := 11) (N := some 25) #[t_,t_,t_,t_,t_,t_,t_,t_,t_,t_,t_,t_,f_,f_,f_] rfl rfl (one_of HT_.out (by kernel_rfl)) (by decide) (fun K hK => ?_);refine goes_ Try.func43 (by kernel_rfl) rfl #[.agg #[.int .i64 ((rd_T60 l0 x4_1).f1.f0), .slice A18002_2 ((rd_T60 l0 x4_1).f1.f1).length c18002_2]] (by rfl) rfl rfl la_ ?_;(with_reducible refine (sawmillref10_Area.calls k1 ((rd_T60 l0 x4_1).f1.f0) _ _ ((rd_T60 l0 x4_1).f1.f1) t18004 _ ?side1 ?side2 A7.out).mono ?_);(case side1 => exact csC_ ((Kd.C_below HR18003_2.out HB.out)));(case side2 => exact HC18003_2.out);rintro e w9 ⟨rfl, hb⟩;refine ⟨_, rfl, ?_⟩;replace HB := bA_ hb;(try clear hb);refine hK.out _ _ ⟨(bc_ HB hw18002_0), (bc_ HB hw18002_1), (bc_ HB hw18002_2), (bc_ HB hw18003_0), (bc_ HB hw18003_1), (bc_ HB hw18003_2)⟩ (fun hHeld => ?_);clear hK K;refine norm_ (a' := ?_) ?_ ?_;rotate_left
      ·show Act.put _ (some 25) _ = _
       simp only [Act.put, List.setIfInBounds_toArray, List.set_cons_zero, List.set_cons_succ, i64_w, i32_w];rfl
      refine pu_ (i := 12) (N := some 26) #[t_,t_,t_,t_,t_,t_,t_,t_,t_,t_,t_,t_,t_,f_,f_] ?_;refine pu_ (i := 13) (N := some 27) #[t_,t_,t_,t_,t_,t_,t_,t_,t_,t_,t_,t_,t_,t_,f_] ?_;refine pu_ (i := 14) (N := some 3) #[t_,t_,t_,t_,t_,t_,t_,t_,t_,t_,t_,t_,t_,t_,t_] ?_;refine done_ (done_of HT_.out (by kernel_rfl)) ?_;(try clear hHeld);try go_wp2
      go_roundg k1
      case measure => have := HK1.out; omega
      case rel => exact ⟨(wrap64 (x3_1 + (wrap64 (((rd_T60 l0 x4_1).f0) * t18004)))), (wrap64 (x4_1 + 1)), rs_, rs_, H', ⟨by have := HK1.out; omega⟩, ⟨be_⟩⟩
     ·rw [if_neg c6] at H;exact absurd H (by simp)
    ·rw [if_neg c5] at H;have c5b0 : decide (x4_1 < (l0.length : Int)) = false := decide_eq_false c5;clear c5;obtain rfl := Option.some.inj H;go_wp2;go_ret;exact ⟨er_, be_⟩
 ·rw [if_neg c3] at H;have c3b0 : (t18001 == 0) = false := beq_eq_false_iff_ne.mpr c3;have c3b1 : (t18001 != 0) = true := bne_iff_ne.mpr c3;obtain rfl := Option.some.inj H;go_enter Try.func18, Try.ntmps18;go_wp2_with (first | ((with_reducible refine gate_callee (f := 14) rfl ?_); refine goesL_ (some 6) rfl rfl Try.func14 (by kernel_rfl) rfl #[.slice A0 l0.length c0] rfl la_ ?_; (with_reducible refine (sawmillref11_Check.calls k _ _ l0 t18001 _ ?side1 ?side2 A2.out).mono ?_); (case side1 => exact csC_ HR0.out); (case side2 => exact HC0.out); rintro e w10 ⟨rfl, hb⟩; refine ⟨_, rfl, ?_⟩; replace HB := bA_ hb; (try clear hb)));go_ret;exact ⟨er_, be_⟩

end Go.Proofs.Ytboegckbilnldaa.P

end
section
namespace Go.Proofs.Ytboegckbilnldaa.P
open Go Go.RowKit Go.Proofs.YtboegckbilnldaaW.PrintWords Go.Proofs.YtboegckbilnldaaW.PrintLast Go.Proofs.YtboegckbilnldaaW.PrintMore
attribute [local go_sem] max2_int min2_int max_two min_two max_three min_three max_four min_four max_five min_eight max_eight   -- for this text's walks alone
set_option linter.unusedVariables false
set_option linter.unusedSimpArgs false

def sawmilllaw11_SolidChecks.f (k : Nat) (l0 : List (S60)) : Option (Bool) := (sawmilllaw11_Small.f k l0).bind fun t3001 => (if t3001 = true then ((solid_Check.f k l0).bind fun t3003 => ((sawmillref11_Check.f k l0).bind fun t3004 => (if t3003 = t3004 then ((solid_Length.f k l0).bind fun t3005 => ((sawmillref11_Length.f k l0).bind fun t3006 => (if t3005 = t3006 then ((solid_Volume.f k l0).bind fun t3007 => ((sawmillref11_Volume.f k l0).bind fun t3008 => (if t3007 = t3008 then ((sawmilllaw11_awake.f k).bind fun t3009 => (some t3009)) else (some false)))) else (some false)))) else (some false)))) else ((sawmilllaw11_awake.f k).bind fun t3002 => (some t3002)))
theorem sawmilllaw11_SolidChecks.mono : ∀ a0 k, LeO (sawmilllaw11_SolidChecks.f k a0) (sawmilllaw11_SolidChecks.f (k + 1) a0) := by
 intro a0 k;unfold sawmilllaw11_SolidChecks.f
 repeat' first
   | (with_reducible exact sawmilllaw11_Small.mono _ _)
   | (with_reducible exact sawmilllaw11_awake.mono _)
   | (with_reducible exact sawmillref11_Check.mono _ _)
   | (with_reducible exact sawmillref11_Length.mono _ _)
   | (with_reducible exact sawmillref11_Volume.mono _ _)
   | (with_reducible exact solid_Check.mono _ _)
   | (with_reducible exact solid_Length.mono _ _)
   | (with_reducible exact solid_Volume.mono _ _)
   | (with_reducible exact LeO.refl _)
   | (with_reducible exact LeO.none _)
   | (with_reducible refine LeO.ite ?_ ?_)
   | (with_reducible refine LeO.bind ?_ (fun _ => ?_))
   | exact sawmilllaw11_Small.mono _ _
   | exact sawmilllaw11_awake.mono _
   | exact sawmillref11_Check.mono _ _
   | exact sawmillref11_Length.mono _ _
   | exact sawmillref11_Volume.mono _ _
   | exact solid_Check.mono _ _
   | exact solid_Length.mono _ _
   | exact solid_Volume.mono _ _
   | exact LeO.none _
   | refine LeO.ite ?_ ?_
   | refine LeO.bind ?_ (fun _ => ?_)
set_option maxHeartbeats 8000000 in
set_option maxRecDepth 100000 in
theorem sawmilllaw11_SolidChecks.calls (k : Nat) (A0 : Option Addr) (c0 : Nat) (l0 : List (S60)) (r : Bool) (w : World) (hr0 : Kd.C k60 w A0 l0.length l0) (hc0 : l0.length ≤ c0) (h : sawmilllaw11_SolidChecks.f k l0 = some r) :
  Calls Try.prog 3 #[.slice A0 l0.length c0] w fun e w' => e = .returned (.bool r) ∧ Below w.heap.size w w' := by
 have HR0 := Aside0.mk hr0;have HC0 := Aside0.mk hc0;clear hr0 hc0;have HB := A_ (Below.refl w.heap.size w);have H : ((sawmilllaw11_Small.f k l0).bind fun t3001 => (if t3001 = true then ((solid_Check.f k l0).bind fun t3003 => ((sawmillref11_Check.f k l0).bind fun t3004 => (if t3003 = t3004 then ((solid_Length.f k l0).bind fun t3005 => ((sawmillref11_Length.f k l0).bind fun t3006 => (if t3005 = t3006 then ((solid_Volume.f k l0).bind fun t3007 => ((sawmillref11_Volume.f k l0).bind fun t3008 => (if t3007 = t3008 then ((sawmilllaw11_awake.f k).bind fun t3009 => (some t3009)) else (some false)))) else (some false)))) else (some false)))) else ((sawmilllaw11_awake.f k).bind fun t3002 => (some t3002)))) = some r := h;clear h;replace H := Option.bind_eq_some_iff.mp H;obtain ⟨t3001, A20, H⟩ := H;replace H : (if t3001 = true then ((solid_Check.f k l0).bind fun t3003 => ((sawmillref11_Check.f k l0).bind fun t3004 => (if t3003 = t3004 then ((solid_Length.f k l0).bind fun t3005 => ((sawmillref11_Length.f k l0).bind fun t3006 => (if t3005 = t3006 then ((solid_Volume.f k l0).bind fun t3007 => ((sawmillref11_Volume.f k l0).bind fun t3008 => (if t3007 = t3008 then ((sawmilllaw11_awake.f k).bind fun t3009 => (some t3009)) else (some false)))) else (some false)))) else (some false)))) else ((sawmilllaw11_awake.f k).bind fun t3002 => (some t3002))) = some r := H;have A2 := Aside0.mk A20;clear A20
 by_cases c3 : t3001 = true
 ·subst c3;(have H1 : ((solid_Check.f k l0).bind fun t3003 => ((sawmillref11_Check.f k l0).bind fun t3004 => (if t3003 = t3004 then ((solid_Length.f k l0).bind fun t3005 => ((sawmillref11_Length.f k l0).bind fun t3006 => (if t3005 = t3006 then ((solid_Volume.f k l0).bind fun t3007 => ((sawmillref11_Volume.f k l0).bind fun t3008 => (if t3007 = t3008 then ((sawmilllaw11_awake.f k).bind fun t3009 => (some t3009)) else (some false)))) else (some false)))) else (some false)))) = some r := by rw [if_pos rfl] at H; exact H);clear H;have H := H1;clear H1;replace H := Option.bind_eq_some_iff.mp H;obtain ⟨t3003, A40, H⟩ := H;replace H : ((sawmillref11_Check.f k l0).bind fun t3004 => (if t3003 = t3004 then ((solid_Length.f k l0).bind fun t3005 => ((sawmillref11_Length.f k l0).bind fun t3006 => (if t3005 = t3006 then ((solid_Volume.f k l0).bind fun t3007 => ((sawmillref11_Volume.f k l0).bind fun t3008 => (if t3007 = t3008 then ((sawmilllaw11_awake.f k).bind fun t3009 => (some t3009)) else (some false)))) else (some false)))) else (some false))) = some r := H;have A4 := Aside0.mk A40;clear A40;replace H := Option.bind_eq_some_iff.mp H;obtain ⟨t3004, A50, H⟩ := H;replace H : (if t3003 = t3004 then ((solid_Length.f k l0).bind fun t3005 => ((sawmillref11_Length.f k l0).bind fun t3006 => (if t3005 = t3006 then ((solid_Volume.f k l0).bind fun t3007 => ((sawmillref11_Volume.f k l0).bind fun t3008 => (if t3007 = t3008 then ((sawmilllaw11_awake.f k).bind fun t3009 => (some t3009)) else (some false)))) else (some false)))) else (some false)) = some r := H;have A5 := Aside0.mk A50;clear A50
  by_cases c6 : t3003 = t3004
  ·rw [if_pos c6] at H;have c6b0 : (t3003 == t3004) = true := beq_iff_eq.mpr c6;have c6b1 : (t3003 != t3004) = false := bne_eq_false_iff_eq.mpr c6;clear c6;replace H := Option.bind_eq_some_iff.mp H;obtain ⟨t3005, A70, H⟩ := H;replace H : ((sawmillref11_Length.f k l0).bind fun t3006 => (if t3005 = t3006 then ((solid_Volume.f k l0).bind fun t3007 => ((sawmillref11_Volume.f k l0).bind fun t3008 => (if t3007 = t3008 then ((sawmilllaw11_awake.f k).bind fun t3009 => (some t3009)) else (some false)))) else (some false))) = some r := H;have A7 := Aside0.mk A70;clear A70;replace H := Option.bind_eq_some_iff.mp H;obtain ⟨t3006, A80, H⟩ := H;replace H : (if t3005 = t3006 then ((solid_Volume.f k l0).bind fun t3007 => ((sawmillref11_Volume.f k l0).bind fun t3008 => (if t3007 = t3008 then ((sawmilllaw11_awake.f k).bind fun t3009 => (some t3009)) else (some false)))) else (some false)) = some r := H;have A8 := Aside0.mk A80;clear A80
   by_cases c9 : t3005 = t3006
   ·rw [if_pos c9] at H;have c9b0 : (t3005 == t3006) = true := beq_iff_eq.mpr c9;have c9b1 : (t3005 != t3006) = false := bne_eq_false_iff_eq.mpr c9;clear c9;replace H := Option.bind_eq_some_iff.mp H;obtain ⟨t3007, A100, H⟩ := H;replace H : ((sawmillref11_Volume.f k l0).bind fun t3008 => (if t3007 = t3008 then ((sawmilllaw11_awake.f k).bind fun t3009 => (some t3009)) else (some false))) = some r := H;have A10 := Aside0.mk A100;clear A100;replace H := Option.bind_eq_some_iff.mp H;obtain ⟨t3008, A110, H⟩ := H;replace H : (if t3007 = t3008 then ((sawmilllaw11_awake.f k).bind fun t3009 => (some t3009)) else (some false)) = some r := H;have A11 := Aside0.mk A110;clear A110
    by_cases c12 : t3007 = t3008
    ·rw [if_pos c12] at H;have c12b0 : (t3007 == t3008) = true := beq_iff_eq.mpr c12;have c12b1 : (t3007 != t3008) = false := bne_eq_false_iff_eq.mpr c12;clear c12;replace H := Option.bind_eq_some_iff.mp H;obtain ⟨t3009, A130, H⟩ := H;replace H : (some t3009) = some r := H;have A13 := Aside0.mk A130;clear A130;obtain rfl := Option.some.inj H;go_enter Try.func3, Try.ntmps3;go_wp2_with (first | ((with_reducible refine gate_callee (f := 11) rfl ?_); refine goesL_ (some 4) rfl rfl Try.func11 (by kernel_rfl) rfl #[.slice A0 l0.length c0] rfl la_ ?_; (with_reducible refine (sawmilllaw11_Small.calls k _ _ l0 true _ ?side1 ?side2 A2.out).mono ?_); (case side1 => exact csC_ HR0.out); (case side2 => exact HC0.out); rintro e w' ⟨rfl, ⟨nd, rfl⟩⟩; refine ⟨_, rfl, ?_⟩) | ((with_reducible refine gate_callee (f := 13) rfl ?_); refine goesL_ (some 8) rfl rfl Try.func13 (by kernel_rfl) rfl #[.slice A0 l0.length c0] rfl la_ ?_; (with_reducible refine (solid_Check.calls k _ _ l0 t3003 _ ?side1 ?side2 A4.out).mono ?_); (case side1 => exact csC_ HR0.out); (case side2 => exact HC0.out); rintro e w14 ⟨rfl, hb⟩; refine ⟨_, rfl, ?_⟩; replace HB := bA_ hb; (try clear hb)) | ((with_reducible refine gate_callee (f := 14) rfl ?_); refine goesL_ (some 10) rfl rfl Try.func14 (by kernel_rfl) rfl #[.slice A0 l0.length c0] rfl la_ ?_; (with_reducible refine (sawmillref11_Check.calls k _ _ l0 t3004 _ ?side1 ?side2 A5.out).mono ?_); (case side1 => exact csC_ ((Kd.C_below HR0.out HB.out))); (case side2 => exact HC0.out); rintro e w15 ⟨rfl, hb⟩; refine ⟨_, rfl, ?_⟩; replace HB := bA_ hb; (try clear hb)) | (go_at_call 15; (with_reducible refine (solid_Length.calls k _ _ l0 t3005 _ ?side1 ?side2 A7.out).mono ?_); (case side1 => exact csC_ ((Kd.C_below HR0.out HB.out))); (case side2 => exact HC0.out); rintro e w16 ⟨rfl, hb⟩; replace HB := bA_ hb; (try clear hb)) | (go_at_call 16; (with_reducible refine (sawmillref11_Length.calls k _ _ l0 t3006 _ ?side1 ?side2 A8.out).mono ?_); (case side1 => exact csC_ ((Kd.C_below HR0.out HB.out))); (case side2 => exact HC0.out); rintro e w17 ⟨rfl, hb⟩; replace HB := bA_ hb; (try clear hb)) | (go_at_call 17; (with_reducible refine (solid_Volume.calls k _ _ l0 t3007 _ ?side1 ?side2 A10.out).mono ?_); (case side1 => exact csC_ ((Kd.C_below HR0.out HB.out))); (case side2 => exact HC0.out); rintro e w18 ⟨rfl, hb⟩; replace HB := bA_ hb; (try clear hb)) | (go_at_call 18; (with_reducible refine (sawmillref11_Volume.calls k _ _ l0 t3008 _ ?side1 ?side2 A11.out).mono ?_); (case side1 => exact csC_ ((Kd.C_below HR0.out HB.out))); (case side2 => exact HC0.out); rintro e w19 ⟨rfl, hb⟩; replace HB := bA_ hb; (try clear hb)) | (go_at_call 12; (with_reducible refine (sawmilllaw11_awake.calls k  t3009 _ A13.out).mono ?_); rintro e w20 ⟨rfl, hb⟩; replace HB := bA_ hb; (try clear hb)));go_ret;exact ⟨er_, be_⟩
    ·rw [if_neg c12] at H;have c12b0 : (t3007 == t3008) = false := beq_eq_false_iff_ne.mpr c12;have c12b1 : (t3007 != t3008) = true := bne_iff_ne.mpr c12;obtain rfl := Option.some.inj H;go_enter Try.func3, Try.ntmps3;go_wp2_with (first | ((with_reducible refine gate_callee (f := 11) rfl ?_); refine goesL_ (some 4) rfl rfl Try.func11 (by kernel_rfl) rfl #[.slice A0 l0.length c0] rfl la_ ?_; (with_reducible refine (sawmilllaw11_Small.calls k _ _ l0 true _ ?side1 ?side2 A2.out).mono ?_); (case side1 => exact csC_ HR0.out); (case side2 => exact HC0.out); rintro e w' ⟨rfl, ⟨nd, rfl⟩⟩; refine ⟨_, rfl, ?_⟩) | ((with_reducible refine gate_callee (f := 13) rfl ?_); refine goesL_ (some 8) rfl rfl Try.func13 (by kernel_rfl) rfl #[.slice A0 l0.length c0] rfl la_ ?_; (with_reducible refine (solid_Check.calls k _ _ l0 t3003 _ ?side1 ?side2 A4.out).mono ?_); (case side1 => exact csC_ HR0.out); (case side2 => exact HC0.out); rintro e w21 ⟨rfl, hb⟩; refine ⟨_, rfl, ?_⟩; replace HB := bA_ hb; (try clear hb)) | ((with_reducible refine gate_callee (f := 14) rfl ?_); refine goesL_ (some 10) rfl rfl Try.func14 (by kernel_rfl) rfl #[.slice A0 l0.length c0] rfl la_ ?_; (with_reducible refine (sawmillref11_Check.calls k _ _ l0 t3004 _ ?side1 ?side2 A5.out).mono ?_); (case side1 => exact csC_ ((Kd.C_below HR0.out HB.out))); (case side2 => exact HC0.out); rintro e w22 ⟨rfl, hb⟩; refine ⟨_, rfl, ?_⟩; replace HB := bA_ hb; (try clear hb)) | (go_at_call 15; (with_reducible refine (solid_Length.calls k _ _ l0 t3005 _ ?side1 ?side2 A7.out).mono ?_); (case side1 => exact csC_ ((Kd.C_below HR0.out HB.out))); (case side2 => exact HC0.out); rintro e w23 ⟨rfl, hb⟩; replace HB := bA_ hb; (try clear hb)) | (go_at_call 16; (with_reducible refine (sawmillref11_Length.calls k _ _ l0 t3006 _ ?side1 ?side2 A8.out).mono ?_); (case side1 => exact csC_ ((Kd.C_below HR0.out HB.out))); (case side2 => exact HC0.out); rintro e w24 ⟨rfl, hb⟩; replace HB := bA_ hb; (try clear hb)) | (go_at_call 17; (with_reducible refine (solid_Volume.calls k _ _ l0 t3007 _ ?side1 ?side2 A10.out).mono ?_); (case side1 => exact csC_ ((Kd.C_below HR0.out HB.out))); (case side2 => exact HC0.out); rintro e w25 ⟨rfl, hb⟩; replace HB := bA_ hb; (try clear hb)) | (go_at_call 18; (with_reducible refine (sawmillref11_Volume.calls k _ _ l0 t3008 _ ?side1 ?side2 A11.out).mono ?_); (case side1 => exact csC_ ((Kd.C_below HR0.out HB.out))); (case side2 => exact HC0.out); rintro e w26 ⟨rfl, hb⟩; replace HB := bA_ hb; (try clear hb)));go_ret;exact ⟨er_, be_⟩
   ·rw [if_neg c9] at H;have c9b0 : (t3005 == t3006) = false := beq_eq_false_iff_ne.mpr c9;have c9b1 : (t3005 != t3006) = true := bne_iff_ne.mpr c9;obtain rfl := Option.some.inj H;go_enter Try.func3, Try.ntmps3;go_wp2_with (first | ((with_reducible refine gate_callee (f := 11) rfl ?_); refine goesL_ (some 4) rfl rfl Try.func11 (by kernel_rfl) rfl #[.slice A0 l0.length c0] rfl la_ ?_; (with_reducible refine (sawmilllaw11_Small.calls k _ _ l0 true _ ?side1 ?side2 A2.out).mono ?_); (case side1 => exact csC_ HR0.out); (case side2 => exact HC0.out); rintro e w' ⟨rfl, ⟨nd, rfl⟩⟩; refine ⟨_, rfl, ?_⟩) | ((with_reducible refine gate_callee (f := 13) rfl ?_); refine goesL_ (some 8) rfl rfl Try.func13 (by kernel_rfl) rfl #[.slice A0 l0.length c0] rfl la_ ?_; (with_reducible refine (solid_Check.calls k _ _ l0 t3003 _ ?side1 ?side2 A4.out).mono ?_); (case side1 => exact csC_ HR0.out); (case side2 => exact HC0.out); rintro e w27 ⟨rfl, hb⟩; refine ⟨_, rfl, ?_⟩; replace HB := bA_ hb; (try clear hb)) | ((with_reducible refine gate_callee (f := 14) rfl ?_); refine goesL_ (some 10) rfl rfl Try.func14 (by kernel_rfl) rfl #[.slice A0 l0.length c0] rfl la_ ?_; (with_reducible refine (sawmillref11_Check.calls k _ _ l0 t3004 _ ?side1 ?side2 A5.out).mono ?_); (case side1 => exact csC_ ((Kd.C_below HR0.out HB.out))); (case side2 => exact HC0.out); rintro e w28 ⟨rfl, hb⟩; refine ⟨_, rfl, ?_⟩; replace HB := bA_ hb; (try clear hb)) | (go_at_call 15; (with_reducible refine (solid_Length.calls k _ _ l0 t3005 _ ?side1 ?side2 A7.out).mono ?_); (case side1 => exact csC_ ((Kd.C_below HR0.out HB.out))); (case side2 => exact HC0.out); rintro e w29 ⟨rfl, hb⟩; replace HB := bA_ hb; (try clear hb)) | (go_at_call 16; (with_reducible refine (sawmillref11_Length.calls k _ _ l0 t3006 _ ?side1 ?side2 A8.out).mono ?_); (case side1 => exact csC_ ((Kd.C_below HR0.out HB.out))); (case side2 => exact HC0.out); rintro e w30 ⟨rfl, hb⟩; replace HB := bA_ hb; (try clear hb)));go_ret;exact ⟨er_, be_⟩
  ·rw [if_neg c6] at H;have c6b0 : (t3003 == t3004) = false := beq_eq_false_iff_ne.mpr c6;have c6b1 : (t3003 != t3004) = true := bne_iff_ne.mpr c6;obtain rfl := Option.some.inj H;go_enter Try.func3, Try.ntmps3;go_wp2_with (first | ((with_reducible refine gate_callee (f := 11) rfl ?_); refine goesL_ (some 4) rfl rfl Try.func11 (by kernel_rfl) rfl #[.slice A0 l0.length c0] rfl la_ ?_; (with_reducible refine (sawmilllaw11_Small.calls k _ _ l0 true _ ?side1 ?side2 A2.out).mono ?_); (case side1 => exact csC_ HR0.out); (case side2 => exact HC0.out); rintro e w' ⟨rfl, ⟨nd, rfl⟩⟩; refine ⟨_, rfl, ?_⟩) | ((with_reducible refine gate_callee (f := 13) rfl ?_); refine goesL_ (some 8) rfl rfl Try.func13 (by kernel_rfl) rfl #[.slice A0 l0.length c0] rfl la_ ?_; (with_reducible refine (solid_Check.calls k _ _ l0 t3003 _ ?side1 ?side2 A4.out).mono ?_); (case side1 => exact csC_ HR0.out); (case side2 => exact HC0.out); rintro e w31 ⟨rfl, hb⟩; refine ⟨_, rfl, ?_⟩; replace HB := bA_ hb; (try clear hb)) | ((with_reducible refine gate_callee (f := 14) rfl ?_); refine goesL_ (some 10) rfl rfl Try.func14 (by kernel_rfl) rfl #[.slice A0 l0.length c0] rfl la_ ?_; (with_reducible refine (sawmillref11_Check.calls k _ _ l0 t3004 _ ?side1 ?side2 A5.out).mono ?_); (case side1 => exact csC_ ((Kd.C_below HR0.out HB.out))); (case side2 => exact HC0.out); rintro e w32 ⟨rfl, hb⟩; refine ⟨_, rfl, ?_⟩; replace HB := bA_ hb; (try clear hb)));go_ret;exact ⟨er_, be_⟩
 ·replace c3 := Bool.eq_false_iff.mpr c3;subst c3;(have H1 : ((sawmilllaw11_awake.f k).bind fun t3002 => (some t3002)) = some r := by rw [if_neg (show ¬ (false = true) by decide)] at H; exact H);clear H;have H := H1;clear H1;replace H := Option.bind_eq_some_iff.mp H;obtain ⟨t3002, A330, H⟩ := H;replace H : (some t3002) = some r := H;have A33 := Aside0.mk A330;clear A330;obtain rfl := Option.some.inj H;go_enter Try.func3, Try.ntmps3;go_wp2_with (first | ((with_reducible refine gate_callee (f := 11) rfl ?_); refine goesL_ (some 4) rfl rfl Try.func11 (by kernel_rfl) rfl #[.slice A0 l0.length c0] rfl la_ ?_; (with_reducible refine (sawmilllaw11_Small.calls k _ _ l0 false _ ?side1 ?side2 A2.out).mono ?_); (case side1 => exact csC_ HR0.out); (case side2 => exact HC0.out); rintro e w' ⟨rfl, ⟨nd, rfl⟩⟩; refine ⟨_, rfl, ?_⟩) | ((with_reducible refine gate_callee (f := 12) rfl ?_); refine goesL_ (some 6) rfl rfl Try.func12 (by kernel_rfl) rfl #[] rfl la_ ?_; (with_reducible refine (sawmilllaw11_awake.calls k  t3002 _ A33.out).mono ?_); rintro e w34 ⟨rfl, hb⟩; refine ⟨_, rfl, ?_⟩; replace HB := bA_ hb; (try clear hb)));go_ret;exact ⟨er_, be_⟩

end Go.Proofs.Ytboegckbilnldaa.P

end
section
namespace Go.Proofs.Ytboegckbilnldaa.P
open Go Go.RowKit Go.Proofs.YtboegckbilnldaaW.PrintWords Go.Proofs.YtboegckbilnldaaW.PrintLast Go.Proofs.YtboegckbilnldaaW.PrintMore
def Opens {α : Type} (P : Program) (d : Kd α) (t : TypeId) (ok : α → Prop) : Prop :=
 ∀ (H : Type) (enc : TypeId × Value → H) (w : World) (base : Nat) (spare : Nat → Bool) (held : Bool) (fuel : Nat) (cs : List Value) (x : DataW H × List MemPlace),
  DataW.trod enc P w base spare held fuel t cs = some x → ∃ v, d.K w v cs ∧ ok v
theorem opens_int {P : Program} {t : TypeId} {k : IntKind} (ht : P.underlying t = some (.int k)) : Opens P (Kd.int k) t (fun n => (Lit.int k n).wf = true) := by
 intro H enc w base spare held fuel cs x h;obtain ⟨n, rfl, _, hw⟩ := DataW.trod_int ht h;exact ⟨n, rfl, hw⟩
theorem opens_string {P : Program} {t : TypeId} (ht : P.underlying t = some .string) : Opens P Kd.string t (fun s => s.size ≤ maxLen) := by
 intro H enc w base spare held fuel cs x h;obtain ⟨n, rfl, _, hw⟩ := DataW.trod_string ht h;exact ⟨n, rfl, hw⟩
theorem opens_slice {α : Type} {P : Program} {d : Kd α} {t e : TypeId} {ok : α → Prop} (e' : Nat) (ht : P.underlying t = some (.slice e)) (hc : P.cellsOf e = d.sz) (hd : Opens P d e ok) :
  Opens P (Kd.slice e' d) t (fun xs => (∀ x ∈ xs, ok x) ∧ xs.length ≤ maxLen) := by
 intro H enc w base spare held fuel cs x h
 rcases DataW.trod_slice ht h with ⟨rfl, _⟩ | ⟨a, len, cap, elems, rest, n, _, rfl, _, hb, hl, hm, hlen, hel, _, _⟩
 ·exact ⟨[], ⟨none, 0, rfl, Nat.le_refl _, rfl, by simp, fun h => absurd h (by simp)⟩, by simp, by simp⟩
 ·have key : ∀ m, m ≤ len → ∃ xs : List α, xs.length = m ∧ ∀ j p, xs[j]? = some p → ∃ c, w.cells? base (a.add (j * d.sz)) d.sz = some c ∧ d.K w p c ∧ ok p := by
   intro m
   induction m with
   | zero => exact fun _ => ⟨[], rfl, fun j p h => by simp at h⟩
   | succ m ih =>
    intro hm;obtain ⟨xs, hx, hp⟩ := ih (by omega);have h1 := hel m (by omega);rw [List.getElem?_eq_getElem (by omega), hc, Option.bind_eq_some_iff] at h1;obtain ⟨c, hcs, ht⟩ := h1;obtain ⟨v, hk, ho⟩ := hd H enc w base spare held n c _ ht;refine ⟨xs ++ [v], by simp [hx], fun j p h => ?_⟩
    rcases Nat.lt_or_ge j m with hj | hj
    ·rw [List.getElem?_append_left (by omega)] at h;exact hp j p h
    ·have : j = m := by
      have := (List.getElem?_eq_some_iff.1 h).1;simp at this
      omega
     subst this;rw [List.getElem?_append_right (by omega), hx] at h;simp at h;subst h;exact ⟨c, hcs, hk, ho⟩
  obtain ⟨xs, hx, hp⟩ := key len (Nat.le_refl _);have hlm : len ≤ maxLen := Nat.le_trans hl hm;refine ⟨xs, ⟨some a, cap, by rw [hx], by omega, ?_⟩, fun x hxm => ?_, by omega⟩
  ·refine ⟨rfl, by unfold maxLen at hlm; omega, fun _ => ⟨a, rfl, fun j p h => ?_⟩⟩;obtain ⟨c, hcs, hk, _⟩ := hp j p h;have h3 := World.cells?_some hcs;refine ⟨c, d.K_len hk, hk, fun i u hu => ?_⟩;have hi := (List.getElem?_eq_some_iff.1 hu).1;have h4 := h3.2.2 i (by have := d.K_len hk; omega);rw [hu] at h4;rw [← add_add];exact h4
  ·obtain ⟨j, hj⟩ := List.getElem?_of_mem hxm;exact (hp j x hj).choose_spec.2.2
theorem opens_iso {α β : Type} {P : Program} {d : Kd α} {t : TypeId} {ok : α → Prop} {f : β → α} (g : α → β) (hg : ∀ x, f (g x) = x) (hd : Opens P d t ok) : Opens P (Kd.iso d f) t (fun y => ok (f y)) := by
 intro H enc w base spare held fuel cs x h;obtain ⟨v, hk, ho⟩ := hd H enc w base spare held fuel cs x h;exact ⟨g v, by show d.K w (f (g v)) cs; rw [hg]; exact hk, by show ok (f (g v)); rw [hg]; exact ho⟩
def OpensF {α : Type} (P : Program) (d : Kd α) (fs : List Field) (o tot : Nat) (ok : α → Prop) : Prop :=
 ∀ (H : Type) (enc : TypeId × Value → H) (w : World) (base : Nat) (spare : Nat → Bool) (held : Bool) (n : Nat) (cs : List Value), cs.length = tot →
  (∀ f ∈ fs, ∃ y, DataW.trod enc P w base spare held n f.type ((cs.drop f.offset).take (P.cellsOf f.type)) = some y) → ∃ v, d.K w v (cs.drop o) ∧ ok v
theorem opensF_last {α : Type} {P : Program} {d : Kd α} {f : Field} {o tot k : Nat} {ok : α → Prop} (ho : f.offset = o) (hk : P.cellsOf f.type = k) (ht : tot ≤ o + k) (hd : Opens P d f.type ok) : OpensF P d [f] o tot ok := by
 intro H enc w base spare held n cs hl hf;obtain ⟨y, hy⟩ := hf f (by simp);rw [ho, hk, List.take_of_length_le (by simp; omega)] at hy;exact hd H enc w base spare held n _ _ hy
theorem opensF_cons {α β : Type} {P : Program} {d : Kd α} {d2 : Kd β} {f : Field} {fs : List Field} {o tot k : Nat} {ok : α → Prop} {ok2 : β → Prop} (ho : f.offset = o) (hk : P.cellsOf f.type = k) (hd : Opens P d f.type ok) (hr : OpensF P d2 fs (o + k) tot ok2) :
  OpensF P (Kd.pair d d2) (f :: fs) o tot (fun x => ok x.1 ∧ ok2 x.2) := by
 intro H enc w base spare held n cs hl hf;obtain ⟨y, hy⟩ := hf f (by simp);rw [ho, hk] at hy;obtain ⟨v, hv, ov⟩ := hd H enc w base spare held n _ _ hy;obtain ⟨u, hu, ou⟩ := hr H enc w base spare held n cs hl (fun g hg => hf g (by simp [hg]));refine ⟨(v, u), ⟨_, _, ?_, hv, hu⟩, ov, ou⟩;rw [← List.drop_drop, List.take_append_drop]
theorem opens_struct {α : Type} {P : Program} {d : Kd α} {t : TypeId} {fs : Array Field} {l : List Field} {tot : Nat} {ok : α → Prop} (ht : P.underlying t = some (.struct fs)) (hl : fs.toList = l) (hc : P.cellsOf t = tot) (hF : OpensF P d l 0 tot ok) : Opens P d t ok := by
 intro H enc w base spare held fuel cs x h;obtain ⟨xs, n, _, _, hlen, hxl, hf⟩ := DataW.trod_struct ht h
 have := hF H enc w base spare held n cs (by rw [hlen, hc]) (fun f hm => by
  rw [← hl] at hm;obtain ⟨i, hi⟩ := List.getElem?_of_mem hm;have h1 := hf i f (by simpa using hi)
  have hi2 : i < xs.length := by
   have := (List.getElem?_eq_some_iff.1 hi).1;simp at this
   omega
  rw [List.getElem?_eq_getElem hi2] at h1;exact ⟨_, h1⟩)
 simpa using this
def W29 (x : S29) : Prop := ((Lit.int .i64 x.f0).wf = true) ∧ ((Lit.int .i64 x.f1).wf = true)
theorem o29 : Opens Try.prog k29 29 W29 := opens_iso (f := fun x : S29 => (x.f0, x.f1)) (fun p => ⟨p.1, p.2⟩) (fun _ => rfl) (opens_struct (tot := 2) Try.underlying29 rfl (by kernel_rfl) (opensF_cons (o := 0) (tot := 2) (k := 1) rfl (by kernel_rfl) (opens_int Try.underlying3) (opensF_last (o := 1) (tot := 2) (k := 1) rfl (by kernel_rfl) (by decide) (opens_int Try.underlying3))))
def W36 (x : S36) : Prop := ((Lit.int .i64 x.f0).wf = true) ∧ ((∀ x_ ∈ x.f1, W29 x_) ∧ x.f1.length ≤ maxLen)
theorem o36 : Opens Try.prog k36 36 W36 := opens_iso (f := fun x : S36 => (x.f0, x.f1)) (fun p => ⟨p.1, p.2⟩) (fun _ => rfl) (opens_struct (tot := 2) Try.underlying36 rfl (by kernel_rfl) (opensF_cons (o := 0) (tot := 2) (k := 1) rfl (by kernel_rfl) (opens_int Try.underlying3) (opensF_last (o := 1) (tot := 2) (k := 1) rfl (by kernel_rfl) (by decide) (opens_slice (α := S29) 29 Try.underlying34 (by kernel_rfl) o29))))
def W60 (x : S60) : Prop := ((Lit.int .i64 x.f0).wf = true) ∧ (W36 x.f1)
theorem o60 : Opens Try.prog k60 60 W60 := opens_iso (f := fun x : S60 => (x.f0, x.f1)) (fun p => ⟨p.1, p.2⟩) (fun _ => rfl) (opens_struct (tot := 3) Try.underlying60 rfl (by kernel_rfl) (opensF_cons (o := 0) (tot := 3) (k := 1) rfl (by kernel_rfl) (opens_int Try.underlying3) (opensF_last (o := 1) (tot := 3) (k := 2) rfl (by kernel_rfl) (by decide) o36)))
def W31 (x : S31) : Prop := (W29 x.f0) ∧ (W29 x.f1) ∧ (W29 x.f2)
theorem o31 : Opens Try.prog k31 31 W31 := opens_iso (f := fun x : S31 => (x.f0, x.f1, x.f2)) (fun p => ⟨p.1, p.2.1, p.2.2⟩) (fun _ => rfl) (opens_struct (tot := 6) Try.underlying31 rfl (by kernel_rfl) (opensF_cons (o := 0) (tot := 6) (k := 2) rfl (by kernel_rfl) o29 (opensF_cons (o := 2) (tot := 6) (k := 2) rfl (by kernel_rfl) o29 (opensF_last (o := 4) (tot := 6) (k := 2) rfl (by kernel_rfl) (by decide) o29))))
def W47 (x : S47) : Prop := (W29 x.f0) ∧ (W29 x.f1)
theorem o47 : Opens Try.prog k47 47 W47 := opens_iso (f := fun x : S47 => (x.f0, x.f1)) (fun p => ⟨p.1, p.2⟩) (fun _ => rfl) (opens_struct (tot := 4) Try.underlying47 rfl (by kernel_rfl) (opensF_cons (o := 0) (tot := 4) (k := 2) rfl (by kernel_rfl) o29 (opensF_last (o := 2) (tot := 4) (k := 2) rfl (by kernel_rfl) (by decide) o29)))
def W54 (x : S54) : Prop := ((Lit.int .i64 x.f0).wf = true) ∧ (W47 x.f1)
theorem o54 : Opens Try.prog k54 54 W54 := opens_iso (f := fun x : S54 => (x.f0, x.f1)) (fun p => ⟨p.1, p.2⟩) (fun _ => rfl) (opens_struct (tot := 5) Try.underlying54 rfl (by kernel_rfl) (opensF_cons (o := 0) (tot := 5) (k := 1) rfl (by kernel_rfl) (opens_int Try.underlying3) (opensF_last (o := 1) (tot := 5) (k := 4) rfl (by kernel_rfl) (by decide) o47)))
end Go.Proofs.Ytboegckbilnldaa.P

end
section
namespace Go.Proofs.Ytboegckbilnldaa.P
open Go Go.RowKit Go.Proofs.YtboegckbilnldaaW.PrintWords Go.Proofs.YtboegckbilnldaaW.PrintLast Go.Proofs.YtboegckbilnldaaW.PrintMore
attribute [local go_sem] max2_int min2_int max_two min_two max_three min_three max_four min_four max_five min_eight max_eight   -- for this text's walks alone
set_option linter.unusedVariables false
set_option linter.unusedSimpArgs false

def sawmillref10_Bounds.l0 : Nat → Int → Int → List (S29) → Int → Int → Option (Int × Int × Int × Int)
 | 0, _, _, _, _, _ => none
 | k + 1, x4, x55002000, x55002001, x55009000, x55009001 => if x4 < (x55002001.length : Int) then (if 0 ≤ x4 then ((sawmillref10_empty.f ((rd_T29 x55002001 x4).f0) ((rd_T29 x55002001 x4).f1)).bind fun t55010 => (if t55010 = true then (sawmillref10_Bounds.l0 k (wrap64 (x4 + 1)) x55002000 x55002001 x55009000 x55009001) else (sawmillref10_Bounds.l0 k (wrap64 (x4 + 1)) x55002000 x55002001 (mn x55009000 ((rd_T29 x55002001 x4).f0)) (mx x55009001 ((rd_T29 x55002001 x4).f1))))) else (none)) else (some (x55009000, x55009001, wrap64 (10 * x55002000), wrap64 (10 * (wrap64 (x55002000 + (x55002001.length : Int))))))
def sawmillref10_Bounds.f (k : Nat) (a0_0 : Int) (l0_1 : List (S29)) : Option (Int × Int × Int × Int) := (sawmillref10_Valid.f k a0_0 l0_1).bind fun bt55003 => (if (bt55003.2.length : Int) = 0 then (some (0, 0, 0, 0)) else (if 0 < (bt55003.2.length : Int) then (sawmillref10_Bounds.l0 k 0 bt55003.1 bt55003.2 ((rd_T29 bt55003.2 0).f0) ((rd_T29 bt55003.2 0).f1)) else (none)))
theorem sawmillref10_Bounds.mono_l : ∀ k, (∀ y0 y1 y2 y3 y4, LeO (sawmillref10_Bounds.l0 k y0 y1 y2 y3 y4) (sawmillref10_Bounds.l0 (k + 1) y0 y1 y2 y3 y4))
 | 0 => fun _ _ _ _ _ r h => by simp [sawmillref10_Bounds.l0] at h
 | k + 1 => by
  have ih0 := sawmillref10_Bounds.mono_l k
  ·intro y0 y1 y2 y3 y4;unfold sawmillref10_Bounds.l0
   repeat' first
   | (with_reducible exact ih0 _ _ _ _ _)
   | (with_reducible exact sawmillref10_Valid.mono _ _ _)
   | (with_reducible exact LeO.refl _)
   | (with_reducible exact LeO.none _)
   | (with_reducible refine LeO.ite ?_ ?_)
   | (with_reducible refine LeO.bind ?_ (fun _ => ?_))
   | exact ih0 _ _ _ _ _
   | exact sawmillref10_Valid.mono _ _ _
   | exact LeO.none _
   | refine LeO.ite ?_ ?_
   | refine LeO.bind ?_ (fun _ => ?_)
theorem sawmillref10_Bounds.mono : ∀ a0 a1 k, LeO (sawmillref10_Bounds.f k a0 a1) (sawmillref10_Bounds.f (k + 1) a0 a1) := by
 intro a0 a1 k;have ih0 := sawmillref10_Bounds.mono_l k;unfold sawmillref10_Bounds.f
 repeat' first
   | (with_reducible exact ih0 _ _ _ _ _)
   | (with_reducible exact sawmillref10_Valid.mono _ _ _)
   | (with_reducible exact LeO.refl _)
   | (with_reducible exact LeO.none _)
   | (with_reducible refine LeO.ite ?_ ?_)
   | (with_reducible refine LeO.bind ?_ (fun _ => ?_))
   | exact ih0 _ _ _ _ _
   | exact sawmillref10_Valid.mono _ _ _
   | exact LeO.none _
   | refine LeO.ite ?_ ?_
   | refine LeO.bind ?_ (fun _ => ?_)
def sawmillref10_Bounds.T9 : Bool × List (List Nat × List Nat) := (true, [([], []), ([0], [0]), ([], []), ([2], [2]), ([], []), ([3, 4], [3, 4]), ([5], [5]), ([6], [6]), ([1, 7], [1, 7]), ([], []), ([9], [9]), ([], []), ([11], [11]), ([], []), ([12, 13], [12, 13]), ([14], [14]), ([15], [15]), ([10, 16], [10, 16]), ([8, 17], [8, 17]), ([18, 0, 1, 2, 3, 4, 5, 6, 7, 8, 9, 10, 11, 12, 13, 14, 15, 16, 17, 18], [18])])
def sawmillref10_Bounds.B9 : List Nat := [0, 1, 0, 4, 0, 28, 60, 124, 255, 0, 512, 0, 2048, 0, 14336, 30720, 63488, 130560, 262143, 524287]
theorem sawmillref10_Bounds.tab9 : rtab .any (opsOf Try.f55 9) = sawmillref10_Bounds.T9 := by kernel_rfl
theorem sawmillref10_Bounds.bits9 : waitsOk sawmillref10_Bounds.T9.2 sawmillref10_Bounds.B9 = true := by kernel_rfl
set_option maxHeartbeats 8000000 in
set_option maxRecDepth 100000 in
theorem sawmillref10_Bounds.calls (k : Nat) (a0_0 : Int) (A0_1 : Option Addr) (c0_1 : Nat) (l0_1 : List (S29)) (r1 : Int) (r2 : Int) (r3 : Int) (r4 : Int) (w : World) (hr0_1 : Kd.C k29 w A0_1 l0_1.length l0_1) (hc0_1 : l0_1.length ≤ c0_1) (h : sawmillref10_Bounds.f k a0_0 l0_1 = some (r1, r2, r3, r4)) :
  Calls Try.prog 55 #[.agg #[.int .i64 a0_0, .slice A0_1 l0_1.length c0_1]] w fun e w' => e = .returned (.agg #[.int .i64 r1, .int .i64 r2, .int .i64 r3, .int .i64 r4]) ∧ Below w.heap.size w w' := by
 have hu36 := Try.underlying36;have hu47 := Try.underlying47;have hu29 := Try.underlying29;have HR0_1 := Aside0.mk hr0_1;have HC0_1 := Aside0.mk hc0_1;clear hr0_1 hc0_1;have HB := A_ (Below.refl w.heap.size w);have H : ((sawmillref10_Valid.f k a0_0 l0_1).bind fun bt55003 => (if (bt55003.2.length : Int) = 0 then (some (0, 0, 0, 0)) else (if 0 < (bt55003.2.length : Int) then (sawmillref10_Bounds.l0 k 0 bt55003.1 bt55003.2 ((rd_T29 bt55003.2 0).f0) ((rd_T29 bt55003.2 0).f1)) else (none)))) = some (r1, r2, r3, r4) := h;clear h;replace H := Option.bind_eq_some_iff.mp H;obtain ⟨⟨t55003, t55004⟩, A20, H⟩ := H;replace H : (if (t55004.length : Int) = 0 then (some (0, 0, 0, 0)) else (if 0 < (t55004.length : Int) then (sawmillref10_Bounds.l0 k 0 t55003 t55004 ((rd_T29 t55004 0).f0) ((rd_T29 t55004 0).f1)) else (none))) = some (r1, r2, r3, r4) := H;have A2 := Aside0.mk A20;clear A20
 by_cases c3 : (t55004.length : Int) = 0
 ·rw [if_pos c3] at H;have c3b0 : ((t55004.length : Int) == 0) = true := beq_iff_eq.mpr c3;have c3b1 : ((t55004.length : Int) != 0) = false := bne_eq_false_iff_eq.mpr c3;clear c3;simp only [Option.some.injEq, Prod.mk.injEq] at H;obtain ⟨rfl, rfl, rfl, rfl⟩ := H;go_enter Try.func55, Try.ntmps55;go_wp2_with (first | ((with_reducible refine gate_dst (N := 1) rfl ?_); refine bx_ 1 (cs := #[.int .i64 a0_0, .slice A0_1 l0_1.length c0_1]) (t := 36) ?_; intro gb55001 hg w4 hbox hb; have BK55001 := A_ hbox; have GW55001 := gz_ (w := w) hg; have GE55001 := gz_ (w := w) hg; replace HB := bA_ hb; clear hb hbox hg) | ((with_reducible refine gate_dst (N := 2) rfl ?_); refine bx_ 2 (cs := #[.int .i64 0, .int .i64 0, .int .i64 0, .int .i64 0]) (t := 47) ?_; intro gb55002 hg w5 hbox hb; have BK55002 := A_ hbox; have GW55002 := gz_ (w := w) hg; have GE55002 := gz_ (w := w) hg; replace HB := bA_ hb; have NB55001_55002 := nlt_ BK55001 hg; have NB55002_55001 := ngt_ BK55001 hg; replace BK55001 := bb_ BK55001 hb; clear hb hbox hg; have hnb6 := NB55001_55002.out; have hnc6 := NB55002_55001.out; have hcz7_0 := cz0_ BK55001; have hcz7_1 := cz1_ BK55001; have hfz7_0 := fz_ BK55001 0; have hfz7_1 := fz_ BK55001 1) | ((with_reducible refine gate_callee (f := 60) rfl ?_); refine goesL_ (some 6) rfl rfl Try.func60 (by kernel_rfl) rfl #[.agg #[.int .i64 a0_0, .slice A0_1 l0_1.length c0_1]] rfl la_ ?_; (with_reducible refine (sawmillref10_Valid.calls k a0_0 (fun k_ => k_ < w.heap.size) _ _ l0_1 t55003 t55004 _ ?side1 A2.out).mono ?_); (case side1 => exact Kd.V_mk HC0_1.out (Kd.F_below (Kd.C_F k29_heap HR0_1.out) be_)); rintro e w8 ⟨v55005, rfl, ho0, hb⟩; refine ⟨_, rfl, ?_⟩; have HO55006 := A_ (Kd.V_lower (Kd.V_mono (ok' := fun k_ => k_ ≠ gb55001 ∧ k_ ≠ gb55002) ho0 (fun k_ hk_ => ⟨Or.elim hk_ (fun hs_ => fun e_ => Nat.not_le.2 hs_ (by rw [e_]; exact GW55001.out)) (fun hn_ => (Kd.freshB (g := gb55001) (o := .cells #[.int .i64 a0_0, .slice A0_1 l0_1.length c0_1] 36 (0, 0)) (fb_ BK55001.out) k_ hn_)), Or.elim hk_ (fun hs_ => fun e_ => Nat.not_le.2 hs_ (by rw [e_]; exact GW55002.out)) (fun hn_ => (Kd.freshB (g := gb55002) (o := .cells #[.int .i64 0, .int .i64 0, .int .i64 0, .int .i64 0] 47 (0, 0)) (fb_ BK55002.out) k_ hn_))⟩)) bz_); replace BK55001 := bb_ BK55001 hb; replace BK55002 := bb_ BK55002 hb; replace HB := bA_ hb; (try clear hb); (try clear hk); (try clear ho0); have hcz9_0 := cz0_ BK55001; have hcz9_1 := cz1_ BK55001; have hfz9_0 := fz_ BK55001 0; have hfz9_1 := fz_ BK55001 1; obtain ⟨Ao10, co10, eo10⟩ := Kd.V_slice HO55006.out; subst eo10; have hcz11_0 := cz0_ BK55002; have hcz11_1 := cz1_ BK55002; have hcz11_2 := cz2_ BK55002; have hcz11_3 := cz3_ BK55002; have hfz11_0 := fz_ BK55002 0; have hfz11_1 := fz_ BK55002 1; have hfz11_2 := fz_ BK55002 2; have hfz11_3 := fz_ BK55002 3));refine bodyPost_ret (results_cell_row rfl _ _ gb55002 47 #[.int .i64 0, .int .i64 0, .int .i64 0, .int .i64 0] (0, 0) _ rfl (ch_ BK55002) Try.underlying47 rfl (by kernel_rfl)) rfl ?_;exact ⟨er_, be_⟩
 ·rw [if_neg c3] at H;have c3b0 : ((t55004.length : Int) == 0) = false := beq_eq_false_iff_ne.mpr c3;have c3b1 : ((t55004.length : Int) != 0) = true := bne_iff_ne.mpr c3;have c3b2 : ¬ (t55004 = []) := fun h_ => c3 (by rw [h_]; rfl)
  by_cases c12 : 0 < (t55004.length : Int)
  ·rw [if_pos c12] at H;have c12b0 : decide (0 < (t55004.length : Int)) = true := decide_eq_true c12;have c12b1 : decide (0 < t55004.length) = true := decide_eq_true (by omega);clear c12;have H' := Aside0.mk H;clear H;go_enter Try.func55, Try.ntmps55
   go_wp2_with (first | ((with_reducible refine gate_dst (N := 1) rfl ?_); refine bx_ 1 (cs := #[.int .i64 a0_0, .slice A0_1 l0_1.length c0_1]) (t := 36) ?_; intro gb55001 hg w13 hbox hb; have BK55001 := A_ hbox; have GW55001 := gz_ (w := w) hg; have GE55001 := gz_ (w := w) hg; replace HB := bA_ hb; clear hb hbox hg) | ((with_reducible refine gate_dst (N := 2) rfl ?_); refine bx_ 2 (cs := #[.int .i64 0, .int .i64 0, .int .i64 0, .int .i64 0]) (t := 47) ?_; intro gb55002 hg w14 hbox hb; have BK55002 := A_ hbox; have GW55002 := gz_ (w := w) hg; have GE55002 := gz_ (w := w) hg; replace HB := bA_ hb; have NB55001_55002 := nlt_ BK55001 hg; have NB55002_55001 := ngt_ BK55001 hg; replace BK55001 := bb_ BK55001 hb; clear hb hbox hg; have hnb15 := NB55001_55002.out; have hnc15 := NB55002_55001.out; have hcz16_0 := cz0_ BK55001; have hcz16_1 := cz1_ BK55001; have hfz16_0 := fz_ BK55001 0; have hfz16_1 := fz_ BK55001 1) | ((with_reducible refine gate_callee (f := 60) rfl ?_); refine goesL_ (some 6) rfl rfl Try.func60 (by kernel_rfl) rfl #[.agg #[.int .i64 a0_0, .slice A0_1 l0_1.length c0_1]] rfl la_ ?_; (with_reducible refine (sawmillref10_Valid.calls k a0_0 (fun k_ => k_ < w.heap.size) _ _ l0_1 t55003 t55004 _ ?side1 A2.out).mono ?_); (case side1 => exact Kd.V_mk HC0_1.out (Kd.F_below (Kd.C_F k29_heap HR0_1.out) be_)); rintro e w17 ⟨v55005, rfl, ho0, hb⟩; refine ⟨_, rfl, ?_⟩; have HO55006 := A_ (Kd.V_lower (Kd.V_mono (ok' := fun k_ => k_ ≠ gb55001 ∧ k_ ≠ gb55002) ho0 (fun k_ hk_ => ⟨Or.elim hk_ (fun hs_ => fun e_ => Nat.not_le.2 hs_ (by rw [e_]; exact GW55001.out)) (fun hn_ => (Kd.freshB (g := gb55001) (o := .cells #[.int .i64 a0_0, .slice A0_1 l0_1.length c0_1] 36 (0, 0)) (fb_ BK55001.out) k_ hn_)), Or.elim hk_ (fun hs_ => fun e_ => Nat.not_le.2 hs_ (by rw [e_]; exact GW55002.out)) (fun hn_ => (Kd.freshB (g := gb55002) (o := .cells #[.int .i64 0, .int .i64 0, .int .i64 0, .int .i64 0] 47 (0, 0)) (fb_ BK55002.out) k_ hn_))⟩)) bz_); replace BK55001 := bb_ BK55001 hb; replace BK55002 := bb_ BK55002 hb; replace HB := bA_ hb; (try clear hb); (try clear hk); (try clear ho0); have hcz18_0 := cz0_ BK55001; have hcz18_1 := cz1_ BK55001; have hfz18_0 := fz_ BK55001 0; have hfz18_1 := fz_ BK55001 1; obtain ⟨Ao19, co19, eo19⟩ := Kd.V_slice HO55006.out; subst eo19; have p55007 : 0 ≤ (0 : Int) := (by omega); have q55007 : 0 < (t55004.length : Int) := as_; obtain ⟨ad55007, e55007, hx55007_0, hx55007_1⟩ := at_T29 (Kd.V_reads' HO55006.out).2.2 0 p55007 q55007; cases e55007; have qi55007 : (0 < t55004.length) = True := eq_true (by omega); (try rw [show ((0 : Int)).toNat = 0 from rfl] at hx55007_0); (try rw [show 0 * 2 = 0 from rfl] at hx55007_0); (try rw [Addr.add_zero'] at hx55007_0); (try rw [show ((0 : Int)).toNat = 0 from rfl] at hx55007_1); (try rw [show 0 * 2 = 0 from rfl] at hx55007_1); (try rw [Addr.add_zero'] at hx55007_1); have hn55007_0 : ad55007.block ≠ gb55001 := (by have z_ := (Kd.F_in (Kd.V_F HO55006.out) rfl (by omega) (by decide)); first | exact z_ | exact z_.1 | exact z_.2 | exact z_.1.1 | exact z_.1.2 | exact z_.2.1 | exact z_.2.2 | exact z_.1.1.1 | exact z_.1.1.2 | exact z_.2.2.1 | exact z_.2.2.2); have hn55007_1 : ad55007.block ≠ gb55001 := (by have z_ := (Kd.F_in (Kd.V_F HO55006.out) rfl (by omega) (by decide)); first | exact z_ | exact z_.1 | exact z_.2 | exact z_.1.1 | exact z_.1.2 | exact z_.2.1 | exact z_.2.2 | exact z_.1.1.1 | exact z_.1.1.2 | exact z_.2.2.1 | exact z_.2.2.2); replace hx55007_0 := (cell_far (p := ⟨gb55001, 0, none⟩) (by first | (rw [add_block]; exact hn55007_0) | (show (Addr.add _ _).block ≠ _; rw [add_block]; exact hn55007_0) | exact hn55007_0) (.int .i64 t55003)).trans hx55007_0; replace hx55007_1 := (cell_far (p := ⟨gb55001, 0, none⟩) (by first | (rw [add_block]; exact hn55007_0) | (show (Addr.add _ _).block ≠ _; rw [add_block]; exact hn55007_0) | exact hn55007_0) (.int .i64 t55003)).trans hx55007_1; replace hx55007_0 := (cell_far (p := ⟨gb55001, 1, none⟩) (by first | (rw [add_block]; exact hn55007_1) | (show (Addr.add _ _).block ≠ _; rw [add_block]; exact hn55007_1) | exact hn55007_1) (.slice (some ad55007) t55004.length co19)).trans hx55007_0; replace hx55007_1 := (cell_far (p := ⟨gb55001, 1, none⟩) (by first | (rw [add_block]; exact hn55007_1) | (show (Addr.add _ _).block ≠ _; rw [add_block]; exact hn55007_1) | exact hn55007_1) (.slice (some ad55007) t55004.length co19)).trans hx55007_1; clear hn55007_0 hn55007_1; replace p55007 := eq_true p55007; replace q55007 := eq_true q55007) | ((with_reducible refine gate_dst (N := 3) rfl ?_); refine bx_ 3 (cs := #[.int .i64 0, .int .i64 0]) (t := 29) ?_; intro gb55008 hg w20 hbox hb; replace HO55006 := A_ (Kd.V_below (Kd.V_elderB (by (with_reducible repeat (first | apply Kd.V_alloc | apply Kd.V_drewN | apply Kd.V_drew)); exact (Kd.V_mono (Kd.V_far (p := ⟨gb55001, 1, none⟩) (Kd.V_far (p := ⟨gb55001, 0, none⟩) (Kd.V_mono HO55006.out (fun k_ hk => (⟨hk, hk.1⟩ : _ ∧ k_ ≠ gb55001))) (fun _ hk => hk.2) (.int .i64 t55003)) (fun _ hk => hk.2) (.slice (some ad55007) t55004.length co19)) (fun _ h_ => h_.1))) gb55008 (Nat.le_of_eq hg.symm)) hb); have BK55008 := A_ hbox; have GW55008 := gz_ (w := w) hg; have GE55008 := gz_ (w := w) hg; replace HB := bA_ hb; have NB55001_55008 := nlt0_ (g := gb55001) (o := .cells #[.int .i64 t55003, .slice (some ad55007) t55004.length co19] 36 (0, 0)) (ch_ BK55001) hg; have NB55008_55001 := ngt0_ (g := gb55001) (o := .cells #[.int .i64 t55003, .slice (some ad55007) t55004.length co19] 36 (0, 0)) (ch_ BK55001) hg; replace BK55001 := A_ (blk_below (g := gb55001) (o := .cells #[.int .i64 t55003, .slice (some ad55007) t55004.length co19] 36 (0, 0)) (ch_ BK55001) hb); have NB55002_55008 := nlt0_ (g := gb55002) (o := .cells #[.int .i64 0, .int .i64 0, .int .i64 0, .int .i64 0] 47 (0, 0)) (ch_ BK55002) hg; have NB55008_55002 := ngt0_ (g := gb55002) (o := .cells #[.int .i64 0, .int .i64 0, .int .i64 0, .int .i64 0] 47 (0, 0)) (ch_ BK55002) hg; replace BK55002 := A_ (blk_below (g := gb55002) (o := .cells #[.int .i64 0, .int .i64 0, .int .i64 0, .int .i64 0] 47 (0, 0)) (ch_ BK55002) hb); clear hb hbox hg; have hnb21 := NB55008_55001.out; have hnc21 := NB55001_55008.out; have hnb22 := NB55008_55002.out; have hnc22 := NB55002_55008.out; have hcz23_0 := cz0_ BK55008; have hcz23_1 := cz1_ BK55008; have hfz23_0 := fz_ BK55008 0; have hfz23_1 := fz_ BK55008 1))
   go_loopg [4] k (fun kq v4 w' => ∃ (x4_1 : Int) (x55009000_1 : Int) (x55009001_1 : Int), v4 = .int .i64 x4_1 ∧ Aside0 (sawmillref10_Bounds.l0 kq x4_1 t55003 t55004 x55009000_1 x55009001_1 = some (r1, r2, r3, r4)) ∧ Aside0 (kq ≤ k) ∧ Aside0 (Kd.V k29 29 w' w.heap.size (fun k_ => k_ ≠ gb55001 ∧ k_ ≠ gb55002 ∧ k_ ≠ gb55008) (.slice (some ad55007) t55004.length co19) t55004) ∧ Aside0 (w'.heap[gb55001]? = some (.cells #[.int .i64 t55003, (.slice (some ad55007) t55004.length co19)] 36 (0, 0))) ∧ Aside0 (w'.heap[gb55002]? = some (.cells #[.int .i64 0, .int .i64 0, .int .i64 0, .int .i64 0] 47 (0, 0))) ∧ Aside0 (w'.heap[gb55008]? = some (.cells #[.int .i64 x55009000_1, .int .i64 x55009001_1] 29 (0, 0))) ∧ Aside0 (Below w.heap.size w w'))
   case atStart => exact ⟨(0), ((rd_T29 t55004 0).f0), ((rd_T29 t55004 0).f1), rs_, H', ⟨Nat.le_refl _⟩, ⟨by (with_reducible repeat (first | apply Kd.V_alloc | apply Kd.V_drewN | apply Kd.V_drew)); exact Kd.V_mono (Kd.V_far (p := ⟨gb55008, 1, none⟩) (Kd.V_far (p := ⟨gb55008, 0, none⟩) (Kd.V_mono HO55006.out (fun k_ hk => (⟨hk, hk.2⟩ : _ ∧ k_ ≠ gb55008))) (fun _ hk => hk.2) (.int .i64 ((rd_T29 t55004 0).f0))) (fun _ hk => hk.2) (.int .i64 ((rd_T29 t55004 0).f1))) (fun _ hk => ⟨hk.1.1.1, ⟨hk.1.1.2, hk.1.2⟩⟩)⟩, ⟨ch_ BK55001⟩, ⟨ch_ BK55002⟩, ⟨ch_ BK55008⟩, ⟨be_⟩⟩
   case round =>
    clear H';(try clear c1);(try clear c2);(try clear p2);(try clear c3);(try clear c3b0);(try clear c3b1);(try clear c3b2);(try clear c5);(try clear p5);(try clear q5);(try clear hx5);(try clear qi5);(try clear c6);(try clear c12);(try clear c12b0);(try clear c12b1);(try clear c15);(try clear c21);(try clear c22);(try clear hcz11_0);(try clear hcz11_1);(try clear hcz11_2);(try clear hcz11_3);(try clear hcz16_0);(try clear hcz16_1);(try clear hcz18_0);(try clear hcz18_1);(try clear hcz23_0);(try clear hcz23_1);(try clear hcz7_0);(try clear hcz7_1);(try clear hcz9_0);(try clear hcz9_1);(try clear hfz11_0);(try clear hfz11_1);(try clear hfz11_2);(try clear hfz11_3);(try clear hfz16_0);(try clear hfz16_1);(try clear hfz18_0);(try clear hfz18_1);(try clear hfz23_0);(try clear hfz23_1);(try clear hfz7_0);(try clear hfz7_1);(try clear hfz9_0);(try clear hfz9_1);(try clear hx55007_0);(try clear hx55007_1);(try clear p55007);(try clear q55007);obtain ⟨x4_1, x55009000_1, x55009001_1, rfl, HA, HK1, HO_55002001, BK55001, BK55002, BK55008, HB⟩ := hrel;cases gk with
    | zero => exact absurd HA.out (by simp [sawmillref10_Bounds.l0])
    | succ k1 =>
     have H := HA.out;clear HA;simp only [sawmillref10_Bounds.l0] at H
     by_cases c24 : x4_1 < (t55004.length : Int)
     ·rw [if_pos c24] at H;have c24b0 : decide (x4_1 < (t55004.length : Int)) = true := decide_eq_true c24;clear c24
      by_cases c25 : 0 ≤ x4_1
      ·rw [if_pos c25] at H;have c25b0 : decide (0 ≤ x4_1) = true := decide_eq_true c25;clear c25;replace H := Option.bind_eq_some_iff.mp H;obtain ⟨t55010, A260, H⟩ := H;replace H : (if t55010 = true then (sawmillref10_Bounds.l0 k1 (wrap64 (x4_1 + 1)) t55003 t55004 x55009000_1 x55009001_1) else (sawmillref10_Bounds.l0 k1 (wrap64 (x4_1 + 1)) t55003 t55004 (mn x55009000_1 ((rd_T29 t55004 x4_1).f0)) (mx x55009001_1 ((rd_T29 t55004 x4_1).f1)))) = some (r1, r2, r3, r4) := H;have A26 := Aside0.mk A260;clear A260
       by_cases c27 : t55010 = true
       ·subst c27;(have H1 : (sawmillref10_Bounds.l0 k1 (wrap64 (x4_1 + 1)) t55003 t55004 x55009000_1 x55009001_1) = some (r1, r2, r3, r4) := by rw [if_pos rfl] at H; exact H);clear H;have H := H1;clear H1;have H' := Aside0.mk H;clear H;have hnb28 := NB55001_55002.out;have hnc28 := NB55002_55001.out;have hnb29 := NB55001_55008.out;have hnc29 := NB55008_55001.out;have hcz30_0 := cz0_ BK55001;have hcz30_1 := cz1_ BK55001;have hfz30_0 := fz_ BK55001 0;have hfz30_1 := fz_ BK55001 1;have p55009 : 0 ≤ (x4_1 : Int) := as_;have q55009 : x4_1 < (t55004.length : Int) := as_;obtain ⟨ad55009, e55009, hx55009_0, hx55009_1⟩ := at_T29 (Kd.V_reads' HO_55002001.out).2.2 x4_1 p55009 q55009;obtain rfl : ad55007 = ad55009 := (by injection e55009);replace p55009 := eq_true p55009;replace q55009 := eq_true q55009;go_wp2_with (first | ((with_reducible refine gate_callee (f := 59) rfl ?_); refine goesL_ (some 28) rfl rfl Try.func59 (by kernel_rfl) rfl #[.agg #[.int .i64 ((rd_T29 t55004 x4_1).f0), .int .i64 ((rd_T29 t55004 x4_1).f1)]] rfl la_ ?_; (with_reducible refine (sawmillref10_empty.calls ((rd_T29 t55004 x4_1).f0) ((rd_T29 t55004 x4_1).f1) true _ A26.out).mono ?_); rintro e w31 ⟨rfl, hb⟩; refine ⟨_, rfl, ?_⟩; replace HO_55002001 := kV_ HO_55002001 hb; replace BK55001 := bb_ BK55001 hb; replace BK55002 := bb_ BK55002 hb; replace BK55008 := bb_ BK55008 hb; replace HB := bA_ hb; (try clear hb); (try clear hk)))
        go_roundg k1
        case measure => have := HK1.out; omega
        case rel => exact ⟨(wrap64 (x4_1 + 1)), (x55009000_1), (x55009001_1), rs_, H', ⟨by have := HK1.out; omega⟩, ⟨fV_ HO_55002001.out⟩, ⟨fb_ BK55001.out⟩, ⟨fb_ BK55002.out⟩, ⟨fb_ BK55008.out⟩, ⟨be_⟩⟩
       ·replace c27 := Bool.eq_false_iff.mpr c27;subst c27;(have H1 : (sawmillref10_Bounds.l0 k1 (wrap64 (x4_1 + 1)) t55003 t55004 (mn x55009000_1 ((rd_T29 t55004 x4_1).f0)) (mx x55009001_1 ((rd_T29 t55004 x4_1).f1))) = some (r1, r2, r3, r4) := by rw [if_neg (show ¬ (false = true) by decide)] at H; exact H);clear H;have H := H1;clear H1;obtain ⟨ji32, hji32⟩ : ∃ j_ : Int, (mn x55009000_1 ((rd_T29 t55004 x4_1).f0)) = j_ := ⟨_, rfl⟩;(replace H : (sawmillref10_Bounds.l0 k1 (wrap64 (x4_1 + 1)) t55003 t55004 ji32 (mx x55009001_1 ((rd_T29 t55004 x4_1).f1))) = some (r1, r2, r3, r4) := by first | (rw [hji32] at H; exact H) | (simp only [hji32] at H ⊢; exact H));(try rw [hji32] at A26);have hji32_ : (if ((rd_T29 t55004 x4_1).f0) < x55009000_1 then ((rd_T29 t55004 x4_1).f0) else x55009000_1) = ji32 := hji32;obtain ⟨ji33, hji33⟩ : ∃ j_ : Int, (mx x55009001_1 ((rd_T29 t55004 x4_1).f1)) = j_ := ⟨_, rfl⟩;(replace H : (sawmillref10_Bounds.l0 k1 (wrap64 (x4_1 + 1)) t55003 t55004 ji32 ji33) = some (r1, r2, r3, r4) := by first | (rw [hji33] at H; exact H) | (simp only [hji33] at H ⊢; exact H));(try rw [hji33] at A26);have hji33_ : (if x55009001_1 < ((rd_T29 t55004 x4_1).f1) then ((rd_T29 t55004 x4_1).f1) else x55009001_1) = ji33 := hji33;have H' := Aside0.mk H;clear H;have hnb34 := NB55001_55002.out;have hnc34 := NB55002_55001.out;have hnb35 := NB55001_55008.out;have hnc35 := NB55008_55001.out;have hcz36_0 := cz0_ BK55001;have hcz36_1 := cz1_ BK55001;have hfz36_0 := fz_ BK55001 0;have hfz36_1 := fz_ BK55001 1;have p55009 : 0 ≤ (x4_1 : Int) := as_;have q55009 : x4_1 < (t55004.length : Int) := as_;obtain ⟨ad55009, e55009, hx55009_0, hx55009_1⟩ := at_T29 (Kd.V_reads' HO_55002001.out).2.2 x4_1 p55009 q55009;obtain rfl : ad55007 = ad55009 := (by injection e55009);replace p55009 := eq_true p55009;replace q55009 := eq_true q55009;(try go_wp2_with (first | ((with_reducible refine gate_callee (f := 59) rfl ?_); refine goesL_ (some 28) rfl rfl Try.func59 (by kernel_rfl) rfl #[.agg #[.int .i64 ((rd_T29 t55004 x4_1).f0), .int .i64 ((rd_T29 t55004 x4_1).f1)]] rfl la_ ?_; (with_reducible refine (sawmillref10_empty.calls ((rd_T29 t55004 x4_1).f0) ((rd_T29 t55004 x4_1).f1) false _ A26.out).mono ?_); rintro e w37 ⟨rfl, hb⟩; refine ⟨_, rfl, ?_⟩; replace HO_55002001 := kV_ HO_55002001 hb; replace BK55001 := bb_ BK55001 hb; replace BK55002 := bb_ BK55002 hb; replace BK55008 := bb_ BK55008 hb; replace HB := bA_ hb; (try clear hb); (try clear hk))));replace HO_55002001 := A_ (Kd.V_drew HO_55002001.out);replace BK55001 := A_ (blk_drew BK55001.out);replace BK55002 := A_ (blk_drew BK55002.out);replace BK55008 := A_ (blk_drew BK55008.out);replace HB := A_ (below_drew1 HB.out);have p55011 : 0 ≤ (x4_1 : Int) := as_;have q55011 : x4_1 < (t55004.length : Int) := as_;obtain ⟨ad55011, e55011, hx55011_0, hx55011_1⟩ := at_T29 (Kd.V_reads' HO_55002001.out).2.2 x4_1 p55011 q55011;obtain rfl : ad55007 = ad55011 := (by injection e55011);replace p55011 := eq_true p55011;replace q55011 := eq_true q55011;have p55012 : 0 ≤ (x4_1 : Int) := as_;have q55012 : x4_1 < (t55004.length : Int) := as_;obtain ⟨ad55012, e55012, hx55012_0, hx55012_1⟩ := at_T29 (Kd.V_reads' HO_55002001.out).2.2 x4_1 p55012 q55012;obtain rfl : ad55007 = ad55012 := (by injection e55012);replace p55012 := eq_true p55012;replace q55012 := eq_true q55012
        refine start_ (n := 20) (S := fun w' => w'.cell? ⟨gb55008, 0, none⟩ = some (.int .i64 x55009000_1) ∧ w'.cell? ⟨gb55008, 1, none⟩ = some (.int .i64 x55009001_1) ∧ w'.cell? ⟨gb55001, 0, none⟩ = some (.int .i64 t55003) ∧ w'.cell? ⟨gb55001, 1, none⟩ = some (.slice (some ad55007) t55004.length co19) ∧ w'.cell? (ad55007.add ((x4_1).toNat * 2)) = some (.int .i64 ((rd_T29 t55004 x4_1).f0)) ∧ w'.cell? ⟨(ad55007.add ((x4_1).toNat * 2)).block, (ad55007.add ((x4_1).toNat * 2)).off + 1, none⟩ = some (.int .i64 ((rd_T29 t55004 x4_1).f1)) ∧ w'.cell? (ad55007.add ((x4_1).toNat * 2)) = some (.int .i64 ((rd_T29 t55004 x4_1).f0)) ∧ w'.cell? ⟨(ad55007.add ((x4_1).toNat * 2)).block, (ad55007.add ((x4_1).toNat * 2)).off + 1, none⟩ = some (.int .i64 ((rd_T29 t55004 x4_1).f1))) (ds := [19]) #[f_,f_,f_,f_,f_,f_,f_,f_,f_,f_,f_,f_,f_,f_,f_,f_,f_,f_,f_,f_] (by kernel_rfl) rfl rfl ⟨cl_ BK55008 0, cl_ BK55008 1, cl_ BK55001 0, cl_ BK55001 1, hx55011_0, hx55011_1, hx55012_0, hx55012_1⟩ (fun hHeld => ?_); refine with_tabW sawmillref10_Bounds.tab9 sawmillref10_Bounds.bits9 (fun HT_ HW_ => ?_);generalize w37.drew = w38 at HO_55002001 BK55001 BK55002 BK55008 HB hx55011_0 hx55011_1 hx55012_0 hx55012_1 hHeld ⊢;refine pu_ (i := 0) (N := some 30) #[t_,f_,f_,f_,f_,f_,f_,f_,f_,f_,f_,f_,f_,f_,f_,f_,f_,f_,f_,f_] ?_;refine pu_ (i := 2) (N := some 32) #[t_,f_,t_,f_,f_,f_,f_,f_,f_,f_,f_,f_,f_,f_,f_,f_,f_,f_,f_,f_] ?_;refine pu_ (i := 4) (N := some 34) #[t_,f_,t_,f_,t_,f_,f_,f_,f_,f_,f_,f_,f_,f_,f_,f_,f_,f_,f_,f_] ?_;refine pu_ (i := 9) (N := some 39) #[t_,f_,t_,f_,t_,f_,f_,f_,f_,t_,f_,f_,f_,f_,f_,f_,f_,f_,f_,f_] ?_;refine pu_ (i := 11) (N := some 41) #[t_,f_,t_,f_,t_,f_,f_,f_,f_,t_,f_,t_,f_,f_,f_,f_,f_,f_,f_,f_] ?_;refine pu_ (i := 13) (N := some 43) #[t_,f_,t_,f_,t_,f_,f_,f_,f_,t_,f_,t_,f_,t_,f_,f_,f_,f_,f_,f_] ?_;refine take_ (i := 1) (N := some 31) #[t_,t_,t_,f_,t_,f_,f_,f_,f_,t_,f_,t_,f_,t_,f_,f_,f_,f_,f_,f_] rfl rfl (take_ofW HT_.out HW_.out (by kernel_rfl)) id3_ (Or.inl ⟨by rfl, by rintro w' ⟨s0, s1, s2, s3, s4, s5, s6, s7⟩; go_simp; with_reducible rfl⟩) hHeld pt_ ?_;refine take_ (i := 3) (N := some 33) #[t_,t_,t_,t_,t_,f_,f_,f_,f_,t_,f_,t_,f_,t_,f_,f_,f_,f_,f_,f_] rfl rfl (take_ofW HT_.out HW_.out (by kernel_rfl)) id3_ (Or.inl ⟨by rfl, by rintro w' ⟨s0, s1, s2, s3, s4, s5, s6, s7⟩; go_simp; with_reducible rfl⟩) hHeld pt_ ?_;refine pu_ (i := 5) (N := some 35) #[t_,t_,t_,t_,t_,t_,f_,f_,f_,t_,f_,t_,f_,t_,f_,f_,f_,f_,f_,f_] ?_;refine pu_ (i := 6) (N := some 36) #[t_,t_,t_,t_,t_,t_,t_,f_,f_,t_,f_,t_,f_,t_,f_,f_,f_,f_,f_,f_] ?_;refine take_ (i := 7) (N := some 37) #[t_,t_,t_,t_,t_,t_,t_,t_,f_,t_,f_,t_,f_,t_,f_,f_,f_,f_,f_,f_] rfl rfl (take_ofW HT_.out HW_.out (by kernel_rfl)) id3_ (Or.inl ⟨by rfl, by rintro w' ⟨s0, s1, s2, s3, s4, s5, s6, s7⟩; go_simp; with_reducible rfl⟩) hHeld pt_ ?_;refine pu_ (i := 8) (N := some 38) #[t_,t_,t_,t_,t_,t_,t_,t_,t_,t_,f_,t_,f_,t_,f_,f_,f_,f_,f_,f_] ?_;refine take_ (i := 10) (N := some 40) #[t_,t_,t_,t_,t_,t_,t_,t_,t_,t_,t_,t_,f_,t_,f_,f_,f_,f_,f_,f_] rfl rfl (take_ofW HT_.out HW_.out (by kernel_rfl)) id3_ (Or.inl ⟨by rfl, by rintro w' ⟨s0, s1, s2, s3, s4, s5, s6, s7⟩; go_simp; with_reducible rfl⟩) hHeld pt_ ?_;refine take_ (i := 12) (N := some 42) #[t_,t_,t_,t_,t_,t_,t_,t_,t_,t_,t_,t_,t_,t_,f_,f_,f_,f_,f_,f_] rfl rfl (take_ofW HT_.out HW_.out (by kernel_rfl)) id3_ (Or.inl ⟨by rfl, by rintro w' ⟨s0, s1, s2, s3, s4, s5, s6, s7⟩; go_simp; with_reducible rfl⟩) hHeld pt_ ?_;refine pu_ (i := 14) (N := some 44) #[t_,t_,t_,t_,t_,t_,t_,t_,t_,t_,t_,t_,t_,t_,t_,f_,f_,f_,f_,f_] ?_;refine pu_ (i := 15) (N := some 45) #[t_,t_,t_,t_,t_,t_,t_,t_,t_,t_,t_,t_,t_,t_,t_,t_,f_,f_,f_,f_] ?_;refine take_ (i := 16) (N := some 46) #[t_,t_,t_,t_,t_,t_,t_,t_,t_,t_,t_,t_,t_,t_,t_,t_,t_,f_,f_,f_] rfl rfl (take_ofW HT_.out HW_.out (by kernel_rfl)) id3_ (Or.inl ⟨by rfl, by rintro w' ⟨s0, s1, s2, s3, s4, s5, s6, s7⟩; go_simp; with_reducible rfl⟩) hHeld pt_ ?_;refine pu_ (i := 17) (N := some 47) #[t_,t_,t_,t_,t_,t_,t_,t_,t_,t_,t_,t_,t_,t_,t_,t_,t_,t_,f_,f_] ?_
        refine pu_ (i := 18) (N := some 48) #[t_,t_,t_,t_,t_,t_,t_,t_,t_,t_,t_,t_,t_,t_,t_,t_,t_,t_,t_,f_] ?_;refine last_ (i := 19) (N := none) #[t_,t_,t_,t_,t_,t_,t_,t_,t_,t_,t_,t_,t_,t_,t_,t_,t_,t_,t_,t_] rfl rfl (one_of HT_.out (by kernel_rfl)) (by decide) (fun K hK => ?_);have hs39 : w38.cell? ⟨gb55008, 0, none⟩ = some (.int .i64 x55009000_1) := cl_ BK55008 0;have hfs39 := fz_ BK55008 0;have hns39_0 := NB55001_55008.out;have hns39_1 := NB55002_55008.out;have hms39_0 := NB55008_55001.out;have hms39_1 := NB55008_55002.out;have hs40 : w38.cell? ⟨gb55008, 1, none⟩ = some (.int .i64 x55009001_1) := cl_ BK55008 1;have hfs40 := fz_ BK55008 1;have hns40_0 := NB55001_55008.out;have hns40_1 := NB55002_55008.out;have hms40_0 := NB55008_55001.out;have hms40_1 := NB55008_55002.out;refine skip_ (w1 := ?_) (by rfl) rfl ?_ ?_;rotate_left
        ·go_simp;rfl
        refine hK.out _ _ ?_;clear hK K;refine done_ (done_of HT_.out (by kernel_rfl)) ?_;(try clear hHeld);try go_wp2
        go_roundg k1
        case measure => have := HK1.out; omega
        case rel => exact ⟨(wrap64 (x4_1 + 1)), (ji32), (ji33), rs_, H', ⟨by have := HK1.out; omega⟩, ⟨by (with_reducible repeat (first | apply Kd.V_alloc | apply Kd.V_drewN | apply Kd.V_drew)); exact Kd.V_mono (Kd.V_far (p := ⟨gb55008, 1, none⟩) (Kd.V_far (p := ⟨gb55008, 0, none⟩) (Kd.V_mono HO_55002001.out (fun k_ hk => (⟨hk, hk.2.2⟩ : _ ∧ k_ ≠ gb55008))) (fun _ hk => hk.2) (.int .i64 ji32)) (fun _ hk => hk.2) (.int .i64 ji33)) (fun _ hk => ⟨hk.1.1, ⟨hk.1.2.1, hk.1.2.2⟩⟩)⟩, ⟨ch_ BK55001⟩, ⟨ch_ BK55002⟩, ⟨ch_ BK55008⟩, ⟨be_⟩⟩
      ·rw [if_neg c25] at H;exact absurd H (by simp)
     ·rw [if_neg c24] at H;have c24b0 : decide (x4_1 < (t55004.length : Int)) = false := decide_eq_false c24;clear c24;simp only [Option.some.injEq, Prod.mk.injEq] at H;obtain ⟨rfl, rfl, rfl, rfl⟩ := H;have hnb41 := NB55001_55002.out;have hnc41 := NB55002_55001.out;have hnb42 := NB55001_55008.out;have hnc42 := NB55008_55001.out;have hcz43_0 := cz0_ BK55001;have hcz43_1 := cz1_ BK55001;have hfz43_0 := fz_ BK55001 0;have hfz43_1 := fz_ BK55001 1;have hnb44 := NB55008_55002.out;have hnc44 := NB55002_55008.out;have hcz45_0 := cz0_ BK55008;have hcz45_1 := cz1_ BK55008;have hfz45_0 := fz_ BK55008 0;have hfz45_1 := fz_ BK55008 1;have hcz46_0 := cz0_ BK55002;have hcz46_1 := cz1_ BK55002;have hcz46_2 := cz2_ BK55002;have hcz46_3 := cz3_ BK55002;have hfz46_0 := fz_ BK55002 0;have hfz46_1 := fz_ BK55002 1;have hfz46_2 := fz_ BK55002 2;have hfz46_3 := fz_ BK55002 3;go_wp2;refine bodyPost_ret (results_cell_row rfl _ _ gb55002 47 #[.int .i64 x55009000_1, .int .i64 x55009001_1, .int .i64 (wrap64 (10 * t55003)), .int .i64 (wrap64 (10 * (wrap64 (t55003 + (t55004.length : Int)))))] (0, 0) _ rfl (ch_ BK55002) Try.underlying47 rfl (by kernel_rfl)) rfl ?_;exact ⟨er_, be_⟩
  ·rw [if_neg c12] at H;exact absurd H (by simp)

end Go.Proofs.Ytboegckbilnldaa.P

end
