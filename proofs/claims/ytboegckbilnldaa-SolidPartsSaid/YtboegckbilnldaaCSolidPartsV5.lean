/- Functions of the program: what each computes, and that the call computes it; conditions: the fuel that the plain function asks for. -/
import Derived.Test.YtboegckbilnldaaCSolidPartsV4
section
namespace Go.Proofs.Ytboegckbilnldaa.P
open Go Go.RowKit Go.Proofs.YtboegckbilnldaaW.PrintWords Go.Proofs.YtboegckbilnldaaW.PrintLast Go.Proofs.YtboegckbilnldaaW.PrintMore
attribute [local go_sem] max2_int min2_int max_two min_two max_three min_three max_four min_four max_five min_eight max_eight   -- for this text's walks alone
set_option linter.unusedVariables false
set_option linter.unusedSimpArgs false
mutual
def sawmillref11_At.j0 : Nat → List (S60) → Int → Bool → Option (Int × (List (S29)) × Bool)
 | 0, _, _, _ => none
 | k + 1, x0, x1, x14 => if x14 = true then (some (0, ([] : List (S29)), false)) else (sawmillref11_At.l0 k x0 x1 0 0)
def sawmillref11_At.l0 : Nat → List (S60) → Int → Int → Int → Option (Int × (List (S29)) × Bool)
 | 0, _, _, _, _ => none
 | k + 1, x0, x1, x6, x7 => if x7 < (x0.length : Int) then (if 0 ≤ x7 then (if x1 < (wrap64 (x6 + ((rd_T60 x0 x7).f0))) then (some ((rd_T60 x0 x7).f1.f0, (rd_T60 x0 x7).f1.f1, true)) else (sawmillref11_At.l0 k x0 x1 (wrap64 (x6 + ((rd_T60 x0 x7).f0))) (wrap64 (x7 + 1)))) else (none)) else (some (0, ([] : List (S29)), false))
end
def sawmillref11_At.f (k : Nat) (l0 : List (S60)) (a1 : Int) : Option (Int × (List (S29)) × Bool) := (sawmillref11_Check.f k l0).bind fun tq2 => (if tq2 = 0 then (sawmillref11_At.j0 k l0 a1 (decide (a1 < 0))) else (sawmillref11_At.j0 k l0 a1 true))
theorem sawmillref11_At.mono_l : ∀ k, (∀ y0 y1 y2, LeO (sawmillref11_At.j0 k y0 y1 y2) (sawmillref11_At.j0 (k + 1) y0 y1 y2)) ∧ (∀ y0 y1 y2 y3, LeO (sawmillref11_At.l0 k y0 y1 y2 y3) (sawmillref11_At.l0 (k + 1) y0 y1 y2 y3))
 | 0 => ⟨fun _ _ _ r h => by simp [sawmillref11_At.j0] at h, fun _ _ _ _ r h => by simp [sawmillref11_At.l0] at h⟩
 | k + 1 => by
  obtain ⟨ih0, ih1⟩ := sawmillref11_At.mono_l k;refine ⟨?_, ?_⟩
  ·intro y0 y1 y2;unfold sawmillref11_At.j0
   repeat' first
   | (with_reducible exact ih0 _ _ _)
   | (with_reducible exact ih1 _ _ _ _)
   | (with_reducible exact sawmillref11_Check.mono _ _)
   | (with_reducible exact LeO.refl _)
   | (with_reducible exact LeO.none _)
   | (with_reducible refine LeO.ite ?_ ?_)
   | (with_reducible refine LeO.bind ?_ (fun _ => ?_))
   | exact ih0 _ _ _
   | exact ih1 _ _ _ _
   | exact sawmillref11_Check.mono _ _
   | exact LeO.none _
   | refine LeO.ite ?_ ?_
   | refine LeO.bind ?_ (fun _ => ?_)
  ·intro y0 y1 y2 y3;unfold sawmillref11_At.l0
   repeat' first
   | (with_reducible exact ih0 _ _ _)
   | (with_reducible exact ih1 _ _ _ _)
   | (with_reducible exact sawmillref11_Check.mono _ _)
   | (with_reducible exact LeO.refl _)
   | (with_reducible exact LeO.none _)
   | (with_reducible refine LeO.ite ?_ ?_)
   | (with_reducible refine LeO.bind ?_ (fun _ => ?_))
   | exact ih0 _ _ _
   | exact ih1 _ _ _ _
   | exact sawmillref11_Check.mono _ _
   | exact LeO.none _
   | refine LeO.ite ?_ ?_
   | refine LeO.bind ?_ (fun _ => ?_)
theorem sawmillref11_At.mono : ∀ a0 a1 k, LeO (sawmillref11_At.f k a0 a1) (sawmillref11_At.f (k + 1) a0 a1) := by
 intro a0 a1 k;obtain ⟨ih0, ih1⟩ := sawmillref11_At.mono_l k;unfold sawmillref11_At.f
 repeat' first
   | (with_reducible exact ih0 _ _ _)
   | (with_reducible exact ih1 _ _ _ _)
   | (with_reducible exact sawmillref11_Check.mono _ _)
   | (with_reducible exact LeO.refl _)
   | (with_reducible exact LeO.none _)
   | (with_reducible refine LeO.ite ?_ ?_)
   | (with_reducible refine LeO.bind ?_ (fun _ => ?_))
   | exact ih0 _ _ _
   | exact ih1 _ _ _ _
   | exact sawmillref11_Check.mono _ _
   | exact LeO.none _
   | refine LeO.ite ?_ ?_
   | refine LeO.bind ?_ (fun _ => ?_)
set_option maxHeartbeats 8000000 in
set_option maxRecDepth 100000 in
theorem sawmillref11_At.calls (k : Nat) (P0_ : Nat → Prop) (A0 : Option Addr) (c0 : Nat) (l0 : List (S60)) (a1 : Int) (r1 : Int) (r2 : List (S29)) (r3 : Bool) (w : World) (hs0 : Kd.V k60 60 w w.heap.size (fun k_ => P0_ k_) (.slice A0 l0.length c0) l0) (h : sawmillref11_At.f k l0 a1 = some (r1, r2, r3)) :
  Calls Try.prog 22 #[.slice A0 l0.length c0, .int .i64 a1] w fun e w' => ∃ v1_ : Value, e = .returned (.tuple #[.agg #[.int .i64 r1, v1_], .bool r3]) ∧ Kd.V k29 29 w' w.heap.size (fun k_ => (P0_ k_ ∨ w.heap.size ≤ k_)) v1_ r2 ∧ Below w.heap.size w w' := by
 have hu36 := Try.underlying36;have HO0 := A_ (show Kd.V k60 60 w w.heap.size (fun k_ => (P0_ k_ ∨ w.heap.size ≤ k_)) (.slice A0 l0.length c0) l0 from Kd.V_mono hs0 (fun k_ hk => .inl hk));have HB := A_ (Below.refl w.heap.size w);have H : ((sawmillref11_Check.f k l0).bind fun tq2 => (if tq2 = 0 then (sawmillref11_At.j0 k l0 a1 (decide (a1 < 0))) else (sawmillref11_At.j0 k l0 a1 true))) = some (r1, r2, r3) := h;clear h;have HC3 := Aside0.mk H;clear H;go_enter Try.func22, Try.ntmps22
 go_upto_region 1 with (first | ((with_reducible refine gate_dst (N := 4) rfl ?_); refine bx_ 4 (cs := #[.int .i64 0, .slice none 0 0]) (t := 36) ?_; intro gbq1 hg w4 hbox hb; replace HO0 := A_ (Kd.V_below (Kd.V_elderB (fV_ HO0.out) gbq1 (Nat.le_of_eq hg.symm)) hb); have BKq1 := A_ hbox; have GWq1 := gz_ (w := w) hg; have GEq1 := gz_ (w := w) hg; replace HB := bA_ hb; clear hb hbox hg))
 (try simp only [Act.put, List.setIfInBounds_toArray, List.set_cons_zero, List.set_cons_succ])
 go_cut [14] (fun v14 wc => ∃ (kq : Nat) (x14_2 : Bool), v14 = .bool x14_2 ∧ Aside0 (sawmillref11_At.j0 kq l0 a1 x14_2 = some (r1, r2, r3)) ∧ Aside0 (kq ≤ k) ∧ Aside0 (Kd.V k60 60 wc w.heap.size (fun k_ => (P0_ k_ ∨ w.heap.size ≤ k_) ∧ k_ ≠ gbq1) (.slice A0 l0.length c0) l0) ∧ Aside0 (wc.heap[gbq1]? = some (.cells #[.int .i64 0, (.slice none 0 0)] 36 (0, 0))) ∧ Aside0 (Below w.heap.size w wc))
 case first =>
  have H := HC3.out;clear HC3;replace H := Option.bind_eq_some_iff.mp H;obtain ⟨tq2, A50, H⟩ := H;replace H : (if tq2 = 0 then (sawmillref11_At.j0 k l0 a1 (decide (a1 < 0))) else (sawmillref11_At.j0 k l0 a1 true)) = some (r1, r2, r3) := H;have A5 := Aside0.mk A50;clear A50
  by_cases c6 : tq2 = 0
  ·rw [if_pos c6] at H;have c6b0 : (tq2 == 0) = true := beq_iff_eq.mpr c6;have c6b1 : (tq2 != 0) = false := bne_eq_false_iff_eq.mpr c6;clear c6;(first | rw [c6b0] | (simp only [i64_w, i32_w]; rw [c6b0]) | skip);have H' := Aside0.mk H;clear H;go_wp2_with (first | ((with_reducible refine gate_callee (f := 14) rfl ?_); refine goesL_ (some 9) rfl rfl Try.func14 (by kernel_rfl) rfl #[.slice A0 l0.length c0] rfl la_ ?_; (with_reducible refine (sawmillref11_Check.calls k _ _ l0 tq2 _ ?side1 ?side2 A5.out).mono ?_); (case side1 => exact csC_ ((Kd.V_reads' HO0.out).2.2)); (case side2 => exact (Kd.V_reads' HO0.out).2.1); rintro e w7 ⟨rfl, hb⟩; refine ⟨_, rfl, ?_⟩; replace HO0 := kV_ HO0 hb; replace BKq1 := bb_ BKq1 hb; replace HB := bA_ hb; (try clear hb); (try clear hk)))
   go_meet
   case rel => exact ⟨_, (decide (a1 < 0)), rs_, H', ⟨by first | omega | exact Nat.le_refl _⟩, ⟨fV_ HO0.out⟩, ⟨fb_ BKq1.out⟩, ⟨be_⟩⟩
  ·rw [if_neg c6] at H;have c6b0 : (tq2 == 0) = false := beq_eq_false_iff_ne.mpr c6;have c6b1 : (tq2 != 0) = true := bne_iff_ne.mpr c6;(first | rw [c6b0] | (simp only [i64_w, i32_w]; rw [c6b0]) | skip);have H' := Aside0.mk H;clear H;go_wp2_with (first | ((with_reducible refine gate_callee (f := 14) rfl ?_); refine goesL_ (some 9) rfl rfl Try.func14 (by kernel_rfl) rfl #[.slice A0 l0.length c0] rfl la_ ?_; (with_reducible refine (sawmillref11_Check.calls k _ _ l0 tq2 _ ?side1 ?side2 A5.out).mono ?_); (case side1 => exact csC_ ((Kd.V_reads' HO0.out).2.2)); (case side2 => exact (Kd.V_reads' HO0.out).2.1); rintro e w8 ⟨rfl, hb⟩; refine ⟨_, rfl, ?_⟩; replace HO0 := kV_ HO0 hb; replace BKq1 := bb_ BKq1 hb; replace HB := bA_ hb; (try clear hb); (try clear hk)))
   go_meet
   case rel => exact ⟨_, (true), rs_, H', ⟨by first | omega | exact Nat.le_refl _⟩, ⟨fV_ HO0.out⟩, ⟨fb_ BKq1.out⟩, ⟨be_⟩⟩
 case rest =>
  clear HC3;(try clear c1);(try clear c2);(try clear p2);(try clear c6);(try clear c6b0);(try clear c6b1);obtain ⟨kq, x14_2, rfl, HA, HJ2, HO_0, BKq1, HB⟩ := hcut;cases kq with
  | zero => exact absurd HA.out (by simp [sawmillref11_At.j0])
  | succ kj2 =>
   have H := HA.out;clear HA;simp only [sawmillref11_At.j0] at H
   by_cases c9 : x14_2 = true
   ·subst c9;(have H1 : (some (0, ([] : List (S29)), false)) = some (r1, r2, r3) := by rw [if_pos rfl] at H; exact H);clear H;have H := H1;clear H1;simp only [Option.some.injEq, Prod.mk.injEq] at H;obtain ⟨rfl, rfl, rfl⟩ := H;obtain ⟨hcz10_0, hcz10_1, hfz10_0, hfz10_1⟩ := cy2_ BKq1;go_wp2;refine bodyPost_ret (results_ct rfl _ _ gbq1 36 #[.int .i64 0, .slice none 0 0] (0, 0) _ rfl (ch_ BKq1) Try.underlying36 rfl (by kernel_rfl)) rfl ?_;exact ⟨_, er_, Kd.V_nil _ _ _ _ _, be_⟩
   ·replace c9 := Bool.eq_false_iff.mpr c9;subst c9;(have H1 : (sawmillref11_At.l0 kj2 l0 a1 0 0) = some (r1, r2, r3) := by rw [if_neg (show ¬ (false = true) by decide)] at H; exact H);clear H;have H := H1;clear H1;have H' := Aside0.mk H;clear H;go_wp2
    go_loopg [6, 7] kj2 (fun kq v6 v7 w' => ∃ (x6_2 : Int) (x7_2 : Int) (xq2o0_2 : Int), v6 = .int .i64 x6_2 ∧ v7 = .int .i64 x7_2 ∧ Aside0 (sawmillref11_At.l0 kq l0 a1 x6_2 x7_2 = some (r1, r2, r3)) ∧ Aside0 (kq ≤ kj2) ∧ Aside0 (Kd.V k60 60 w' w.heap.size (fun k_ => (P0_ k_ ∨ w.heap.size ≤ k_) ∧ k_ ≠ gbq1) (.slice A0 l0.length c0) l0) ∧ Aside0 (w'.heap[gbq1]? = some (.cells #[.int .i64 xq2o0_2, (.slice none 0 0)] 36 (0, 0))) ∧ Aside0 (Below w.heap.size w w'))
    case atStart => exact ⟨(0), (0), (0), rs_, rs_, H', ⟨Nat.le_refl _⟩, ⟨fV_ HO_0.out⟩, ⟨fb_ BKq1.out⟩, ⟨be_⟩⟩
    case round =>
     clear H';(try clear c1);(try clear c2);(try clear p2);(try clear c6);(try clear c6b0);(try clear c6b1);(try clear c9);(try clear hcz10_0);(try clear hcz10_1);(try clear hfz10_0);(try clear hfz10_1);(try clear p2);obtain ⟨x6_2, x7_2, xq2o0_2, rfl, rfl, HA, HK2, HO_0, BKq1, HB⟩ := hrel;cases gk with
     | zero => exact absurd HA.out (by simp [sawmillref11_At.l0])
     | succ k2 =>
      have H := HA.out;clear HA;simp only [sawmillref11_At.l0] at H
      by_cases c11 : x7_2 < (l0.length : Int)
      ·rw [if_pos c11] at H;have c11b0 : decide (x7_2 < (l0.length : Int)) = true := decide_eq_true c11;clear c11
       by_cases c12 : 0 ≤ x7_2
       ·rw [if_pos c12] at H;have c12b0 : decide (0 ≤ x7_2) = true := decide_eq_true c12;clear c12
        by_cases c13 : a1 < (wrap64 (x6_2 + ((rd_T60 l0 x7_2).f0)))
        ·rw [if_pos c13] at H;have c13b0 : decide (a1 < (wrap64 (x6_2 + ((rd_T60 l0 x7_2).f0)))) = true := decide_eq_true c13;clear c13;simp only [Option.some.injEq, Prod.mk.injEq] at H;obtain ⟨rfl, rfl, rfl⟩ := H;have pq3 : 0 ≤ (x7_2 : Int) := as_;have qq3 : x7_2 < (l0.length : Int) := as_;obtain ⟨adq3, Aq3_2, cq3_2, eq3, hxq3_0, hxq3_1, hxq3_2, hlq3_2, hiq3_2⟩ := at_T60 (Kd.V_reads' HO_0.out).2.2 x7_2 pq3 qq3;cases eq3;obtain ⟨ceq3, hceq3, hMeq3, hccq3⟩ := Kd.V_get HO_0.out z60 x7_2 pq3 (by first | exact qq3 | exact as_ | (have e_ := (Kd.V_reads' HO_0.out).1; omega));obtain ⟨uaq3_2, ucq3_2, rfl, ulq3_2, geq3_2⟩ := k60_openF hMeq3;have hvq3_2 := hccq3 2 _ rfl;rw [add_field _ _ 2 (by omega)] at hvq3_2;replace hvq3_2 := Option.some.inj (hvq3_2.symm.trans hxq3_2);injection hvq3_2 with hva_ hvn_ hvc_;rw [hva_] at geq3_2;rw [hvc_] at ulq3_2;have HLq3_2 := A_ (show Kd.V k29 29 _ w.heap.size _ _ ((rd_T60 l0 x7_2).f1.f1) from Kd.V_mk ulq3_2 geq3_2);clear hva_ hvn_ hvc_ geq3_2 ulq3_2 hccq3 hceq3;have HRq3_2 := Aside0.mk hiq3_2;have HCq3_2 := Aside0.mk hlq3_2;clear hiq3_2 hlq3_2;replace pq3 := eq_true pq3;replace qq3 := eq_true qq3;have pq4 : 0 ≤ (x7_2 : Int) := as_;have qq4 : x7_2 < (l0.length : Int) := as_;obtain ⟨adq4, Aq4_2, cq4_2, eq4, hxq4_0, hxq4_1, hxq4_2, hlq4_2, hiq4_2⟩ := at_T60 (Kd.V_reads' HO_0.out).2.2 x7_2 pq4 qq4;obtain rfl : adq3 = adq4 := (by injection eq4);obtain ⟨ceq4, hceq4, hMeq4, hccq4⟩ := Kd.V_get HO_0.out z60 x7_2 pq4 (by first | exact qq4 | exact as_ | (have e_ := (Kd.V_reads' HO_0.out).1; omega));obtain ⟨uaq4_2, ucq4_2, rfl, ulq4_2, geq4_2⟩ := k60_openF hMeq4;have hvq4_2 := hccq4 2 _ rfl;rw [add_field _ _ 2 (by omega)] at hvq4_2;replace hvq4_2 := Option.some.inj (hvq4_2.symm.trans hxq4_2);injection hvq4_2 with hva_ hvn_ hvc_;rw [hva_] at geq4_2;rw [hvc_] at ulq4_2;have HLq4_2 := A_ (show Kd.V k29 29 _ w.heap.size _ _ ((rd_T60 l0 x7_2).f1.f1) from Kd.V_mk ulq4_2 geq4_2);clear hva_ hvn_ hvc_ geq4_2 ulq4_2 hccq4 hceq4;have HRq4_2 := Aside0.mk hiq4_2;have HCq4_2 := Aside0.mk hlq4_2;clear hiq4_2 hlq4_2;replace pq4 := eq_true pq4;replace qq4 := eq_true qq4;have ea_ := Option.some.inj (hxq3_2.symm.trans hxq4_2);injection ea_ with ea_ en_ ec_;subst ea_;subst ec_;clear en_;obtain ⟨hcz14_0, hcz14_1, hfz14_0, hfz14_1⟩ := cy2_ BKq1;go_wp2;refine bodyPost_ret (results_ct rfl _ _ gbq1 36 #[.int .i64 ((rd_T60 l0 x7_2).f1.f0), .slice Aq3_2 ((rd_T60 l0 x7_2).f1.f1).length cq3_2] (0, 0) _ rfl (ch_ BKq1) Try.underlying36 rfl (by kernel_rfl)) rfl ?_;exact ⟨_, er_, by (with_reducible repeat (first | apply Kd.V_alloc | apply Kd.V_drewN | apply Kd.V_drew)); exact Kd.V_mono (Vf_ (Vf_ (Kd.V_mono HLq4_2.out (fun k_ hk => (⟨hk, hk.2⟩ : _ ∧ k_ ≠ gbq1))))) (fun _ hk => hk.1.1), be_⟩
        ·rw [if_neg c13] at H;have c13b0 : decide (a1 < (wrap64 (x6_2 + ((rd_T60 l0 x7_2).f0)))) = false := decide_eq_false c13;clear c13;have H' := Aside0.mk H;clear H;have pq3 : 0 ≤ (x7_2 : Int) := as_;have qq3 : x7_2 < (l0.length : Int) := as_;obtain ⟨adq3, Aq3_2, cq3_2, eq3, hxq3_0, hxq3_1, hxq3_2, hlq3_2, hiq3_2⟩ := at_T60 (Kd.V_reads' HO_0.out).2.2 x7_2 pq3 qq3;cases eq3;obtain ⟨ceq3, hceq3, hMeq3, hccq3⟩ := Kd.V_get HO_0.out z60 x7_2 pq3 (by first | exact qq3 | exact as_ | (have e_ := (Kd.V_reads' HO_0.out).1; omega));obtain ⟨uaq3_2, ucq3_2, rfl, ulq3_2, geq3_2⟩ := k60_openF hMeq3;have hvq3_2 := hccq3 2 _ rfl;rw [add_field _ _ 2 (by omega)] at hvq3_2;replace hvq3_2 := Option.some.inj (hvq3_2.symm.trans hxq3_2);injection hvq3_2 with hva_ hvn_ hvc_;rw [hva_] at geq3_2;rw [hvc_] at ulq3_2;have HLq3_2 := A_ (show Kd.V k29 29 _ w.heap.size _ _ ((rd_T60 l0 x7_2).f1.f1) from Kd.V_mk ulq3_2 geq3_2);clear hva_ hvn_ hvc_ geq3_2 ulq3_2 hccq3 hceq3;have HRq3_2 := Aside0.mk hiq3_2;have HCq3_2 := Aside0.mk hlq3_2;clear hiq3_2 hlq3_2;replace pq3 := eq_true pq3;replace qq3 := eq_true qq3;go_wp2
         go_roundg k2
         case measure => have := HJ2.out; have := HK2.out; omega
         case rel => exact ⟨(wrap64 (x6_2 + ((rd_T60 l0 x7_2).f0))), (wrap64 (x7_2 + 1)), (xq2o0_2), rs_, rs_, H', ⟨by have := HJ2.out; have := HK2.out; omega⟩, ⟨fV_ HO_0.out⟩, ⟨fb_ BKq1.out⟩, ⟨be_⟩⟩
       ·rw [if_neg c12] at H;exact absurd H (by simp)
      ·rw [if_neg c11] at H;have c11b0 : decide (x7_2 < (l0.length : Int)) = false := decide_eq_false c11;clear c11;simp only [Option.some.injEq, Prod.mk.injEq] at H;obtain ⟨rfl, rfl, rfl⟩ := H;obtain ⟨hcz15_0, hcz15_1, hfz15_0, hfz15_1⟩ := cy2_ BKq1;go_wp2;refine bodyPost_ret (results_ct rfl _ _ gbq1 36 #[.int .i64 0, .slice none 0 0] (0, 0) _ rfl (ch_ BKq1) Try.underlying36 rfl (by kernel_rfl)) rfl ?_;exact ⟨_, er_, Kd.V_nil _ _ _ _ _, be_⟩


attribute [local go_sem high] eqA29
mutual
def sawmillref11_SameSection.j0 : Nat → Bool → Int → List (S29) → Int → List (S29) → Option (Bool)
 | 0, _, _, _, _, _ => none
 | k + 1, x19, xq2o0, xq2o1, xq3o0, xq3o1 => if x19 = true then (some false) else (sawmillref11_SameSection.l0 k 0 xq2o0 xq2o1 xq3o0 xq3o1)
def sawmillref11_SameSection.l0 : Nat → Int → Int → List (S29) → Int → List (S29) → Option (Bool)
 | 0, _, _, _, _, _ => none
 | k + 1, x5, xq2o0, xq2o1, xq3o0, xq3o1 => if x5 < (xq2o1.length : Int) then (if 0 ≤ x5 then (if x5 < (xq3o1.length : Int) then (if (!(((rd_T29 xq2o1 x5).f0) == ((rd_T29 xq3o1 x5).f0)) || (!(((rd_T29 xq2o1 x5).f1) == ((rd_T29 xq3o1 x5).f1)))) = true then (some false) else (sawmillref11_SameSection.l0 k (wrap64 (x5 + 1)) xq2o0 xq2o1 xq3o0 xq3o1)) else (none)) else (none)) else (some true)
end
def sawmillref11_SameSection.f (k : Nat) (a0_0 : Int) (l0_1 : List (S29)) (a1_0 : Int) (l1_1 : List (S29)) : Option (Bool) := if a0_0 = a1_0 then (sawmillref11_SameSection.j0 k ((l0_1.length : Int) != (l1_1.length : Int)) a0_0 l0_1 a1_0 l1_1) else (sawmillref11_SameSection.j0 k true a0_0 l0_1 a1_0 l1_1)
theorem sawmillref11_SameSection.mono_l : ∀ k, (∀ y0 y1 y2 y3 y4, LeO (sawmillref11_SameSection.j0 k y0 y1 y2 y3 y4) (sawmillref11_SameSection.j0 (k + 1) y0 y1 y2 y3 y4)) ∧ (∀ y0 y1 y2 y3 y4, LeO (sawmillref11_SameSection.l0 k y0 y1 y2 y3 y4) (sawmillref11_SameSection.l0 (k + 1) y0 y1 y2 y3 y4))
 | 0 => ⟨fun _ _ _ _ _ r h => by simp [sawmillref11_SameSection.j0] at h, fun _ _ _ _ _ r h => by simp [sawmillref11_SameSection.l0] at h⟩
 | k + 1 => by
  obtain ⟨ih0, ih1⟩ := sawmillref11_SameSection.mono_l k;refine ⟨?_, ?_⟩
  ·intro y0 y1 y2 y3 y4;unfold sawmillref11_SameSection.j0
   repeat' first
   | (with_reducible exact ih0 _ _ _ _ _)
   | (with_reducible exact ih1 _ _ _ _ _)
   | (with_reducible exact LeO.refl _)
   | (with_reducible exact LeO.none _)
   | (with_reducible refine LeO.ite ?_ ?_)
   | (with_reducible refine LeO.bind ?_ (fun _ => ?_))
   | exact ih0 _ _ _ _ _
   | exact ih1 _ _ _ _ _
   | exact LeO.none _
   | refine LeO.ite ?_ ?_
   | refine LeO.bind ?_ (fun _ => ?_)
  ·intro y0 y1 y2 y3 y4;unfold sawmillref11_SameSection.l0
   repeat' first
   | (with_reducible exact ih0 _ _ _ _ _)
   | (with_reducible exact ih1 _ _ _ _ _)
   | (with_reducible exact LeO.refl _)
   | (with_reducible exact LeO.none _)
   | (with_reducible refine LeO.ite ?_ ?_)
   | (with_reducible refine LeO.bind ?_ (fun _ => ?_))
   | exact ih0 _ _ _ _ _
   | exact ih1 _ _ _ _ _
   | exact LeO.none _
   | refine LeO.ite ?_ ?_
   | refine LeO.bind ?_ (fun _ => ?_)
theorem sawmillref11_SameSection.mono : ∀ a0 a1 a2 a3 k, LeO (sawmillref11_SameSection.f k a0 a1 a2 a3) (sawmillref11_SameSection.f (k + 1) a0 a1 a2 a3) := by
 intro a0 a1 a2 a3 k;obtain ⟨ih0, ih1⟩ := sawmillref11_SameSection.mono_l k;unfold sawmillref11_SameSection.f
 repeat' first
   | (with_reducible exact ih0 _ _ _ _ _)
   | (with_reducible exact ih1 _ _ _ _ _)
   | (with_reducible exact LeO.refl _)
   | (with_reducible exact LeO.none _)
   | (with_reducible refine LeO.ite ?_ ?_)
   | (with_reducible refine LeO.bind ?_ (fun _ => ?_))
   | exact ih0 _ _ _ _ _
   | exact ih1 _ _ _ _ _
   | exact LeO.none _
   | refine LeO.ite ?_ ?_
   | refine LeO.bind ?_ (fun _ => ?_)
set_option maxHeartbeats 8000000 in
set_option maxRecDepth 100000 in
theorem sawmillref11_SameSection.calls (k : Nat) (a0_0 : Int) (A0_1 : Option Addr) (c0_1 : Nat) (l0_1 : List (S29)) (a1_0 : Int) (A1_1 : Option Addr) (c1_1 : Nat) (l1_1 : List (S29)) (r : Bool) (w : World) (hr0_1 : Kd.C k29 w A0_1 l0_1.length l0_1) (hc0_1 : l0_1.length ≤ c0_1) (hr1_1 : Kd.C k29 w A1_1 l1_1.length l1_1) (hc1_1 : l1_1.length ≤ c1_1) (h : sawmillref11_SameSection.f k a0_0 l0_1 a1_0 l1_1 = some r) :
  Calls Try.prog 23 #[.agg #[.int .i64 a0_0, .slice A0_1 l0_1.length c0_1], .agg #[.int .i64 a1_0, .slice A1_1 l1_1.length c1_1]] w fun e w' => e = .returned (.bool r) ∧ Below w.heap.size w w' := by
 have hu36 := Try.underlying36;have hu29 := Try.underlying29;have HR0_1 := Aside0.mk hr0_1;have HC0_1 := Aside0.mk hc0_1;clear hr0_1 hc0_1;have HR1_1 := Aside0.mk hr1_1;have HC1_1 := Aside0.mk hc1_1;clear hr1_1 hc1_1;have HB := A_ (Below.refl w.heap.size w);have H : (if a0_0 = a1_0 then (sawmillref11_SameSection.j0 k ((l0_1.length : Int) != (l1_1.length : Int)) a0_0 l0_1 a1_0 l1_1) else (sawmillref11_SameSection.j0 k true a0_0 l0_1 a1_0 l1_1)) = some r := h;clear h;have HC3 := Aside0.mk H;clear H;go_enter Try.func23, Try.ntmps23
 go_upto_region 1 with (first | ((with_reducible refine gate_dst (N := 2) rfl ?_); (try (refine gate_guard (by rfl) ?_; dsimp only)); refine bx_ 2 (cs := #[.int .i64 a0_0, .slice A0_1 l0_1.length c0_1]) (t := 36) ?_; intro gbq1 hg w4 hbox hb; have BKq1 := A_ hbox; have GWq1 := gz_ (w := w) hg; have GEq1 := gz_ (w := w) hg; replace HB := bA_ hb; clear hb hbox hg) | ((with_reducible refine gate_dst (N := 3) rfl ?_); (try (refine gate_guard (by rfl) ?_; dsimp only)); refine bx_ 3 (cs := #[.int .i64 a1_0, .slice A1_1 l1_1.length c1_1]) (t := 36) ?_; intro gbq2 hg w5 hbox hb; have BKq2 := A_ hbox; have GWq2 := gz_ (w := w) hg; have GEq2 := gz_ (w := w) hg; replace HB := bA_ hb; have NBq1_q2 := nlt_ BKq1 hg; have NBq2_q1 := ngt_ BKq1 hg; replace BKq1 := bb_ BKq1 hb; clear hb hbox hg))
 repeat (go_quiet (first | ((with_reducible refine gate_dst (N := 2) rfl ?_); (try (refine gate_guard (by rfl) ?_; dsimp only)); refine bx_ 2 (cs := #[.int .i64 a0_0, .slice A0_1 l0_1.length c0_1]) (t := 36) ?_; intro gbq1 hg w4 hbox hb; have BKq1 := A_ hbox; have GWq1 := gz_ (w := w) hg; have GEq1 := gz_ (w := w) hg; replace HB := bA_ hb; clear hb hbox hg) | ((with_reducible refine gate_dst (N := 3) rfl ?_); (try (refine gate_guard (by rfl) ?_; dsimp only)); refine bx_ 3 (cs := #[.int .i64 a1_0, .slice A1_1 l1_1.length c1_1]) (t := 36) ?_; intro gbq2 hg w5 hbox hb; have BKq2 := A_ hbox; have GWq2 := gz_ (w := w) hg; have GEq2 := gz_ (w := w) hg; replace HB := bA_ hb; have NBq1_q2 := nlt_ BKq1 hg; have NBq2_q1 := ngt_ BKq1 hg; replace BKq1 := bb_ BKq1 hb; clear hb hbox hg)); go_upto_region 1 with (first | ((with_reducible refine gate_dst (N := 2) rfl ?_); (try (refine gate_guard (by rfl) ?_; dsimp only)); refine bx_ 2 (cs := #[.int .i64 a0_0, .slice A0_1 l0_1.length c0_1]) (t := 36) ?_; intro gbq1 hg w4 hbox hb; have BKq1 := A_ hbox; have GWq1 := gz_ (w := w) hg; have GEq1 := gz_ (w := w) hg; replace HB := bA_ hb; clear hb hbox hg) | ((with_reducible refine gate_dst (N := 3) rfl ?_); (try (refine gate_guard (by rfl) ?_; dsimp only)); refine bx_ 3 (cs := #[.int .i64 a1_0, .slice A1_1 l1_1.length c1_1]) (t := 36) ?_; intro gbq2 hg w5 hbox hb; have BKq2 := A_ hbox; have GWq2 := gz_ (w := w) hg; have GEq2 := gz_ (w := w) hg; replace HB := bA_ hb; have NBq1_q2 := nlt_ BKq1 hg; have NBq2_q1 := ngt_ BKq1 hg; replace BKq1 := bb_ BKq1 hb; clear hb hbox hg)))
 (try simp only [Act.put, List.setIfInBounds_toArray, List.set_cons_zero, List.set_cons_succ])
 go_cut [19] (fun v19 wc => ∃ (kq : Nat) (x19_2 : Bool), v19 = .bool x19_2 ∧ Aside0 (sawmillref11_SameSection.j0 kq x19_2 a0_0 l0_1 a1_0 l1_1 = some r) ∧ Aside0 (kq ≤ k) ∧ Aside0 (wc.heap[gbq1]? = some (.cells #[.int .i64 a0_0, (.slice A0_1 l0_1.length c0_1)] 36 (0, 0))) ∧ Aside0 (wc.heap[gbq2]? = some (.cells #[.int .i64 a1_0, (.slice A1_1 l1_1.length c1_1)] 36 (0, 0))) ∧ Aside0 (Below w.heap.size w wc))
 case first =>
  have H := HC3.out;clear HC3
  by_cases c6 : a0_0 = a1_0
  ·rw [if_pos c6] at H;have c6b0 : (a0_0 == a1_0) = true := beq_iff_eq.mpr c6;have c6b1 : (a0_0 != a1_0) = false := bne_eq_false_iff_eq.mpr c6;clear c6;(first | rw [c6b0] | (simp only [i64_w, i32_w]; rw [c6b0]) | skip);have H' := Aside0.mk H;clear H;have hnb7 := NBq1_q2.out;have hnc7 := NBq2_q1.out;obtain ⟨hcz8_0, hcz8_1, hfz8_0, hfz8_1⟩ := cy2_ BKq1;obtain ⟨hcz9_0, hcz9_1, hfz9_0, hfz9_1⟩ := cy2_ BKq2;go_wp2
   repeat (go_quiet (fail); try go_wp2)
   go_meet
   case rel => exact ⟨_, (((l0_1.length : Int) != (l1_1.length : Int))), rs_, H', ⟨by first | omega | exact Nat.le_refl _⟩, ⟨fb_ BKq1.out⟩, ⟨fb_ BKq2.out⟩, ⟨be_⟩⟩
  ·rw [if_neg c6] at H;have c6b0 : (a0_0 == a1_0) = false := beq_eq_false_iff_ne.mpr c6;have c6b1 : (a0_0 != a1_0) = true := bne_iff_ne.mpr c6;(first | rw [c6b0] | (simp only [i64_w, i32_w]; rw [c6b0]) | skip);have H' := Aside0.mk H;clear H;have hnb10 := NBq1_q2.out;have hnc10 := NBq2_q1.out;obtain ⟨hcz11_0, hcz11_1, hfz11_0, hfz11_1⟩ := cy2_ BKq1;obtain ⟨hcz12_0, hcz12_1, hfz12_0, hfz12_1⟩ := cy2_ BKq2;go_wp2
   repeat (go_quiet (fail); try go_wp2)
   go_meet
   case rel => exact ⟨_, (true), rs_, H', ⟨by first | omega | exact Nat.le_refl _⟩, ⟨fb_ BKq1.out⟩, ⟨fb_ BKq2.out⟩, ⟨be_⟩⟩
 case rest =>
  clear HC3;(try clear c1);(try clear c2);(try clear p2);(try clear c6);(try clear c6b0);(try clear c6b1);(try clear c7);(try clear c10);(try clear hcz11_0);(try clear hcz11_1);(try clear hcz12_0);(try clear hcz12_1);(try clear hcz8_0);(try clear hcz8_1);(try clear hcz9_0);(try clear hcz9_1);(try clear hfz11_0);(try clear hfz11_1);(try clear hfz12_0);(try clear hfz12_1);(try clear hfz8_0);(try clear hfz8_1);(try clear hfz9_0);(try clear hfz9_1);obtain ⟨kq, x19_2, rfl, HA, HJ2, BKq1, BKq2, HB⟩ := hcut;cases kq with
  | zero => exact absurd HA.out (by simp [sawmillref11_SameSection.j0])
  | succ kj2 =>
   have H := HA.out;clear HA;simp only [sawmillref11_SameSection.j0] at H
   by_cases c13 : x19_2 = true
   ·subst c13;(have H1 : (some false) = some r := by rw [if_pos rfl] at H; exact H);clear H;have H := H1;clear H1;obtain rfl := Option.some.inj H;go_wp2
    repeat (go_quiet (fail); try go_wp2)
    go_ret;exact ⟨er_, be_⟩
   ·replace c13 := Bool.eq_false_iff.mpr c13;subst c13;(have H1 : (sawmillref11_SameSection.l0 kj2 0 a0_0 l0_1 a1_0 l1_1) = some r := by rw [if_neg (show ¬ (false = true) by decide)] at H; exact H);clear H;have H := H1;clear H1;have H' := Aside0.mk H;clear H;go_wp2
    repeat (go_quiet (fail); try go_wp2)
    go_loopg [5] kj2 (fun kq v5 w' => ∃ (x5_2 : Int), v5 = .int .i64 x5_2 ∧ Aside0 (sawmillref11_SameSection.l0 kq x5_2 a0_0 l0_1 a1_0 l1_1 = some r) ∧ Aside0 (kq ≤ kj2) ∧ Aside0 (w'.heap[gbq1]? = some (.cells #[.int .i64 a0_0, (.slice A0_1 l0_1.length c0_1)] 36 (0, 0))) ∧ Aside0 (w'.heap[gbq2]? = some (.cells #[.int .i64 a1_0, (.slice A1_1 l1_1.length c1_1)] 36 (0, 0))) ∧ Aside0 (Below w.heap.size w w'))
    case atStart => exact ⟨(0), rs_, H', ⟨Nat.le_refl _⟩, ⟨fb_ BKq1.out⟩, ⟨fb_ BKq2.out⟩, ⟨be_⟩⟩
    case round =>
     clear H';(try clear c1);(try clear c2);(try clear p2);(try clear c6);(try clear c6b0);(try clear c6b1);(try clear c7);(try clear c10);(try clear c13);(try clear hcz11_0);(try clear hcz11_1);(try clear hcz12_0);(try clear hcz12_1);(try clear hcz8_0);(try clear hcz8_1);(try clear hcz9_0);(try clear hcz9_1);(try clear hfz11_0);(try clear hfz11_1);(try clear hfz12_0);(try clear hfz12_1);(try clear hfz8_0);(try clear hfz8_1);(try clear hfz9_0);(try clear hfz9_1);(try clear p2);obtain ⟨x5_2, rfl, HA, HK2, BKq1, BKq2, HB⟩ := hrel;cases gk with
     | zero => exact absurd HA.out (by simp [sawmillref11_SameSection.l0])
     | succ k2 =>
      have H := HA.out;clear HA;simp only [sawmillref11_SameSection.l0] at H
      by_cases c14 : x5_2 < (l0_1.length : Int)
      ·rw [if_pos c14] at H;have c14b0 : decide (x5_2 < (l0_1.length : Int)) = true := decide_eq_true c14;clear c14
       by_cases c15 : 0 ≤ x5_2
       ·rw [if_pos c15] at H;have c15b0 : decide (0 ≤ x5_2) = true := decide_eq_true c15;clear c15
        by_cases c16 : x5_2 < (l1_1.length : Int)
        ·rw [if_pos c16] at H;have c16b0 : decide (x5_2 < (l1_1.length : Int)) = true := decide_eq_true c16;clear c16
         by_cases c17 : (!(((rd_T29 l0_1 x5_2).f0) == ((rd_T29 l1_1 x5_2).f0)) || (!(((rd_T29 l0_1 x5_2).f1) == ((rd_T29 l1_1 x5_2).f1)))) = true
         ·rw [if_pos c17] at H;have c17b0 : (!(((rd_T29 l0_1 x5_2).f0) == ((rd_T29 l1_1 x5_2).f0)) || (!(((rd_T29 l0_1 x5_2).f1) == ((rd_T29 l1_1 x5_2).f1)))) = true := c17;clear c17;obtain rfl := Option.some.inj H;have hnb18 := NBq1_q2.out;have hnc18 := NBq2_q1.out;obtain ⟨hcz19_0, hcz19_1, hfz19_0, hfz19_1⟩ := cy2_ BKq1;have pq3 : 0 ≤ (x5_2 : Int) := as_;have qq3 : x5_2 < (l0_1.length : Int) := as_;obtain ⟨adq3, eq3, hxq3_0, hxq3_1⟩ := at_T29 HR0_1.out x5_2 pq3 qq3;cases eq3;replace hxq3_0 := bc_ HB hxq3_0;replace hxq3_1 := bc_ HB hxq3_1;replace pq3 := eq_true pq3;replace qq3 := eq_true qq3;obtain ⟨hcz20_0, hcz20_1, hfz20_0, hfz20_1⟩ := cy2_ BKq2;have pq4 : 0 ≤ (x5_2 : Int) := as_;have qq4 : x5_2 < (l1_1.length : Int) := as_;obtain ⟨adq4, eq4, hxq4_0, hxq4_1⟩ := at_T29 HR1_1.out x5_2 pq4 qq4;cases eq4;replace hxq4_0 := bc_ HB hxq4_0;replace hxq4_1 := bc_ HB hxq4_1;replace pq4 := eq_true pq4;replace qq4 := eq_true qq4;go_wp2
          repeat (go_quiet (fail); try go_wp2)
          go_ret;exact ⟨er_, be_⟩
         ·rw [if_neg c17] at H;(have c17b0 : (!(((rd_T29 l0_1 x5_2).f0) == ((rd_T29 l1_1 x5_2).f0)) || (!(((rd_T29 l0_1 x5_2).f1) == ((rd_T29 l1_1 x5_2).f1)))) = false := by simpa using c17);clear c17;have H' := Aside0.mk H;clear H;have hnb21 := NBq1_q2.out;have hnc21 := NBq2_q1.out;obtain ⟨hcz22_0, hcz22_1, hfz22_0, hfz22_1⟩ := cy2_ BKq1;have pq3 : 0 ≤ (x5_2 : Int) := as_;have qq3 : x5_2 < (l0_1.length : Int) := as_;obtain ⟨adq3, eq3, hxq3_0, hxq3_1⟩ := at_T29 HR0_1.out x5_2 pq3 qq3;cases eq3;replace hxq3_0 := bc_ HB hxq3_0;replace hxq3_1 := bc_ HB hxq3_1;replace pq3 := eq_true pq3;replace qq3 := eq_true qq3;obtain ⟨hcz23_0, hcz23_1, hfz23_0, hfz23_1⟩ := cy2_ BKq2;have pq4 : 0 ≤ (x5_2 : Int) := as_;have qq4 : x5_2 < (l1_1.length : Int) := as_;obtain ⟨adq4, eq4, hxq4_0, hxq4_1⟩ := at_T29 HR1_1.out x5_2 pq4 qq4;cases eq4;replace hxq4_0 := bc_ HB hxq4_0;replace hxq4_1 := bc_ HB hxq4_1;replace pq4 := eq_true pq4;replace qq4 := eq_true qq4;go_wp2
          repeat (go_quiet (fail); try go_wp2)
          go_roundg k2
          case measure => have := HJ2.out; have := HK2.out; omega
          case rel => exact ⟨(wrap64 (x5_2 + 1)), rs_, H', ⟨by have := HJ2.out; have := HK2.out; omega⟩, ⟨fb_ BKq1.out⟩, ⟨fb_ BKq2.out⟩, ⟨be_⟩⟩
        ·rw [if_neg c16] at H;exact absurd H (by simp)
       ·rw [if_neg c15] at H;exact absurd H (by simp)
      ·rw [if_neg c14] at H;have c14b0 : decide (x5_2 < (l0_1.length : Int)) = false := decide_eq_false c14;clear c14;obtain rfl := Option.some.inj H;have hnb24 := NBq1_q2.out;have hnc24 := NBq2_q1.out;obtain ⟨hcz25_0, hcz25_1, hfz25_0, hfz25_1⟩ := cy2_ BKq1;go_wp2
       repeat (go_quiet (fail); try go_wp2)
       go_ret;exact ⟨er_, be_⟩


def sawmillref11_Same.l0 : Nat → List (S60) → List (S60) → Int → Option (Bool)
 | 0, _, _, _ => none
 | k + 1, x0, x1, x5 => if x5 < (x0.length : Int) then (if 0 ≤ x5 then (if x5 < (x1.length : Int) then (if ((rd_T60 x0 x5).f0) = ((rd_T60 x1 x5).f0) then ((sawmillref11_SameSection.f k ((rd_T60 x0 x5).f1.f0) ((rd_T60 x0 x5).f1.f1) ((rd_T60 x1 x5).f1.f0) ((rd_T60 x1 x5).f1.f1)).bind fun tq5 => (if tq5 = true then (sawmillref11_Same.l0 k x0 x1 (wrap64 (x5 + 1))) else (some false))) else (some false)) else (none)) else (none)) else (some true)
def sawmillref11_Same.f (k : Nat) (l0 : List (S60)) (l1 : List (S60)) : Option (Bool) := if (l0.length : Int) = (l1.length : Int) then (sawmillref11_Same.l0 k l0 l1 0) else (some false)
theorem sawmillref11_Same.mono_l : ∀ k, (∀ y0 y1 y2, LeO (sawmillref11_Same.l0 k y0 y1 y2) (sawmillref11_Same.l0 (k + 1) y0 y1 y2))
 | 0 => fun _ _ _ r h => by simp [sawmillref11_Same.l0] at h
 | k + 1 => by
  have ih0 := sawmillref11_Same.mono_l k
  ·intro y0 y1 y2;unfold sawmillref11_Same.l0
   repeat' first
   | (with_reducible exact ih0 _ _ _)
   | (with_reducible exact sawmillref11_SameSection.mono _ _ _ _ _)
   | (with_reducible exact LeO.refl _)
   | (with_reducible exact LeO.none _)
   | (with_reducible refine LeO.ite ?_ ?_)
   | (with_reducible refine LeO.bind ?_ (fun _ => ?_))
   | exact ih0 _ _ _
   | exact sawmillref11_SameSection.mono _ _ _ _ _
   | exact LeO.none _
   | refine LeO.ite ?_ ?_
   | refine LeO.bind ?_ (fun _ => ?_)
theorem sawmillref11_Same.mono : ∀ a0 a1 k, LeO (sawmillref11_Same.f k a0 a1) (sawmillref11_Same.f (k + 1) a0 a1) := by
 intro a0 a1 k;have ih0 := sawmillref11_Same.mono_l k;unfold sawmillref11_Same.f
 repeat' first
   | (with_reducible exact ih0 _ _ _)
   | (with_reducible exact sawmillref11_SameSection.mono _ _ _ _ _)
   | (with_reducible exact LeO.refl _)
   | (with_reducible exact LeO.none _)
   | (with_reducible refine LeO.ite ?_ ?_)
   | (with_reducible refine LeO.bind ?_ (fun _ => ?_))
   | exact ih0 _ _ _
   | exact sawmillref11_SameSection.mono _ _ _ _ _
   | exact LeO.none _
   | refine LeO.ite ?_ ?_
   | refine LeO.bind ?_ (fun _ => ?_)
def sawmillref11_Same.T6 : Bool × List (List Nat × List Nat) := (true, [([], []), ([], []), ([0, 1], [0, 1]), ([2], [2]), ([3], [3]), ([], []), ([], []), ([5, 6], [5, 6]), ([7], [7]), ([8], [8]), ([4, 9], [4, 9]), ([10], [10]), ([11], [11]), ([11], [11]), ([12, 13, 11], [11, 12, 13]), ([14, 11], [11, 14]), ([15, 11], [11, 15]), ([11], [11]), ([11], [11]), ([17, 18, 11], [11, 17, 18]), ([19, 11], [11, 19]), ([20, 11], [11, 20]), ([16, 21, 11, 11], [11, 16, 21]), ([22, 11], [11, 22]), ([11, 23], [11, 23])])
def sawmillref11_Same.B6 : List Nat := [0, 0, 3, 7, 15, 0, 0, 96, 224, 480, 1023, 2047, 4095, 4095, 16383, 32767, 65535, 4095, 4095, 397311, 921599, 1970175, 4194303, 8388607, 16777215]
theorem sawmillref11_Same.tab6 : rtab .any (opsOf Try.f24 6) = sawmillref11_Same.T6 := by kernel_rfl
theorem sawmillref11_Same.bits6 : waitsOk sawmillref11_Same.T6.2 sawmillref11_Same.B6 = true := by kernel_rfl
set_option maxHeartbeats 8000000 in
set_option maxRecDepth 100000 in
theorem sawmillref11_Same.calls (k : Nat) (A0 : Option Addr) (c0 : Nat) (l0 : List (S60)) (A1 : Option Addr) (c1 : Nat) (l1 : List (S60)) (r : Bool) (w : World) (hr0 : Kd.C k60 w A0 l0.length l0) (hc0 : l0.length ≤ c0) (hr1 : Kd.C k60 w A1 l1.length l1) (hc1 : l1.length ≤ c1) (h : sawmillref11_Same.f k l0 l1 = some r) :
  Calls Try.prog 24 #[.slice A0 l0.length c0, .slice A1 l1.length c1] w fun e w' => e = .returned (.bool r) ∧ Below w.heap.size w w' := by
 have hu36 := Try.underlying36;have HR0 := Aside0.mk hr0;have HC0 := Aside0.mk hc0;clear hr0 hc0;have HR1 := Aside0.mk hr1;have HC1 := Aside0.mk hc1;clear hr1 hc1;have HB := A_ (Below.refl w.heap.size w);have H : (if (l0.length : Int) = (l1.length : Int) then (sawmillref11_Same.l0 k l0 l1 0) else (some false)) = some r := h;clear h
 by_cases c3 : (l0.length : Int) = (l1.length : Int)
 ·rw [if_pos c3] at H;have c3b0 : ((l0.length : Int) == (l1.length : Int)) = true := beq_iff_eq.mpr c3;have c3b1 : ((l0.length : Int) != (l1.length : Int)) = false := bne_eq_false_iff_eq.mpr c3;(have c3b2 : (l0.length == l1.length) = true := by first | simpa using c3 | (simp at c3 ⊢; omega));clear c3;have H' := Aside0.mk H;clear H;go_enter Try.func24, Try.ntmps24;go_wp2
  go_loopg [5] k (fun kq v5 w' => ∃ (x5_1 : Int), v5 = .int .i64 x5_1 ∧ Aside0 (sawmillref11_Same.l0 kq l0 l1 x5_1 = some r) ∧ Aside0 (kq ≤ k) ∧ Aside0 (Below w.heap.size w w'))
  case atStart => exact ⟨(0), rs_, H', ⟨Nat.le_refl _⟩, ⟨be_⟩⟩
  case round =>
   clear H';(try clear c1);(try clear c2);(try clear p2);(try clear c3);(try clear c3b0);(try clear c3b1);(try clear c3b2);obtain ⟨x5_1, rfl, HA, HK1, HB⟩ := hrel;cases gk with
   | zero => exact absurd HA.out (by simp [sawmillref11_Same.l0])
   | succ k1 =>
    have H := HA.out;clear HA;simp only [sawmillref11_Same.l0] at H
    by_cases c4 : x5_1 < (l0.length : Int)
    ·rw [if_pos c4] at H;have c4b0 : decide (x5_1 < (l0.length : Int)) = true := decide_eq_true c4;clear c4
     by_cases c5 : 0 ≤ x5_1
     ·rw [if_pos c5] at H;have c5b0 : decide (0 ≤ x5_1) = true := decide_eq_true c5;clear c5
      by_cases c6 : x5_1 < (l1.length : Int)
      ·rw [if_pos c6] at H;have c6b0 : decide (x5_1 < (l1.length : Int)) = true := decide_eq_true c6;clear c6
       by_cases c7 : ((rd_T60 l0 x5_1).f0) = ((rd_T60 l1 x5_1).f0)
       ·rw [if_pos c7] at H;have c7b0 : (((rd_T60 l0 x5_1).f0) == ((rd_T60 l1 x5_1).f0)) = true := beq_iff_eq.mpr c7;have c7b1 : (((rd_T60 l0 x5_1).f0) != ((rd_T60 l1 x5_1).f0)) = false := bne_eq_false_iff_eq.mpr c7;clear c7;replace H := Option.bind_eq_some_iff.mp H;obtain ⟨tq5, A80, H⟩ := H;replace H : (if tq5 = true then (sawmillref11_Same.l0 k1 l0 l1 (wrap64 (x5_1 + 1))) else (some false)) = some r := H;have A8 := Aside0.mk A80;clear A80
        by_cases c9 : tq5 = true
        ·subst c9;(have H1 : (sawmillref11_Same.l0 k1 l0 l1 (wrap64 (x5_1 + 1))) = some r := by rw [if_pos rfl] at H; exact H);clear H;have H := H1;clear H1;have H' := Aside0.mk H;clear H;(try go_wp2);replace HB := A_ (below_drew1 HB.out);have pq1 : 0 ≤ (x5_1 : Int) := as_;have qq1 : x5_1 < (l0.length : Int) := as_;obtain ⟨adq1, Aq1_2, cq1_2, eq1, hxq1_0, hxq1_1, hxq1_2, hlq1_2, hiq1_2⟩ := at_T60 HR0.out x5_1 pq1 qq1;have hwq1_2 := hxq1_2;have hwq1_1 := hxq1_1;have hwq1_0 := hxq1_0;cases eq1;replace hxq1_0 := bc_ HB hxq1_0;replace hxq1_1 := bc_ HB hxq1_1;replace hxq1_2 := bc_ HB hxq1_2;have HRq1_2 := Aside0.mk hiq1_2;have HCq1_2 := Aside0.mk hlq1_2;clear hiq1_2 hlq1_2;replace pq1 := eq_true pq1;replace qq1 := eq_true qq1;have pq2 : 0 ≤ (x5_1 : Int) := as_;have qq2 : x5_1 < (l1.length : Int) := as_;obtain ⟨adq2, Aq2_2, cq2_2, eq2, hxq2_0, hxq2_1, hxq2_2, hlq2_2, hiq2_2⟩ := at_T60 HR1.out x5_1 pq2 qq2;have hwq2_2 := hxq2_2;have hwq2_1 := hxq2_1;have hwq2_0 := hxq2_0;cases eq2;replace hxq2_0 := bc_ HB hxq2_0;replace hxq2_1 := bc_ HB hxq2_1;replace hxq2_2 := bc_ HB hxq2_2;have HRq2_2 := Aside0.mk hiq2_2;have HCq2_2 := Aside0.mk hlq2_2;clear hiq2_2 hlq2_2;replace pq2 := eq_true pq2;replace qq2 := eq_true qq2;have pq3 : 0 ≤ (x5_1 : Int) := as_;have qq3 : x5_1 < (l0.length : Int) := as_;obtain ⟨adq3, Aq3_2, cq3_2, eq3, hxq3_0, hxq3_1, hxq3_2, hlq3_2, hiq3_2⟩ := at_T60 HR0.out x5_1 pq3 qq3;have hwq3_2 := hxq3_2;have hwq3_1 := hxq3_1;have hwq3_0 := hxq3_0;obtain rfl : adq1 = adq3 := (by injection eq3);replace hxq3_0 := bc_ HB hxq3_0;replace hxq3_1 := bc_ HB hxq3_1;replace hxq3_2 := bc_ HB hxq3_2;have HRq3_2 := Aside0.mk hiq3_2;have HCq3_2 := Aside0.mk hlq3_2;clear hiq3_2 hlq3_2;replace pq3 := eq_true pq3;replace qq3 := eq_true qq3;have ea_ := Option.some.inj (hxq1_2.symm.trans hxq3_2);injection ea_ with ea_ en_ ec_;subst ea_;subst ec_;clear en_;have pq4 : 0 ≤ (x5_1 : Int) := as_;have qq4 : x5_1 < (l1.length : Int) := as_;obtain ⟨adq4, Aq4_2, cq4_2, eq4, hxq4_0, hxq4_1, hxq4_2, hlq4_2, hiq4_2⟩ := at_T60 HR1.out x5_1 pq4 qq4;have hwq4_2 := hxq4_2;have hwq4_1 := hxq4_1;have hwq4_0 := hxq4_0;obtain rfl : adq2 = adq4 := (by injection eq4);replace hxq4_0 := bc_ HB hxq4_0;replace hxq4_1 := bc_ HB hxq4_1;replace hxq4_2 := bc_ HB hxq4_2;have HRq4_2 := Aside0.mk hiq4_2;have HCq4_2 := Aside0.mk hlq4_2;clear hiq4_2 hlq4_2;replace pq4 := eq_true pq4;replace qq4 := eq_true qq4;have ea_ := Option.some.inj (hxq2_2.symm.trans hxq4_2);injection ea_ with ea_ en_ ec_;subst ea_;subst ec_;clear en_
         refine start_ (n := 25) (S := fun w' => w'.cell? (adq1.add ((x5_1).toNat * 3)) = some (.int .i64 ((rd_T60 l0 x5_1).f0)) ∧ w'.cell? ⟨(adq1.add ((x5_1).toNat * 3)).block, (adq1.add ((x5_1).toNat * 3)).off + 1, none⟩ = some (.int .i64 ((rd_T60 l0 x5_1).f1.f0)) ∧ w'.cell? ⟨(adq1.add ((x5_1).toNat * 3)).block, (adq1.add ((x5_1).toNat * 3)).off + 2, none⟩ = some (.slice Aq1_2 ((rd_T60 l0 x5_1).f1.f1).length cq1_2) ∧ w'.cell? (adq2.add ((x5_1).toNat * 3)) = some (.int .i64 ((rd_T60 l1 x5_1).f0)) ∧ w'.cell? ⟨(adq2.add ((x5_1).toNat * 3)).block, (adq2.add ((x5_1).toNat * 3)).off + 1, none⟩ = some (.int .i64 ((rd_T60 l1 x5_1).f1.f0)) ∧ w'.cell? ⟨(adq2.add ((x5_1).toNat * 3)).block, (adq2.add ((x5_1).toNat * 3)).off + 2, none⟩ = some (.slice Aq2_2 ((rd_T60 l1 x5_1).f1.f1).length cq2_2) ∧ w'.cell? (adq1.add ((x5_1).toNat * 3)) = some (.int .i64 ((rd_T60 l0 x5_1).f0)) ∧ w'.cell? ⟨(adq1.add ((x5_1).toNat * 3)).block, (adq1.add ((x5_1).toNat * 3)).off + 1, none⟩ = some (.int .i64 ((rd_T60 l0 x5_1).f1.f0)) ∧ w'.cell? ⟨(adq1.add ((x5_1).toNat * 3)).block, (adq1.add ((x5_1).toNat * 3)).off + 2, none⟩ = some (.slice Aq1_2 ((rd_T60 l0 x5_1).f1.f1).length cq1_2) ∧ w'.cell? (adq2.add ((x5_1).toNat * 3)) = some (.int .i64 ((rd_T60 l1 x5_1).f0)) ∧ w'.cell? ⟨(adq2.add ((x5_1).toNat * 3)).block, (adq2.add ((x5_1).toNat * 3)).off + 1, none⟩ = some (.int .i64 ((rd_T60 l1 x5_1).f1.f0)) ∧ w'.cell? ⟨(adq2.add ((x5_1).toNat * 3)).block, (adq2.add ((x5_1).toNat * 3)).off + 2, none⟩ = some (.slice Aq2_2 ((rd_T60 l1 x5_1).f1.f1).length cq2_2)) (ds := []) q2_ (by kernel_rfl) rfl rfl ⟨(bc_ HB hwq1_0), (bc_ HB hwq1_1), (bc_ HB hwq1_2), (bc_ HB hwq2_0), (bc_ HB hwq2_1), (bc_ HB hwq2_2), (bc_ HB hwq3_0), (bc_ HB hwq3_1), (bc_ HB hwq3_2), (bc_ HB hwq4_0), (bc_ HB hwq4_1), (bc_ HB hwq4_2)⟩ (fun hHeld => ?_); refine with_tabW sawmillref11_Same.tab6 sawmillref11_Same.bits6 (fun HT_ HW_ => ?_);generalize wr.drew = w10 at HB HRq1_2 HRq2_2 HRq3_2 HRq4_2 hxq1_0 hxq1_1 hxq1_2 hxq2_0 hxq2_1 hxq2_2 hxq3_0 hxq3_1 hxq3_2 hxq4_0 hxq4_1 hxq4_2 hHeld ⊢;refine pu_ 0 17 q5_ ?_;refine pu_ 1 18 q8_ ?_;refine pu_ 2 19 q12_ ?_;refine pu_ 3 20 q15_ ?_;refine pu_ 5 22 q16_ ?_;refine pu_ 6 23 q17_ ?_;refine pu_ 7 24 q18_ ?_;refine pu_ 8 25 q19_ ?_;refine take_ (i := 4) (N := some 21) q36_ rfl rfl (take_ofW HT_.out HW_.out (by kernel_rfl)) id3_ (Or.inl ⟨by rfl, by rintro w' ⟨s0, s1, s2, s3, s4, s5, s6, s7, s8, s9, s10, s11⟩; go_simp; with_reducible rfl⟩) hHeld pt_ ?_;refine take_ (i := 9) (N := some 26) q39_ rfl rfl (take_ofW HT_.out HW_.out (by kernel_rfl)) id3_ (Or.inl ⟨by rfl, by rintro w' ⟨s0, s1, s2, s3, s4, s5, s6, s7, s8, s9, s10, s11⟩; go_simp; with_reducible rfl⟩) hHeld pt_ ?_;refine pu_ 10 27 q43_ ?_;refine pu_ 11 28 q48_ ?_;refine pu_ 12 29 q51_ ?_;refine pu_ 13 30 q54_ ?_;refine pu_ 14 31 q57_ ?_
         refine pu_ 15 32 q60_ ?_;refine pu_ 17 34 q61_ ?_;refine pu_ 18 35 q62_ ?_;refine pu_ 19 36 q63_ ?_;refine pu_ 20 37 q64_ ?_;refine take_ (i := 16) (N := some 33) q78_ rfl rfl (take_ofW HT_.out HW_.out (by kernel_rfl)) id3_ (Or.inl ⟨by rfl, by rintro w' ⟨s0, s1, s2, s3, s4, s5, s6, s7, s8, s9, s10, s11⟩; go_simp; with_reducible rfl⟩) hHeld pt_ ?_;refine take_ (i := 21) (N := some 38) q81_ rfl rfl (take_ofW HT_.out HW_.out (by kernel_rfl)) id3_ (Or.inl ⟨by rfl, by rintro w' ⟨s0, s1, s2, s3, s4, s5, s6, s7, s8, s9, s10, s11⟩; go_simp; with_reducible rfl⟩) hHeld pt_ ?_;refine one_ (i := 22) (N := some 39) q84_ rfl rfl (one_of HT_.out (by kernel_rfl)) (by decide) (fun K hK => ?_);refine goes_ Try.func23 (by kernel_rfl) rfl #[.agg #[.int .i64 ((rd_T60 l0 x5_1).f1.f0), .slice Aq1_2 ((rd_T60 l0 x5_1).f1.f1).length cq1_2], .agg #[.int .i64 ((rd_T60 l1 x5_1).f1.f0), .slice Aq2_2 ((rd_T60 l1 x5_1).f1.f1).length cq2_2]] (by rfl) rfl rfl la_ ?_;(with_reducible refine (sawmillref11_SameSection.calls k1 ((rd_T60 l0 x5_1).f1.f0) _ _ ((rd_T60 l0 x5_1).f1.f1) ((rd_T60 l1 x5_1).f1.f0) _ _ ((rd_T60 l1 x5_1).f1.f1) true _ ?side1 ?side2 ?side3 ?side4 A8.out).mono ?_);(case side1 => exact csC_ ((Kd.C_below HRq3_2.out HB.out)));(case side2 => exact HCq3_2.out);(case side3 => exact csC_ ((Kd.C_below HRq4_2.out HB.out)));(case side4 => exact HCq4_2.out);rintro e w11 ⟨rfl, hb⟩;refine ⟨_, rfl, ?_⟩;replace HB := bA_ hb;(try clear hb);refine hK.out _ _ ⟨(bc_ HB hwq1_0), (bc_ HB hwq1_1), (bc_ HB hwq1_2), (bc_ HB hwq2_0), (bc_ HB hwq2_1), (bc_ HB hwq2_2), (bc_ HB hwq3_0), (bc_ HB hwq3_1), (bc_ HB hwq3_2), (bc_ HB hwq4_0), (bc_ HB hwq4_1), (bc_ HB hwq4_2)⟩ (fun hHeld => ?_);clear hK K;refine norm_ (a' := ?_) ?_ ?_;rotate_left
         ·show Act.put _ (some 39) _ = _
          simp only [Act.put, List.setIfInBounds_toArray, List.set_cons_zero, List.set_cons_succ, i64_w, i32_w];rfl
         refine pu_ 23 40 q87_ ?_;refine pu_ 24 41 q138_ ?_;refine done_ (done_of HT_.out (by kernel_rfl)) ?_;(try clear hHeld);try go_wp2
         go_roundg k1
         case measure => have := HK1.out; omega
         case rel => exact ⟨(wrap64 (x5_1 + 1)), rs_, H', ⟨by have := HK1.out; omega⟩, ⟨be_⟩⟩
        ·replace c9 := Bool.eq_false_iff.mpr c9;subst c9;(have H1 : (some false) = some r := by rw [if_neg (show ¬ (false = true) by decide)] at H; exact H);clear H;have H := H1;clear H1;obtain rfl := Option.some.inj H;(try go_wp2);replace HB := A_ (below_drew1 HB.out);have pq1 : 0 ≤ (x5_1 : Int) := as_;have qq1 : x5_1 < (l0.length : Int) := as_;obtain ⟨adq1, Aq1_2, cq1_2, eq1, hxq1_0, hxq1_1, hxq1_2, hlq1_2, hiq1_2⟩ := at_T60 HR0.out x5_1 pq1 qq1;have hwq1_2 := hxq1_2;have hwq1_1 := hxq1_1;have hwq1_0 := hxq1_0;cases eq1;replace hxq1_0 := bc_ HB hxq1_0;replace hxq1_1 := bc_ HB hxq1_1;replace hxq1_2 := bc_ HB hxq1_2;have HRq1_2 := Aside0.mk hiq1_2;have HCq1_2 := Aside0.mk hlq1_2;clear hiq1_2 hlq1_2;replace pq1 := eq_true pq1;replace qq1 := eq_true qq1;have pq2 : 0 ≤ (x5_1 : Int) := as_;have qq2 : x5_1 < (l1.length : Int) := as_;obtain ⟨adq2, Aq2_2, cq2_2, eq2, hxq2_0, hxq2_1, hxq2_2, hlq2_2, hiq2_2⟩ := at_T60 HR1.out x5_1 pq2 qq2;have hwq2_2 := hxq2_2;have hwq2_1 := hxq2_1;have hwq2_0 := hxq2_0;cases eq2;replace hxq2_0 := bc_ HB hxq2_0;replace hxq2_1 := bc_ HB hxq2_1;replace hxq2_2 := bc_ HB hxq2_2;have HRq2_2 := Aside0.mk hiq2_2;have HCq2_2 := Aside0.mk hlq2_2;clear hiq2_2 hlq2_2;replace pq2 := eq_true pq2;replace qq2 := eq_true qq2;have pq3 : 0 ≤ (x5_1 : Int) := as_;have qq3 : x5_1 < (l0.length : Int) := as_;obtain ⟨adq3, Aq3_2, cq3_2, eq3, hxq3_0, hxq3_1, hxq3_2, hlq3_2, hiq3_2⟩ := at_T60 HR0.out x5_1 pq3 qq3;have hwq3_2 := hxq3_2;have hwq3_1 := hxq3_1;have hwq3_0 := hxq3_0;obtain rfl : adq1 = adq3 := (by injection eq3);replace hxq3_0 := bc_ HB hxq3_0;replace hxq3_1 := bc_ HB hxq3_1;replace hxq3_2 := bc_ HB hxq3_2;have HRq3_2 := Aside0.mk hiq3_2;have HCq3_2 := Aside0.mk hlq3_2;clear hiq3_2 hlq3_2;replace pq3 := eq_true pq3;replace qq3 := eq_true qq3;have ea_ := Option.some.inj (hxq1_2.symm.trans hxq3_2);injection ea_ with ea_ en_ ec_;subst ea_;subst ec_;clear en_;have pq4 : 0 ≤ (x5_1 : Int) := as_;have qq4 : x5_1 < (l1.length : Int) := as_;obtain ⟨adq4, Aq4_2, cq4_2, eq4, hxq4_0, hxq4_1, hxq4_2, hlq4_2, hiq4_2⟩ := at_T60 HR1.out x5_1 pq4 qq4;have hwq4_2 := hxq4_2;have hwq4_1 := hxq4_1;have hwq4_0 := hxq4_0;obtain rfl : adq2 = adq4 := (by injection eq4);replace hxq4_0 := bc_ HB hxq4_0;replace hxq4_1 := bc_ HB hxq4_1;replace hxq4_2 := bc_ HB hxq4_2;have HRq4_2 := Aside0.mk hiq4_2;have HCq4_2 := Aside0.mk hlq4_2;clear hiq4_2 hlq4_2;replace pq4 := eq_true pq4;replace qq4 := eq_true qq4;have ea_ := Option.some.inj (hxq2_2.symm.trans hxq4_2);injection ea_ with ea_ en_ ec_;subst ea_;subst ec_;clear en_
         refine start_ (n := 25) (S := fun w' => w'.cell? (adq1.add ((x5_1).toNat * 3)) = some (.int .i64 ((rd_T60 l0 x5_1).f0)) ∧ w'.cell? ⟨(adq1.add ((x5_1).toNat * 3)).block, (adq1.add ((x5_1).toNat * 3)).off + 1, none⟩ = some (.int .i64 ((rd_T60 l0 x5_1).f1.f0)) ∧ w'.cell? ⟨(adq1.add ((x5_1).toNat * 3)).block, (adq1.add ((x5_1).toNat * 3)).off + 2, none⟩ = some (.slice Aq1_2 ((rd_T60 l0 x5_1).f1.f1).length cq1_2) ∧ w'.cell? (adq2.add ((x5_1).toNat * 3)) = some (.int .i64 ((rd_T60 l1 x5_1).f0)) ∧ w'.cell? ⟨(adq2.add ((x5_1).toNat * 3)).block, (adq2.add ((x5_1).toNat * 3)).off + 1, none⟩ = some (.int .i64 ((rd_T60 l1 x5_1).f1.f0)) ∧ w'.cell? ⟨(adq2.add ((x5_1).toNat * 3)).block, (adq2.add ((x5_1).toNat * 3)).off + 2, none⟩ = some (.slice Aq2_2 ((rd_T60 l1 x5_1).f1.f1).length cq2_2) ∧ w'.cell? (adq1.add ((x5_1).toNat * 3)) = some (.int .i64 ((rd_T60 l0 x5_1).f0)) ∧ w'.cell? ⟨(adq1.add ((x5_1).toNat * 3)).block, (adq1.add ((x5_1).toNat * 3)).off + 1, none⟩ = some (.int .i64 ((rd_T60 l0 x5_1).f1.f0)) ∧ w'.cell? ⟨(adq1.add ((x5_1).toNat * 3)).block, (adq1.add ((x5_1).toNat * 3)).off + 2, none⟩ = some (.slice Aq1_2 ((rd_T60 l0 x5_1).f1.f1).length cq1_2) ∧ w'.cell? (adq2.add ((x5_1).toNat * 3)) = some (.int .i64 ((rd_T60 l1 x5_1).f0)) ∧ w'.cell? ⟨(adq2.add ((x5_1).toNat * 3)).block, (adq2.add ((x5_1).toNat * 3)).off + 1, none⟩ = some (.int .i64 ((rd_T60 l1 x5_1).f1.f0)) ∧ w'.cell? ⟨(adq2.add ((x5_1).toNat * 3)).block, (adq2.add ((x5_1).toNat * 3)).off + 2, none⟩ = some (.slice Aq2_2 ((rd_T60 l1 x5_1).f1.f1).length cq2_2)) (ds := []) q2_ (by kernel_rfl) rfl rfl ⟨(bc_ HB hwq1_0), (bc_ HB hwq1_1), (bc_ HB hwq1_2), (bc_ HB hwq2_0), (bc_ HB hwq2_1), (bc_ HB hwq2_2), (bc_ HB hwq3_0), (bc_ HB hwq3_1), (bc_ HB hwq3_2), (bc_ HB hwq4_0), (bc_ HB hwq4_1), (bc_ HB hwq4_2)⟩ (fun hHeld => ?_); refine with_tabW sawmillref11_Same.tab6 sawmillref11_Same.bits6 (fun HT_ HW_ => ?_);generalize wr.drew = w12 at HB HRq1_2 HRq2_2 HRq3_2 HRq4_2 hxq1_0 hxq1_1 hxq1_2 hxq2_0 hxq2_1 hxq2_2 hxq3_0 hxq3_1 hxq3_2 hxq4_0 hxq4_1 hxq4_2 hHeld ⊢;refine pu_ 0 17 q5_ ?_;refine pu_ 1 18 q8_ ?_;refine pu_ 2 19 q12_ ?_;refine pu_ 3 20 q15_ ?_;refine pu_ 5 22 q16_ ?_;refine pu_ 6 23 q17_ ?_;refine pu_ 7 24 q18_ ?_;refine pu_ 8 25 q19_ ?_;refine take_ (i := 4) (N := some 21) q36_ rfl rfl (take_ofW HT_.out HW_.out (by kernel_rfl)) id3_ (Or.inl ⟨by rfl, by rintro w' ⟨s0, s1, s2, s3, s4, s5, s6, s7, s8, s9, s10, s11⟩; go_simp; with_reducible rfl⟩) hHeld pt_ ?_;refine take_ (i := 9) (N := some 26) q39_ rfl rfl (take_ofW HT_.out HW_.out (by kernel_rfl)) id3_ (Or.inl ⟨by rfl, by rintro w' ⟨s0, s1, s2, s3, s4, s5, s6, s7, s8, s9, s10, s11⟩; go_simp; with_reducible rfl⟩) hHeld pt_ ?_;refine pu_ 10 27 q43_ ?_;refine pu_ 11 28 q48_ ?_;refine pu_ 12 29 q51_ ?_;refine pu_ 13 30 q54_ ?_;refine pu_ 14 31 q57_ ?_
         refine pu_ 15 32 q60_ ?_;refine pu_ 17 34 q61_ ?_;refine pu_ 18 35 q62_ ?_;refine pu_ 19 36 q63_ ?_;refine pu_ 20 37 q64_ ?_;refine take_ (i := 16) (N := some 33) q78_ rfl rfl (take_ofW HT_.out HW_.out (by kernel_rfl)) id3_ (Or.inl ⟨by rfl, by rintro w' ⟨s0, s1, s2, s3, s4, s5, s6, s7, s8, s9, s10, s11⟩; go_simp; with_reducible rfl⟩) hHeld pt_ ?_;refine take_ (i := 21) (N := some 38) q81_ rfl rfl (take_ofW HT_.out HW_.out (by kernel_rfl)) id3_ (Or.inl ⟨by rfl, by rintro w' ⟨s0, s1, s2, s3, s4, s5, s6, s7, s8, s9, s10, s11⟩; go_simp; with_reducible rfl⟩) hHeld pt_ ?_;refine one_ (i := 22) (N := some 39) q84_ rfl rfl (one_of HT_.out (by kernel_rfl)) (by decide) (fun K hK => ?_);refine goes_ Try.func23 (by kernel_rfl) rfl #[.agg #[.int .i64 ((rd_T60 l0 x5_1).f1.f0), .slice Aq1_2 ((rd_T60 l0 x5_1).f1.f1).length cq1_2], .agg #[.int .i64 ((rd_T60 l1 x5_1).f1.f0), .slice Aq2_2 ((rd_T60 l1 x5_1).f1.f1).length cq2_2]] (by rfl) rfl rfl la_ ?_;(with_reducible refine (sawmillref11_SameSection.calls k1 ((rd_T60 l0 x5_1).f1.f0) _ _ ((rd_T60 l0 x5_1).f1.f1) ((rd_T60 l1 x5_1).f1.f0) _ _ ((rd_T60 l1 x5_1).f1.f1) false _ ?side1 ?side2 ?side3 ?side4 A8.out).mono ?_);(case side1 => exact csC_ ((Kd.C_below HRq3_2.out HB.out)));(case side2 => exact HCq3_2.out);(case side3 => exact csC_ ((Kd.C_below HRq4_2.out HB.out)));(case side4 => exact HCq4_2.out);rintro e w13 ⟨rfl, hb⟩;refine ⟨_, rfl, ?_⟩;replace HB := bA_ hb;(try clear hb);refine hK.out _ _ ⟨(bc_ HB hwq1_0), (bc_ HB hwq1_1), (bc_ HB hwq1_2), (bc_ HB hwq2_0), (bc_ HB hwq2_1), (bc_ HB hwq2_2), (bc_ HB hwq3_0), (bc_ HB hwq3_1), (bc_ HB hwq3_2), (bc_ HB hwq4_0), (bc_ HB hwq4_1), (bc_ HB hwq4_2)⟩ (fun hHeld => ?_);clear hK K;refine norm_ (a' := ?_) ?_ ?_;rotate_left
         ·show Act.put _ (some 39) _ = _
          simp only [Act.put, List.setIfInBounds_toArray, List.set_cons_zero, List.set_cons_succ, i64_w, i32_w];rfl
         refine pu_ 23 40 q87_ ?_;refine pu_ 24 41 q138_ ?_;refine done_ (done_of HT_.out (by kernel_rfl)) ?_;(try clear hHeld);(try go_wp2);go_ret;exact ⟨er_, be_⟩
       ·rw [if_neg c7] at H;have c7b0 : (((rd_T60 l0 x5_1).f0) == ((rd_T60 l1 x5_1).f0)) = false := beq_eq_false_iff_ne.mpr c7;have c7b1 : (((rd_T60 l0 x5_1).f0) != ((rd_T60 l1 x5_1).f0)) = true := bne_iff_ne.mpr c7;obtain rfl := Option.some.inj H;(try go_wp2);replace HB := A_ (below_drew1 HB.out);have pq1 : 0 ≤ (x5_1 : Int) := as_;have qq1 : x5_1 < (l0.length : Int) := as_;obtain ⟨adq1, Aq1_2, cq1_2, eq1, hxq1_0, hxq1_1, hxq1_2, hlq1_2, hiq1_2⟩ := at_T60 HR0.out x5_1 pq1 qq1;have hwq1_2 := hxq1_2;have hwq1_1 := hxq1_1;have hwq1_0 := hxq1_0;cases eq1;replace hxq1_0 := bc_ HB hxq1_0;replace hxq1_1 := bc_ HB hxq1_1;replace hxq1_2 := bc_ HB hxq1_2;have HRq1_2 := Aside0.mk hiq1_2;have HCq1_2 := Aside0.mk hlq1_2;clear hiq1_2 hlq1_2;replace pq1 := eq_true pq1;replace qq1 := eq_true qq1;have pq2 : 0 ≤ (x5_1 : Int) := as_;have qq2 : x5_1 < (l1.length : Int) := as_;obtain ⟨adq2, Aq2_2, cq2_2, eq2, hxq2_0, hxq2_1, hxq2_2, hlq2_2, hiq2_2⟩ := at_T60 HR1.out x5_1 pq2 qq2;have hwq2_2 := hxq2_2;have hwq2_1 := hxq2_1;have hwq2_0 := hxq2_0;cases eq2;replace hxq2_0 := bc_ HB hxq2_0;replace hxq2_1 := bc_ HB hxq2_1;replace hxq2_2 := bc_ HB hxq2_2;have HRq2_2 := Aside0.mk hiq2_2;have HCq2_2 := Aside0.mk hlq2_2;clear hiq2_2 hlq2_2;replace pq2 := eq_true pq2;replace qq2 := eq_true qq2;refine start_ (n := 25) (S := fun w' => w'.cell? (adq1.add ((x5_1).toNat * 3)) = some (.int .i64 ((rd_T60 l0 x5_1).f0)) ∧ w'.cell? ⟨(adq1.add ((x5_1).toNat * 3)).block, (adq1.add ((x5_1).toNat * 3)).off + 1, none⟩ = some (.int .i64 ((rd_T60 l0 x5_1).f1.f0)) ∧ w'.cell? ⟨(adq1.add ((x5_1).toNat * 3)).block, (adq1.add ((x5_1).toNat * 3)).off + 2, none⟩ = some (.slice Aq1_2 ((rd_T60 l0 x5_1).f1.f1).length cq1_2) ∧ w'.cell? (adq2.add ((x5_1).toNat * 3)) = some (.int .i64 ((rd_T60 l1 x5_1).f0)) ∧ w'.cell? ⟨(adq2.add ((x5_1).toNat * 3)).block, (adq2.add ((x5_1).toNat * 3)).off + 1, none⟩ = some (.int .i64 ((rd_T60 l1 x5_1).f1.f0)) ∧ w'.cell? ⟨(adq2.add ((x5_1).toNat * 3)).block, (adq2.add ((x5_1).toNat * 3)).off + 2, none⟩ = some (.slice Aq2_2 ((rd_T60 l1 x5_1).f1.f1).length cq2_2)) (ds := []) q2_ (by kernel_rfl) rfl rfl ⟨(bc_ HB hwq1_0), (bc_ HB hwq1_1), (bc_ HB hwq1_2), (bc_ HB hwq2_0), (bc_ HB hwq2_1), (bc_ HB hwq2_2)⟩ (fun hHeld => ?_); refine with_tabW sawmillref11_Same.tab6 sawmillref11_Same.bits6 (fun HT_ HW_ => ?_);generalize wr.drew = w14 at HB HRq1_2 HRq2_2 hxq1_0 hxq1_1 hxq1_2 hxq2_0 hxq2_1 hxq2_2 hHeld ⊢;refine pu_ 0 17 q5_ ?_;refine pu_ 1 18 q8_ ?_;refine pu_ 2 19 q12_ ?_;refine pu_ 3 20 q15_ ?_;refine pu_ 5 22 q16_ ?_;refine pu_ 6 23 q17_ ?_;refine pu_ 7 24 q18_ ?_;refine pu_ 8 25 q19_ ?_;refine take_ (i := 4) (N := some 21) q36_ rfl rfl (take_ofW HT_.out HW_.out (by kernel_rfl)) id3_ (Or.inl ⟨by rfl, by rintro w' ⟨s0, s1, s2, s3, s4, s5⟩; go_simp; with_reducible rfl⟩) hHeld pt_ ?_;refine take_ (i := 9) (N := some 26) q39_ rfl rfl (take_ofW HT_.out HW_.out (by kernel_rfl)) id3_ (Or.inl ⟨by rfl, by rintro w' ⟨s0, s1, s2, s3, s4, s5⟩; go_simp; with_reducible rfl⟩) hHeld pt_ ?_;refine pu_ 10 27 q43_ ?_;refine pu_ 11 28 q48_ ?_
        refine pn_ 12 29 q51_ ?_;refine pn_ 13 30 q54_ ?_;refine pn_ 14 31 q57_ ?_;refine pn_ 15 32 q60_ ?_;refine pn_ 16 33 #[t_,t_,t_,t_,t_,t_,t_,t_,t_,t_,t_,t_,t_,t_,t_,t_,t_,f_,f_,f_,f_,f_,f_,f_,f_] ?_;refine pn_ 17 34 #[t_,t_,t_,t_,t_,t_,t_,t_,t_,t_,t_,t_,t_,t_,t_,t_,t_,t_,f_,f_,f_,f_,f_,f_,f_] ?_;refine pn_ 18 35 #[t_,t_,t_,t_,t_,t_,t_,t_,t_,t_,t_,t_,t_,t_,t_,t_,t_,t_,t_,f_,f_,f_,f_,f_,f_] ?_;refine pn_ 19 36 #[t_,t_,t_,t_,t_,t_,t_,t_,t_,t_,t_,t_,t_,t_,t_,t_,t_,t_,t_,t_,f_,f_,f_,f_,f_] ?_;refine pn_ 20 37 q78_ ?_;refine pn_ 21 38 q81_ ?_;refine pn_ 22 39 q84_ ?_;refine pn_ 23 40 q87_ ?_;refine pu_ 24 41 q138_ ?_;refine done_ (done_of HT_.out (by kernel_rfl)) ?_;(try clear hHeld);(try go_wp2);go_ret;exact ⟨er_, be_⟩
      ·rw [if_neg c6] at H;exact absurd H (by simp)
     ·rw [if_neg c5] at H;exact absurd H (by simp)
    ·rw [if_neg c4] at H;have c4b0 : decide (x5_1 < (l0.length : Int)) = false := decide_eq_false c4;clear c4;obtain rfl := Option.some.inj H;go_wp2;go_ret;exact ⟨er_, be_⟩
 ·rw [if_neg c3] at H;have c3b0 : ((l0.length : Int) == (l1.length : Int)) = false := beq_eq_false_iff_ne.mpr c3;have c3b1 : ((l0.length : Int) != (l1.length : Int)) = true := bne_iff_ne.mpr c3;(have c3b2 : (l0.length == l1.length) = false := by first | simpa using c3 | (simp at c3 ⊢; omega));obtain rfl := Option.some.inj H;go_enter Try.func24, Try.ntmps24;go_wp2;go_ret;exact ⟨er_, be_⟩


def sawmillref11_part.f (a0_0 : Int) (a0_1 : Int) (a1 : Int) (a2 : Int) : Option (Int) := if (mx a0_0 a1) ≥ (mn a0_1 (wrap64 (a1 + a2))) then (some 0) else (some (wrap64 ((mn a0_1 (wrap64 (a1 + a2))) - (mx a0_0 a1))))
set_option maxHeartbeats 8000000 in
set_option maxRecDepth 100000 in
theorem sawmillref11_part.calls (a0_0 : Int) (a0_1 : Int) (a1 : Int) (a2 : Int) (r : Int) (w : World) (h : sawmillref11_part.f a0_0 a0_1 a1 a2 = some r) :
  Calls Try.prog 44 #[.agg #[.int .i64 a0_0, .int .i64 a0_1], .int .i64 a1, .int .i64 a2] w fun e w' => e = .returned (.int .i64 r) ∧ Below w.heap.size w w' := by
 have hu29 := Try.underlying29;have HB := A_ (Below.refl w.heap.size w);have H : (if (mx a0_0 a1) ≥ (mn a0_1 (wrap64 (a1 + a2))) then (some 0) else (some (wrap64 ((mn a0_1 (wrap64 (a1 + a2))) - (mx a0_0 a1))))) = some r := h;clear h;obtain ⟨ji4, hji4⟩ : ∃ j_ : Int, (mx a0_0 a1) = j_ := ⟨_, rfl⟩;(replace H : (if (ji4) ≥ (mn a0_1 (wrap64 (a1 + a2))) then (some 0) else (some (wrap64 ((mn a0_1 (wrap64 (a1 + a2))) - (ji4))))) = some r := by first | (rw [hji4] at H; exact H) | (simp only [hji4] at H ⊢; exact H));have hji4_ : (if a0_0 < a1 then a1 else a0_0) = ji4 := hji4;obtain ⟨ji5, hji5⟩ : ∃ j_ : Int, (mn a0_1 (wrap64 (a1 + a2))) = j_ := ⟨_, rfl⟩;(replace H : (if (ji4) ≥ (ji5) then (some 0) else (some (wrap64 ((ji5) - (ji4))))) = some r := by first | (rw [hji5] at H; exact H) | (simp only [hji5] at H ⊢; exact H));have hji5_ : (if (wrap64 (a1 + a2)) < a0_1 then (wrap64 (a1 + a2)) else a0_1) = ji5 := hji5
 by_cases c6 : (ji4) ≥ (ji5)
 ·rw [if_pos c6] at H;have c6b0 : decide ((ji5) ≤ (ji4)) = true := decide_eq_true c6;clear c6;obtain rfl := Option.some.inj H;go_enter Try.func44, Try.ntmps44;go_wp2_with (first | ((with_reducible refine gate_dst (N := 3) rfl ?_); refine bx_ 3 (cs := #[.int .i64 a0_0, .int .i64 a0_1]) (t := 29) ?_; intro gbq1 hg w7 hbox hb; have BKq1 := A_ hbox; have GWq1 := gz_ (w := w) hg; have GEq1 := gz_ (w := w) hg; replace HB := bA_ hb; clear hb hbox hg; obtain ⟨hcz8_0, hcz8_1, hfz8_0, hfz8_1⟩ := cy2_ BKq1))
  repeat (go_quiet (first | ((with_reducible refine gate_dst (N := 3) rfl ?_); refine bx_ 3 (cs := #[.int .i64 a0_0, .int .i64 a0_1]) (t := 29) ?_; intro gbq1 hg w7 hbox hb; have BKq1 := A_ hbox; have GWq1 := gz_ (w := w) hg; have GEq1 := gz_ (w := w) hg; replace HB := bA_ hb; clear hb hbox hg; obtain ⟨hcz8_0, hcz8_1, hfz8_0, hfz8_1⟩ := cy2_ BKq1)); try go_wp2_with (first | ((with_reducible refine gate_dst (N := 3) rfl ?_); refine bx_ 3 (cs := #[.int .i64 a0_0, .int .i64 a0_1]) (t := 29) ?_; intro gbq1 hg w7 hbox hb; have BKq1 := A_ hbox; have GWq1 := gz_ (w := w) hg; have GEq1 := gz_ (w := w) hg; replace HB := bA_ hb; clear hb hbox hg; obtain ⟨hcz8_0, hcz8_1, hfz8_0, hfz8_1⟩ := cy2_ BKq1)))
  go_ret;exact ⟨by first | rfl | (simp [errW_none, errW_some] <;> rfl) | (simp only [← hji4, ← hji5]; first | rfl | (simp [errW_none, errW_some] <;> rfl)) | (simp [*, errW_none, errW_some] <;> rfl), be_⟩
 ·rw [if_neg c6] at H;have c6b0 : decide ((ji5) ≤ (ji4)) = false := decide_eq_false c6;clear c6;obtain rfl := Option.some.inj H;go_enter Try.func44, Try.ntmps44;go_wp2_with (first | ((with_reducible refine gate_dst (N := 3) rfl ?_); refine bx_ 3 (cs := #[.int .i64 a0_0, .int .i64 a0_1]) (t := 29) ?_; intro gbq1 hg w9 hbox hb; have BKq1 := A_ hbox; have GWq1 := gz_ (w := w) hg; have GEq1 := gz_ (w := w) hg; replace HB := bA_ hb; clear hb hbox hg; obtain ⟨hcz10_0, hcz10_1, hfz10_0, hfz10_1⟩ := cy2_ BKq1))
  repeat (go_quiet (first | ((with_reducible refine gate_dst (N := 3) rfl ?_); refine bx_ 3 (cs := #[.int .i64 a0_0, .int .i64 a0_1]) (t := 29) ?_; intro gbq1 hg w9 hbox hb; have BKq1 := A_ hbox; have GWq1 := gz_ (w := w) hg; have GEq1 := gz_ (w := w) hg; replace HB := bA_ hb; clear hb hbox hg; obtain ⟨hcz10_0, hcz10_1, hfz10_0, hfz10_1⟩ := cy2_ BKq1)); try go_wp2_with (first | ((with_reducible refine gate_dst (N := 3) rfl ?_); refine bx_ 3 (cs := #[.int .i64 a0_0, .int .i64 a0_1]) (t := 29) ?_; intro gbq1 hg w9 hbox hb; have BKq1 := A_ hbox; have GWq1 := gz_ (w := w) hg; have GEq1 := gz_ (w := w) hg; replace HB := bA_ hb; clear hb hbox hg; obtain ⟨hcz10_0, hcz10_1, hfz10_0, hfz10_1⟩ := cy2_ BKq1)))
  go_ret;exact ⟨by first | rfl | (simp [errW_none, errW_some] <;> rfl) | (simp only [← hji4, ← hji5]; first | rfl | (simp [errW_none, errW_some] <;> rfl)) | (simp [*, errW_none, errW_some] <;> rfl), be_⟩


def sawmillref11_Cut.l0 : Nat → List (S60) → List (S60) → Int → Int → Int → Int → Option ((List (S60)))
 | 0, _, _, _, _, _, _ => none
 | k + 1, x0, x5, x6, x7, xq2o0, xq2o1 => if x7 < (x0.length : Int) then (if 0 ≤ x7 then ((sawmillref11_part.f xq2o0 xq2o1 x6 ((rd_T60 x0 x7).f0)).bind fun tq4 => (if tq4 > 0 then (if x5.length < 3518437208883 then (sawmillref11_Cut.l0 k x0 (x5 ++ [(⟨tq4, (⟨(rd_T60 x0 x7).f1.f0, (rd_T60 x0 x7).f1.f1⟩ : S36)⟩ : S60)]) (wrap64 (x6 + ((rd_T60 x0 x7).f0))) (wrap64 (x7 + 1)) xq2o0 xq2o1) else (none)) else (sawmillref11_Cut.l0 k x0 x5 (wrap64 (x6 + ((rd_T60 x0 x7).f0))) (wrap64 (x7 + 1)) xq2o0 xq2o1))) else (none)) else (some x5)
def sawmillref11_Cut.f (k : Nat) (l0 : List (S60)) (a1_0 : Int) (a1_1 : Int) : Option ((List (S60))) := (sawmillref11_Check.f k l0).bind fun tq2 => (if tq2 = 0 then (sawmillref11_Cut.l0 k l0 ([] : List (S60)) 0 0 (mx a1_0 0) (mn a1_1 20000)) else (some ([] : List (S60))))
theorem sawmillref11_Cut.mono_l : ∀ k, (∀ y0 y1 y2 y3 y4 y5, LeO (sawmillref11_Cut.l0 k y0 y1 y2 y3 y4 y5) (sawmillref11_Cut.l0 (k + 1) y0 y1 y2 y3 y4 y5))
 | 0 => fun _ _ _ _ _ _ r h => by simp [sawmillref11_Cut.l0] at h
 | k + 1 => by
  have ih0 := sawmillref11_Cut.mono_l k
  ·intro y0 y1 y2 y3 y4 y5;unfold sawmillref11_Cut.l0
   repeat' first
   | (with_reducible exact ih0 _ _ _ _ _ _)
   | (with_reducible exact sawmillref11_Check.mono _ _)
   | (with_reducible exact LeO.refl _)
   | (with_reducible exact LeO.none _)
   | (with_reducible refine LeO.ite ?_ ?_)
   | (with_reducible refine LeO.bind ?_ (fun _ => ?_))
   | exact ih0 _ _ _ _ _ _
   | exact sawmillref11_Check.mono _ _
   | exact LeO.none _
   | refine LeO.ite ?_ ?_
   | refine LeO.bind ?_ (fun _ => ?_)
theorem sawmillref11_Cut.mono : ∀ a0 a1 a2 k, LeO (sawmillref11_Cut.f k a0 a1 a2) (sawmillref11_Cut.f (k + 1) a0 a1 a2) := by
 intro a0 a1 a2 k;have ih0 := sawmillref11_Cut.mono_l k;unfold sawmillref11_Cut.f
 repeat' first
   | (with_reducible exact ih0 _ _ _ _ _ _)
   | (with_reducible exact sawmillref11_Check.mono _ _)
   | (with_reducible exact LeO.refl _)
   | (with_reducible exact LeO.none _)
   | (with_reducible refine LeO.ite ?_ ?_)
   | (with_reducible refine LeO.bind ?_ (fun _ => ?_))
   | exact ih0 _ _ _ _ _ _
   | exact sawmillref11_Check.mono _ _
   | exact LeO.none _
   | refine LeO.ite ?_ ?_
   | refine LeO.bind ?_ (fun _ => ?_)
def sawmillref11_Cut.T9 : Bool × List (List Nat × List Nat) := (true, [([], []), ([], []), ([], []), ([], []), ([2, 3], [2, 3]), ([4], [4]), ([5], [5]), ([0, 1, 6], [0, 1, 6]), ([7, 7, 0, 1, 2, 3, 4, 5, 6, 7], [7])])
def sawmillref11_Cut.B9 : List Nat := [0, 0, 0, 0, 12, 28, 60, 127, 255]
theorem sawmillref11_Cut.tab9 : rtab .any (opsOf Try.f26 9) = sawmillref11_Cut.T9 := by kernel_rfl
theorem sawmillref11_Cut.bits9 : waitsOk sawmillref11_Cut.T9.2 sawmillref11_Cut.B9 = true := by kernel_rfl
set_option maxHeartbeats 8000000 in
set_option maxRecDepth 100000 in
theorem sawmillref11_Cut.calls (k : Nat) (P0_ : Nat → Prop) (A0 : Option Addr) (c0 : Nat) (l0 : List (S60)) (a1_0 : Int) (a1_1 : Int) (r : List (S60)) (w : World) (hs0 : Kd.V k60 60 w w.heap.size (fun k_ => P0_ k_) (.slice A0 l0.length c0) l0) (h : sawmillref11_Cut.f k l0 a1_0 a1_1 = some r) :
  Calls Try.prog 26 #[.slice A0 l0.length c0, .agg #[.int .i64 a1_0, .int .i64 a1_1]] w fun e w' => ∃ v0_ : Value, e = .returned (v0_) ∧ Kd.N k60 60 w' w.heap.size (fun k_ => (P0_ k_ ∨ w.heap.size ≤ k_)) v0_ r ∧ Below w.heap.size w w' := by
 have hu29 := Try.underlying29;have hu36 := Try.underlying36;have hu60 := Try.underlying60;have HO0 := A_ (show Kd.V k60 60 w w.heap.size (fun k_ => (P0_ k_ ∨ w.heap.size ≤ k_)) (.slice A0 l0.length c0) l0 from Kd.V_mono hs0 (fun k_ hk => .inl hk));have HB := A_ (Below.refl w.heap.size w);have H : ((sawmillref11_Check.f k l0).bind fun tq2 => (if tq2 = 0 then (sawmillref11_Cut.l0 k l0 ([] : List (S60)) 0 0 (mx a1_0 0) (mn a1_1 20000)) else (some ([] : List (S60))))) = some r := h;clear h;replace H := Option.bind_eq_some_iff.mp H;obtain ⟨tq2, A30, H⟩ := H;replace H : (if tq2 = 0 then (sawmillref11_Cut.l0 k l0 ([] : List (S60)) 0 0 (mx a1_0 0) (mn a1_1 20000)) else (some ([] : List (S60)))) = some r := H;have A3 := Aside0.mk A30;clear A30
 by_cases c4 : tq2 = 0
 ·rw [if_pos c4] at H;have c4b0 : (tq2 == 0) = true := beq_iff_eq.mpr c4;have c4b1 : (tq2 != 0) = false := bne_eq_false_iff_eq.mpr c4;clear c4;obtain ⟨ji5, hji5⟩ : ∃ j_ : Int, (mx a1_0 0) = j_ := ⟨_, rfl⟩;(replace H : (sawmillref11_Cut.l0 k l0 ([] : List (S60)) 0 0 ji5 (mn a1_1 20000)) = some r := by first | (rw [hji5] at H; exact H) | (simp only [hji5] at H ⊢; exact H));(try rw [hji5] at A3);(try (have hji5l : 0 ≤ ji5 := by (rw [← hji5]; unfold mx; (repeat' split) <;> omega)));(try (have hji5m : 0 ≤ ji5 := by omega));have hji5_ : (if a1_0 < 0 then 0 else a1_0) = ji5 := hji5;obtain ⟨ji6, hji6⟩ : ∃ j_ : Int, (mn a1_1 20000) = j_ := ⟨_, rfl⟩;(replace H : (sawmillref11_Cut.l0 k l0 ([] : List (S60)) 0 0 ji5 ji6) = some r := by first | (rw [hji6] at H; exact H) | (simp only [hji6] at H ⊢; exact H));(try rw [hji6] at A3);(try (have hji6h : ji6 ≤ 20000 := by (rw [← hji6]; unfold mn; (repeat' split) <;> omega)));(try (have hji6g : ji6 ≤ 64 := by omega));have hji6_ : (if 20000 < a1_1 then 20000 else a1_1) = ji6 := hji6;have H' := Aside0.mk H;clear H;go_enter Try.func26, Try.ntmps26;go_wp2_with (first | ((with_reducible refine gate_dst (N := 3) rfl ?_); refine bx_ 3 (cs := #[.int .i64 a1_0, .int .i64 a1_1]) (t := 29) ?_; intro gbq1 hg w7 hbox hb; replace HO0 := A_ (Kd.V_below (Kd.V_elderB (fV_ HO0.out) gbq1 (Nat.le_of_eq hg.symm)) hb); have BKq1 := A_ hbox; have GWq1 := gz_ (w := w) hg; have GEq1 := gz_ (w := w) hg; replace HB := bA_ hb; clear hb hbox hg) | ((with_reducible refine gate_callee (f := 14) rfl ?_); refine goesL_ (some 10) rfl rfl Try.func14 (by kernel_rfl) rfl #[.slice A0 l0.length c0] rfl la_ ?_; (with_reducible refine (sawmillref11_Check.calls k _ _ l0 tq2 _ ?side1 ?side2 A3.out).mono ?_); (case side1 => exact csC_ ((Kd.V_reads' HO0.out).2.2)); (case side2 => exact (Kd.V_reads' HO0.out).2.1); rintro e w8 ⟨rfl, hb⟩; refine ⟨_, rfl, ?_⟩; replace HO0 := kV_ HO0 hb; replace BKq1 := bb_ BKq1 hb; replace HB := bA_ hb; (try clear hb); (try clear hk); obtain ⟨hcz9_0, hcz9_1, hfz9_0, hfz9_1⟩ := cy2_ BKq1))
  go_loopg [5, 6, 7] k (fun kq v5 v6 v7 w' => ∃ (x5_1 : List (S60)) (x6_1 : Int) (x7_1 : Int), v6 = .int .i64 x6_1 ∧ v7 = .int .i64 x7_1 ∧ Aside0 (sawmillref11_Cut.l0 kq l0 x5_1 x6_1 x7_1 ji5 ji6 = some r) ∧ Aside0 (kq ≤ k) ∧ Aside0 (Kd.V k60 60 w' w.heap.size (fun k_ => (P0_ k_ ∨ w.heap.size ≤ k_) ∧ some k_ ≠ (v5 : Value).ownBlock ∧ k_ ≠ gbq1) (.slice A0 l0.length c0) l0) ∧ Aside0 (Kd.N k60 60 w' w.heap.size (fun k_ => (P0_ k_ ∨ w.heap.size ≤ k_) ∧ k_ ≠ gbq1) v5 x5_1) ∧ Aside0 (w'.heap[gbq1]? = some (.cells #[.int .i64 ji5, .int .i64 ji6] 29 (0, 0))) ∧ Aside0 (Below w.heap.size w w'))
  case atStart => exact ⟨(([] : List (S60))), (0), (0), rs_, rs_, H', ⟨Nat.le_refl _⟩, ⟨by (with_reducible repeat (first | apply Kd.V_alloc | apply Kd.V_drewN | apply Kd.V_drew)); exact Kd.V_mono (Vf_ (Vf_ (Kd.V_mono HO0.out (fun k_ hk => (⟨hk, hk.2⟩ : _ ∧ k_ ≠ gbq1))))) (fun _ hk => ⟨hk.1.1, ⟨(by simp [Value.ownBlock]), hk.1.2⟩⟩)⟩, ⟨by first | exact Kd.S_nil _ _ _ _ _ | exact Kd.N_nil _ _ _ _ _ | exact Kd.V_nil _ _ _ _ _ | exact Kd.Q_nil _ _ _ _ _ | exact Kd.R_nil _ _ _ _ _⟩, ⟨ch_ BKq1⟩, ⟨be_⟩⟩
  case round =>
   clear H';(try clear c1);(try clear c2);(try clear p2);(try clear c4);(try clear c4b0);(try clear c4b1);(try clear hcz9_0);(try clear hcz9_1);(try clear hfz9_0);(try clear hfz9_1);obtain ⟨x5_1, x6_1, x7_1, rfl, rfl, HA, HK1, HO_0, HO_5, BKq1, HB⟩ := hrel;cases gk with
   | zero => exact absurd HA.out (by simp [sawmillref11_Cut.l0])
   | succ k1 =>
    have H := HA.out;clear HA;simp only [sawmillref11_Cut.l0] at H
    by_cases c10 : x7_1 < (l0.length : Int)
    ·rw [if_pos c10] at H;have c10b0 : decide (x7_1 < (l0.length : Int)) = true := decide_eq_true c10;clear c10
     by_cases c11 : 0 ≤ x7_1
     ·rw [if_pos c11] at H;have c11b0 : decide (0 ≤ x7_1) = true := decide_eq_true c11;clear c11;replace H := Option.bind_eq_some_iff.mp H;obtain ⟨tq4, A120, H⟩ := H;replace H : (if tq4 > 0 then (if x5_1.length < 3518437208883 then (sawmillref11_Cut.l0 k1 l0 (x5_1 ++ [(⟨tq4, (⟨(rd_T60 l0 x7_1).f1.f0, (rd_T60 l0 x7_1).f1.f1⟩ : S36)⟩ : S60)]) (wrap64 (x6_1 + ((rd_T60 l0 x7_1).f0))) (wrap64 (x7_1 + 1)) ji5 ji6) else (none)) else (sawmillref11_Cut.l0 k1 l0 x5_1 (wrap64 (x6_1 + ((rd_T60 l0 x7_1).f0))) (wrap64 (x7_1 + 1)) ji5 ji6)) = some r := H;have A12 := Aside0.mk A120;clear A120
      by_cases c13 : tq4 > 0
      ·rw [if_pos c13] at H;have c13b0 : decide (0 < tq4) = true := decide_eq_true c13;clear c13
       by_cases c14 : x5_1.length < 3518437208883
       ·rw [if_pos c14] at H;have LMc14 := Aside0.mk c14;clear c14;obtain ⟨yq6, hyq6⟩ : ∃ y_ : List (S60), y_ = (x5_1 ++ [(⟨tq4, (⟨(rd_T60 l0 x7_1).f1.f0, (rd_T60 l0 x7_1).f1.f1⟩ : S36)⟩ : S60)]) := ⟨_, rfl⟩;(replace H : (sawmillref11_Cut.l0 k1 l0 yq6 (wrap64 (x6_1 + ((rd_T60 l0 x7_1).f0))) (wrap64 (x7_1 + 1)) ji5 ji6) = some r := by first | (rw [hyq6]; with_reducible exact H) | (have H2_ := (Option.bind_some _ _).symm.trans H; rw [hyq6]; with_reducible exact H2_) | (have H2_ := (Option.bind_some _ _).symm.trans H; with_reducible exact H2_) | with_reducible exact H | (rw [hyq6]; exact H) | exact H);have Nyq6 := Aside0.mk hyq6;clear hyq6;have H' := Aside0.mk H;clear H;(try go_wp2);replace HO_0 := A_ (Kd.V_drew HO_0.out);replace HO_5 := A_ (Kd.N_drew HO_5.out);replace BKq1 := A_ (blk_drew BKq1.out);replace HB := A_ (below_drew1 HB.out);have pq3 : 0 ≤ (x7_1 : Int) := as_;have qq3 : x7_1 < (l0.length : Int) := as_;obtain ⟨adq3, Aq3_2, cq3_2, eq3, hxq3_0, hxq3_1, hxq3_2, hlq3_2, hiq3_2⟩ := at_T60 (Kd.V_reads' HO_0.out).2.2 x7_1 pq3 qq3;cases eq3;obtain ⟨ceq3, hceq3, hMeq3, hccq3⟩ := Kd.V_get HO_0.out z60 x7_1 pq3 (by first | exact qq3 | exact as_ | (have e_ := (Kd.V_reads' HO_0.out).1; omega));obtain ⟨uaq3_2, ucq3_2, rfl, ulq3_2, geq3_2⟩ := k60_openF hMeq3;have hvq3_2 := hccq3 2 _ rfl;rw [add_field _ _ 2 (by omega)] at hvq3_2;replace hvq3_2 := Option.some.inj (hvq3_2.symm.trans hxq3_2);injection hvq3_2 with hva_ hvn_ hvc_;rw [hva_] at geq3_2;rw [hvc_] at ulq3_2;have HLq3_2 := A_ (show Kd.V k29 29 _ w.heap.size _ _ ((rd_T60 l0 x7_1).f1.f1) from Kd.V_mk ulq3_2 geq3_2);clear hva_ hvn_ hvc_ geq3_2 ulq3_2 hccq3 hceq3;have HRq3_2 := Aside0.mk hiq3_2;have HCq3_2 := Aside0.mk hlq3_2;clear hiq3_2 hlq3_2;replace pq3 := eq_true pq3;replace qq3 := eq_true qq3;refine start_ (n := 9) (S := fun w' => w'.cell? ⟨gbq1, 0, none⟩ = some (.int .i64 ji5) ∧ w'.cell? ⟨gbq1, 1, none⟩ = some (.int .i64 ji6) ∧ w'.cell? (adq3.add ((x7_1).toNat * 3)) = some (.int .i64 ((rd_T60 l0 x7_1).f0)) ∧ w'.cell? ⟨(adq3.add ((x7_1).toNat * 3)).block, (adq3.add ((x7_1).toNat * 3)).off + 1, none⟩ = some (.int .i64 ((rd_T60 l0 x7_1).f1.f0)) ∧ w'.cell? ⟨(adq3.add ((x7_1).toNat * 3)).block, (adq3.add ((x7_1).toNat * 3)).off + 2, none⟩ = some (.slice Aq3_2 ((rd_T60 l0 x7_1).f1.f1).length cq3_2)) (ds := []) #[f_,f_,f_,f_,f_,f_,f_,f_,f_] (by kernel_rfl) rfl rfl ⟨cl_ BKq1 0, cl_ BKq1 1, hxq3_0, hxq3_1, hxq3_2⟩ (fun hHeld => ?_); refine with_tabW sawmillref11_Cut.tab9 sawmillref11_Cut.bits9 (fun HT_ HW_ => ?_);generalize wr.drew = w15 at HO_0 HO_5 BKq1 HB HLq3_2 HRq3_2 hxq3_0 hxq3_1 hxq3_2 hHeld ⊢;refine pu_ 1 26 #[f_,t_,f_,f_,f_,f_,f_,f_,f_] ?_;refine pu_ 2 27 #[f_,t_,t_,f_,f_,f_,f_,f_,f_] ?_;refine pu_ 3 28 #[f_,t_,t_,t_,f_,f_,f_,f_,f_] ?_;refine pu_ 4 29 #[f_,t_,t_,t_,t_,f_,f_,f_,f_] ?_;refine pu_ 5 30 #[f_,t_,t_,t_,t_,t_,f_,f_,f_] ?_;refine take_ (i := 0) (N := some 25) #[t_,t_,t_,t_,t_,t_,f_,f_,f_] rfl rfl (take_ofW HT_.out HW_.out (by kernel_rfl)) id3_ (Or.inl ⟨by rfl, by rintro w' ⟨s0, s1, s2, s3, s4⟩; go_simp; with_reducible rfl⟩) hHeld pt_ ?_;refine take_ (i := 6) (N := some 31) #[t_,t_,t_,t_,t_,t_,t_,f_,f_] rfl rfl (take_ofW HT_.out HW_.out (by kernel_rfl)) id3_ (Or.inl ⟨by rfl, by rintro w' ⟨s0, s1, s2, s3, s4⟩; go_simp; with_reducible rfl⟩) hHeld pt_ ?_;refine one_ (i := 7) (N := some 32) #[t_,t_,t_,t_,t_,t_,t_,t_,f_] rfl rfl (one_of HT_.out (by kernel_rfl)) (by decide) (fun K hK => ?_);refine goes_ Try.func44 (by kernel_rfl) rfl #[.agg #[.int .i64 ji5, .int .i64 ji6], .int .i64 x6_1, .int .i64 ((rd_T60 l0 x7_1).f0)] (by rfl) rfl rfl (by (try simp only [List.map_toArray, List.map_cons, List.map_nil]); first | done | (simp only [hji5, hji6]; rfl) | rfl | (simp only [List.length_drop, List.length_take]; rfl)) ?_;(with_reducible refine (sawmillref11_part.calls ji5 ji6 x6_1 ((rd_T60 l0 x7_1).f0) tq4 _ A12.out).mono ?_);rintro e w16 ⟨rfl, hb⟩;have HS2_ := hs_ hb (hHeld.2.2.1);have HS3_ := hs_ hb (hHeld.2.2.2.1);have HS4_ := hs_ hb (hHeld.2.2.2.2);refine ⟨_, rfl, ?_⟩
        replace HO_0 := kV_ HO_0 hb;replace HO_5 := kN_ HO_5 hb;replace HLq3_2 := kV_ HLq3_2 hb;replace BKq1 := bb_ BKq1 hb;replace HRq3_2 := A_ (Kd.C_below (by repeat (first | (with_reducible exact HRq3_2.out) | (with_reducible refine Kd.C_alloc ?_ _) | (with_reducible refine Kd.C_drewN ?_ _) | (with_reducible refine Kd.C_drew ?_) | exact HRq3_2.out)) hb);replace HB := bA_ hb;(try clear hb);(try clear hk);refine hK.out _ _ ⟨cl_ BKq1 0, cl_ BKq1 1, HS2_, HS3_, HS4_⟩ (fun hHeld => ?_);clear hK K;refine norm_ (a' := ?_) ?_ ?_;rotate_left
        ·show Act.put _ (some 32) _ = _
         simp only [Act.put, List.setIfInBounds_toArray, List.set_cons_zero, List.set_cons_succ, i64_w, i32_w];rfl
        refine pu_ 8 8 #[t_,t_,t_,t_,t_,t_,t_,t_,t_] ?_;refine done_ (done_of HT_.out (by kernel_rfl)) ?_;(try clear HS2_);(try clear HS3_);(try clear HS4_);(try clear hHeld);have pq5 : 0 ≤ (x7_1 : Int) := as_;have qq5 : x7_1 < (l0.length : Int) := as_;obtain ⟨adq5, Aq5_2, cq5_2, eq5, hxq5_0, hxq5_1, hxq5_2, hlq5_2, hiq5_2⟩ := at_T60 (Kd.V_reads' HO_0.out).2.2 x7_1 pq5 qq5;obtain rfl : adq3 = adq5 := (by injection eq5);obtain ⟨ceq5, hceq5, hMeq5, hccq5⟩ := Kd.V_get HO_0.out z60 x7_1 pq5 (by first | exact qq5 | exact as_ | (have e_ := (Kd.V_reads' HO_0.out).1; omega));obtain ⟨uaq5_2, ucq5_2, rfl, ulq5_2, geq5_2⟩ := k60_openF hMeq5;have hvq5_2 := hccq5 2 _ rfl;rw [add_field _ _ 2 (by omega)] at hvq5_2;replace hvq5_2 := Option.some.inj (hvq5_2.symm.trans hxq5_2);injection hvq5_2 with hva_ hvn_ hvc_;rw [hva_] at geq5_2;rw [hvc_] at ulq5_2;have HLq5_2 := A_ (show Kd.V k29 29 _ w.heap.size _ _ ((rd_T60 l0 x7_1).f1.f1) from Kd.V_mk ulq5_2 geq5_2);clear hva_ hvn_ hvc_ geq5_2 ulq5_2 hccq5 hceq5;have HRq5_2 := Aside0.mk hiq5_2;have HCq5_2 := Aside0.mk hlq5_2;clear hiq5_2 hlq5_2;replace pq5 := eq_true pq5;replace qq5 := eq_true qq5
        try go_wp2_with (first | ((with_reducible refine gate_builtin (b := .append) (xs := #[.tmp 35, .tmp 43]) rfl ?_); at_builtin; refine Kd.N_append k60 (w0 := w) w.heap.size rfl (.tmp 35) (.tmp 43) 22 60 (.agg #[(.int .i64 0), (.int .i64 0), (.slice none 0 0)]) 40 rfl Try.underlying22 info60 rfl (by decide) (by omega) u5 x5_1 (⟨tq4, (⟨(rd_T60 l0 x7_1).f1.f0, (rd_T60 l0 x7_1).f1.f1⟩ : S36)⟩ : S60) [.int .i64 tq4, .int .i64 ((rd_T60 l0 x7_1).f1.f0), .slice Aq5_2 ((rd_T60 l0 x7_1).f1.f1).length cq5_2] (fun k_ => (P0_ k_ ∨ w.heap.size ≤ k_) ∧ k_ ≠ gbq1) (fun k_ => ((fun k_ => (P0_ k_ ∨ w.heap.size ≤ k_) ∧ k_ ≠ gbq1)) k_ ∧ some k_ ≠ (u5 : Value).ownBlock) rfl rfl ?aP (fun _ hk => hk) ?aF ?aO ?aB ?aS ?aL ?_; (case aP => exact (k60_mkF _ _ (⟨tq4, (⟨(rd_T60 l0 x7_1).f1.f0, (rd_T60 l0 x7_1).f1.f1⟩ : S36)⟩ : S60) (Kd.V_reads' (Kd.V_mono (ok' := (fun k_ => ((fun k_ => (P0_ k_ ∨ w.heap.size ≤ k_) ∧ k_ ≠ gbq1)) k_ ∧ some k_ ≠ (u5 : Value).ownBlock)) (HLq5_2.out) (fun k_ hk => ⟨⟨hk.1, hk.2.2⟩, hk.2.1⟩))).2.1 (Kd.V_F (Kd.V_mono (ok' := (fun k_ => ((fun k_ => (P0_ k_ ∨ w.heap.size ≤ k_) ∧ k_ ≠ gbq1)) k_ ∧ some k_ ≠ (u5 : Value).ownBlock)) (HLq5_2.out) (fun k_ hk => ⟨⟨hk.1, hk.2.2⟩, hk.2.1⟩))))); (case aB => exact be_); (case aF => exact (fun k_ hk => ⟨(.inr (Nat.le_trans bz_ hk)), Kd.freshB (g := gbq1) (o := .cells #[.int .i64 ji5, .int .i64 ji6] 29 (0, 0)) (fb_ BKq1.out) k_ hk⟩)); (case aO => exact (fN_ HO_5.out)); (case aS => exact bz_); (case aL => have := LMc14.out; omega); intro vq7 w17 ho hb hg hat; rw [← Nyq6.out] at ho; have n0_ := A_ (Kd.V_afterv (ok := (fun k_ => (P0_ k_ ∨ w.heap.size ≤ k_) ∧ k_ ≠ gbq1)) (by (with_reducible repeat (first | apply Kd.V_alloc | apply Kd.V_drewN | apply Kd.V_drew)); exact Kd.V_mono HO_0.out (fun _ hk => ⟨⟨hk.1, hk.2.2⟩, hk.2.1⟩)) hg hat); have n1_ := A_ (blk_grown (g := gbq1) (o := .cells #[.int .i64 ji5, .int .i64 ji6] 29 (0, 0)) (fb_ BKq1.out) hg (Kd.N_ne HO_5.out BKq1.out (by decide))); have n2_ := A_ (Kd.V_afterv (ok := (fun k_ => (P0_ k_ ∨ w.heap.size ≤ k_) ∧ k_ ≠ gbq1)) (by (with_reducible repeat (first | apply Kd.V_alloc | apply Kd.V_drewN | apply Kd.V_drew)); exact Kd.V_mono HLq3_2.out (fun _ hk => ⟨⟨hk.1, hk.2.2⟩, hk.2.1⟩)) hg hat); have n3_ := A_ (Kd.V_afterv (ok := (fun k_ => (P0_ k_ ∨ w.heap.size ≤ k_) ∧ k_ ≠ gbq1)) (by (with_reducible repeat (first | apply Kd.V_alloc | apply Kd.V_drewN | apply Kd.V_drew)); exact Kd.V_mono HLq5_2.out (fun _ hk => ⟨⟨hk.1, hk.2.2⟩, hk.2.1⟩)) hg hat); have n4_ := A_ (hb); have n5_ := A_ (ho); clear HO_0 BKq1 HLq3_2 HLq5_2 HB HO_5; have HO_0 := n0_; have BKq1 := n1_; have HLq3_2 := n2_; have HLq5_2 := n3_; have HB := n4_; have HOq8 := n5_; clear n0_ n1_ n2_ n3_ n4_ n5_ ho hb hg hat; have pq9 : 0 ≤ (x7_1 : Int) := as_; have qq9 : x7_1 < (l0.length : Int) := as_; obtain ⟨adq9, Aq9_2, cq9_2, eq9, hxq9_0, hxq9_1, hxq9_2, hlq9_2, hiq9_2⟩ := at_T60 (Kd.V_reads' HO_0.out).2.2 x7_1 pq9 qq9; obtain rfl : adq3 = adq9 := (by injection eq9); obtain ⟨ceq9, hceq9, hMeq9, hccq9⟩ := Kd.V_get HO_0.out z60 x7_1 pq9 (by first | exact qq9 | exact as_ | (have e_ := (Kd.V_reads' HO_0.out).1; omega)); obtain ⟨uaq9_2, ucq9_2, rfl, ulq9_2, geq9_2⟩ := k60_openF hMeq9; have hvq9_2 := hccq9 2 _ rfl; rw [add_field _ _ 2 (by omega)] at hvq9_2; replace hvq9_2 := Option.some.inj (hvq9_2.symm.trans hxq9_2); injection hvq9_2 with hva_ hvn_ hvc_; rw [hva_] at geq9_2; rw [hvc_] at ulq9_2; have HLq9_2 := A_ (show Kd.V k29 29 _ w.heap.size _ _ ((rd_T60 l0 x7_1).f1.f1) from Kd.V_mk ulq9_2 geq9_2); clear hva_ hvn_ hvc_ geq9_2 ulq9_2 hccq9 hceq9; have HRq9_2 := Aside0.mk hiq9_2; have HCq9_2 := Aside0.mk hlq9_2; clear hiq9_2 hlq9_2; replace pq9 := eq_true pq9; replace qq9 := eq_true qq9))
        go_roundg k1
        case measure => have := HK1.out; omega
        case rel => exact ⟨(yq6), (wrap64 (x6_1 + ((rd_T60 l0 x7_1).f0))), (wrap64 (x7_1 + 1)), rs_, rs_, H', ⟨by have := HK1.out; omega⟩, ⟨by (with_reducible repeat (first | apply Kd.V_alloc | apply Kd.V_drewN | apply Kd.V_drew)); exact Kd.V_mono HO_0.out (fun _ hk => ⟨hk.1.1, ⟨hk.2, hk.1.2⟩⟩)⟩, ⟨fN_ HOq8.out⟩, ⟨fb_ BKq1.out⟩, ⟨be_⟩⟩
       ·rw [if_neg c14] at H;exact absurd H (by simp)
      ·rw [if_neg c13] at H;have c13b0 : decide (0 < tq4) = false := decide_eq_false c13;clear c13;have H' := Aside0.mk H;clear H;(try go_wp2);replace HO_0 := A_ (Kd.V_drew HO_0.out);replace HO_5 := A_ (Kd.N_drew HO_5.out);replace BKq1 := A_ (blk_drew BKq1.out);replace HB := A_ (below_drew1 HB.out);have pq3 : 0 ≤ (x7_1 : Int) := as_;have qq3 : x7_1 < (l0.length : Int) := as_;obtain ⟨adq3, Aq3_2, cq3_2, eq3, hxq3_0, hxq3_1, hxq3_2, hlq3_2, hiq3_2⟩ := at_T60 (Kd.V_reads' HO_0.out).2.2 x7_1 pq3 qq3;cases eq3;obtain ⟨ceq3, hceq3, hMeq3, hccq3⟩ := Kd.V_get HO_0.out z60 x7_1 pq3 (by first | exact qq3 | exact as_ | (have e_ := (Kd.V_reads' HO_0.out).1; omega));obtain ⟨uaq3_2, ucq3_2, rfl, ulq3_2, geq3_2⟩ := k60_openF hMeq3;have hvq3_2 := hccq3 2 _ rfl;rw [add_field _ _ 2 (by omega)] at hvq3_2;replace hvq3_2 := Option.some.inj (hvq3_2.symm.trans hxq3_2);injection hvq3_2 with hva_ hvn_ hvc_;rw [hva_] at geq3_2;rw [hvc_] at ulq3_2;have HLq3_2 := A_ (show Kd.V k29 29 _ w.heap.size _ _ ((rd_T60 l0 x7_1).f1.f1) from Kd.V_mk ulq3_2 geq3_2);clear hva_ hvn_ hvc_ geq3_2 ulq3_2 hccq3 hceq3;have HRq3_2 := Aside0.mk hiq3_2;have HCq3_2 := Aside0.mk hlq3_2;clear hiq3_2 hlq3_2;replace pq3 := eq_true pq3;replace qq3 := eq_true qq3;refine start_ (n := 9) (S := fun w' => w'.cell? ⟨gbq1, 0, none⟩ = some (.int .i64 ji5) ∧ w'.cell? ⟨gbq1, 1, none⟩ = some (.int .i64 ji6) ∧ w'.cell? (adq3.add ((x7_1).toNat * 3)) = some (.int .i64 ((rd_T60 l0 x7_1).f0)) ∧ w'.cell? ⟨(adq3.add ((x7_1).toNat * 3)).block, (adq3.add ((x7_1).toNat * 3)).off + 1, none⟩ = some (.int .i64 ((rd_T60 l0 x7_1).f1.f0)) ∧ w'.cell? ⟨(adq3.add ((x7_1).toNat * 3)).block, (adq3.add ((x7_1).toNat * 3)).off + 2, none⟩ = some (.slice Aq3_2 ((rd_T60 l0 x7_1).f1.f1).length cq3_2)) (ds := []) #[f_,f_,f_,f_,f_,f_,f_,f_,f_] (by kernel_rfl) rfl rfl ⟨cl_ BKq1 0, cl_ BKq1 1, hxq3_0, hxq3_1, hxq3_2⟩ (fun hHeld => ?_); refine with_tabW sawmillref11_Cut.tab9 sawmillref11_Cut.bits9 (fun HT_ HW_ => ?_);generalize wr.drew = w18 at HO_0 HO_5 BKq1 HB HLq3_2 HRq3_2 hxq3_0 hxq3_1 hxq3_2 hHeld ⊢;refine pu_ 1 26 #[f_,t_,f_,f_,f_,f_,f_,f_,f_] ?_;refine pu_ 2 27 #[f_,t_,t_,f_,f_,f_,f_,f_,f_] ?_;refine pu_ 3 28 #[f_,t_,t_,t_,f_,f_,f_,f_,f_] ?_;refine pu_ 4 29 #[f_,t_,t_,t_,t_,f_,f_,f_,f_] ?_;refine pu_ 5 30 #[f_,t_,t_,t_,t_,t_,f_,f_,f_] ?_;refine take_ (i := 0) (N := some 25) #[t_,t_,t_,t_,t_,t_,f_,f_,f_] rfl rfl (take_ofW HT_.out HW_.out (by kernel_rfl)) id3_ (Or.inl ⟨by rfl, by rintro w' ⟨s0, s1, s2, s3, s4⟩; go_simp; with_reducible rfl⟩) hHeld pt_ ?_;refine take_ (i := 6) (N := some 31) #[t_,t_,t_,t_,t_,t_,t_,f_,f_] rfl rfl (take_ofW HT_.out HW_.out (by kernel_rfl)) id3_ (Or.inl ⟨by rfl, by rintro w' ⟨s0, s1, s2, s3, s4⟩; go_simp; with_reducible rfl⟩) hHeld pt_ ?_;refine one_ (i := 7) (N := some 32) #[t_,t_,t_,t_,t_,t_,t_,t_,f_] rfl rfl (one_of HT_.out (by kernel_rfl)) (by decide) (fun K hK => ?_);refine goes_ Try.func44 (by kernel_rfl) rfl #[.agg #[.int .i64 ji5, .int .i64 ji6], .int .i64 x6_1, .int .i64 ((rd_T60 l0 x7_1).f0)] (by rfl) rfl rfl (by (try simp only [List.map_toArray, List.map_cons, List.map_nil]); first | done | (simp only [hji5, hji6]; rfl) | rfl | (simp only [List.length_drop, List.length_take]; rfl)) ?_;(with_reducible refine (sawmillref11_part.calls ji5 ji6 x6_1 ((rd_T60 l0 x7_1).f0) tq4 _ A12.out).mono ?_);rintro e w19 ⟨rfl, hb⟩;have HS2_ := hs_ hb (hHeld.2.2.1);have HS3_ := hs_ hb (hHeld.2.2.2.1);have HS4_ := hs_ hb (hHeld.2.2.2.2);refine ⟨_, rfl, ?_⟩;replace HO_0 := kV_ HO_0 hb;replace HO_5 := kN_ HO_5 hb;replace HLq3_2 := kV_ HLq3_2 hb;replace BKq1 := bb_ BKq1 hb;replace HRq3_2 := A_ (Kd.C_below (by repeat (first | (with_reducible exact HRq3_2.out) | (with_reducible refine Kd.C_alloc ?_ _) | (with_reducible refine Kd.C_drewN ?_ _) | (with_reducible refine Kd.C_drew ?_) | exact HRq3_2.out)) hb);replace HB := bA_ hb;(try clear hb);(try clear hk);refine hK.out _ _ ⟨cl_ BKq1 0, cl_ BKq1 1, HS2_, HS3_, HS4_⟩ (fun hHeld => ?_);clear hK K;refine norm_ (a' := ?_) ?_ ?_;rotate_left
       ·show Act.put _ (some 32) _ = _
        simp only [Act.put, List.setIfInBounds_toArray, List.set_cons_zero, List.set_cons_succ, i64_w, i32_w];rfl
       refine pu_ 8 8 #[t_,t_,t_,t_,t_,t_,t_,t_,t_] ?_;refine done_ (done_of HT_.out (by kernel_rfl)) ?_;(try clear HS2_);(try clear HS3_);(try clear HS4_);(try clear hHeld);have pq10 : 0 ≤ (x7_1 : Int) := as_;have qq10 : x7_1 < (l0.length : Int) := as_;obtain ⟨adq10, Aq10_2, cq10_2, eq10, hxq10_0, hxq10_1, hxq10_2, hlq10_2, hiq10_2⟩ := at_T60 (Kd.V_reads' HO_0.out).2.2 x7_1 pq10 qq10;obtain rfl : adq3 = adq10 := (by injection eq10);obtain ⟨ceq10, hceq10, hMeq10, hccq10⟩ := Kd.V_get HO_0.out z60 x7_1 pq10 (by first | exact qq10 | exact as_ | (have e_ := (Kd.V_reads' HO_0.out).1; omega));obtain ⟨uaq10_2, ucq10_2, rfl, ulq10_2, geq10_2⟩ := k60_openF hMeq10;have hvq10_2 := hccq10 2 _ rfl;rw [add_field _ _ 2 (by omega)] at hvq10_2;replace hvq10_2 := Option.some.inj (hvq10_2.symm.trans hxq10_2);injection hvq10_2 with hva_ hvn_ hvc_;rw [hva_] at geq10_2;rw [hvc_] at ulq10_2;have HLq10_2 := A_ (show Kd.V k29 29 _ w.heap.size _ _ ((rd_T60 l0 x7_1).f1.f1) from Kd.V_mk ulq10_2 geq10_2);clear hva_ hvn_ hvc_ geq10_2 ulq10_2 hccq10 hceq10;have HRq10_2 := Aside0.mk hiq10_2;have HCq10_2 := Aside0.mk hlq10_2;clear hiq10_2 hlq10_2;replace pq10 := eq_true pq10;replace qq10 := eq_true qq10;try go_wp2
       go_roundg k1
       case measure => have := HK1.out; omega
       case rel => exact ⟨(x5_1), (wrap64 (x6_1 + ((rd_T60 l0 x7_1).f0))), (wrap64 (x7_1 + 1)), rs_, rs_, H', ⟨by have := HK1.out; omega⟩, ⟨fV_ HO_0.out⟩, ⟨fN_ HO_5.out⟩, ⟨fb_ BKq1.out⟩, ⟨be_⟩⟩
     ·rw [if_neg c11] at H;exact absurd H (by simp)
    ·rw [if_neg c10] at H;have c10b0 : decide (x7_1 < (l0.length : Int)) = false := decide_eq_false c10;clear c10;obtain rfl := Option.some.inj H;go_wp2;go_ret;exact ⟨_, by first | rfl | (simp [errW_none, errW_some] <;> rfl) | (simp only [← hji5, ← hji6]; first | rfl | (simp [errW_none, errW_some] <;> rfl)) | (simp [*, errW_none, errW_some] <;> rfl), by (with_reducible repeat (first | apply Kd.N_alloc | apply Kd.N_drewN | apply Kd.N_drew)); exact Kd.N_mono HO_5.out (fun _ hk => hk.1), be_⟩
 ·rw [if_neg c4] at H;have c4b0 : (tq2 == 0) = false := beq_eq_false_iff_ne.mpr c4;have c4b1 : (tq2 != 0) = true := bne_iff_ne.mpr c4;obtain rfl := Option.some.inj H;go_enter Try.func26, Try.ntmps26;go_wp2_with (first | ((with_reducible refine gate_dst (N := 3) rfl ?_); refine bx_ 3 (cs := #[.int .i64 a1_0, .int .i64 a1_1]) (t := 29) ?_; intro gbq1 hg w20 hbox hb; replace HO0 := A_ (Kd.V_below (Kd.V_elderB (fV_ HO0.out) gbq1 (Nat.le_of_eq hg.symm)) hb); have BKq1 := A_ hbox; have GWq1 := gz_ (w := w) hg; have GEq1 := gz_ (w := w) hg; replace HB := bA_ hb; clear hb hbox hg) | ((with_reducible refine gate_callee (f := 14) rfl ?_); refine goesL_ (some 10) rfl rfl Try.func14 (by kernel_rfl) rfl #[.slice A0 l0.length c0] rfl la_ ?_; (with_reducible refine (sawmillref11_Check.calls k _ _ l0 tq2 _ ?side1 ?side2 A3.out).mono ?_); (case side1 => exact csC_ ((Kd.V_reads' HO0.out).2.2)); (case side2 => exact (Kd.V_reads' HO0.out).2.1); rintro e w21 ⟨rfl, hb⟩; refine ⟨_, rfl, ?_⟩; replace HO0 := kV_ HO0 hb; replace BKq1 := bb_ BKq1 hb; replace HB := bA_ hb; (try clear hb); (try clear hk)));go_ret;exact ⟨_, er_, by first | exact Kd.S_nil _ _ _ _ _ | exact Kd.N_nil _ _ _ _ _ | exact Kd.V_nil _ _ _ _ _ | exact Kd.Q_nil _ _ _ _ _ | exact Kd.R_nil _ _ _ _ _, be_⟩


def sawmillref10_Valid.f (k : Nat) (a0_0 : Int) (l0_1 : List (S29)) : Option (Int × (List (S29))) := (sawmillref10_Check.f k a0_0 l0_1).bind fun tq3 => (if tq3 = 0 then (some (a0_0, l0_1)) else (some (0, ([] : List (S29)))))
theorem sawmillref10_Valid.mono : ∀ a0 a1 k, LeO (sawmillref10_Valid.f k a0 a1) (sawmillref10_Valid.f (k + 1) a0 a1) := by
 intro a0 a1 k;unfold sawmillref10_Valid.f
 repeat' first
   | (with_reducible exact sawmillref10_Check.mono _ _ _)
   | (with_reducible exact LeO.refl _)
   | (with_reducible exact LeO.none _)
   | (with_reducible refine LeO.ite ?_ ?_)
   | (with_reducible refine LeO.bind ?_ (fun _ => ?_))
   | exact sawmillref10_Check.mono _ _ _
   | exact LeO.none _
   | refine LeO.ite ?_ ?_
   | refine LeO.bind ?_ (fun _ => ?_)
set_option maxHeartbeats 8000000 in
set_option maxRecDepth 100000 in
theorem sawmillref10_Valid.calls (k : Nat) (a0_0 : Int) (P0_1_ : Nat → Prop) (A0_1 : Option Addr) (c0_1 : Nat) (l0_1 : List (S29)) (r1 : Int) (r2 : List (S29)) (w : World) (hs0_1 : Kd.V k29 29 w w.heap.size (fun k_ => P0_1_ k_) (.slice A0_1 l0_1.length c0_1) l0_1) (h : sawmillref10_Valid.f k a0_0 l0_1 = some (r1, r2)) :
  Calls Try.prog 60 #[.agg #[.int .i64 a0_0, .slice A0_1 l0_1.length c0_1]] w fun e w' => ∃ v1_ : Value, e = .returned (.agg #[.int .i64 r1, v1_]) ∧ Kd.V k29 29 w' w.heap.size (fun k_ => (P0_1_ k_ ∨ w.heap.size ≤ k_)) v1_ r2 ∧ Below w.heap.size w w' := by
 have hu36 := Try.underlying36;have HO0_1 := A_ (show Kd.V k29 29 w w.heap.size (fun k_ => (P0_1_ k_ ∨ w.heap.size ≤ k_)) (.slice A0_1 l0_1.length c0_1) l0_1 from Kd.V_mono hs0_1 (fun k_ hk => .inl hk));have HB := A_ (Below.refl w.heap.size w);have H : ((sawmillref10_Check.f k a0_0 l0_1).bind fun tq3 => (if tq3 = 0 then (some (a0_0, l0_1)) else (some (0, ([] : List (S29)))))) = some (r1, r2) := h;clear h;replace H := Option.bind_eq_some_iff.mp H;obtain ⟨tq3, A20, H⟩ := H;replace H : (if tq3 = 0 then (some (a0_0, l0_1)) else (some (0, ([] : List (S29))))) = some (r1, r2) := H;have A2 := Aside0.mk A20;clear A20
 by_cases c3 : tq3 = 0
 ·rw [if_pos c3] at H;have c3b0 : (tq3 == 0) = true := beq_iff_eq.mpr c3;have c3b1 : (tq3 != 0) = false := bne_eq_false_iff_eq.mpr c3;clear c3;simp only [Option.some.injEq, Prod.mk.injEq] at H;obtain ⟨rfl, rfl⟩ := H;go_enter Try.func60, Try.ntmps60;go_wp2_with (first | ((with_reducible refine gate_dst (N := 1) rfl ?_); refine bx_ 1 (cs := #[.int .i64 a0_0, .slice A0_1 l0_1.length c0_1]) (t := 36) ?_; intro gbq1 hg w4 hbox hb; replace HO0_1 := A_ (Kd.V_below (Kd.V_elderB (fV_ HO0_1.out) gbq1 (Nat.le_of_eq hg.symm)) hb); have BKq1 := A_ hbox; have GWq1 := gz_ (w := w) hg; have GEq1 := gz_ (w := w) hg; replace HB := bA_ hb; clear hb hbox hg) | ((with_reducible refine gate_dst (N := 2) rfl ?_); refine bx_ 2 (cs := #[.int .i64 0, .slice none 0 0]) (t := 36) ?_; intro gbq2 hg w5 hbox hb; replace HO0_1 := A_ (Kd.V_below (Kd.V_elderB (fV_ HO0_1.out) gbq2 (Nat.le_of_eq hg.symm)) hb); have BKq2 := A_ hbox; have GWq2 := gz_ (w := w) hg; have GEq2 := gz_ (w := w) hg; replace HB := bA_ hb; have NBq1_q2 := nlt_ BKq1 hg; have NBq2_q1 := ngt_ BKq1 hg; replace BKq1 := bb_ BKq1 hb; clear hb hbox hg; have hnb6 := NBq1_q2.out; have hnc6 := NBq2_q1.out; obtain ⟨hcz7_0, hcz7_1, hfz7_0, hfz7_1⟩ := cy2_ BKq1) | ((with_reducible refine gate_callee (f := 39) rfl ?_); refine goesL_ (some 4) rfl rfl Try.func39 (by kernel_rfl) rfl #[.agg #[.int .i64 a0_0, .slice A0_1 l0_1.length c0_1]] rfl la_ ?_; (with_reducible refine (sawmillref10_Check.calls k a0_0 _ _ l0_1 tq3 _ ?side1 ?side2 A2.out).mono ?_); (case side1 => exact csC_ ((Kd.V_reads' HO0_1.out).2.2)); (case side2 => exact (Kd.V_reads' HO0_1.out).2.1); rintro e w8 ⟨rfl, hb⟩; refine ⟨_, rfl, ?_⟩; replace HO0_1 := kV_ HO0_1 hb; replace BKq1 := bb_ BKq1 hb; replace BKq2 := bb_ BKq2 hb; replace HB := bA_ hb; (try clear hb); (try clear hk); obtain ⟨hcz9_0, hcz9_1, hfz9_0, hfz9_1⟩ := cy2_ BKq1; obtain ⟨hcz10_0, hcz10_1, hfz10_0, hfz10_1⟩ := cy2_ BKq2));refine bodyPost_ret (results_cell_row rfl _ _ gbq2 36 #[.int .i64 a0_0, .slice A0_1 l0_1.length c0_1] (0, 0) _ rfl (ch_ BKq2) Try.underlying36 rfl (by kernel_rfl)) rfl ?_;exact ⟨_, er_, by (with_reducible repeat (first | apply Kd.V_alloc | apply Kd.V_drewN | apply Kd.V_drew)); exact Kd.V_mono (Vf_ (Vf_ (Kd.V_mono HO0_1.out (fun k_ hk => (⟨hk, hk.2⟩ : _ ∧ k_ ≠ gbq2))))) (fun _ hk => hk.1.1.1), be_⟩
 ·rw [if_neg c3] at H;have c3b0 : (tq3 == 0) = false := beq_eq_false_iff_ne.mpr c3;have c3b1 : (tq3 != 0) = true := bne_iff_ne.mpr c3;simp only [Option.some.injEq, Prod.mk.injEq] at H;obtain ⟨rfl, rfl⟩ := H;go_enter Try.func60, Try.ntmps60;go_wp2_with (first | ((with_reducible refine gate_dst (N := 1) rfl ?_); refine bx_ 1 (cs := #[.int .i64 a0_0, .slice A0_1 l0_1.length c0_1]) (t := 36) ?_; intro gbq1 hg w11 hbox hb; replace HO0_1 := A_ (Kd.V_below (Kd.V_elderB (fV_ HO0_1.out) gbq1 (Nat.le_of_eq hg.symm)) hb); have BKq1 := A_ hbox; have GWq1 := gz_ (w := w) hg; have GEq1 := gz_ (w := w) hg; replace HB := bA_ hb; clear hb hbox hg) | ((with_reducible refine gate_dst (N := 2) rfl ?_); refine bx_ 2 (cs := #[.int .i64 0, .slice none 0 0]) (t := 36) ?_; intro gbq2 hg w12 hbox hb; replace HO0_1 := A_ (Kd.V_below (Kd.V_elderB (fV_ HO0_1.out) gbq2 (Nat.le_of_eq hg.symm)) hb); have BKq2 := A_ hbox; have GWq2 := gz_ (w := w) hg; have GEq2 := gz_ (w := w) hg; replace HB := bA_ hb; have NBq1_q2 := nlt_ BKq1 hg; have NBq2_q1 := ngt_ BKq1 hg; replace BKq1 := bb_ BKq1 hb; clear hb hbox hg; have hnb13 := NBq1_q2.out; have hnc13 := NBq2_q1.out; obtain ⟨hcz14_0, hcz14_1, hfz14_0, hfz14_1⟩ := cy2_ BKq1) | ((with_reducible refine gate_callee (f := 39) rfl ?_); refine goesL_ (some 4) rfl rfl Try.func39 (by kernel_rfl) rfl #[.agg #[.int .i64 a0_0, .slice A0_1 l0_1.length c0_1]] rfl la_ ?_; (with_reducible refine (sawmillref10_Check.calls k a0_0 _ _ l0_1 tq3 _ ?side1 ?side2 A2.out).mono ?_); (case side1 => exact csC_ ((Kd.V_reads' HO0_1.out).2.2)); (case side2 => exact (Kd.V_reads' HO0_1.out).2.1); rintro e w15 ⟨rfl, hb⟩; refine ⟨_, rfl, ?_⟩; replace HO0_1 := kV_ HO0_1 hb; replace BKq1 := bb_ BKq1 hb; replace BKq2 := bb_ BKq2 hb; replace HB := bA_ hb; (try clear hb); (try clear hk); obtain ⟨hcz16_0, hcz16_1, hfz16_0, hfz16_1⟩ := cy2_ BKq2));refine bodyPost_ret (results_cell_row rfl _ _ gbq2 36 #[.int .i64 0, .slice none 0 0] (0, 0) _ rfl (ch_ BKq2) Try.underlying36 rfl (by kernel_rfl)) rfl ?_;exact ⟨_, er_, Kd.V_nil _ _ _ _ _, be_⟩


def sawmillref10_Row.f (a0_0 : Int) (l0_1 : List (S29)) (a1 : Int) : Option (Int × Int) := if a1 < a0_0 then (some (0, 0)) else (if a1 ≥ (wrap64 (a0_0 + (l0_1.length : Int))) then (some (0, 0)) else (if 0 ≤ (wrap64 (a1 - a0_0)) then (if (wrap64 (a1 - a0_0)) < (l0_1.length : Int) then (some ((rd_T29 l0_1 (wrap64 (a1 - a0_0))).f0, (rd_T29 l0_1 (wrap64 (a1 - a0_0))).f1)) else (none)) else (none)))
set_option maxHeartbeats 8000000 in
set_option maxRecDepth 100000 in
theorem sawmillref10_Row.calls (a0_0 : Int) (A0_1 : Option Addr) (c0_1 : Nat) (l0_1 : List (S29)) (a1 : Int) (r1 : Int) (r2 : Int) (w : World) (hr0_1 : Kd.C k29 w A0_1 l0_1.length l0_1) (hc0_1 : l0_1.length ≤ c0_1) (h : sawmillref10_Row.f a0_0 l0_1 a1 = some (r1, r2)) :
  Calls Try.prog 64 #[.agg #[.int .i64 a0_0, .slice A0_1 l0_1.length c0_1], .int .i64 a1] w fun e w' => e = .returned (.agg #[.int .i64 r1, .int .i64 r2]) ∧ Below w.heap.size w w' := by
 have hu36 := Try.underlying36;have hu29 := Try.underlying29;have HR0_1 := Aside0.mk hr0_1;have HC0_1 := Aside0.mk hc0_1;clear hr0_1 hc0_1;have HB := A_ (Below.refl w.heap.size w);have H : (if a1 < a0_0 then (some (0, 0)) else (if a1 ≥ (wrap64 (a0_0 + (l0_1.length : Int))) then (some (0, 0)) else (if 0 ≤ (wrap64 (a1 - a0_0)) then (if (wrap64 (a1 - a0_0)) < (l0_1.length : Int) then (some ((rd_T29 l0_1 (wrap64 (a1 - a0_0))).f0, (rd_T29 l0_1 (wrap64 (a1 - a0_0))).f1)) else (none)) else (none)))) = some (r1, r2) := h;clear h
 by_cases c3 : a1 < a0_0
 ·rw [if_pos c3] at H;have c3b0 : decide (a1 < a0_0) = true := decide_eq_true c3;clear c3;simp only [Option.some.injEq, Prod.mk.injEq] at H;obtain ⟨rfl, rfl⟩ := H;go_enter Try.func64, Try.ntmps64;go_wp2_with (first | ((with_reducible refine gate_dst (N := 2) rfl ?_); (try (refine gate_guard (by rfl) ?_; dsimp only)); refine bx_ 2 (cs := #[.int .i64 a0_0, .slice A0_1 l0_1.length c0_1]) (t := 36) ?_; intro gbq1 hg w4 hbox hb; have BKq1 := A_ hbox; have GWq1 := gz_ (w := w) hg; have GEq1 := gz_ (w := w) hg; replace HB := bA_ hb; clear hb hbox hg) | ((with_reducible refine gate_dst (N := 4) rfl ?_); (try (refine gate_guard (by rfl) ?_; dsimp only)); refine bx_ 4 (cs := #[.int .i64 0, .int .i64 0]) (t := 29) ?_; intro gbq2 hg w5 hbox hb; have BKq2 := A_ hbox; have GWq2 := gz_ (w := w) hg; have GEq2 := gz_ (w := w) hg; replace HB := bA_ hb; have NBq1_q2 := nlt_ BKq1 hg; have NBq2_q1 := ngt_ BKq1 hg; replace BKq1 := bb_ BKq1 hb; clear hb hbox hg; have hnb6 := NBq1_q2.out; have hnc6 := NBq2_q1.out; obtain ⟨hcz7_0, hcz7_1, hfz7_0, hfz7_1⟩ := cy2_ BKq1; obtain ⟨hcz8_0, hcz8_1, hfz8_0, hfz8_1⟩ := cy2_ BKq2));refine bodyPost_ret (results_cell_row rfl _ _ gbq2 29 #[.int .i64 0, .int .i64 0] (0, 0) _ rfl (ch_ BKq2) Try.underlying29 rfl (by kernel_rfl)) rfl ?_;exact ⟨er_, be_⟩
 ·rw [if_neg c3] at H;have c3b0 : decide (a1 < a0_0) = false := decide_eq_false c3;clear c3
  by_cases c9 : a1 ≥ (wrap64 (a0_0 + (l0_1.length : Int)))
  ·rw [if_pos c9] at H;have c9b0 : decide ((wrap64 (a0_0 + (l0_1.length : Int))) ≤ a1) = true := decide_eq_true c9;clear c9;simp only [Option.some.injEq, Prod.mk.injEq] at H;obtain ⟨rfl, rfl⟩ := H;go_enter Try.func64, Try.ntmps64;go_wp2_with (first | ((with_reducible refine gate_dst (N := 2) rfl ?_); (try (refine gate_guard (by rfl) ?_; dsimp only)); refine bx_ 2 (cs := #[.int .i64 a0_0, .slice A0_1 l0_1.length c0_1]) (t := 36) ?_; intro gbq1 hg w10 hbox hb; have BKq1 := A_ hbox; have GWq1 := gz_ (w := w) hg; have GEq1 := gz_ (w := w) hg; replace HB := bA_ hb; clear hb hbox hg) | ((with_reducible refine gate_dst (N := 4) rfl ?_); (try (refine gate_guard (by rfl) ?_; dsimp only)); refine bx_ 4 (cs := #[.int .i64 0, .int .i64 0]) (t := 29) ?_; intro gbq2 hg w11 hbox hb; have BKq2 := A_ hbox; have GWq2 := gz_ (w := w) hg; have GEq2 := gz_ (w := w) hg; replace HB := bA_ hb; have NBq1_q2 := nlt_ BKq1 hg; have NBq2_q1 := ngt_ BKq1 hg; replace BKq1 := bb_ BKq1 hb; clear hb hbox hg; have hnb12 := NBq1_q2.out; have hnc12 := NBq2_q1.out; obtain ⟨hcz13_0, hcz13_1, hfz13_0, hfz13_1⟩ := cy2_ BKq1; obtain ⟨hcz14_0, hcz14_1, hfz14_0, hfz14_1⟩ := cy2_ BKq2));refine bodyPost_ret (results_cell_row rfl _ _ gbq2 29 #[.int .i64 0, .int .i64 0] (0, 0) _ rfl (ch_ BKq2) Try.underlying29 rfl (by kernel_rfl)) rfl ?_;exact ⟨er_, be_⟩
  ·rw [if_neg c9] at H;have c9b0 : decide ((wrap64 (a0_0 + (l0_1.length : Int))) ≤ a1) = false := decide_eq_false c9;clear c9;obtain ⟨ji15, hji15⟩ : ∃ j_ : Int, (wrap64 (a1 - a0_0)) = j_ := ⟨_, rfl⟩;(replace H : (if 0 ≤ (ji15) then (if (ji15) < (l0_1.length : Int) then (some ((rd_T29 l0_1 (ji15)).f0, (rd_T29 l0_1 (ji15)).f1)) else (none)) else (none)) = some (r1, r2) := by first | (rw [hji15] at H; exact H) | (simp only [hji15] at H ⊢; exact H));have hji15w : (IntKind.i64.wrap (a1 - a0_0)) = ji15 := (i64_w _).trans hji15
   by_cases c16 : 0 ≤ (ji15)
   ·rw [if_pos c16] at H;have c16b0 : decide (0 ≤ (ji15)) = true := decide_eq_true c16;clear c16
    by_cases c17 : (ji15) < (l0_1.length : Int)
    ·rw [if_pos c17] at H;have c17b0 : decide ((ji15) < (l0_1.length : Int)) = true := decide_eq_true c17;clear c17;simp only [Option.some.injEq, Prod.mk.injEq] at H;obtain ⟨rfl, rfl⟩ := H;go_enter Try.func64, Try.ntmps64;go_wp2_with (first | ((with_reducible refine gate_dst (N := 2) rfl ?_); (try (refine gate_guard (by rfl) ?_; dsimp only)); refine bx_ 2 (cs := #[.int .i64 a0_0, .slice A0_1 l0_1.length c0_1]) (t := 36) ?_; intro gbq1 hg w18 hbox hb; have BKq1 := A_ hbox; have GWq1 := gz_ (w := w) hg; have GEq1 := gz_ (w := w) hg; replace HB := bA_ hb; clear hb hbox hg) | ((with_reducible refine gate_dst (N := 4) rfl ?_); (try (refine gate_guard (by rfl) ?_; dsimp only)); refine bx_ 4 (cs := #[.int .i64 0, .int .i64 0]) (t := 29) ?_; intro gbq2 hg w19 hbox hb; have BKq2 := A_ hbox; have GWq2 := gz_ (w := w) hg; have GEq2 := gz_ (w := w) hg; replace HB := bA_ hb; have NBq1_q2 := nlt_ BKq1 hg; have NBq2_q1 := ngt_ BKq1 hg; replace BKq1 := bb_ BKq1 hb; clear hb hbox hg; have hnb20 := NBq1_q2.out; have hnc20 := NBq2_q1.out; obtain ⟨hcz21_0, hcz21_1, hfz21_0, hfz21_1⟩ := cy2_ BKq1; have pq3 : 0 ≤ ((ji15) : Int) := as_; have qq3 : (ji15) < (l0_1.length : Int) := as_; obtain ⟨adq3, eq3, hxq3_0, hxq3_1⟩ := at_T29 HR0_1.out (ji15) pq3 qq3; cases eq3; replace hxq3_0 := bc_ HB hxq3_0; replace hxq3_1 := bc_ HB hxq3_1; replace pq3 := eq_true pq3; replace qq3 := eq_true qq3; obtain ⟨hcz22_0, hcz22_1, hfz22_0, hfz22_1⟩ := cy2_ BKq2));refine bodyPost_ret (results_cell_row rfl _ _ gbq2 29 #[.int .i64 ((rd_T29 l0_1 (ji15)).f0), .int .i64 ((rd_T29 l0_1 (ji15)).f1)] (0, 0) _ rfl (ch_ BKq2) Try.underlying29 rfl (by kernel_rfl)) rfl ?_;exact ⟨by first | rfl | (simp [errW_none, errW_some] <;> rfl) | (simp only [← hji15]; first | rfl | (simp [errW_none, errW_some] <;> rfl)) | (simp [*, errW_none, errW_some] <;> rfl), be_⟩
    ·rw [if_neg c17] at H;exact absurd H (by simp)
   ·rw [if_neg c16] at H;exact absurd H (by simp)


mutual
def sawmillref10_Dropped.j1 : Nat → Int → List (S29) → Int → Int → Option (Int × (List (S29)))
 | 0, _, _, _, _ => none
 | k + 1, x0, x1, x5, x6 => sawmillref10_Dropped.l1 k x0 x1 x5 x6
def sawmillref10_Dropped.j3 : Nat → Int → List (S29) → Int → Int → Option (Int × (List (S29)))
 | 0, _, _, _, _ => none
 | k + 1, x0, x1, x5, x6 => if x5 = x6 then (some (0, ([] : List (S29)))) else (sawmillref10_Dropped.l2 k x1 x6 x5 (wrap64 (x0 + x5)) ([] : List (S29)))
def sawmillref10_Dropped.l2 : Nat → List (S29) → Int → Int → Int → List (S29) → Option (Int × (List (S29)))
 | 0, _, _, _, _, _ => none
 | k + 1, x1, x6, x8, xq7o0, xq7o1 => if x8 < x6 then (if 0 ≤ x8 then (if x8 < (x1.length : Int) then ((sawmillref10_empty.f ((rd_T29 x1 x8).f0) ((rd_T29 x1 x8).f1)).bind fun tq9 => (if tq9 = true then (if xq7o1.length < 8796093022208 then (sawmillref10_Dropped.l2 k x1 x6 (wrap64 (x8 + 1)) xq7o0 (xq7o1 ++ [(⟨0, 0⟩ : S29)])) else (none)) else (if xq7o1.length < 8796093022208 then (sawmillref10_Dropped.l2 k x1 x6 (wrap64 (x8 + 1)) xq7o0 (xq7o1 ++ [(⟨(rd_T29 x1 x8).f0, (rd_T29 x1 x8).f1⟩ : S29)])) else (none)))) else (none)) else (none)) else (some (xq7o0, xq7o1))
def sawmillref10_Dropped.l1 : Nat → Int → List (S29) → Int → Int → Option (Int × (List (S29)))
 | 0, _, _, _, _ => none
 | k + 1, x0, x1, x5, x6 => if x6 > x5 then (if 0 ≤ (wrap64 (x6 - 1)) then (if (wrap64 (x6 - 1)) < (x1.length : Int) then ((sawmillref10_empty.f ((rd_T29 x1 (wrap64 (x6 - 1))).f0) ((rd_T29 x1 (wrap64 (x6 - 1))).f1)).bind fun tq5 => (if tq5 = true then (sawmillref10_Dropped.l1 k x0 x1 x5 (wrap64 (x6 - 1))) else (sawmillref10_Dropped.j3 k x0 x1 x5 x6))) else (none)) else (none)) else (sawmillref10_Dropped.j3 k x0 x1 x5 x6)
def sawmillref10_Dropped.l0 : Nat → Int → List (S29) → Int → Int → Option (Int × (List (S29)))
 | 0, _, _, _, _ => none
 | k + 1, x0, x1, x5, x6 => if x5 < x6 then (if 0 ≤ x5 then (if x5 < (x1.length : Int) then ((sawmillref10_empty.f ((rd_T29 x1 x5).f0) ((rd_T29 x1 x5).f1)).bind fun tq3 => (if tq3 = true then (sawmillref10_Dropped.l0 k x0 x1 (wrap64 (x5 + 1)) x6) else (sawmillref10_Dropped.j1 k x0 x1 x5 x6))) else (none)) else (none)) else (sawmillref10_Dropped.j1 k x0 x1 x5 x6)
end
def sawmillref10_Dropped.f (k : Nat) (a0 : Int) (l1 : List (S29)) : Option (Int × (List (S29))) := sawmillref10_Dropped.l0 k a0 l1 0 (l1.length : Int)
theorem sawmillref10_Dropped.mono_l : ∀ k, (∀ y0 y1 y2 y3, LeO (sawmillref10_Dropped.j1 k y0 y1 y2 y3) (sawmillref10_Dropped.j1 (k + 1) y0 y1 y2 y3)) ∧ (∀ y0 y1 y2 y3, LeO (sawmillref10_Dropped.j3 k y0 y1 y2 y3) (sawmillref10_Dropped.j3 (k + 1) y0 y1 y2 y3)) ∧ (∀ y0 y1 y2 y3 y4, LeO (sawmillref10_Dropped.l2 k y0 y1 y2 y3 y4) (sawmillref10_Dropped.l2 (k + 1) y0 y1 y2 y3 y4)) ∧ (∀ y0 y1 y2 y3, LeO (sawmillref10_Dropped.l1 k y0 y1 y2 y3) (sawmillref10_Dropped.l1 (k + 1) y0 y1 y2 y3)) ∧ (∀ y0 y1 y2 y3, LeO (sawmillref10_Dropped.l0 k y0 y1 y2 y3) (sawmillref10_Dropped.l0 (k + 1) y0 y1 y2 y3))
 | 0 => ⟨fun _ _ _ _ r h => by simp [sawmillref10_Dropped.j1] at h, fun _ _ _ _ r h => by simp [sawmillref10_Dropped.j3] at h, fun _ _ _ _ _ r h => by simp [sawmillref10_Dropped.l2] at h, fun _ _ _ _ r h => by simp [sawmillref10_Dropped.l1] at h, fun _ _ _ _ r h => by simp [sawmillref10_Dropped.l0] at h⟩
 | k + 1 => by
  obtain ⟨ih0, ih1, ih2, ih3, ih4⟩ := sawmillref10_Dropped.mono_l k;refine ⟨?_, ?_, ?_, ?_, ?_⟩
  ·intro y0 y1 y2 y3;unfold sawmillref10_Dropped.j1
   repeat' first
   | (with_reducible exact ih0 _ _ _ _)
   | (with_reducible exact ih1 _ _ _ _)
   | (with_reducible exact ih2 _ _ _ _ _)
   | (with_reducible exact ih3 _ _ _ _)
   | (with_reducible exact ih4 _ _ _ _)
   | (with_reducible exact LeO.refl _)
   | (with_reducible exact LeO.none _)
   | (with_reducible refine LeO.ite ?_ ?_)
   | (with_reducible refine LeO.bind ?_ (fun _ => ?_))
   | exact ih0 _ _ _ _
   | exact ih1 _ _ _ _
   | exact ih2 _ _ _ _ _
   | exact ih3 _ _ _ _
   | exact ih4 _ _ _ _
   | exact LeO.none _
   | refine LeO.ite ?_ ?_
   | refine LeO.bind ?_ (fun _ => ?_)
  ·intro y0 y1 y2 y3;unfold sawmillref10_Dropped.j3
   repeat' first
   | (with_reducible exact ih0 _ _ _ _)
   | (with_reducible exact ih1 _ _ _ _)
   | (with_reducible exact ih2 _ _ _ _ _)
   | (with_reducible exact ih3 _ _ _ _)
   | (with_reducible exact ih4 _ _ _ _)
   | (with_reducible exact LeO.refl _)
   | (with_reducible exact LeO.none _)
   | (with_reducible refine LeO.ite ?_ ?_)
   | (with_reducible refine LeO.bind ?_ (fun _ => ?_))
   | exact ih0 _ _ _ _
   | exact ih1 _ _ _ _
   | exact ih2 _ _ _ _ _
   | exact ih3 _ _ _ _
   | exact ih4 _ _ _ _
   | exact LeO.none _
   | refine LeO.ite ?_ ?_
   | refine LeO.bind ?_ (fun _ => ?_)
  ·intro y0 y1 y2 y3 y4;unfold sawmillref10_Dropped.l2
   repeat' first
   | (with_reducible exact ih0 _ _ _ _)
   | (with_reducible exact ih1 _ _ _ _)
   | (with_reducible exact ih2 _ _ _ _ _)
   | (with_reducible exact ih3 _ _ _ _)
   | (with_reducible exact ih4 _ _ _ _)
   | (with_reducible exact LeO.refl _)
   | (with_reducible exact LeO.none _)
   | (with_reducible refine LeO.ite ?_ ?_)
   | (with_reducible refine LeO.bind ?_ (fun _ => ?_))
   | exact ih0 _ _ _ _
   | exact ih1 _ _ _ _
   | exact ih2 _ _ _ _ _
   | exact ih3 _ _ _ _
   | exact ih4 _ _ _ _
   | exact LeO.none _
   | refine LeO.ite ?_ ?_
   | refine LeO.bind ?_ (fun _ => ?_)
  ·intro y0 y1 y2 y3;unfold sawmillref10_Dropped.l1
   repeat' first
   | (with_reducible exact ih0 _ _ _ _)
   | (with_reducible exact ih1 _ _ _ _)
   | (with_reducible exact ih2 _ _ _ _ _)
   | (with_reducible exact ih3 _ _ _ _)
   | (with_reducible exact ih4 _ _ _ _)
   | (with_reducible exact LeO.refl _)
   | (with_reducible exact LeO.none _)
   | (with_reducible refine LeO.ite ?_ ?_)
   | (with_reducible refine LeO.bind ?_ (fun _ => ?_))
   | exact ih0 _ _ _ _
   | exact ih1 _ _ _ _
   | exact ih2 _ _ _ _ _
   | exact ih3 _ _ _ _
   | exact ih4 _ _ _ _
   | exact LeO.none _
   | refine LeO.ite ?_ ?_
   | refine LeO.bind ?_ (fun _ => ?_)
  ·intro y0 y1 y2 y3;unfold sawmillref10_Dropped.l0
   repeat' first
   | (with_reducible exact ih0 _ _ _ _)
   | (with_reducible exact ih1 _ _ _ _)
   | (with_reducible exact ih2 _ _ _ _ _)
   | (with_reducible exact ih3 _ _ _ _)
   | (with_reducible exact ih4 _ _ _ _)
   | (with_reducible exact LeO.refl _)
   | (with_reducible exact LeO.none _)
   | (with_reducible refine LeO.ite ?_ ?_)
   | (with_reducible refine LeO.bind ?_ (fun _ => ?_))
   | exact ih0 _ _ _ _
   | exact ih1 _ _ _ _
   | exact ih2 _ _ _ _ _
   | exact ih3 _ _ _ _
   | exact ih4 _ _ _ _
   | exact LeO.none _
   | refine LeO.ite ?_ ?_
   | refine LeO.bind ?_ (fun _ => ?_)
theorem sawmillref10_Dropped.mono : ∀ a0 a1 k, LeO (sawmillref10_Dropped.f k a0 a1) (sawmillref10_Dropped.f (k + 1) a0 a1) := by
 intro a0 a1 k;obtain ⟨ih0, ih1, ih2, ih3, ih4⟩ := sawmillref10_Dropped.mono_l k;unfold sawmillref10_Dropped.f
 repeat' first
   | (with_reducible exact ih0 _ _ _ _)
   | (with_reducible exact ih1 _ _ _ _)
   | (with_reducible exact ih2 _ _ _ _ _)
   | (with_reducible exact ih3 _ _ _ _)
   | (with_reducible exact ih4 _ _ _ _)
   | (with_reducible exact LeO.refl _)
   | (with_reducible exact LeO.none _)
   | (with_reducible refine LeO.ite ?_ ?_)
   | (with_reducible refine LeO.bind ?_ (fun _ => ?_))
   | exact ih0 _ _ _ _
   | exact ih1 _ _ _ _
   | exact ih2 _ _ _ _ _
   | exact ih3 _ _ _ _
   | exact ih4 _ _ _ _
   | exact LeO.none _
   | refine LeO.ite ?_ ?_
   | refine LeO.bind ?_ (fun _ => ?_)
set_option maxHeartbeats 8000000 in
set_option maxRecDepth 100000 in
theorem sawmillref10_Dropped.calls (k : Nat) (a0 : Int) (A1 : Option Addr) (c1 : Nat) (l1 : List (S29)) (r1 : Int) (r2 : List (S29)) (w : World) (hr1 : Kd.C k29 w A1 l1.length l1) (hc1 : l1.length ≤ c1) (h : sawmillref10_Dropped.f k a0 l1 = some (r1, r2)) :
  Calls Try.prog 65 #[.int .i64 a0, .slice A1 l1.length c1] w fun e w' => ∃ v1_ : Value, e = .returned (.agg #[.int .i64 r1, v1_]) ∧ Kd.R k29 29 w' w.heap.size (fun _ => True) v1_ r2 ∧ Below w.heap.size w w' := by
 have hu36 := Try.underlying36;have hu29 := Try.underlying29;have HR1 := Aside0.mk hr1;have HC1 := Aside0.mk hc1;clear hr1 hc1;have HB := A_ (Below.refl w.heap.size w);have H : (sawmillref10_Dropped.l0 k a0 l1 0 (l1.length : Int)) = some (r1, r2) := h;clear h;have HC3 := Aside0.mk H;clear H;go_enter Try.func65, Try.ntmps65
 go_upto_block 0 with (first | ((with_reducible refine gate_dst (N := 4) rfl ?_); refine bx_ 4 (cs := #[.int .i64 0, .slice none 0 0]) (t := 36) ?_; intro gbq1 hg w4 hbox hb; have BKq1 := A_ hbox; have GWq1 := gz_ (w := w) hg; have GEq1 := gz_ (w := w) hg; replace HB := bA_ hb; clear hb hbox hg))
 (try simp only [Act.put, List.setIfInBounds_toArray, List.set_cons_zero, List.set_cons_succ])
 go_cut [5] (fun v5 wc => ∃ (kq : Nat) (x5_2 : Int), v5 = .int .i64 x5_2 ∧ Aside0 (sawmillref10_Dropped.j1 kq a0 l1 x5_2 (l1.length : Int) = some (r1, r2)) ∧ Aside0 (kq ≤ k) ∧ Aside0 (wc.heap[gbq1]? = some (.cells #[.int .i64 0, (.slice none 0 0)] 36 (0, 0))) ∧ Aside0 (Below w.heap.size w wc))
 case first =>
  have H := HC3.out;clear HC3;have H' := Aside0.mk H;clear H;go_wp2
  go_loopg [5] k (fun kq v5 w' => ∃ (x5_1 : Int), v5 = .int .i64 x5_1 ∧ Aside0 (sawmillref10_Dropped.l0 kq a0 l1 x5_1 (l1.length : Int) = some (r1, r2)) ∧ Aside0 (kq ≤ k) ∧ Aside0 (w'.heap[gbq1]? = some (.cells #[.int .i64 0, (.slice none 0 0)] 36 (0, 0))) ∧ Aside0 (Below w.heap.size w w'))
  case atStart => exact ⟨(0), rs_, H', ⟨Nat.le_refl _⟩, ⟨fb_ BKq1.out⟩, ⟨be_⟩⟩
  case round =>
   clear H';(try clear c1);(try clear p2);obtain ⟨x5_1, rfl, HA, HK1, BKq1, HB⟩ := hrel;cases gk with
   | zero => exact absurd HA.out (by simp [sawmillref10_Dropped.l0])
   | succ k1 =>
    have H := HA.out;clear HA;simp only [sawmillref10_Dropped.l0] at H
    by_cases c5 : x5_1 < (l1.length : Int)
    ·rw [if_pos c5] at H;have c5b0 : decide (x5_1 < (l1.length : Int)) = true := decide_eq_true c5;clear c5;(first | rw [c5b0] | (simp only [i64_w, i32_w]; rw [c5b0]) | skip)
     by_cases c6 : 0 ≤ x5_1
     ·rw [if_pos c6] at H;have c6b0 : decide (0 ≤ x5_1) = true := decide_eq_true c6;clear c6
      by_cases c7 : x5_1 < (l1.length : Int)
      ·rw [if_pos c7] at H;have c7b0 : decide (x5_1 < (l1.length : Int)) = true := decide_eq_true c7;clear c7;replace H := Option.bind_eq_some_iff.mp H;obtain ⟨tq3, A80, H⟩ := H;replace H : (if tq3 = true then (sawmillref10_Dropped.l0 k1 a0 l1 (wrap64 (x5_1 + 1)) (l1.length : Int)) else (sawmillref10_Dropped.j1 k1 a0 l1 x5_1 (l1.length : Int))) = some (r1, r2) := H;have A8 := Aside0.mk A80;clear A80
       by_cases c9 : tq3 = true
       ·subst c9;(have H1 : (sawmillref10_Dropped.l0 k1 a0 l1 (wrap64 (x5_1 + 1)) (l1.length : Int)) = some (r1, r2) := by rw [if_pos rfl] at H; exact H);clear H;have H := H1;clear H1;have H' := Aside0.mk H;clear H;have pq2 : 0 ≤ (x5_1 : Int) := as_;have qq2 : x5_1 < (l1.length : Int) := as_;obtain ⟨adq2, eq2, hxq2_0, hxq2_1⟩ := at_T29 HR1.out x5_1 pq2 qq2;cases eq2;replace hxq2_0 := bc_ HB hxq2_0;replace hxq2_1 := bc_ HB hxq2_1;replace pq2 := eq_true pq2;replace qq2 := eq_true qq2;go_wp2_with (first | (go_at_call 59; (with_reducible refine (sawmillref10_empty.calls ((rd_T29 l1 x5_1).f0) ((rd_T29 l1 x5_1).f1) true _ A8.out).mono ?_); rintro e w10 ⟨rfl, hb⟩; replace BKq1 := bb_ BKq1 hb; replace HB := bA_ hb; (try clear hb); (try clear hk)))
        go_roundg k1
        case measure => have := HK1.out; omega
        case rel => exact ⟨(wrap64 (x5_1 + 1)), rs_, H', ⟨by have := HK1.out; omega⟩, ⟨fb_ BKq1.out⟩, ⟨be_⟩⟩
       ·replace c9 := Bool.eq_false_iff.mpr c9;subst c9;(have H1 : (sawmillref10_Dropped.j1 k1 a0 l1 x5_1 (l1.length : Int)) = some (r1, r2) := by rw [if_neg (show ¬ (false = true) by decide)] at H; exact H);clear H;have H := H1;clear H1;have H' := Aside0.mk H;clear H;have pq2 : 0 ≤ (x5_1 : Int) := as_;have qq2 : x5_1 < (l1.length : Int) := as_;obtain ⟨adq2, eq2, hxq2_0, hxq2_1⟩ := at_T29 HR1.out x5_1 pq2 qq2;cases eq2;replace hxq2_0 := bc_ HB hxq2_0;replace hxq2_1 := bc_ HB hxq2_1;replace pq2 := eq_true pq2;replace qq2 := eq_true qq2;go_wp2_with (first | (go_at_call 59; (with_reducible refine (sawmillref10_empty.calls ((rd_T29 l1 x5_1).f0) ((rd_T29 l1 x5_1).f1) false _ A8.out).mono ?_); rintro e w11 ⟨rfl, hb⟩; replace BKq1 := bb_ BKq1 hb; replace HB := bA_ hb; (try clear hb); (try clear hk)))
        go_meet
        case rel => exact ⟨_, (x5_1), rs_, H', ⟨by have := HK1.out; first | omega | exact Nat.le_refl _⟩, ⟨fb_ BKq1.out⟩, ⟨be_⟩⟩
      ·rw [if_neg c7] at H;exact absurd H (by simp)
     ·rw [if_neg c6] at H;exact absurd H (by simp)
    ·rw [if_neg c5] at H;have c5b0 : decide (x5_1 < (l1.length : Int)) = false := decide_eq_false c5;clear c5;(first | rw [c5b0] | (simp only [i64_w, i32_w]; rw [c5b0]) | skip);have H' := Aside0.mk H;clear H;go_wp2
     go_meet
     case rel => exact ⟨_, (x5_1), rs_, H', ⟨by have := HK1.out; first | omega | exact Nat.le_refl _⟩, ⟨fb_ BKq1.out⟩, ⟨be_⟩⟩
 case rest =>
  clear HC3;(try clear c1);(try clear p2);(try clear c5);(try clear c5b0);(try clear c6);(try clear c6b0);(try clear p6);(try clear q6);(try clear hx6);(try clear c7);(try clear c7b0);(try clear c9);(try clear hxq2_0);(try clear hxq2_1);(try clear p2);(try clear pq2);(try clear qq2);obtain ⟨kq, x5_2, rfl, HA, HJ2, BKq1, HB⟩ := hcut;cases kq with
  | zero => exact absurd HA.out (by simp [sawmillref10_Dropped.j1])
  | succ kj2 =>
   have H := HA.out;clear HA;simp only [sawmillref10_Dropped.j1] at H;have HC12 := Aside0.mk H;clear H
   go_upto_block 2 with (fail)
   go_cut [6] (fun v6 wc => ∃ (kq : Nat) (x6_11 : Int), v6 = .int .i64 x6_11 ∧ Aside0 (sawmillref10_Dropped.j3 kq a0 l1 x5_2 x6_11 = some (r1, r2)) ∧ Aside0 (kq ≤ kj2) ∧ Aside0 (wc.heap[gbq1]? = some (.cells #[.int .i64 0, (.slice none 0 0)] 36 (0, 0))) ∧ Aside0 (Below w.heap.size w wc))
   case first =>
    have H := HC12.out;clear HC12;have H' := Aside0.mk H;clear H;go_wp2
    go_loopg [6] kj2 (fun kq v6 w' => ∃ (x6_2 : Int), v6 = .int .i64 x6_2 ∧ Aside0 (sawmillref10_Dropped.l1 kq a0 l1 x5_2 x6_2 = some (r1, r2)) ∧ Aside0 (kq ≤ kj2) ∧ Aside0 (w'.heap[gbq1]? = some (.cells #[.int .i64 0, (.slice none 0 0)] 36 (0, 0))) ∧ Aside0 (Below w.heap.size w w'))
    case atStart => exact ⟨((l1.length : Int)), rs_, H', ⟨Nat.le_refl _⟩, ⟨fb_ BKq1.out⟩, ⟨be_⟩⟩
    case round =>
     clear H';(try clear c1);(try clear p2);(try clear c5);(try clear c5b0);(try clear c6);(try clear c6b0);(try clear p6);(try clear q6);(try clear hx6);(try clear c7);(try clear c7b0);(try clear c9);(try clear hxq2_0);(try clear hxq2_1);(try clear p2);(try clear p6);(try clear pq2);(try clear q6);(try clear qq2);obtain ⟨x6_2, rfl, HA, HK2, BKq1, HB⟩ := hrel;cases gk with
     | zero => exact absurd HA.out (by simp [sawmillref10_Dropped.l1])
     | succ k2 =>
      have H := HA.out;clear HA;simp only [sawmillref10_Dropped.l1] at H
      by_cases c13 : x6_2 > x5_2
      ·rw [if_pos c13] at H;have c13b0 : decide (x5_2 < x6_2) = true := decide_eq_true c13;clear c13;(first | rw [c13b0] | (simp only [i64_w, i32_w]; rw [c13b0]) | skip);obtain ⟨ji14, hji14⟩ : ∃ j_ : Int, (wrap64 (x6_2 - 1)) = j_ := ⟨_, rfl⟩;(replace H : (if 0 ≤ (ji14) then (if (ji14) < (l1.length : Int) then ((sawmillref10_empty.f ((rd_T29 l1 (ji14)).f0) ((rd_T29 l1 (ji14)).f1)).bind fun tq5 => (if tq5 = true then (sawmillref10_Dropped.l1 k2 a0 l1 x5_2 ji14) else (sawmillref10_Dropped.j3 k2 a0 l1 x5_2 x6_2))) else (none)) else (none)) = some (r1, r2) := by first | (rw [hji14] at H; exact H) | (simp only [hji14] at H ⊢; exact H));have hji14w : (IntKind.i64.wrap (x6_2 - 1)) = ji14 := (i64_w _).trans hji14
       by_cases c15 : 0 ≤ (ji14)
       ·rw [if_pos c15] at H;have c15b0 : decide (0 ≤ (ji14)) = true := decide_eq_true c15;clear c15
        by_cases c16 : (ji14) < (l1.length : Int)
        ·rw [if_pos c16] at H;have c16b0 : decide ((ji14) < (l1.length : Int)) = true := decide_eq_true c16;clear c16;replace H := Option.bind_eq_some_iff.mp H;obtain ⟨tq5, A170, H⟩ := H;replace H : (if tq5 = true then (sawmillref10_Dropped.l1 k2 a0 l1 x5_2 ji14) else (sawmillref10_Dropped.j3 k2 a0 l1 x5_2 x6_2)) = some (r1, r2) := H;have A17 := Aside0.mk A170;clear A170
         by_cases c18 : tq5 = true
         ·subst c18;(have H1 : (sawmillref10_Dropped.l1 k2 a0 l1 x5_2 ji14) = some (r1, r2) := by rw [if_pos rfl] at H; exact H);clear H;have H := H1;clear H1;have H' := Aside0.mk H;clear H;have pq4 : 0 ≤ ((ji14) : Int) := as_;have qq4 : (ji14) < (l1.length : Int) := as_;obtain ⟨adq4, eq4, hxq4_0, hxq4_1⟩ := at_T29 HR1.out (ji14) pq4 qq4;cases eq4;replace hxq4_0 := bc_ HB hxq4_0;replace hxq4_1 := bc_ HB hxq4_1;replace pq4 := eq_true pq4;replace qq4 := eq_true qq4;go_wp2_with (first | (go_at_call 59; (with_reducible refine (sawmillref10_empty.calls ((rd_T29 l1 (ji14)).f0) ((rd_T29 l1 (ji14)).f1) true _ A17.out).mono ?_); rintro e w19 ⟨rfl, hb⟩; replace BKq1 := bb_ BKq1 hb; replace HB := bA_ hb; (try clear hb); (try clear hk)))
          go_roundg k2
          case measure => have := HJ2.out; have := HK2.out; omega
          case rel => exact ⟨(ji14), (by first | rfl | (simp; done) | (simp only [← hji14] <;> (first | rfl | simp)) | (simp [*]; done)), H', ⟨by have := HJ2.out; have := HK2.out; omega⟩, ⟨fb_ BKq1.out⟩, ⟨be_⟩⟩
         ·replace c18 := Bool.eq_false_iff.mpr c18;subst c18;(have H1 : (sawmillref10_Dropped.j3 k2 a0 l1 x5_2 x6_2) = some (r1, r2) := by rw [if_neg (show ¬ (false = true) by decide)] at H; exact H);clear H;have H := H1;clear H1;have H' := Aside0.mk H;clear H;have pq4 : 0 ≤ ((ji14) : Int) := as_;have qq4 : (ji14) < (l1.length : Int) := as_;obtain ⟨adq4, eq4, hxq4_0, hxq4_1⟩ := at_T29 HR1.out (ji14) pq4 qq4;cases eq4;replace hxq4_0 := bc_ HB hxq4_0;replace hxq4_1 := bc_ HB hxq4_1;replace pq4 := eq_true pq4;replace qq4 := eq_true qq4;go_wp2_with (first | (go_at_call 59; (with_reducible refine (sawmillref10_empty.calls ((rd_T29 l1 (ji14)).f0) ((rd_T29 l1 (ji14)).f1) false _ A17.out).mono ?_); rintro e w20 ⟨rfl, hb⟩; replace BKq1 := bb_ BKq1 hb; replace HB := bA_ hb; (try clear hb); (try clear hk)))
          go_meet
          case rel => exact ⟨_, (x6_2), rs_, H', ⟨by have := HJ2.out; have := HK2.out; first | omega | exact Nat.le_refl _⟩, ⟨fb_ BKq1.out⟩, ⟨be_⟩⟩
        ·rw [if_neg c16] at H;exact absurd H (by simp)
       ·rw [if_neg c15] at H;exact absurd H (by simp)
      ·rw [if_neg c13] at H;have c13b0 : decide (x5_2 < x6_2) = false := decide_eq_false c13;clear c13;(first | rw [c13b0] | (simp only [i64_w, i32_w]; rw [c13b0]) | skip);have H' := Aside0.mk H;clear H;go_wp2
       go_meet
       case rel => exact ⟨_, (x6_2), rs_, H', ⟨by have := HJ2.out; have := HK2.out; first | omega | exact Nat.le_refl _⟩, ⟨fb_ BKq1.out⟩, ⟨be_⟩⟩
   case rest =>
    clear HC12;(try clear c1);(try clear p2);(try clear c5);(try clear c5b0);(try clear c6);(try clear c6b0);(try clear p6);(try clear q6);(try clear hx6);(try clear c7);(try clear c7b0);(try clear c9);(try clear c13);(try clear c13b0);(try clear c15);(try clear c15b0);(try clear c16);(try clear c16b0);(try clear c18);(try clear hxq2_0);(try clear hxq2_1);(try clear hxq4_0);(try clear hxq4_1);(try clear p2);(try clear p6);(try clear pq2);(try clear pq4);(try clear q6);(try clear qq2);(try clear qq4);obtain ⟨kq, x6_11, rfl, HA, HJ11, BKq1, HB⟩ := hcut;cases kq with
    | zero => exact absurd HA.out (by simp [sawmillref10_Dropped.j3])
    | succ kj11 =>
     have H := HA.out;clear HA;simp only [sawmillref10_Dropped.j3] at H
     by_cases c21 : x5_2 = x6_11
     ·rw [if_pos c21] at H;have c21b0 : (x5_2 == x6_11) = true := beq_iff_eq.mpr c21;have c21b1 : (x5_2 != x6_11) = false := bne_eq_false_iff_eq.mpr c21;clear c21;simp only [Option.some.injEq, Prod.mk.injEq] at H;obtain ⟨rfl, rfl⟩ := H;obtain ⟨hcz22_0, hcz22_1, hfz22_0, hfz22_1⟩ := cy2_ BKq1;go_wp2;refine bodyPost_ret (results_cell_row rfl _ _ gbq1 36 #[.int .i64 0, .slice none 0 0] (0, 0) _ rfl (ch_ BKq1) Try.underlying36 rfl (by kernel_rfl)) rfl ?_;exact ⟨_, er_, by first | exact Kd.R_nil _ _ _ _ _ | exact Kd.N_nil _ _ _ _ _ | exact Kd.V_nil _ _ _ _ _ | exact Kd.Q_nil _ _ _ _ _ | exact Kd.S_nil _ _ _ _ _, be_⟩
     ·rw [if_neg c21] at H;have c21b0 : (x5_2 == x6_11) = false := beq_eq_false_iff_ne.mpr c21;have c21b1 : (x5_2 != x6_11) = true := bne_iff_ne.mpr c21;have H' := Aside0.mk H;clear H;go_wp2_with (first | ((with_reducible refine gate_dst (N := 7) rfl ?_); refine bx_ 7 (cs := #[.int .i64 0, .slice none 0 0]) (t := 36) ?_; intro gbq6 hg w23 hbox hb; have BKq6 := A_ hbox; have GWq6 := gz_ (w := w) hg; have GEq6 := gz_ (w := w) hg; replace HB := bA_ hb; have NBq1_q6 := nlt_ BKq1 hg; have NBq6_q1 := ngt_ BKq1 hg; replace BKq1 := bb_ BKq1 hb; clear hb hbox hg; have hnb24 := NBq6_q1.out; have hnc24 := NBq1_q6.out; obtain ⟨hcz25_0, hcz25_1, hfz25_0, hfz25_1⟩ := cy2_ BKq6))
      go_loopg [8] kj11 (fun kq v8 w' => ∃ (x8_3 : Int) (xq7o1_3 : List (S29)) (uq7o1 : Value), v8 = .int .i64 x8_3 ∧ Aside0 (sawmillref10_Dropped.l2 kq l1 x6_11 x8_3 (wrap64 (a0 + x5_2)) xq7o1_3 = some (r1, r2)) ∧ Aside0 (kq ≤ kj11) ∧ Aside0 (Kd.R k29 29 w' w.heap.size (fun _ => True) uq7o1 xq7o1_3) ∧ Aside0 (w'.heap[gbq1]? = some (.cells #[.int .i64 0, (.slice none 0 0)] 36 (0, 0))) ∧ Aside0 (w'.heap[gbq6]? = some (.cells #[.int .i64 (wrap64 (a0 + x5_2)), uq7o1] 36 (0, 0))) ∧ Aside0 (Below w.heap.size w w'))
      case atStart => exact ⟨(x5_2), (([] : List (S29))), (.slice none 0 0), rs_, H', ⟨Nat.le_refl _⟩, ⟨by first | exact Kd.R_nil _ _ _ _ _ | exact Kd.N_nil _ _ _ _ _ | exact Kd.V_nil _ _ _ _ _ | exact Kd.Q_nil _ _ _ _ _ | exact Kd.S_nil _ _ _ _ _⟩, ⟨ch_ BKq1⟩, ⟨ch_ BKq6⟩, ⟨be_⟩⟩
      case round =>
       clear H';(try clear c1);(try clear c2);(try clear p2);(try clear c5);(try clear c5b0);(try clear c6);(try clear c6b0);(try clear p6);(try clear q6);(try clear hx6);(try clear c7);(try clear c7b0);(try clear c9);(try clear c13);(try clear c13b0);(try clear c15);(try clear c15b0);(try clear c16);(try clear c16b0);(try clear c18);(try clear c21);(try clear c21b0);(try clear c21b1);(try clear c24);(try clear hcz22_0);(try clear hcz22_1);(try clear hcz25_0);(try clear hcz25_1);(try clear hfz22_0);(try clear hfz22_1);(try clear hfz25_0);(try clear hfz25_1);(try clear hxq2_0);(try clear hxq2_1);(try clear hxq4_0);(try clear hxq4_1);(try clear p2);(try clear p6);(try clear pq2);(try clear pq4);(try clear q6);(try clear qq2);(try clear qq4);obtain ⟨x8_3, xq7o1_3, uq7o1, rfl, HA, HK3, HO_q7o1, BKq1, BKq6, HB⟩ := hrel;cases gk with
       | zero => exact absurd HA.out (by simp [sawmillref10_Dropped.l2])
       | succ k3 =>
        have H := HA.out;clear HA;simp only [sawmillref10_Dropped.l2] at H
        by_cases c26 : x8_3 < x6_11
        ·rw [if_pos c26] at H;have c26b0 : decide (x8_3 < x6_11) = true := decide_eq_true c26;clear c26
         by_cases c27 : 0 ≤ x8_3
         ·rw [if_pos c27] at H;have c27b0 : decide (0 ≤ x8_3) = true := decide_eq_true c27;clear c27
          by_cases c28 : x8_3 < (l1.length : Int)
          ·rw [if_pos c28] at H;have c28b0 : decide (x8_3 < (l1.length : Int)) = true := decide_eq_true c28;clear c28;replace H := Option.bind_eq_some_iff.mp H;obtain ⟨tq9, A290, H⟩ := H;replace H : (if tq9 = true then (if xq7o1_3.length < 8796093022208 then (sawmillref10_Dropped.l2 k3 l1 x6_11 (wrap64 (x8_3 + 1)) (wrap64 (a0 + x5_2)) (xq7o1_3 ++ [(⟨0, 0⟩ : S29)])) else (none)) else (if xq7o1_3.length < 8796093022208 then (sawmillref10_Dropped.l2 k3 l1 x6_11 (wrap64 (x8_3 + 1)) (wrap64 (a0 + x5_2)) (xq7o1_3 ++ [(⟨(rd_T29 l1 x8_3).f0, (rd_T29 l1 x8_3).f1⟩ : S29)])) else (none))) = some (r1, r2) := H;have A29 := Aside0.mk A290;clear A290
           by_cases c30 : tq9 = true
           ·subst c30;(have H1 : (if xq7o1_3.length < 8796093022208 then (sawmillref10_Dropped.l2 k3 l1 x6_11 (wrap64 (x8_3 + 1)) (wrap64 (a0 + x5_2)) (xq7o1_3 ++ [(⟨0, 0⟩ : S29)])) else (none)) = some (r1, r2) := by rw [if_pos rfl] at H; exact H);clear H;have H := H1;clear H1
            by_cases c31 : xq7o1_3.length < 8796093022208
            ·rw [if_pos c31] at H;have LMc31 := Aside0.mk c31;clear c31;obtain ⟨yq10, hyq10⟩ : ∃ y_ : List (S29), y_ = (xq7o1_3 ++ [(⟨0, 0⟩ : S29)]) := ⟨_, rfl⟩;(replace H : (sawmillref10_Dropped.l2 k3 l1 x6_11 (wrap64 (x8_3 + 1)) (wrap64 (a0 + x5_2)) yq10) = some (r1, r2) := by first | (rw [hyq10]; with_reducible exact H) | (have H2_ := (Option.bind_some _ _).symm.trans H; rw [hyq10]; with_reducible exact H2_) | (have H2_ := (Option.bind_some _ _).symm.trans H; with_reducible exact H2_) | with_reducible exact H | (rw [hyq10]; exact H) | exact H);have Nyq10 := Aside0.mk hyq10;clear hyq10;have H' := Aside0.mk H;clear H;have pq7 : 0 ≤ (x8_3 : Int) := as_;have qq7 : x8_3 < (l1.length : Int) := as_;obtain ⟨adq7, eq7, hxq7_0, hxq7_1⟩ := at_T29 HR1.out x8_3 pq7 qq7;cases eq7;replace hxq7_0 := bc_ HB hxq7_0;replace hxq7_1 := bc_ HB hxq7_1;replace pq7 := eq_true pq7;replace qq7 := eq_true qq7
             go_wp2_with (first | ((with_reducible refine gate_dst (N := 9) rfl ?_); refine bx_ 9 (cs := #[.int .i64 0, .int .i64 0]) (t := 29) ?_; intro gbq8 hg w32 hbox hb; replace HO_q7o1 := A_ (Kd.R_below (Kd.R_elderB (fR_ HO_q7o1.out) gbq8 (Nat.le_of_eq hg.symm)) hb); have BKq8 := A_ hbox; have GWq8 := gz_ (w := w) hg; have GEq8 := gz_ (w := w) hg; replace HB := bA_ hb; have NBq1_q8 := nlt_ BKq1 hg; have NBq8_q1 := ngt_ BKq1 hg; replace BKq1 := bb_ BKq1 hb; have NBq6_q8 := nlt_ BKq6 hg; have NBq8_q6 := ngt_ BKq6 hg; replace BKq6 := bb_ BKq6 hb; clear hb hbox hg; have hnb33 := NBq8_q1.out; have hnc33 := NBq1_q8.out; have hnb34 := NBq8_q6.out; have hnc34 := NBq6_q8.out; obtain ⟨hcz35_0, hcz35_1, hfz35_0, hfz35_1⟩ := cy2_ BKq8) | ((with_reducible refine gate_callee (f := 59) rfl ?_); refine goesL_ (some 56) rfl rfl Try.func59 (by kernel_rfl) rfl #[.agg #[.int .i64 ((rd_T29 l1 x8_3).f0), .int .i64 ((rd_T29 l1 x8_3).f1)]] rfl la_ ?_; (with_reducible refine (sawmillref10_empty.calls ((rd_T29 l1 x8_3).f0) ((rd_T29 l1 x8_3).f1) true _ A29.out).mono ?_); rintro e w36 ⟨rfl, hb⟩; refine ⟨_, rfl, ?_⟩; replace HO_q7o1 := A_ (Kd.R_below (by (with_reducible repeat (first | apply Kd.R_alloc | apply Kd.R_drewN | apply Kd.R_drew)); exact (Kd.R_mono (Rf_ (Rf_ (Kd.R_mono HO_q7o1.out (fun k_ hk => (⟨hk, hk.2⟩ : _ ∧ k_ ≠ gbq8))))) (fun _ h_ => h_.1))) hb); replace BKq1 := A_ (blk_below (g := gbq1) (o := .cells #[.int .i64 0, .slice none 0 0] 36 (0, 0)) (ch_ BKq1) hb); replace BKq6 := A_ (blk_below (g := gbq6) (o := .cells #[.int .i64 (wrap64 (a0 + x5_2)), uq7o1] 36 (0, 0)) (ch_ BKq6) hb); replace BKq8 := A_ (blk_below (g := gbq8) (o := .cells #[.int .i64 ((rd_T29 l1 x8_3).f0), .int .i64 ((rd_T29 l1 x8_3).f1)] 29 (0, 0)) (ch_ BKq8) hb); replace HB := bA_ hb; (try clear hb); (try clear hk); obtain ⟨hcz37_0, hcz37_1, hfz37_0, hfz37_1⟩ := cy2_ BKq8; have hnb38 := NBq6_q1.out; have hnc38 := NBq1_q6.out; obtain ⟨hcz39_0, hcz39_1, hfz39_0, hfz39_1⟩ := cy2_ BKq6) | ((with_reducible refine gate_builtin (b := .append) (xs := #[.tmp 59, .tmp 61]) rfl ?_); at_builtin; refine Kd.R_append k29 (w0 := w) w.heap.size rfl (.tmp 59) (.tmp 61) 34 29 (.agg #[(.int .i64 0), (.int .i64 0)]) 16 rfl Try.underlying34 info29 rfl (by decide) (by omega) uq7o1 xq7o1_3 (⟨0, 0⟩ : S29) [.int .i64 0, .int .i64 0] (fun k_ => k_ ≠ gbq8) (fun _ => False) rfl (by first | (go_simp; done) | (go_simp; rfl)) ?aP (fun _ hk => hk.elim) ?aF ?aO ?aB ?aS ?aL ?_; (case aP => exact k29_mkM _ _ _ (⟨0, 0⟩ : S29)); (case aB => exact be_); (case aF => exact (fun k_ hk => Kd.freshB (g := gbq8) (o := .cells #[.int .i64 0, .int .i64 0] 29 (0, 0)) (ch_ BKq8) k_ hk)); (case aO => exact (by (with_reducible repeat (first | apply Kd.R_alloc | apply Kd.R_drewN | apply Kd.R_drew)); exact Kd.R_mono (Rf_ (Rf_ (Kd.R_mono HO_q7o1.out (fun k_ hk => (⟨hk, hk.2⟩ : _ ∧ k_ ≠ gbq8))))) (fun _ hk => hk.1.2))); (case aS => exact bz_); (case aL => have := LMc31.out; omega); intro vq11 w40 ho hb hg hat; rw [← Nyq10.out] at ho; have n0_ := A_ (blk_grown (g := gbq1) (o := .cells #[.int .i64 0, .slice none 0 0] 36 (0, 0)) (ch_ BKq1) hg (Kd.R_ne HO_q7o1.out BKq1.out (by decide))); have n1_ := A_ (blk_grown (g := gbq6) (o := .cells #[.int .i64 (wrap64 (a0 + x5_2)), uq7o1] 36 (0, 0)) (ch_ BKq6) hg (Kd.R_ne HO_q7o1.out BKq6.out (by decide))); have n2_ := A_ (blk_grown (g := gbq8) (o := .cells #[.int .i64 0, .int .i64 0] 29 (0, 0)) (ch_ BKq8) hg (Kd.R_away HO_q7o1.out (fun _ hk => hk.2))); have n3_ := A_ (hb); have n4_ := A_ (ho); clear BKq1 BKq6 BKq8 HB HO_q7o1; have BKq1 := n0_; have BKq6 := n1_; have BKq8 := n2_; have HB := n3_; have HOq12 := n4_; clear n0_ n1_ n2_ n3_ n4_ ho hb hg hat; obtain ⟨Ao41, co41, eo41⟩ := Kd.R_slice HOq12.out; subst eo41; obtain ⟨hcz42_0, hcz42_1, hfz42_0, hfz42_1⟩ := cy2_ BKq6))
             go_roundg k3
             case measure => have := HJ2.out; have := HJ11.out; have := HK3.out; omega
             case rel => exact ⟨(wrap64 (x8_3 + 1)), (yq10), (.slice Ao41 yq10.length co41), rs_, H', ⟨by have := HJ2.out; have := HJ11.out; have := HK3.out; omega⟩, ⟨by (with_reducible repeat (first | apply Kd.R_alloc | apply Kd.R_drewN | apply Kd.R_drew)); exact Kd.R_mono (Rf_ (Kd.R_types HOq12.out BKq6.out (by decide))) (fun _ hk => trivial)⟩, ⟨ch_ BKq1⟩, ⟨ch_ BKq6⟩, ⟨be_⟩⟩
            ·rw [if_neg c31] at H;exact absurd H (by simp)
           ·replace c30 := Bool.eq_false_iff.mpr c30;subst c30;(have H1 : (if xq7o1_3.length < 8796093022208 then (sawmillref10_Dropped.l2 k3 l1 x6_11 (wrap64 (x8_3 + 1)) (wrap64 (a0 + x5_2)) (xq7o1_3 ++ [(⟨(rd_T29 l1 x8_3).f0, (rd_T29 l1 x8_3).f1⟩ : S29)])) else (none)) = some (r1, r2) := by rw [if_neg (show ¬ (false = true) by decide)] at H; exact H);clear H;have H := H1;clear H1
            by_cases c43 : xq7o1_3.length < 8796093022208
            ·rw [if_pos c43] at H;have LMc43 := Aside0.mk c43;clear c43;obtain ⟨yq13, hyq13⟩ : ∃ y_ : List (S29), y_ = (xq7o1_3 ++ [(⟨(rd_T29 l1 x8_3).f0, (rd_T29 l1 x8_3).f1⟩ : S29)]) := ⟨_, rfl⟩;(replace H : (sawmillref10_Dropped.l2 k3 l1 x6_11 (wrap64 (x8_3 + 1)) (wrap64 (a0 + x5_2)) yq13) = some (r1, r2) := by first | (rw [hyq13]; with_reducible exact H) | (have H2_ := (Option.bind_some _ _).symm.trans H; rw [hyq13]; with_reducible exact H2_) | (have H2_ := (Option.bind_some _ _).symm.trans H; with_reducible exact H2_) | with_reducible exact H | (rw [hyq13]; exact H) | exact H);have Nyq13 := Aside0.mk hyq13;clear hyq13;have H' := Aside0.mk H;clear H;have pq7 : 0 ≤ (x8_3 : Int) := as_;have qq7 : x8_3 < (l1.length : Int) := as_;obtain ⟨adq7, eq7, hxq7_0, hxq7_1⟩ := at_T29 HR1.out x8_3 pq7 qq7;cases eq7;replace hxq7_0 := bc_ HB hxq7_0;replace hxq7_1 := bc_ HB hxq7_1;replace pq7 := eq_true pq7;replace qq7 := eq_true qq7
             go_wp2_with (first | ((with_reducible refine gate_dst (N := 9) rfl ?_); refine bx_ 9 (cs := #[.int .i64 0, .int .i64 0]) (t := 29) ?_; intro gbq8 hg w44 hbox hb; replace HO_q7o1 := A_ (Kd.R_below (Kd.R_elderB (fR_ HO_q7o1.out) gbq8 (Nat.le_of_eq hg.symm)) hb); have BKq8 := A_ hbox; have GWq8 := gz_ (w := w) hg; have GEq8 := gz_ (w := w) hg; replace HB := bA_ hb; have NBq1_q8 := nlt_ BKq1 hg; have NBq8_q1 := ngt_ BKq1 hg; replace BKq1 := bb_ BKq1 hb; have NBq6_q8 := nlt_ BKq6 hg; have NBq8_q6 := ngt_ BKq6 hg; replace BKq6 := bb_ BKq6 hb; clear hb hbox hg; have hnb45 := NBq8_q1.out; have hnc45 := NBq1_q8.out; have hnb46 := NBq8_q6.out; have hnc46 := NBq6_q8.out; obtain ⟨hcz47_0, hcz47_1, hfz47_0, hfz47_1⟩ := cy2_ BKq8) | ((with_reducible refine gate_callee (f := 59) rfl ?_); refine goesL_ (some 56) rfl rfl Try.func59 (by kernel_rfl) rfl #[.agg #[.int .i64 ((rd_T29 l1 x8_3).f0), .int .i64 ((rd_T29 l1 x8_3).f1)]] rfl la_ ?_; (with_reducible refine (sawmillref10_empty.calls ((rd_T29 l1 x8_3).f0) ((rd_T29 l1 x8_3).f1) false _ A29.out).mono ?_); rintro e w48 ⟨rfl, hb⟩; refine ⟨_, rfl, ?_⟩; replace HO_q7o1 := A_ (Kd.R_below (by (with_reducible repeat (first | apply Kd.R_alloc | apply Kd.R_drewN | apply Kd.R_drew)); exact (Kd.R_mono (Rf_ (Rf_ (Kd.R_mono HO_q7o1.out (fun k_ hk => (⟨hk, hk.2⟩ : _ ∧ k_ ≠ gbq8))))) (fun _ h_ => h_.1))) hb); replace BKq1 := A_ (blk_below (g := gbq1) (o := .cells #[.int .i64 0, .slice none 0 0] 36 (0, 0)) (ch_ BKq1) hb); replace BKq6 := A_ (blk_below (g := gbq6) (o := .cells #[.int .i64 (wrap64 (a0 + x5_2)), uq7o1] 36 (0, 0)) (ch_ BKq6) hb); replace BKq8 := A_ (blk_below (g := gbq8) (o := .cells #[.int .i64 ((rd_T29 l1 x8_3).f0), .int .i64 ((rd_T29 l1 x8_3).f1)] 29 (0, 0)) (ch_ BKq8) hb); replace HB := bA_ hb; (try clear hb); (try clear hk); have hnb49 := NBq6_q1.out; have hnc49 := NBq1_q6.out; obtain ⟨hcz50_0, hcz50_1, hfz50_0, hfz50_1⟩ := cy2_ BKq6; obtain ⟨hcz51_0, hcz51_1, hfz51_0, hfz51_1⟩ := cy2_ BKq8) | ((with_reducible refine gate_builtin (b := .append) (xs := #[.tmp 59, .tmp 61]) rfl ?_); at_builtin; refine Kd.R_append k29 (w0 := w) w.heap.size rfl (.tmp 59) (.tmp 61) 34 29 (.agg #[(.int .i64 0), (.int .i64 0)]) 16 rfl Try.underlying34 info29 rfl (by decide) (by omega) uq7o1 xq7o1_3 (⟨(rd_T29 l1 x8_3).f0, (rd_T29 l1 x8_3).f1⟩ : S29) [.int .i64 ((rd_T29 l1 x8_3).f0), .int .i64 ((rd_T29 l1 x8_3).f1)] (fun k_ => k_ ≠ gbq8) (fun _ => False) rfl rfl ?aP (fun _ hk => hk.elim) ?aF ?aO ?aB ?aS ?aL ?_; (case aP => exact k29_mkM _ _ _ (⟨(rd_T29 l1 x8_3).f0, (rd_T29 l1 x8_3).f1⟩ : S29)); (case aB => exact be_); (case aF => exact (fun k_ hk => Kd.freshB (g := gbq8) (o := .cells #[.int .i64 ((rd_T29 l1 x8_3).f0), .int .i64 ((rd_T29 l1 x8_3).f1)] 29 (0, 0)) (fb_ BKq8.out) k_ hk)); (case aO => exact (by (with_reducible repeat (first | apply Kd.R_alloc | apply Kd.R_drewN | apply Kd.R_drew)); exact Kd.R_mono HO_q7o1.out (fun _ hk => hk.2))); (case aS => exact bz_); (case aL => have := LMc43.out; omega); intro vq14 w52 ho hb hg hat; rw [← Nyq13.out] at ho; have n0_ := A_ (blk_grown (g := gbq1) (o := .cells #[.int .i64 0, .slice none 0 0] 36 (0, 0)) (fb_ BKq1.out) hg (Kd.R_ne HO_q7o1.out BKq1.out (by decide))); have n1_ := A_ (blk_grown (g := gbq6) (o := .cells #[.int .i64 (wrap64 (a0 + x5_2)), uq7o1] 36 (0, 0)) (fb_ BKq6.out) hg (Kd.R_ne HO_q7o1.out BKq6.out (by decide))); have n2_ := A_ (blk_grown (g := gbq8) (o := .cells #[.int .i64 ((rd_T29 l1 x8_3).f0), .int .i64 ((rd_T29 l1 x8_3).f1)] 29 (0, 0)) (fb_ BKq8.out) hg (Kd.R_away HO_q7o1.out (fun _ hk => hk.2))); have n3_ := A_ (hb); have n4_ := A_ (ho); clear BKq1 BKq6 BKq8 HB HO_q7o1; have BKq1 := n0_; have BKq6 := n1_; have BKq8 := n2_; have HB := n3_; have HOq15 := n4_; clear n0_ n1_ n2_ n3_ n4_ ho hb hg hat; obtain ⟨Ao53, co53, eo53⟩ := Kd.R_slice HOq15.out; subst eo53; obtain ⟨hcz54_0, hcz54_1, hfz54_0, hfz54_1⟩ := cy2_ BKq6))
             go_roundg k3
             case measure => have := HJ2.out; have := HJ11.out; have := HK3.out; omega
             case rel => exact ⟨(wrap64 (x8_3 + 1)), (yq13), (.slice Ao53 yq13.length co53), rs_, H', ⟨by have := HJ2.out; have := HJ11.out; have := HK3.out; omega⟩, ⟨by (with_reducible repeat (first | apply Kd.R_alloc | apply Kd.R_drewN | apply Kd.R_drew)); exact Kd.R_mono (Rf_ (Kd.R_types HOq15.out BKq6.out (by decide))) (fun _ hk => trivial)⟩, ⟨ch_ BKq1⟩, ⟨ch_ BKq6⟩, ⟨be_⟩⟩
            ·rw [if_neg c43] at H;exact absurd H (by simp)
          ·rw [if_neg c28] at H;exact absurd H (by simp)
         ·rw [if_neg c27] at H;exact absurd H (by simp)
        ·rw [if_neg c26] at H;have c26b0 : decide (x8_3 < x6_11) = false := decide_eq_false c26;clear c26;simp only [Option.some.injEq, Prod.mk.injEq] at H;obtain ⟨rfl, rfl⟩ := H;have hnb55 := NBq6_q1.out;have hnc55 := NBq1_q6.out;obtain ⟨hcz56_0, hcz56_1, hfz56_0, hfz56_1⟩ := cy2_ BKq6;obtain ⟨hcz57_0, hcz57_1, hfz57_0, hfz57_1⟩ := cy2_ BKq1;obtain ⟨Ao58, co58, eo58⟩ := Kd.R_slice HO_q7o1.out;subst eo58;go_wp2;refine bodyPost_ret (results_cell_row rfl _ _ gbq1 36 #[.int .i64 (wrap64 (a0 + x5_2)), .slice Ao58 xq7o1_3.length co58] (0, 0) _ rfl (ch_ BKq1) Try.underlying36 rfl (by kernel_rfl)) rfl ?_;exact ⟨_, er_, by (with_reducible repeat (first | apply Kd.R_alloc | apply Kd.R_drewN | apply Kd.R_drew)); exact Kd.R_mono (Rf_ (Rf_ (Kd.R_types HO_q7o1.out BKq1.out (by decide)))) (fun _ hk => trivial), be_⟩
end Go.Proofs.Ytboegckbilnldaa.P
end
