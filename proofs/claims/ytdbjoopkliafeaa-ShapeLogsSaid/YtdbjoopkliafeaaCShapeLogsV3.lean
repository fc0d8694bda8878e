/- Functions of the program: what each computes, and that the call computes it; conditions: the fuel that the plain function asks for. -/
import Derived.Test.YtdbjoopkliafeaaCShapeLogsV2
section
namespace Go.Proofs.Ytdbjoopkliafeaa.P
open Go Go.RowKit Go.Proofs.YtdbjoopkliafeaaW.PrintWords Go.Proofs.YtdbjoopkliafeaaW.PrintLast Go.Proofs.YtdbjoopkliafeaaW.PrintMore
attribute [local go_sem] max2_int min2_int max_two min_two max_three min_three max_four min_four max_five min_eight max_eight   -- for this text's walks alone
set_option linter.unusedVariables false
set_option linter.unusedSimpArgs false

def solid_parts.l0 : Nat → List (S72) → Int → List (S36) → Int → Int → Int → Int → Option ((List (S72)))
 | 0, _, _, _, _, _, _, _ => none
 | k + 1, x5, x6, x13, x14, x15, x60002000, x60002001 => if x15 < x14 then (if 0 ≤ x15 then (if x15 < (x13.length : Int) then ((span_Meet.f x6 (wrap64 (x6 + ((rd_T36 x13 x15).f0))) x60002000 x60002001).bind fun bt60005 => (if bt60005.1 < bt60005.2 then (if x5.length < 2932031007402 then (solid_parts.l0 k (x5 ++ [(⟨(⟨bt60005.1, bt60005.2⟩ : S49), (⟨(rd_T36 x13 x15).f1.f0, (rd_T36 x13 x15).f1.f1⟩ : S24)⟩ : S72)]) (wrap64 (x6 + ((rd_T36 x13 x15).f0))) x13 x14 (wrap64 (x15 + 1)) x60002000 x60002001) else (none)) else (solid_parts.l0 k x5 (wrap64 (x6 + ((rd_T36 x13 x15).f0))) x13 x14 (wrap64 (x15 + 1)) x60002000 x60002001))) else (none)) else (none)) else (some x5)
def solid_parts.f (k : Nat) (l0 : List (S36)) (a1_0 : Int) (a1_1 : Int) : Option ((List (S72))) := (solid_Check.f k l0).bind fun t60002 => (if t60002 = 0 then (solid_parts.l0 k ([] : List (S72)) 0 l0 (l0.length : Int) 0 a1_0 a1_1) else (some ([] : List (S72))))
theorem solid_parts.mono_l : ∀ k, (∀ y0 y1 y2 y3 y4 y5 y6, LeO (solid_parts.l0 k y0 y1 y2 y3 y4 y5 y6) (solid_parts.l0 (k + 1) y0 y1 y2 y3 y4 y5 y6))
 | 0 => fun _ _ _ _ _ _ _ r h => by simp [solid_parts.l0] at h
 | k + 1 => by
  have ih0 := solid_parts.mono_l k
  ·intro y0 y1 y2 y3 y4 y5 y6
   unfold solid_parts.l0
   repeat' first
   | (with_reducible exact ih0 _ _ _ _ _ _ _)
   | (with_reducible exact solid_Check.mono _ _)
   | (with_reducible exact LeO.refl _)
   | (with_reducible exact LeO.none _)
   | (with_reducible refine LeO.ite ?_ ?_)
   | (with_reducible refine LeO.bind ?_ (fun _ => ?_))
   | exact ih0 _ _ _ _ _ _ _
   | exact solid_Check.mono _ _
   | exact LeO.none _
   | refine LeO.ite ?_ ?_
   | refine LeO.bind ?_ (fun _ => ?_)
theorem solid_parts.mono : ∀ a0 a1 a2 k, LeO (solid_parts.f k a0 a1 a2) (solid_parts.f (k + 1) a0 a1 a2) := by
 intro a0 a1 a2 k
 have ih0 := solid_parts.mono_l k
 unfold solid_parts.f
 repeat' first
   | (with_reducible exact ih0 _ _ _ _ _ _ _)
   | (with_reducible exact solid_Check.mono _ _)
   | (with_reducible exact LeO.refl _)
   | (with_reducible exact LeO.none _)
   | (with_reducible refine LeO.ite ?_ ?_)
   | (with_reducible refine LeO.bind ?_ (fun _ => ?_))
   | exact ih0 _ _ _ _ _ _ _
   | exact solid_Check.mono _ _
   | exact LeO.none _
   | refine LeO.ite ?_ ?_
   | refine LeO.bind ?_ (fun _ => ?_)
set_option maxHeartbeats 8000000 in
set_option maxRecDepth 100000 in
theorem solid_parts.calls (k : Nat) (P0_ : Nat → Prop) (A0 : Option Addr) (c0 : Nat) (l0 : List (S36)) (a1_0 : Int) (a1_1 : Int) (r : List (S72)) (w : World) (hs0 : Kd.V k36 36 w w.heap.size (fun k_ => P0_ k_) (.slice A0 l0.length c0) l0) (h : solid_parts.f k l0 a1_0 a1_1 = some r) :
  Calls Try.prog 60 #[.slice A0 l0.length c0, .agg #[.int .i64 a1_0, .int .i64 a1_1]] w fun e w' => ∃ v0_ : Value, e = .returned (v0_) ∧ Kd.N k72 72 w' w.heap.size (fun k_ => (P0_ k_ ∨ w.heap.size ≤ k_)) v0_ r ∧ Below w.heap.size w w' := by
 have hu49 := Try.underlying49
 have hu36 := Try.underlying36
 have hu24 := Try.underlying24
 have hu72 := Try.underlying72
 have HO0 := Aside0.mk (show Kd.V k36 36 w w.heap.size (fun k_ => (P0_ k_ ∨ w.heap.size ≤ k_)) (.slice A0 l0.length c0) l0 from Kd.V_mono hs0 (fun k_ hk => .inl hk))
 have HB := Aside0.mk (Below.refl w.heap.size w)
 have H : ((solid_Check.f k l0).bind fun t60002 => (if t60002 = 0 then (solid_parts.l0 k ([] : List (S72)) 0 l0 (l0.length : Int) 0 a1_0 a1_1) else (some ([] : List (S72))))) = some r := h
 clear h
 replace H := Option.bind_eq_some_iff.mp H
 obtain ⟨t60002, A30, H⟩ := H
 replace H : (if t60002 = 0 then (solid_parts.l0 k ([] : List (S72)) 0 l0 (l0.length : Int) 0 a1_0 a1_1) else (some ([] : List (S72)))) = some r := H
 have A3 := Aside0.mk A30
 clear A30
 by_cases c4 : t60002 = 0
 ·rw [if_pos c4] at H
  have c4b0 : (t60002 == 0) = true := beq_iff_eq.mpr c4
  have c4b1 : (t60002 != 0) = false := bne_eq_false_iff_eq.mpr c4
  clear c4
  have H' := Aside0.mk H
  clear H
  go_enter Try.func60, Try.ntmps60
  go_wp2_with (first | ((with_reducible refine gate_dst (N := 3) rfl ?_); refine box_event ?hg (N := 3) ?hd (cs := #[.int .i64 a1_0, .int .i64 a1_1]) (t := 49) ?hr ?_; (case hd => rfl); (case hg => rfl); (case hr => first | (go_simp; done) | (go_simp; rfl)); intro gb60001 hg w5 hbox hb; have n0_ := Aside0.mk (Kd.V_below (Kd.V_elderB (fV_ HO0.out) gb60001 (Nat.le_of_eq hg.symm)) hb); have n1_ := Aside0.mk (bs_ hb); have n2_ := Aside0.mk (hbox); have n3_ := Aside0.mk ((by rw [hg]; exact bz_ : w.heap.size ≤ gb60001)); have n4_ := Aside0.mk ((by rw [hg]; exact bz_ : w.heap.size ≤ gb60001)); clear HO0 HB; have HO0 := n0_; have HB := n1_; have BK60001 := n2_; have GW60001 := n3_; have GE60001 := n4_; clear n0_ n1_ n2_ n3_ n4_; clear hb hbox hg) | ((with_reducible refine gate_callee (f := 25) rfl ?_); refine goesL_ (some 11) rfl rfl Try.func25 (by kernel_rfl) rfl #[.slice A0 l0.length c0] rfl la_ ?_; (with_reducible refine (solid_Check.calls k _ _ l0 t60002 _ ?side1 ?side2 A3.out).mono ?_); (case side1 => repeat (first | exact (Kd.V_reads' HO0.out).2.2 | (with_reducible refine Kd.C_alloc ?_ _) | (with_reducible refine Kd.C_drewN ?_ _) | (with_reducible refine Kd.C_drew ?_))); (case side2 => exact (Kd.V_reads' HO0.out).2.1); rintro e w6 ⟨rfl, hb⟩; refine ⟨_, rfl, ?_⟩; have n0_ := Aside0.mk (Kd.V_below (fV_ HO0.out) hb); have n1_ := Aside0.mk (blk_below (g := gb60001) (o := .cells #[.int .i64 a1_0, .int .i64 a1_1] 49 (0, 0)) (fb_ BK60001.out) hb); have n2_ := Aside0.mk (bs_ hb); clear HO0 BK60001 HB; have HO0 := n0_; have BK60001 := n1_; have HB := n2_; clear n0_ n1_ n2_; (try clear hb); (try clear hb2); (try clear hk); (try clear hi)))
  go_loopg [5, 6, 15] k (fun kq v5 v6 v15 w' => ∃ (x5_1 : List (S72)) (x6_1 : Int) (x15_1 : Int), v6 = .int .i64 x6_1 ∧ v15 = .int .i64 x15_1 ∧ Aside0 (solid_parts.l0 kq x5_1 x6_1 l0 (l0.length : Int) x15_1 a1_0 a1_1 = some r) ∧ Aside0 (kq ≤ k) ∧ Aside0 (Kd.N k72 72 w' w.heap.size (fun k_ => (P0_ k_ ∨ w.heap.size ≤ k_) ∧ k_ ≠ gb60001) v5 x5_1) ∧ Aside0 (Kd.V k36 36 w' w.heap.size (fun k_ => (P0_ k_ ∨ w.heap.size ≤ k_) ∧ some k_ ≠ (v5 : Value).ownBlock ∧ k_ ≠ gb60001) (.slice A0 l0.length c0) l0) ∧ Aside0 (w'.heap[gb60001]? = some (.cells #[.int .i64 a1_0, .int .i64 a1_1] 49 (0, 0))) ∧ Aside0 (Below w.heap.size w w'))
  case atStart => exact ⟨(([] : List (S72))), (0), (0), (by first | rfl | (simp; done) | (simp [*]; done)), (by first | rfl | (simp; done) | (simp [*]; done)), H', ⟨Nat.le_refl _⟩, ⟨by first | exact Kd.S_nil _ _ _ _ _ | exact Kd.N_nil _ _ _ _ _ | exact Kd.V_nil _ _ _ _ _ | exact Kd.Q_nil _ _ _ _ _ | exact Kd.R_nil _ _ _ _ _⟩, ⟨by (with_reducible repeat (first | apply Kd.V_alloc | apply Kd.V_drewN | apply Kd.V_drew)); exact Kd.V_mono HO0.out (fun _ hk => ⟨hk.1, ⟨(by simp [Value.ownBlock]), hk.2⟩⟩)⟩, ⟨fb_ BK60001.out⟩, ⟨be_⟩⟩
  case round =>
   clear H'
   try clear c2
   try clear p2
   try clear c4
   try clear c4b0
   try clear c4b1
   try clear c6
   obtain ⟨x5_1, x6_1, x15_1, rfl, rfl, HA, HK1, HO_5, HO_13, BK60001, HB⟩ := hrel
   cases gk with
   | zero => exact absurd HA.out (by simp [solid_parts.l0])
   | succ k1 =>
    have H := HA.out
    clear HA
    simp only [solid_parts.l0] at H
    by_cases c7 : x15_1 < (l0.length : Int)
    ·rw [if_pos c7] at H
     have c7b0 : decide (x15_1 < (l0.length : Int)) = true := decide_eq_true c7
     clear c7
     by_cases c8 : 0 ≤ x15_1
     ·rw [if_pos c8] at H
      have c8b0 : decide (0 ≤ x15_1) = true := decide_eq_true c8
      clear c8
      by_cases c9 : x15_1 < (l0.length : Int)
      ·rw [if_pos c9] at H
       have c9b0 : decide (x15_1 < (l0.length : Int)) = true := decide_eq_true c9
       clear c9
       replace H := Option.bind_eq_some_iff.mp H
       obtain ⟨⟨t60005, t60006⟩, A100, H⟩ := H
       replace H : (if t60005 < t60006 then (if x5_1.length < 2932031007402 then (solid_parts.l0 k1 (x5_1 ++ [(⟨(⟨t60005, t60006⟩ : S49), (⟨(rd_T36 l0 x15_1).f1.f0, (rd_T36 l0 x15_1).f1.f1⟩ : S24)⟩ : S72)]) (wrap64 (x6_1 + ((rd_T36 l0 x15_1).f0))) l0 (l0.length : Int) (wrap64 (x15_1 + 1)) a1_0 a1_1) else (none)) else (solid_parts.l0 k1 x5_1 (wrap64 (x6_1 + ((rd_T36 l0 x15_1).f0))) l0 (l0.length : Int) (wrap64 (x15_1 + 1)) a1_0 a1_1)) = some r := H
       have A10 := Aside0.mk A100
       clear A100
       by_cases c11 : t60005 < t60006
       ·rw [if_pos c11] at H
        have c11b0 : decide (t60005 < t60006) = true := decide_eq_true c11
        clear c11
        by_cases c12 : x5_1.length < 2932031007402
        ·rw [if_pos c12] at H
         have LMc12 := Aside0.mk c12
         clear c12
         obtain ⟨y60008, hy60008⟩ : ∃ y_ : List (S72), y_ = (x5_1 ++ [(⟨(⟨t60005, t60006⟩ : S49), (⟨(rd_T36 l0 x15_1).f1.f0, (rd_T36 l0 x15_1).f1.f1⟩ : S24)⟩ : S72)]) := ⟨_, rfl⟩
         replace H : (solid_parts.l0 k1 y60008 (wrap64 (x6_1 + ((rd_T36 l0 x15_1).f0))) l0 (l0.length : Int) (wrap64 (x15_1 + 1)) a1_0 a1_1) = some r := by first | (rw [hy60008]; with_reducible exact H) | (have H2_ := (Option.bind_some _ _).symm.trans H; rw [hy60008]; with_reducible exact H2_) | (have H2_ := (Option.bind_some _ _).symm.trans H; with_reducible exact H2_) | with_reducible exact H | (rw [hy60008]; exact H) | exact H
         have Ny60008 := Aside0.mk hy60008
         clear hy60008
         have H' := Aside0.mk H
         clear H
         have p60003 : 0 ≤ (x15_1 : Int) := of_decide_eq_true (by first | (with_reducible assumption) | assumption)
         have q60003 : x15_1 < (l0.length : Int) := of_decide_eq_true (by first | (with_reducible assumption) | assumption)
         obtain ⟨ad60003, A60003_2, c60003_2, e60003, hx60003_0, hx60003_1, hx60003_2, hl60003_2, hi60003_2⟩ := at_T36 (Kd.V_reads' HO_13.out).2.2 x15_1 p60003 q60003
         cases e60003
         obtain ⟨ce60003, hce60003, hMe60003, hcc60003⟩ := Kd.V_get HO_13.out z36 x15_1 p60003 (by first | exact q60003 | exact of_decide_eq_true (by first | (with_reducible assumption) | assumption) | (have e_ := (Kd.V_reads' HO_13.out).1; omega))
         obtain ⟨ua60003_2, uc60003_2, rfl, ul60003_2, ge60003_2⟩ := k36_openF hMe60003
         have hv60003_2 := hcc60003 2 _ rfl
         rw [add_field _ _ 2 (by omega)] at hv60003_2
         replace hv60003_2 := Option.some.inj (hv60003_2.symm.trans hx60003_2)
         injection hv60003_2 with hva_ hvn_ hvc_
         rw [hva_] at ge60003_2
         rw [hvc_] at ul60003_2
         have HL60003_2 := Aside0.mk (show Kd.V k49 49 _ w.heap.size _ _ ((rd_T36 l0 x15_1).f1.f1) from Kd.V_mk ul60003_2 ge60003_2)
         clear hva_ hvn_ hvc_ ge60003_2 ul60003_2 hcc60003 hce60003
         have HR60003_2 := Aside0.mk hi60003_2
         have HC60003_2 := Aside0.mk hl60003_2
         clear hi60003_2 hl60003_2
         replace p60003 := eq_true p60003
         replace q60003 := eq_true q60003
         go_wp2_with (first | ((with_reducible refine gate_dst (N := 8) rfl ?_); refine box_event ?hg (N := 8) ?hd (cs := #[.int .i64 0, .int .i64 0, .slice none 0 0]) (t := 36) ?hr ?_; (case hd => rfl); (case hg => rfl); (case hr => first | (go_simp; done) | (go_simp; rfl)); intro gb60004 hg w13 hbox hb; have n0_ := Aside0.mk (Kd.N_below (Kd.N_elderB (fN_ HO_5.out) gb60004 (Nat.le_of_eq hg.symm)) hb); have n1_ := Aside0.mk (Kd.V_below (Kd.V_elderB (fV_ HO_13.out) gb60004 (Nat.le_of_eq hg.symm)) hb); have n2_ := Aside0.mk (Kd.V_below (Kd.V_elderB (fV_ HL60003_2.out) gb60004 (Nat.le_of_eq hg.symm)) hb); have n3_ := Aside0.mk (blk_below (g := gb60001) (o := .cells #[.int .i64 a1_0, .int .i64 a1_1] 49 (0, 0)) (fb_ BK60001.out) hb); have n4_ := Aside0.mk (Kd.C_below (by repeat (first | (with_reducible exact HR60003_2.out) | (with_reducible refine Kd.C_alloc ?_ _) | (with_reducible refine Kd.C_drewN ?_ _) | (with_reducible refine Kd.C_drew ?_) | exact HR60003_2.out)) hb); have n5_ := Aside0.mk (bs_ hb); have n6_ := Aside0.mk (hbox); have n7_ := Aside0.mk ((by rw [hg]; exact bz_ : w.heap.size ≤ gb60004)); have n8_ := Aside0.mk ((by rw [hg]; exact bz_ : w.heap.size ≤ gb60004)); have n9_ := Aside0.mk ((by rw [hg]; exact Nat.ne_of_lt (blk_lt (g := gb60001) (o := .cells #[.int .i64 a1_0, .int .i64 a1_1] 49 (0, 0)) (fb_ BK60001.out)) : gb60001 ≠ gb60004)); have n10_ := Aside0.mk ((by rw [hg]; exact Nat.ne_of_gt (blk_lt (g := gb60001) (o := .cells #[.int .i64 a1_0, .int .i64 a1_1] 49 (0, 0)) (fb_ BK60001.out)) : gb60004 ≠ gb60001)); clear HO_5 HO_13 HL60003_2 BK60001 HR60003_2 HB; have HO_5 := n0_; have HO_13 := n1_; have HL60003_2 := n2_; have BK60001 := n3_; have HR60003_2 := n4_; have HB := n5_; have BK60004 := n6_; have GW60004 := n7_; have GE60004 := n8_; have NB60001_60004 := n9_; have NB60004_60001 := n10_; clear n0_ n1_ n2_ n3_ n4_ n5_ n6_ n7_ n8_ n9_ n10_ hb hbox hg; have hnb14 := NB60004_60001.out; have hnc14 := NB60001_60004.out; have hcz15_0 : w13.cell? ⟨gb60004, 0, none⟩ = some (.int .i64 0) := (blk_cell BK60004.out 0).trans rfl; have hcz15_1 : w13.cell? ⟨gb60004, 1, none⟩ = some (.int .i64 0) := (blk_cell BK60004.out 1).trans rfl; have hcz15_2 : w13.cell? ⟨gb60004, 2, none⟩ = some (.slice none 0 0) := (blk_cell BK60004.out 2).trans rfl; have hfz15_0 := blk_frozen BK60004.out 0; have hfz15_1 := blk_frozen BK60004.out 1; have hfz15_2 := blk_frozen BK60004.out 2; have hcz16_0 : w13.cell? ⟨gb60001, 0, none⟩ = some (.int .i64 a1_0) := (blk_cell BK60001.out 0).trans rfl; have hcz16_1 : w13.cell? ⟨gb60001, 1, none⟩ = some (.int .i64 a1_1) := (blk_cell BK60001.out 1).trans rfl; have hfz16_0 := blk_frozen BK60001.out 0; have hfz16_1 := blk_frozen BK60001.out 1) | ((with_reducible refine gate_callee (f := 53) rfl ?_); refine goesL_ (some 26) rfl rfl Try.func53 (by kernel_rfl) rfl #[.agg #[.int .i64 x6_1, .int .i64 (wrap64 (x6_1 + ((rd_T36 l0 x15_1).f0)))], .agg #[.int .i64 a1_0, .int .i64 a1_1]] rfl la_ ?_; (with_reducible refine (span_Meet.calls x6_1 (wrap64 (x6_1 + ((rd_T36 l0 x15_1).f0))) a1_0 a1_1 t60005 t60006 _ A10.out).mono ?_); rintro e w17 ⟨rfl, hb⟩; refine ⟨_, rfl, ?_⟩; have n0_ := Aside0.mk (Kd.N_below (by (with_reducible repeat (first | apply Kd.N_alloc | apply Kd.N_drewN | apply Kd.N_drew)); exact (Kd.N_mono (Kd.N_far (p := ⟨gb60004, 2, none⟩) (Kd.N_far (p := ⟨gb60004, 1, none⟩) (Kd.N_far (p := ⟨gb60004, 0, none⟩) (Kd.N_mono HO_5.out (fun k_ hk => (⟨hk, hk.2⟩ : _ ∧ k_ ≠ gb60004))) (fun _ hk => hk.2) (.int .i64 ((rd_T36 l0 x15_1).f0))) (fun _ hk => hk.2) (.int .i64 ((rd_T36 l0 x15_1).f1.f0))) (fun _ hk => hk.2) (.slice A60003_2 ((rd_T36 l0 x15_1).f1.f1).length c60003_2)) (fun _ h_ => h_.1))) hb); have n1_ := Aside0.mk (Kd.V_below (by (with_reducible repeat (first | apply Kd.V_alloc | apply Kd.V_drewN | apply Kd.V_drew)); exact (Kd.V_mono (Kd.V_far (p := ⟨gb60004, 2, none⟩) (Kd.V_far (p := ⟨gb60004, 1, none⟩) (Kd.V_far (p := ⟨gb60004, 0, none⟩) (Kd.V_mono HO_13.out (fun k_ hk => (⟨hk, hk.2⟩ : _ ∧ k_ ≠ gb60004))) (fun _ hk => hk.2) (.int .i64 ((rd_T36 l0 x15_1).f0))) (fun _ hk => hk.2) (.int .i64 ((rd_T36 l0 x15_1).f1.f0))) (fun _ hk => hk.2) (.slice A60003_2 ((rd_T36 l0 x15_1).f1.f1).length c60003_2)) (fun _ h_ => h_.1))) hb); have n2_ := Aside0.mk (Kd.V_below (by (with_reducible repeat (first | apply Kd.V_alloc | apply Kd.V_drewN | apply Kd.V_drew)); exact (Kd.V_mono (Kd.V_far (p := ⟨gb60004, 2, none⟩) (Kd.V_far (p := ⟨gb60004, 1, none⟩) (Kd.V_far (p := ⟨gb60004, 0, none⟩) (Kd.V_mono HL60003_2.out (fun k_ hk => (⟨hk, hk.2⟩ : _ ∧ k_ ≠ gb60004))) (fun _ hk => hk.2) (.int .i64 ((rd_T36 l0 x15_1).f0))) (fun _ hk => hk.2) (.int .i64 ((rd_T36 l0 x15_1).f1.f0))) (fun _ hk => hk.2) (.slice A60003_2 ((rd_T36 l0 x15_1).f1.f1).length c60003_2)) (fun _ h_ => h_.1))) hb); have n3_ := Aside0.mk (blk_below (g := gb60001) (o := .cells #[.int .i64 a1_0, .int .i64 a1_1] 49 (0, 0)) (by (with_reducible repeat (first | refine blk_drewN ?_ _ | refine blk_drew ?_ | refine blk_alloc ?_ _)); refine blk_far ?_ NB60001_60004.out _; (with_reducible repeat (first | refine blk_drewN ?_ _ | refine blk_drew ?_ | refine blk_alloc ?_ _)); refine blk_far ?_ NB60001_60004.out _; (with_reducible repeat (first | refine blk_drewN ?_ _ | refine blk_drew ?_ | refine blk_alloc ?_ _)); refine blk_far ?_ NB60001_60004.out _; (with_reducible repeat (first | refine blk_drewN ?_ _ | refine blk_drew ?_ | refine blk_alloc ?_ _)); exact BK60001.out) hb); have n4_ := Aside0.mk (Kd.C_below ((Kd.V_reads' (by (with_reducible repeat (first | apply Kd.V_alloc | apply Kd.V_drewN | apply Kd.V_drew)); exact (Kd.V_mono (Kd.V_far (p := ⟨gb60004, 2, none⟩) (Kd.V_far (p := ⟨gb60004, 1, none⟩) (Kd.V_far (p := ⟨gb60004, 0, none⟩) (Kd.V_mono HL60003_2.out (fun k_ hk => (⟨hk, hk.2⟩ : _ ∧ k_ ≠ gb60004))) (fun _ hk => hk.2) (.int .i64 ((rd_T36 l0 x15_1).f0))) (fun _ hk => hk.2) (.int .i64 ((rd_T36 l0 x15_1).f1.f0))) (fun _ hk => hk.2) (.slice A60003_2 ((rd_T36 l0 x15_1).f1.f1).length c60003_2)) (fun _ h_ => h_.1)))).2.2) hb); have n5_ := Aside0.mk (blk_below (g := gb60004) (o := .cells #[.int .i64 ((rd_T36 l0 x15_1).f0), .int .i64 ((rd_T36 l0 x15_1).f1.f0), .slice A60003_2 ((rd_T36 l0 x15_1).f1.f1).length c60003_2] 36 (0, 0)) (by (with_reducible repeat (first | refine blk_drewN ?_ _ | refine blk_drew ?_ | refine blk_alloc ?_ _)); refine blk_put (cs := #[.int .i64 ((rd_T36 l0 x15_1).f0), .int .i64 ((rd_T36 l0 x15_1).f1.f0), .slice none 0 0]) ?_ 2 _ rfl; (with_reducible repeat (first | refine blk_drewN ?_ _ | refine blk_drew ?_ | refine blk_alloc ?_ _)); refine blk_put (cs := #[.int .i64 ((rd_T36 l0 x15_1).f0), .int .i64 0, .slice none 0 0]) ?_ 1 _ rfl; (with_reducible repeat (first | refine blk_drewN ?_ _ | refine blk_drew ?_ | refine blk_alloc ?_ _)); refine blk_put (cs := #[.int .i64 0, .int .i64 0, .slice none 0 0]) ?_ 0 _ rfl; (with_reducible repeat (first | refine blk_drewN ?_ _ | refine blk_drew ?_ | refine blk_alloc ?_ _)); exact BK60004.out) hb); have n6_ := Aside0.mk (bs_ hb); clear HO_5 HO_13 HL60003_2 BK60001 HR60003_2 BK60004 HB; have HO_5 := n0_; have HO_13 := n1_; have HL60003_2 := n2_; have BK60001 := n3_; have HR60003_2 := n4_; have BK60004 := n5_; have HB := n6_; clear n0_ n1_ n2_ n3_ n4_ n5_ n6_; (try clear hb); (try clear hb2); (try clear hk); (try clear hi)) | ((with_reducible refine gate_dst (N := 9) rfl ?_); refine box_event ?hg (N := 9) ?hd (cs := #[.int .i64 0, .int .i64 0]) (t := 49) ?hr ?_; (case hd => rfl); (case hg => rfl); (case hr => first | (go_simp; done) | (go_simp; rfl)); intro gb60007 hg w18 hbox hb; have n0_ := Aside0.mk (Kd.N_below (Kd.N_elderB (fN_ HO_5.out) gb60007 (Nat.le_of_eq hg.symm)) hb); have n1_ := Aside0.mk (Kd.V_below (Kd.V_elderB (fV_ HO_13.out) gb60007 (Nat.le_of_eq hg.symm)) hb); have n2_ := Aside0.mk (Kd.V_below (Kd.V_elderB (fV_ HL60003_2.out) gb60007 (Nat.le_of_eq hg.symm)) hb); have n3_ := Aside0.mk (blk_below (g := gb60001) (o := .cells #[.int .i64 a1_0, .int .i64 a1_1] 49 (0, 0)) (fb_ BK60001.out) hb); have n4_ := Aside0.mk (Kd.C_below (by repeat (first | (with_reducible exact HR60003_2.out) | (with_reducible refine Kd.C_alloc ?_ _) | (with_reducible refine Kd.C_drewN ?_ _) | (with_reducible refine Kd.C_drew ?_) | exact HR60003_2.out)) hb); have n5_ := Aside0.mk (blk_below (g := gb60004) (o := .cells #[.int .i64 ((rd_T36 l0 x15_1).f0), .int .i64 ((rd_T36 l0 x15_1).f1.f0), .slice A60003_2 ((rd_T36 l0 x15_1).f1.f1).length c60003_2] 36 (0, 0)) (fb_ BK60004.out) hb); have n6_ := Aside0.mk (bs_ hb); have n7_ := Aside0.mk (hbox); have n8_ := Aside0.mk ((by rw [hg]; exact bz_ : w.heap.size ≤ gb60007)); have n9_ := Aside0.mk ((by rw [hg]; exact bz_ : w.heap.size ≤ gb60007)); have n10_ := Aside0.mk ((by rw [hg]; exact Nat.ne_of_lt (blk_lt (g := gb60001) (o := .cells #[.int .i64 a1_0, .int .i64 a1_1] 49 (0, 0)) (fb_ BK60001.out)) : gb60001 ≠ gb60007)); have n11_ := Aside0.mk ((by rw [hg]; exact Nat.ne_of_gt (blk_lt (g := gb60001) (o := .cells #[.int .i64 a1_0, .int .i64 a1_1] 49 (0, 0)) (fb_ BK60001.out)) : gb60007 ≠ gb60001)); have n12_ := Aside0.mk ((by rw [hg]; exact Nat.ne_of_lt (blk_lt (g := gb60004) (o := .cells #[.int .i64 ((rd_T36 l0 x15_1).f0), .int .i64 ((rd_T36 l0 x15_1).f1.f0), .slice A60003_2 ((rd_T36 l0 x15_1).f1.f1).length c60003_2] 36 (0, 0)) (fb_ BK60004.out)) : gb60004 ≠ gb60007)); have n13_ := Aside0.mk ((by rw [hg]; exact Nat.ne_of_gt (blk_lt (g := gb60004) (o := .cells #[.int .i64 ((rd_T36 l0 x15_1).f0), .int .i64 ((rd_T36 l0 x15_1).f1.f0), .slice A60003_2 ((rd_T36 l0 x15_1).f1.f1).length c60003_2] 36 (0, 0)) (fb_ BK60004.out)) : gb60007 ≠ gb60004)); clear HO_5 HO_13 HL60003_2 BK60001 HR60003_2 BK60004 HB; have HO_5 := n0_; have HO_13 := n1_; have HL60003_2 := n2_; have BK60001 := n3_; have HR60003_2 := n4_; have BK60004 := n5_; have HB := n6_; have BK60007 := n7_; have GW60007 := n8_; have GE60007 := n9_; have NB60001_60007 := n10_; have NB60007_60001 := n11_; have NB60004_60007 := n12_; have NB60007_60004 := n13_; clear n0_ n1_ n2_ n3_ n4_ n5_ n6_ n7_ n8_ n9_ n10_ n11_ n12_ n13_ hb hbox hg; have hnb19 := NB60007_60001.out; have hnc19 := NB60001_60007.out; have hnb20 := NB60007_60004.out; have hnc20 := NB60004_60007.out; have hcz21_0 : w18.cell? ⟨gb60007, 0, none⟩ = some (.int .i64 0) := (blk_cell BK60007.out 0).trans rfl; have hcz21_1 : w18.cell? ⟨gb60007, 1, none⟩ = some (.int .i64 0) := (blk_cell BK60007.out 1).trans rfl; have hfz21_0 := blk_frozen BK60007.out 0; have hfz21_1 := blk_frozen BK60007.out 1) | ((with_reducible refine gate_store (t := 49) (p := 9) rfl ?_); refine store_event (t := 49) (p := 9) (v := ?vo_w22) (w1 := ((w18.setCell ⟨gb60007, 0, none⟩ (.int .i64 t60005)).setCell ⟨gb60007, 1, none⟩ (.int .i64 t60006))) ?hg ?ho ?hn ?hr ?_; (case ho => rfl); (case hg => rfl); (case hn => rfl); (case hr => first | (go_simp; done) | (go_simp; rfl)); intro w22 hw; have n0_ : Aside0 (Kd.N k72 72 w22 w.heap.size (fun k_ => (P0_ k_ ∨ w.heap.size ≤ k_) ∧ k_ ≠ gb60001 ∧ k_ ≠ gb60004 ∧ k_ ≠ gb60007) u5 x5_1) := ⟨(by rw [hw]; exact (by (with_reducible repeat (first | apply Kd.N_alloc | apply Kd.N_drewN | apply Kd.N_drew)); exact Kd.N_mono (Kd.N_far (p := ⟨gb60007, 1, none⟩) (Kd.N_far (p := ⟨gb60007, 0, none⟩) (Kd.N_mono HO_5.out (fun k_ hk => (⟨hk, hk.2⟩ : _ ∧ k_ ≠ gb60007))) (fun _ hk => hk.2) (.int .i64 t60005)) (fun _ hk => hk.2) (.int .i64 t60006)) (fun _ hk => ⟨hk.1.1.1.1, ⟨hk.1.1.1.2, ⟨hk.1.1.2, hk.1.2⟩⟩⟩)))⟩; have n1_ : Aside0 (Kd.V k36 36 w22 w.heap.size (fun k_ => (P0_ k_ ∨ w.heap.size ≤ k_) ∧ some k_ ≠ (u5 : Value).ownBlock ∧ k_ ≠ gb60001 ∧ k_ ≠ gb60004 ∧ k_ ≠ gb60007) (.slice (some ad60003) l0.length c0) l0) := ⟨(by rw [hw]; exact (by (with_reducible repeat (first | apply Kd.V_alloc | apply Kd.V_drewN | apply Kd.V_drew)); exact Kd.V_mono (Kd.V_far (p := ⟨gb60007, 1, none⟩) (Kd.V_far (p := ⟨gb60007, 0, none⟩) (Kd.V_mono HO_13.out (fun k_ hk => (⟨hk, hk.2⟩ : _ ∧ k_ ≠ gb60007))) (fun _ hk => hk.2) (.int .i64 t60005)) (fun _ hk => hk.2) (.int .i64 t60006)) (fun _ hk => ⟨hk.1.1.1.1, ⟨hk.1.1.1.2.1, ⟨hk.1.1.1.2.2, ⟨hk.1.1.2, hk.1.2⟩⟩⟩⟩)))⟩; have n2_ : Aside0 (Kd.V k49 49 w22 w.heap.size (fun k_ => (P0_ k_ ∨ w.heap.size ≤ k_) ∧ some k_ ≠ (u5 : Value).ownBlock ∧ k_ ≠ gb60001 ∧ k_ ≠ gb60004 ∧ k_ ≠ gb60007) (.slice A60003_2 ((rd_T36 l0 x15_1).f1.f1).length c60003_2) ((rd_T36 l0 x15_1).f1.f1)) := ⟨(by rw [hw]; exact (by (with_reducible repeat (first | apply Kd.V_alloc | apply Kd.V_drewN | apply Kd.V_drew)); exact Kd.V_mono (Kd.V_far (p := ⟨gb60007, 1, none⟩) (Kd.V_far (p := ⟨gb60007, 0, none⟩) (Kd.V_mono HL60003_2.out (fun k_ hk => (⟨hk, hk.2⟩ : _ ∧ k_ ≠ gb60007))) (fun _ hk => hk.2) (.int .i64 t60005)) (fun _ hk => hk.2) (.int .i64 t60006)) (fun _ hk => ⟨hk.1.1.1.1, ⟨hk.1.1.1.2.1, ⟨hk.1.1.1.2.2, ⟨hk.1.1.2, hk.1.2⟩⟩⟩⟩)))⟩; have n3_ : Aside0 (w22.heap[gb60001]? = some (.cells #[.int .i64 a1_0, .int .i64 a1_1] 49 (0, 0))) := ⟨(by rw [hw]; exact (by (with_reducible repeat (first | refine blk_drewN ?_ _ | refine blk_drew ?_ | refine blk_alloc ?_ _)); refine blk_far ?_ NB60001_60007.out _; (with_reducible repeat (first | refine blk_drewN ?_ _ | refine blk_drew ?_ | refine blk_alloc ?_ _)); refine blk_far ?_ NB60001_60007.out _; (with_reducible repeat (first | refine blk_drewN ?_ _ | refine blk_drew ?_ | refine blk_alloc ?_ _)); exact BK60001.out))⟩; have n4_ : Aside0 (w22.heap[gb60004]? = some (.cells #[.int .i64 ((rd_T36 l0 x15_1).f0), .int .i64 ((rd_T36 l0 x15_1).f1.f0), .slice A60003_2 ((rd_T36 l0 x15_1).f1.f1).length c60003_2] 36 (0, 0))) := ⟨(by rw [hw]; exact (by (with_reducible repeat (first | refine blk_drewN ?_ _ | refine blk_drew ?_ | refine blk_alloc ?_ _)); refine blk_far ?_ NB60004_60007.out _; (with_reducible repeat (first | refine blk_drewN ?_ _ | refine blk_drew ?_ | refine blk_alloc ?_ _)); refine blk_far ?_ NB60004_60007.out _; (with_reducible repeat (first | refine blk_drewN ?_ _ | refine blk_drew ?_ | refine blk_alloc ?_ _)); exact BK60004.out))⟩; have n5_ : Aside0 (w22.heap[gb60007]? = some (.cells #[.int .i64 t60005, .int .i64 t60006] 49 (0, 0))) := ⟨(by rw [hw]; exact (by (with_reducible repeat (first | refine blk_drewN ?_ _ | refine blk_drew ?_ | refine blk_alloc ?_ _)); refine blk_put (cs := #[.int .i64 t60005, .int .i64 0]) ?_ 1 _ rfl; (with_reducible repeat (first | refine blk_drewN ?_ _ | refine blk_drew ?_ | refine blk_alloc ?_ _)); refine blk_put (cs := #[.int .i64 0, .int .i64 0]) ?_ 0 _ rfl; (with_reducible repeat (first | refine blk_drewN ?_ _ | refine blk_drew ?_ | refine blk_alloc ?_ _)); exact BK60007.out))⟩; have n6_ : Aside0 (Below w.heap.size w w22) := ⟨(by rw [hw]; exact be_)⟩; clear hw HO_5 HO_13 HL60003_2 BK60001 BK60004 BK60007 HB; have HO_5 := n0_; have HO_13 := n1_; have HL60003_2 := n2_; have BK60001 := n3_; have BK60004 := n4_; have BK60007 := n5_; have HB := n6_; clear n0_ n1_ n2_ n3_ n4_ n5_ n6_; have hcz23_0 : w22.cell? ⟨gb60007, 0, none⟩ = some (.int .i64 t60005) := (blk_cell BK60007.out 0).trans rfl; have hcz23_1 : w22.cell? ⟨gb60007, 1, none⟩ = some (.int .i64 t60006) := (blk_cell BK60007.out 1).trans rfl; have hfz23_0 := blk_frozen BK60007.out 0; have hfz23_1 := blk_frozen BK60007.out 1; have hcz24_0 : w22.cell? ⟨gb60004, 0, none⟩ = some (.int .i64 ((rd_T36 l0 x15_1).f0)) := (blk_cell BK60004.out 0).trans rfl; have hcz24_1 : w22.cell? ⟨gb60004, 1, none⟩ = some (.int .i64 ((rd_T36 l0 x15_1).f1.f0)) := (blk_cell BK60004.out 1).trans rfl; have hcz24_2 : w22.cell? ⟨gb60004, 2, none⟩ = some (.slice A60003_2 ((rd_T36 l0 x15_1).f1.f1).length c60003_2) := (blk_cell BK60004.out 2).trans rfl; have hfz24_0 := blk_frozen BK60004.out 0; have hfz24_1 := blk_frozen BK60004.out 1; have hfz24_2 := blk_frozen BK60004.out 2) | ((with_reducible refine gate_builtin (b := .append) (xs := #[.tmp 32, .tmp 37]) rfl ?_); at_builtin; refine Kd.N_append k72 (w0 := w) w.heap.size rfl (.tmp 32) (.tmp 37) 69 72 (.agg #[(.int .i64 0), (.int .i64 0), (.int .i64 0), (.slice none 0 0)]) 48 rfl Try.underlying69 info72 rfl (by decide) (by omega) u5 x5_1 (⟨(⟨t60005, t60006⟩ : S49), (⟨(rd_T36 l0 x15_1).f1.f0, (rd_T36 l0 x15_1).f1.f1⟩ : S24)⟩ : S72) [.int .i64 t60005, .int .i64 t60006, .int .i64 ((rd_T36 l0 x15_1).f1.f0), .slice A60003_2 ((rd_T36 l0 x15_1).f1.f1).length c60003_2] (fun k_ => (P0_ k_ ∨ w.heap.size ≤ k_) ∧ k_ ≠ gb60001 ∧ k_ ≠ gb60004 ∧ k_ ≠ gb60007) (fun k_ => ((fun k_ => (P0_ k_ ∨ w.heap.size ≤ k_) ∧ k_ ≠ gb60001 ∧ k_ ≠ gb60004 ∧ k_ ≠ gb60007)) k_ ∧ some k_ ≠ (u5 : Value).ownBlock) rfl rfl ?aP (fun _ hk => hk) ?aF ?aO ?aB ?aS ?aL ?_; (case aP => exact (k72_mkF _ _ (⟨(⟨t60005, t60006⟩ : S49), (⟨(rd_T36 l0 x15_1).f1.f0, (rd_T36 l0 x15_1).f1.f1⟩ : S24)⟩ : S72) (Kd.V_reads' (Kd.V_mono (ok' := (fun k_ => ((fun k_ => (P0_ k_ ∨ w.heap.size ≤ k_) ∧ k_ ≠ gb60001 ∧ k_ ≠ gb60004 ∧ k_ ≠ gb60007)) k_ ∧ some k_ ≠ (u5 : Value).ownBlock)) (HL60003_2.out) (fun k_ hk => ⟨⟨hk.1, ⟨hk.2.2.1, ⟨hk.2.2.2.1, hk.2.2.2.2⟩⟩⟩, hk.2.1⟩))).2.1 (Kd.V_F (Kd.V_mono (ok' := (fun k_ => ((fun k_ => (P0_ k_ ∨ w.heap.size ≤ k_) ∧ k_ ≠ gb60001 ∧ k_ ≠ gb60004 ∧ k_ ≠ gb60007)) k_ ∧ some k_ ≠ (u5 : Value).ownBlock)) (HL60003_2.out) (fun k_ hk => ⟨⟨hk.1, ⟨hk.2.2.1, ⟨hk.2.2.2.1, hk.2.2.2.2⟩⟩⟩, hk.2.1⟩))))); (case aB => exact be_); (case aF => exact (fun k_ hk => ⟨(.inr (Nat.le_trans bz_ hk)), Kd.freshB (g := gb60001) (o := .cells #[.int .i64 a1_0, .int .i64 a1_1] 49 (0, 0)) (fb_ BK60001.out) k_ hk, Kd.freshB (g := gb60004) (o := .cells #[.int .i64 ((rd_T36 l0 x15_1).f0), .int .i64 ((rd_T36 l0 x15_1).f1.f0), .slice A60003_2 ((rd_T36 l0 x15_1).f1.f1).length c60003_2] 36 (0, 0)) (fb_ BK60004.out) k_ hk, Kd.freshB (g := gb60007) (o := .cells #[.int .i64 t60005, .int .i64 t60006] 49 (0, 0)) (fb_ BK60007.out) k_ hk⟩)); (case aO => exact (fN_ HO_5.out)); (case aS => exact bz_); (case aL => have := LMc12.out; omega); intro v60009 w25 ho hb hg hat; rw [← Ny60008.out] at ho; have n0_ := Aside0.mk (Kd.V_afterv (ok := (fun k_ => (P0_ k_ ∨ w.heap.size ≤ k_) ∧ k_ ≠ gb60001 ∧ k_ ≠ gb60004 ∧ k_ ≠ gb60007)) (by (with_reducible repeat (first | apply Kd.V_alloc | apply Kd.V_drewN | apply Kd.V_drew)); exact Kd.V_mono HO_13.out (fun _ hk => ⟨⟨hk.1, ⟨hk.2.2.1, ⟨hk.2.2.2.1, hk.2.2.2.2⟩⟩⟩, hk.2.1⟩)) hg hat); have n1_ := Aside0.mk (blk_grown (g := gb60001) (o := .cells #[.int .i64 a1_0, .int .i64 a1_1] 49 (0, 0)) (fb_ BK60001.out) hg (Kd.N_ne HO_5.out BK60001.out (by decide))); have n2_ := Aside0.mk (Kd.V_afterv (ok := (fun k_ => (P0_ k_ ∨ w.heap.size ≤ k_) ∧ k_ ≠ gb60001 ∧ k_ ≠ gb60004 ∧ k_ ≠ gb60007)) (by (with_reducible repeat (first | apply Kd.V_alloc | apply Kd.V_drewN | apply Kd.V_drew)); exact Kd.V_mono HL60003_2.out (fun _ hk => ⟨⟨hk.1, ⟨hk.2.2.1, ⟨hk.2.2.2.1, hk.2.2.2.2⟩⟩⟩, hk.2.1⟩)) hg hat); have n3_ := Aside0.mk (blk_grown (g := gb60004) (o := .cells #[.int .i64 ((rd_T36 l0 x15_1).f0), .int .i64 ((rd_T36 l0 x15_1).f1.f0), .slice A60003_2 ((rd_T36 l0 x15_1).f1.f1).length c60003_2] 36 (0, 0)) (fb_ BK60004.out) hg (Kd.N_ne HO_5.out BK60004.out (by decide))); have n4_ := Aside0.mk (blk_grown (g := gb60007) (o := .cells #[.int .i64 t60005, .int .i64 t60006] 49 (0, 0)) (fb_ BK60007.out) hg (Kd.N_ne HO_5.out BK60007.out (by decide))); have n5_ := Aside0.mk (hb); have n6_ := Aside0.mk (ho); clear HO_13 BK60001 HL60003_2 BK60004 BK60007 HB HO_5; have HO_13 := n0_; have BK60001 := n1_; have HL60003_2 := n2_; have BK60004 := n3_; have BK60007 := n4_; have HB := n5_; have HO60010 := n6_; clear n0_ n1_ n2_ n3_ n4_ n5_ n6_ ho hb hg hat; have hcz26_0 : w25.cell? ⟨gb60004, 0, none⟩ = some (.int .i64 ((rd_T36 l0 x15_1).f0)) := (blk_cell BK60004.out 0).trans rfl; have hcz26_1 : w25.cell? ⟨gb60004, 1, none⟩ = some (.int .i64 ((rd_T36 l0 x15_1).f1.f0)) := (blk_cell BK60004.out 1).trans rfl; have hcz26_2 : w25.cell? ⟨gb60004, 2, none⟩ = some (.slice A60003_2 ((rd_T36 l0 x15_1).f1.f1).length c60003_2) := (blk_cell BK60004.out 2).trans rfl; have hfz26_0 := blk_frozen BK60004.out 0; have hfz26_1 := blk_frozen BK60004.out 1; have hfz26_2 := blk_frozen BK60004.out 2))
         go_roundg k1
         case measure => have := HK1.out; omega
         case rel => exact ⟨(y60008), (wrap64 (x6_1 + ((rd_T36 l0 x15_1).f0))), (wrap64 (x15_1 + 1)), (by first | rfl | (simp; done) | (simp [*]; done)), (by first | rfl | (simp; done) | (simp [*]; done)), H', ⟨by have := HK1.out; omega⟩, ⟨by (with_reducible repeat (first | apply Kd.N_alloc | apply Kd.N_drewN | apply Kd.N_drew)); exact Kd.N_mono HO60010.out (fun _ hk => ⟨hk.1, hk.2.1⟩)⟩, ⟨by (with_reducible repeat (first | apply Kd.V_alloc | apply Kd.V_drewN | apply Kd.V_drew)); exact Kd.V_mono HO_13.out (fun _ hk => ⟨hk.1.1, ⟨hk.2, hk.1.2.1⟩⟩)⟩, ⟨fb_ BK60001.out⟩, ⟨be_⟩⟩
        ·rw [if_neg c12] at H
         exact absurd H (by simp)
       ·rw [if_neg c11] at H
        have c11b0 : decide (t60005 < t60006) = false := decide_eq_false c11
        clear c11
        have H' := Aside0.mk H
        clear H
        have p60003 : 0 ≤ (x15_1 : Int) := of_decide_eq_true (by first | (with_reducible assumption) | assumption)
        have q60003 : x15_1 < (l0.length : Int) := of_decide_eq_true (by first | (with_reducible assumption) | assumption)
        obtain ⟨ad60003, A60003_2, c60003_2, e60003, hx60003_0, hx60003_1, hx60003_2, hl60003_2, hi60003_2⟩ := at_T36 (Kd.V_reads' HO_13.out).2.2 x15_1 p60003 q60003
        cases e60003
        obtain ⟨ce60003, hce60003, hMe60003, hcc60003⟩ := Kd.V_get HO_13.out z36 x15_1 p60003 (by first | exact q60003 | exact of_decide_eq_true (by first | (with_reducible assumption) | assumption) | (have e_ := (Kd.V_reads' HO_13.out).1; omega))
        obtain ⟨ua60003_2, uc60003_2, rfl, ul60003_2, ge60003_2⟩ := k36_openF hMe60003
        have hv60003_2 := hcc60003 2 _ rfl
        rw [add_field _ _ 2 (by omega)] at hv60003_2
        replace hv60003_2 := Option.some.inj (hv60003_2.symm.trans hx60003_2)
        injection hv60003_2 with hva_ hvn_ hvc_
        rw [hva_] at ge60003_2
        rw [hvc_] at ul60003_2
        have HL60003_2 := Aside0.mk (show Kd.V k49 49 _ w.heap.size _ _ ((rd_T36 l0 x15_1).f1.f1) from Kd.V_mk ul60003_2 ge60003_2)
        clear hva_ hvn_ hvc_ ge60003_2 ul60003_2 hcc60003 hce60003
        have HR60003_2 := Aside0.mk hi60003_2
        have HC60003_2 := Aside0.mk hl60003_2
        clear hi60003_2 hl60003_2
        replace p60003 := eq_true p60003
        replace q60003 := eq_true q60003
        go_wp2_with (first | ((with_reducible refine gate_dst (N := 8) rfl ?_); refine box_event ?hg (N := 8) ?hd (cs := #[.int .i64 0, .int .i64 0, .slice none 0 0]) (t := 36) ?hr ?_; (case hd => rfl); (case hg => rfl); (case hr => first | (go_simp; done) | (go_simp; rfl)); intro gb60004 hg w27 hbox hb; have n0_ := Aside0.mk (Kd.N_below (Kd.N_elderB (fN_ HO_5.out) gb60004 (Nat.le_of_eq hg.symm)) hb); have n1_ := Aside0.mk (Kd.V_below (Kd.V_elderB (fV_ HO_13.out) gb60004 (Nat.le_of_eq hg.symm)) hb); have n2_ := Aside0.mk (Kd.V_below (Kd.V_elderB (fV_ HL60003_2.out) gb60004 (Nat.le_of_eq hg.symm)) hb); have n3_ := Aside0.mk (blk_below (g := gb60001) (o := .cells #[.int .i64 a1_0, .int .i64 a1_1] 49 (0, 0)) (fb_ BK60001.out) hb); have n4_ := Aside0.mk (Kd.C_below (by repeat (first | (with_reducible exact HR60003_2.out) | (with_reducible refine Kd.C_alloc ?_ _) | (with_reducible refine Kd.C_drewN ?_ _) | (with_reducible refine Kd.C_drew ?_) | exact HR60003_2.out)) hb); have n5_ := Aside0.mk (bs_ hb); have n6_ := Aside0.mk (hbox); have n7_ := Aside0.mk ((by rw [hg]; exact bz_ : w.heap.size ≤ gb60004)); have n8_ := Aside0.mk ((by rw [hg]; exact bz_ : w.heap.size ≤ gb60004)); have n9_ := Aside0.mk ((by rw [hg]; exact Nat.ne_of_lt (blk_lt (g := gb60001) (o := .cells #[.int .i64 a1_0, .int .i64 a1_1] 49 (0, 0)) (fb_ BK60001.out)) : gb60001 ≠ gb60004)); have n10_ := Aside0.mk ((by rw [hg]; exact Nat.ne_of_gt (blk_lt (g := gb60001) (o := .cells #[.int .i64 a1_0, .int .i64 a1_1] 49 (0, 0)) (fb_ BK60001.out)) : gb60004 ≠ gb60001)); clear HO_5 HO_13 HL60003_2 BK60001 HR60003_2 HB; have HO_5 := n0_; have HO_13 := n1_; have HL60003_2 := n2_; have BK60001 := n3_; have HR60003_2 := n4_; have HB := n5_; have BK60004 := n6_; have GW60004 := n7_; have GE60004 := n8_; have NB60001_60004 := n9_; have NB60004_60001 := n10_; clear n0_ n1_ n2_ n3_ n4_ n5_ n6_ n7_ n8_ n9_ n10_ hb hbox hg; have hnb28 := NB60004_60001.out; have hnc28 := NB60001_60004.out; have hcz29_0 : w27.cell? ⟨gb60004, 0, none⟩ = some (.int .i64 0) := (blk_cell BK60004.out 0).trans rfl; have hcz29_1 : w27.cell? ⟨gb60004, 1, none⟩ = some (.int .i64 0) := (blk_cell BK60004.out 1).trans rfl; have hcz29_2 : w27.cell? ⟨gb60004, 2, none⟩ = some (.slice none 0 0) := (blk_cell BK60004.out 2).trans rfl; have hfz29_0 := blk_frozen BK60004.out 0; have hfz29_1 := blk_frozen BK60004.out 1; have hfz29_2 := blk_frozen BK60004.out 2; have hcz30_0 : w27.cell? ⟨gb60001, 0, none⟩ = some (.int .i64 a1_0) := (blk_cell BK60001.out 0).trans rfl; have hcz30_1 : w27.cell? ⟨gb60001, 1, none⟩ = some (.int .i64 a1_1) := (blk_cell BK60001.out 1).trans rfl; have hfz30_0 := blk_frozen BK60001.out 0; have hfz30_1 := blk_frozen BK60001.out 1) | ((with_reducible refine gate_callee (f := 53) rfl ?_); refine goesL_ (some 26) rfl rfl Try.func53 (by kernel_rfl) rfl #[.agg #[.int .i64 x6_1, .int .i64 (wrap64 (x6_1 + ((rd_T36 l0 x15_1).f0)))], .agg #[.int .i64 a1_0, .int .i64 a1_1]] rfl la_ ?_; (with_reducible refine (span_Meet.calls x6_1 (wrap64 (x6_1 + ((rd_T36 l0 x15_1).f0))) a1_0 a1_1 t60005 t60006 _ A10.out).mono ?_); rintro e w31 ⟨rfl, hb⟩; refine ⟨_, rfl, ?_⟩; have n0_ := Aside0.mk (Kd.N_below (by (with_reducible repeat (first | apply Kd.N_alloc | apply Kd.N_drewN | apply Kd.N_drew)); exact (Kd.N_mono (Kd.N_far (p := ⟨gb60004, 2, none⟩) (Kd.N_far (p := ⟨gb60004, 1, none⟩) (Kd.N_far (p := ⟨gb60004, 0, none⟩) (Kd.N_mono HO_5.out (fun k_ hk => (⟨hk, hk.2⟩ : _ ∧ k_ ≠ gb60004))) (fun _ hk => hk.2) (.int .i64 ((rd_T36 l0 x15_1).f0))) (fun _ hk => hk.2) (.int .i64 ((rd_T36 l0 x15_1).f1.f0))) (fun _ hk => hk.2) (.slice A60003_2 ((rd_T36 l0 x15_1).f1.f1).length c60003_2)) (fun _ h_ => h_.1))) hb); have n1_ := Aside0.mk (Kd.V_below (by (with_reducible repeat (first | apply Kd.V_alloc | apply Kd.V_drewN | apply Kd.V_drew)); exact (Kd.V_mono (Kd.V_far (p := ⟨gb60004, 2, none⟩) (Kd.V_far (p := ⟨gb60004, 1, none⟩) (Kd.V_far (p := ⟨gb60004, 0, none⟩) (Kd.V_mono HO_13.out (fun k_ hk => (⟨hk, hk.2⟩ : _ ∧ k_ ≠ gb60004))) (fun _ hk => hk.2) (.int .i64 ((rd_T36 l0 x15_1).f0))) (fun _ hk => hk.2) (.int .i64 ((rd_T36 l0 x15_1).f1.f0))) (fun _ hk => hk.2) (.slice A60003_2 ((rd_T36 l0 x15_1).f1.f1).length c60003_2)) (fun _ h_ => h_.1))) hb); have n2_ := Aside0.mk (Kd.V_below (by (with_reducible repeat (first | apply Kd.V_alloc | apply Kd.V_drewN | apply Kd.V_drew)); exact (Kd.V_mono (Kd.V_far (p := ⟨gb60004, 2, none⟩) (Kd.V_far (p := ⟨gb60004, 1, none⟩) (Kd.V_far (p := ⟨gb60004, 0, none⟩) (Kd.V_mono HL60003_2.out (fun k_ hk => (⟨hk, hk.2⟩ : _ ∧ k_ ≠ gb60004))) (fun _ hk => hk.2) (.int .i64 ((rd_T36 l0 x15_1).f0))) (fun _ hk => hk.2) (.int .i64 ((rd_T36 l0 x15_1).f1.f0))) (fun _ hk => hk.2) (.slice A60003_2 ((rd_T36 l0 x15_1).f1.f1).length c60003_2)) (fun _ h_ => h_.1))) hb); have n3_ := Aside0.mk (blk_below (g := gb60001) (o := .cells #[.int .i64 a1_0, .int .i64 a1_1] 49 (0, 0)) (by (with_reducible repeat (first | refine blk_drewN ?_ _ | refine blk_drew ?_ | refine blk_alloc ?_ _)); refine blk_far ?_ NB60001_60004.out _; (with_reducible repeat (first | refine blk_drewN ?_ _ | refine blk_drew ?_ | refine blk_alloc ?_ _)); refine blk_far ?_ NB60001_60004.out _; (with_reducible repeat (first | refine blk_drewN ?_ _ | refine blk_drew ?_ | refine blk_alloc ?_ _)); refine blk_far ?_ NB60001_60004.out _; (with_reducible repeat (first | refine blk_drewN ?_ _ | refine blk_drew ?_ | refine blk_alloc ?_ _)); exact BK60001.out) hb); have n4_ := Aside0.mk (Kd.C_below ((Kd.V_reads' (by (with_reducible repeat (first | apply Kd.V_alloc | apply Kd.V_drewN | apply Kd.V_drew)); exact (Kd.V_mono (Kd.V_far (p := ⟨gb60004, 2, none⟩) (Kd.V_far (p := ⟨gb60004, 1, none⟩) (Kd.V_far (p := ⟨gb60004, 0, none⟩) (Kd.V_mono HL60003_2.out (fun k_ hk => (⟨hk, hk.2⟩ : _ ∧ k_ ≠ gb60004))) (fun _ hk => hk.2) (.int .i64 ((rd_T36 l0 x15_1).f0))) (fun _ hk => hk.2) (.int .i64 ((rd_T36 l0 x15_1).f1.f0))) (fun _ hk => hk.2) (.slice A60003_2 ((rd_T36 l0 x15_1).f1.f1).length c60003_2)) (fun _ h_ => h_.1)))).2.2) hb); have n5_ := Aside0.mk (blk_below (g := gb60004) (o := .cells #[.int .i64 ((rd_T36 l0 x15_1).f0), .int .i64 ((rd_T36 l0 x15_1).f1.f0), .slice A60003_2 ((rd_T36 l0 x15_1).f1.f1).length c60003_2] 36 (0, 0)) (by (with_reducible repeat (first | refine blk_drewN ?_ _ | refine blk_drew ?_ | refine blk_alloc ?_ _)); refine blk_put (cs := #[.int .i64 ((rd_T36 l0 x15_1).f0), .int .i64 ((rd_T36 l0 x15_1).f1.f0), .slice none 0 0]) ?_ 2 _ rfl; (with_reducible repeat (first | refine blk_drewN ?_ _ | refine blk_drew ?_ | refine blk_alloc ?_ _)); refine blk_put (cs := #[.int .i64 ((rd_T36 l0 x15_1).f0), .int .i64 0, .slice none 0 0]) ?_ 1 _ rfl; (with_reducible repeat (first | refine blk_drewN ?_ _ | refine blk_drew ?_ | refine blk_alloc ?_ _)); refine blk_put (cs := #[.int .i64 0, .int .i64 0, .slice none 0 0]) ?_ 0 _ rfl; (with_reducible repeat (first | refine blk_drewN ?_ _ | refine blk_drew ?_ | refine blk_alloc ?_ _)); exact BK60004.out) hb); have n6_ := Aside0.mk (bs_ hb); clear HO_5 HO_13 HL60003_2 BK60001 HR60003_2 BK60004 HB; have HO_5 := n0_; have HO_13 := n1_; have HL60003_2 := n2_; have BK60001 := n3_; have HR60003_2 := n4_; have BK60004 := n5_; have HB := n6_; clear n0_ n1_ n2_ n3_ n4_ n5_ n6_; (try clear hb); (try clear hb2); (try clear hk); (try clear hi)) | ((with_reducible refine gate_dst (N := 9) rfl ?_); refine box_event ?hg (N := 9) ?hd (cs := #[.int .i64 0, .int .i64 0]) (t := 49) ?hr ?_; (case hd => rfl); (case hg => rfl); (case hr => first | (go_simp; done) | (go_simp; rfl)); intro gb60007 hg w32 hbox hb; have n0_ := Aside0.mk (Kd.N_below (Kd.N_elderB (fN_ HO_5.out) gb60007 (Nat.le_of_eq hg.symm)) hb); have n1_ := Aside0.mk (Kd.V_below (Kd.V_elderB (fV_ HO_13.out) gb60007 (Nat.le_of_eq hg.symm)) hb); have n2_ := Aside0.mk (Kd.V_below (Kd.V_elderB (fV_ HL60003_2.out) gb60007 (Nat.le_of_eq hg.symm)) hb); have n3_ := Aside0.mk (blk_below (g := gb60001) (o := .cells #[.int .i64 a1_0, .int .i64 a1_1] 49 (0, 0)) (fb_ BK60001.out) hb); have n4_ := Aside0.mk (Kd.C_below (by repeat (first | (with_reducible exact HR60003_2.out) | (with_reducible refine Kd.C_alloc ?_ _) | (with_reducible refine Kd.C_drewN ?_ _) | (with_reducible refine Kd.C_drew ?_) | exact HR60003_2.out)) hb); have n5_ := Aside0.mk (blk_below (g := gb60004) (o := .cells #[.int .i64 ((rd_T36 l0 x15_1).f0), .int .i64 ((rd_T36 l0 x15_1).f1.f0), .slice A60003_2 ((rd_T36 l0 x15_1).f1.f1).length c60003_2] 36 (0, 0)) (fb_ BK60004.out) hb); have n6_ := Aside0.mk (bs_ hb); have n7_ := Aside0.mk (hbox); have n8_ := Aside0.mk ((by rw [hg]; exact bz_ : w.heap.size ≤ gb60007)); have n9_ := Aside0.mk ((by rw [hg]; exact bz_ : w.heap.size ≤ gb60007)); have n10_ := Aside0.mk ((by rw [hg]; exact Nat.ne_of_lt (blk_lt (g := gb60001) (o := .cells #[.int .i64 a1_0, .int .i64 a1_1] 49 (0, 0)) (fb_ BK60001.out)) : gb60001 ≠ gb60007)); have n11_ := Aside0.mk ((by rw [hg]; exact Nat.ne_of_gt (blk_lt (g := gb60001) (o := .cells #[.int .i64 a1_0, .int .i64 a1_1] 49 (0, 0)) (fb_ BK60001.out)) : gb60007 ≠ gb60001)); have n12_ := Aside0.mk ((by rw [hg]; exact Nat.ne_of_lt (blk_lt (g := gb60004) (o := .cells #[.int .i64 ((rd_T36 l0 x15_1).f0), .int .i64 ((rd_T36 l0 x15_1).f1.f0), .slice A60003_2 ((rd_T36 l0 x15_1).f1.f1).length c60003_2] 36 (0, 0)) (fb_ BK60004.out)) : gb60004 ≠ gb60007)); have n13_ := Aside0.mk ((by rw [hg]; exact Nat.ne_of_gt (blk_lt (g := gb60004) (o := .cells #[.int .i64 ((rd_T36 l0 x15_1).f0), .int .i64 ((rd_T36 l0 x15_1).f1.f0), .slice A60003_2 ((rd_T36 l0 x15_1).f1.f1).length c60003_2] 36 (0, 0)) (fb_ BK60004.out)) : gb60007 ≠ gb60004)); clear HO_5 HO_13 HL60003_2 BK60001 HR60003_2 BK60004 HB; have HO_5 := n0_; have HO_13 := n1_; have HL60003_2 := n2_; have BK60001 := n3_; have HR60003_2 := n4_; have BK60004 := n5_; have HB := n6_; have BK60007 := n7_; have GW60007 := n8_; have GE60007 := n9_; have NB60001_60007 := n10_; have NB60007_60001 := n11_; have NB60004_60007 := n12_; have NB60007_60004 := n13_; clear n0_ n1_ n2_ n3_ n4_ n5_ n6_ n7_ n8_ n9_ n10_ n11_ n12_ n13_ hb hbox hg; have hnb33 := NB60007_60001.out; have hnc33 := NB60001_60007.out; have hnb34 := NB60007_60004.out; have hnc34 := NB60004_60007.out; have hcz35_0 : w32.cell? ⟨gb60007, 0, none⟩ = some (.int .i64 0) := (blk_cell BK60007.out 0).trans rfl; have hcz35_1 : w32.cell? ⟨gb60007, 1, none⟩ = some (.int .i64 0) := (blk_cell BK60007.out 1).trans rfl; have hfz35_0 := blk_frozen BK60007.out 0; have hfz35_1 := blk_frozen BK60007.out 1; have hcz36_0 : w32.cell? ⟨gb60004, 0, none⟩ = some (.int .i64 ((rd_T36 l0 x15_1).f0)) := (blk_cell BK60004.out 0).trans rfl; have hcz36_1 : w32.cell? ⟨gb60004, 1, none⟩ = some (.int .i64 ((rd_T36 l0 x15_1).f1.f0)) := (blk_cell BK60004.out 1).trans rfl; have hcz36_2 : w32.cell? ⟨gb60004, 2, none⟩ = some (.slice A60003_2 ((rd_T36 l0 x15_1).f1.f1).length c60003_2) := (blk_cell BK60004.out 2).trans rfl; have hfz36_0 := blk_frozen BK60004.out 0; have hfz36_1 := blk_frozen BK60004.out 1; have hfz36_2 := blk_frozen BK60004.out 2))
        go_roundg k1
        case measure => have := HK1.out; omega
        case rel => exact ⟨(x5_1), (wrap64 (x6_1 + ((rd_T36 l0 x15_1).f0))), (wrap64 (x15_1 + 1)), (by first | rfl | (simp; done) | (simp [*]; done)), (by first | rfl | (simp; done) | (simp [*]; done)), H', ⟨by have := HK1.out; omega⟩, ⟨by (with_reducible repeat (first | apply Kd.N_alloc | apply Kd.N_drewN | apply Kd.N_drew)); exact Kd.N_mono (Kd.N_far (p := ⟨gb60007, 1, none⟩) (Kd.N_far (p := ⟨gb60007, 0, none⟩) (Kd.N_mono HO_5.out (fun k_ hk => (⟨hk, hk.2⟩ : _ ∧ k_ ≠ gb60007))) (fun _ hk => hk.2) (.int .i64 t60005)) (fun _ hk => hk.2) (.int .i64 t60006)) (fun _ hk => ⟨hk.1.1.1.1, hk.1.1.1.2⟩)⟩, ⟨by (with_reducible repeat (first | apply Kd.V_alloc | apply Kd.V_drewN | apply Kd.V_drew)); exact Kd.V_mono (Kd.V_far (p := ⟨gb60007, 1, none⟩) (Kd.V_far (p := ⟨gb60007, 0, none⟩) (Kd.V_mono HO_13.out (fun k_ hk => (⟨hk, hk.2⟩ : _ ∧ k_ ≠ gb60007))) (fun _ hk => hk.2) (.int .i64 t60005)) (fun _ hk => hk.2) (.int .i64 t60006)) (fun _ hk => ⟨hk.1.1.1.1, ⟨hk.1.1.1.2.1, hk.1.1.1.2.2⟩⟩)⟩, ⟨by (with_reducible repeat (first | refine blk_drewN ?_ _ | refine blk_drew ?_ | refine blk_alloc ?_ _)); refine blk_far ?_ NB60001_60007.out _; (with_reducible repeat (first | refine blk_drewN ?_ _ | refine blk_drew ?_ | refine blk_alloc ?_ _)); refine blk_far ?_ NB60001_60007.out _; (with_reducible repeat (first | refine blk_drewN ?_ _ | refine blk_drew ?_ | refine blk_alloc ?_ _)); exact BK60001.out⟩, ⟨be_⟩⟩
      ·rw [if_neg c9] at H
       exact absurd H (by simp)
     ·rw [if_neg c8] at H
      exact absurd H (by simp)
    ·rw [if_neg c7] at H
     have c7b0 : decide (x15_1 < (l0.length : Int)) = false := decide_eq_false c7
     clear c7
     obtain rfl := Option.some.inj H
     go_wp2
     go_ret
     exact ⟨_, er_, by (with_reducible repeat (first | apply Kd.N_alloc | apply Kd.N_drewN | apply Kd.N_drew)); exact Kd.N_mono HO_5.out (fun _ hk => hk.1), be_⟩
 ·rw [if_neg c4] at H
  have c4b0 : (t60002 == 0) = false := beq_eq_false_iff_ne.mpr c4
  have c4b1 : (t60002 != 0) = true := bne_iff_ne.mpr c4
  obtain rfl := Option.some.inj H
  go_enter Try.func60, Try.ntmps60
  go_wp2_with (first | ((with_reducible refine gate_dst (N := 3) rfl ?_); refine box_event ?hg (N := 3) ?hd (cs := #[.int .i64 a1_0, .int .i64 a1_1]) (t := 49) ?hr ?_; (case hd => rfl); (case hg => rfl); (case hr => first | (go_simp; done) | (go_simp; rfl)); intro gb60001 hg w37 hbox hb; have n0_ := Aside0.mk (Kd.V_below (Kd.V_elderB (fV_ HO0.out) gb60001 (Nat.le_of_eq hg.symm)) hb); have n1_ := Aside0.mk (bs_ hb); have n2_ := Aside0.mk (hbox); have n3_ := Aside0.mk ((by rw [hg]; exact bz_ : w.heap.size ≤ gb60001)); have n4_ := Aside0.mk ((by rw [hg]; exact bz_ : w.heap.size ≤ gb60001)); clear HO0 HB; have HO0 := n0_; have HB := n1_; have BK60001 := n2_; have GW60001 := n3_; have GE60001 := n4_; clear n0_ n1_ n2_ n3_ n4_; clear hb hbox hg) | ((with_reducible refine gate_callee (f := 25) rfl ?_); refine goesL_ (some 11) rfl rfl Try.func25 (by kernel_rfl) rfl #[.slice A0 l0.length c0] rfl la_ ?_; (with_reducible refine (solid_Check.calls k _ _ l0 t60002 _ ?side1 ?side2 A3.out).mono ?_); (case side1 => repeat (first | exact (Kd.V_reads' HO0.out).2.2 | (with_reducible refine Kd.C_alloc ?_ _) | (with_reducible refine Kd.C_drewN ?_ _) | (with_reducible refine Kd.C_drew ?_))); (case side2 => exact (Kd.V_reads' HO0.out).2.1); rintro e w38 ⟨rfl, hb⟩; refine ⟨_, rfl, ?_⟩; have n0_ := Aside0.mk (Kd.V_below (fV_ HO0.out) hb); have n1_ := Aside0.mk (blk_below (g := gb60001) (o := .cells #[.int .i64 a1_0, .int .i64 a1_1] 49 (0, 0)) (fb_ BK60001.out) hb); have n2_ := Aside0.mk (bs_ hb); clear HO0 BK60001 HB; have HO0 := n0_; have BK60001 := n1_; have HB := n2_; clear n0_ n1_ n2_; (try clear hb); (try clear hb2); (try clear hk); (try clear hi)))
  go_ret
  exact ⟨_, er_, by first | exact Kd.S_nil _ _ _ _ _ | exact Kd.N_nil _ _ _ _ _ | exact Kd.V_nil _ _ _ _ _ | exact Kd.Q_nil _ _ _ _ _ | exact Kd.R_nil _ _ _ _ _, be_⟩

end Go.Proofs.Ytdbjoopkliafeaa.P

end
section
namespace Go.Proofs.Ytdbjoopkliafeaa.P
open Go Go.RowKit Go.Proofs.YtdbjoopkliafeaaW.PrintWords Go.Proofs.YtdbjoopkliafeaaW.PrintLast Go.Proofs.YtdbjoopkliafeaaW.PrintMore
attribute [local go_sem] max2_int min2_int max_two min_two max_three min_three max_four min_four max_five min_eight max_eight   -- for this text's walks alone
set_option linter.unusedVariables false
set_option linter.unusedSimpArgs false

def solid_Length.f (k : Nat) (l0 : List (S36)) : Option (Int) := (solid_whole.f).bind fun bt33001 => ((solid_parts.f k l0 bt33001.1 bt33001.2).bind fun t33003 => (if (t33003.length : Int) = 0 then (some 0) else (if 0 ≤ (wrap64 ((t33003.length : Int) - 1)) then (if (wrap64 ((t33003.length : Int) - 1)) < (t33003.length : Int) then (some ((rd_T72 t33003 (wrap64 ((t33003.length : Int) - 1))).f0.f1)) else (none)) else (none))))
theorem solid_Length.mono : ∀ a0 k, LeO (solid_Length.f k a0) (solid_Length.f (k + 1) a0) := by
 intro a0 k
 unfold solid_Length.f
 repeat' first
   | (with_reducible exact solid_parts.mono _ _ _ _)
   | (with_reducible exact LeO.refl _)
   | (with_reducible exact LeO.none _)
   | (with_reducible refine LeO.ite ?_ ?_)
   | (with_reducible refine LeO.bind ?_ (fun _ => ?_))
   | exact solid_parts.mono _ _ _ _
   | exact LeO.none _
   | refine LeO.ite ?_ ?_
   | refine LeO.bind ?_ (fun _ => ?_)
set_option maxHeartbeats 8000000 in
set_option maxRecDepth 100000 in
theorem solid_Length.calls (k : Nat) (A0 : Option Addr) (c0 : Nat) (l0 : List (S36)) (r : Int) (w : World) (hr0 : Kd.C k36 w A0 l0.length l0) (hc0 : l0.length ≤ c0) (h : solid_Length.f k l0 = some r) :
  Calls Try.prog 33 #[.slice A0 l0.length c0] w fun e w' => e = .returned (.int .i64 r) ∧ Below w.heap.size w w' := by
 have HR0 := Aside0.mk hr0
 have HC0 := Aside0.mk hc0
 clear hr0 hc0
 have HB := Aside0.mk (Below.refl w.heap.size w)
 have H : ((solid_whole.f).bind fun bt33001 => ((solid_parts.f k l0 bt33001.1 bt33001.2).bind fun t33003 => (if (t33003.length : Int) = 0 then (some 0) else (if 0 ≤ (wrap64 ((t33003.length : Int) - 1)) then (if (wrap64 ((t33003.length : Int) - 1)) < (t33003.length : Int) then (some ((rd_T72 t33003 (wrap64 ((t33003.length : Int) - 1))).f0.f1)) else (none)) else (none))))) = some r := h
 clear h
 replace H := Option.bind_eq_some_iff.mp H
 obtain ⟨⟨t33001, t33002⟩, A20, H⟩ := H
 replace H : ((solid_parts.f k l0 t33001 t33002).bind fun t33003 => (if (t33003.length : Int) = 0 then (some 0) else (if 0 ≤ (wrap64 ((t33003.length : Int) - 1)) then (if (wrap64 ((t33003.length : Int) - 1)) < (t33003.length : Int) then (some ((rd_T72 t33003 (wrap64 ((t33003.length : Int) - 1))).f0.f1)) else (none)) else (none)))) = some r := H
 have A2 := Aside0.mk A20
 clear A20
 replace H := Option.bind_eq_some_iff.mp H
 obtain ⟨t33003, A30, H⟩ := H
 replace H : (if (t33003.length : Int) = 0 then (some 0) else (if 0 ≤ (wrap64 ((t33003.length : Int) - 1)) then (if (wrap64 ((t33003.length : Int) - 1)) < (t33003.length : Int) then (some ((rd_T72 t33003 (wrap64 ((t33003.length : Int) - 1))).f0.f1)) else (none)) else (none))) = some r := H
 have A3 := Aside0.mk A30
 clear A30
 by_cases c4 : (t33003.length : Int) = 0
 ·rw [if_pos c4] at H
  have c4b0 : ((t33003.length : Int) == 0) = true := beq_iff_eq.mpr c4
  have c4b1 : ((t33003.length : Int) != 0) = false := bne_eq_false_iff_eq.mpr c4
  clear c4
  obtain rfl := Option.some.inj H
  go_enter Try.func33, Try.ntmps33
  go_wp2_with (first | ((with_reducible refine gate_callee (f := 47) rfl ?_); refine goesL_ (some 5) rfl rfl Try.func47 (by kernel_rfl) rfl #[] rfl la_ ?_; (with_reducible refine (solid_whole.calls  t33001 t33002 _ A2.out).mono ?_); rintro e w5 ⟨rfl, hb⟩; refine ⟨_, rfl, ?_⟩; have n0_ := Aside0.mk (bs_ hb); clear HB; have HB := n0_; clear n0_; (try clear hb); (try clear hb2); (try clear hk); (try clear hi)) | ((with_reducible refine gate_callee (f := 60) rfl ?_); refine goesL_ (some 6) rfl rfl Try.func60 (by kernel_rfl) rfl #[.slice A0 l0.length c0, .agg #[.int .i64 t33001, .int .i64 t33002]] rfl la_ ?_; (with_reducible refine (solid_parts.calls k (fun k_ => k_ < w.heap.size) _ _ l0 t33001 t33002 t33003 _ ?side1 A3.out).mono ?_); (case side1 => exact Kd.V_mk HC0.out (Kd.F_below (Kd.C_F k36_heap HR0.out) be_)); rintro e w6 ⟨v33004, rfl, ho0, hb⟩; refine ⟨_, rfl, ?_⟩; have n0_ := Aside0.mk (Kd.N_lower (Kd.N_mono (ok' := fun k_ => True) ho0 (fun k_ hk_ => trivial)) bz_); have n1_ := Aside0.mk (bs_ hb); clear HB; have HO33005 := n0_; have HB := n1_; clear n0_ n1_; (try clear hb); (try clear hb2); (try clear hk); (try clear hi); (try clear ho0); obtain ⟨Ao7, co7, eo7⟩ := Kd.N_slice HO33005.out; subst eo7))
  go_ret
  exact ⟨er_, be_⟩
 ·rw [if_neg c4] at H
  have c4b0 : ((t33003.length : Int) == 0) = false := beq_eq_false_iff_ne.mpr c4
  have c4b1 : ((t33003.length : Int) != 0) = true := bne_iff_ne.mpr c4
  have c4b2 : ¬ (t33003 = []) := fun h_ => c4 (by rw [h_]; rfl)
  obtain ⟨ji8, hji8⟩ : ∃ j_ : Int, (wrap64 ((t33003.length : Int) - 1)) = j_ := ⟨_, rfl⟩
  replace H : (if 0 ≤ (ji8) then (if (ji8) < (t33003.length : Int) then (some ((rd_T72 t33003 (ji8)).f0.f1)) else (none)) else (none)) = some r := by first | (rw [hji8] at H; exact H) | (simp only [hji8] at H ⊢; exact H)
  (try rw [hji8] at A2)
  (try rw [hji8] at A3)
  have hji8w : (IntKind.i64.wrap ((t33003.length : Int) - 1)) = ji8 := (i64_w _).trans hji8
  by_cases c9 : 0 ≤ (ji8)
  ·rw [if_pos c9] at H
   have c9b0 : decide (0 ≤ (ji8)) = true := decide_eq_true c9
   clear c9
   by_cases c10 : (ji8) < (t33003.length : Int)
   ·rw [if_pos c10] at H
    have c10b0 : decide ((ji8) < (t33003.length : Int)) = true := decide_eq_true c10
    clear c10
    obtain rfl := Option.some.inj H
    go_enter Try.func33, Try.ntmps33
    go_wp2_with (first | ((with_reducible refine gate_callee (f := 47) rfl ?_); refine goesL_ (some 5) rfl rfl Try.func47 (by kernel_rfl) rfl #[] rfl la_ ?_; (with_reducible refine (solid_whole.calls  t33001 t33002 _ A2.out).mono ?_); rintro e w11 ⟨rfl, hb⟩; refine ⟨_, rfl, ?_⟩; have n0_ := Aside0.mk (bs_ hb); clear HB; have HB := n0_; clear n0_; (try clear hb); (try clear hb2); (try clear hk); (try clear hi)) | ((with_reducible refine gate_callee (f := 60) rfl ?_); refine goesL_ (some 6) rfl rfl Try.func60 (by kernel_rfl) rfl #[.slice A0 l0.length c0, .agg #[.int .i64 t33001, .int .i64 t33002]] rfl la_ ?_; (with_reducible refine (solid_parts.calls k (fun k_ => k_ < w.heap.size) _ _ l0 t33001 t33002 t33003 _ ?side1 A3.out).mono ?_); (case side1 => exact Kd.V_mk HC0.out (Kd.F_below (Kd.C_F k36_heap HR0.out) be_)); rintro e w12 ⟨v33004, rfl, ho0, hb⟩; refine ⟨_, rfl, ?_⟩; have n0_ := Aside0.mk (Kd.N_lower (Kd.N_mono (ok' := fun k_ => True) ho0 (fun k_ hk_ => trivial)) bz_); have n1_ := Aside0.mk (bs_ hb); clear HB; have HO33005 := n0_; have HB := n1_; clear n0_ n1_; (try clear hb); (try clear hb2); (try clear hk); (try clear hi); (try clear ho0); obtain ⟨Ao13, co13, eo13⟩ := Kd.N_slice HO33005.out; subst eo13; have p33006 : 0 ≤ ((ji8) : Int) := of_decide_eq_true (by first | (with_reducible assumption) | assumption); have q33006 : (ji8) < (t33003.length : Int) := of_decide_eq_true (by first | (with_reducible assumption) | assumption); obtain ⟨ad33006, A33006_3, c33006_3, e33006, hx33006_0, hx33006_1, hx33006_2, hx33006_3, hl33006_3, hi33006_3⟩ := at_T72 (Kd.N_reads' HO33005.out).2.2 (ji8) p33006 q33006; cases e33006; obtain ⟨ce33006, hce33006, hMe33006, hcc33006⟩ := Kd.N_get HO33005.out z72 (ji8) p33006 (by first | exact q33006 | exact of_decide_eq_true (by first | (with_reducible assumption) | assumption) | (have e_ := (Kd.N_reads' HO33005.out).1; omega)); obtain ⟨ua33006_3, uc33006_3, rfl, ul33006_3, ge33006_3⟩ := k72_openF hMe33006; have hv33006_3 := hcc33006 3 _ rfl; rw [add_field _ _ 3 (by omega)] at hv33006_3; replace hv33006_3 := Option.some.inj (hv33006_3.symm.trans hx33006_3); injection hv33006_3 with hva_ hvn_ hvc_; rw [hva_] at ge33006_3; rw [hvc_] at ul33006_3; have HL33006_3 := Aside0.mk (show Kd.V k49 49 _ w.heap.size _ _ ((rd_T72 t33003 (ji8)).f1.f1) from Kd.V_mk ul33006_3 ge33006_3); clear hva_ hvn_ hvc_ ge33006_3 ul33006_3 hcc33006 hce33006; have HR33006_3 := Aside0.mk hi33006_3; have HC33006_3 := Aside0.mk hl33006_3; clear hi33006_3 hl33006_3; replace p33006 := eq_true p33006; replace q33006 := eq_true q33006))
    go_ret
    exact ⟨by first | rfl | (simp [errW_none, errW_some] <;> rfl) | (simp only [← hji8]; first | rfl | (simp [errW_none, errW_some] <;> rfl)) | (simp [*, errW_none, errW_some] <;> rfl), be_⟩
   ·rw [if_neg c10] at H
    exact absurd H (by simp)
  ·rw [if_neg c9] at H
   exact absurd H (by simp)

end Go.Proofs.Ytdbjoopkliafeaa.P

end
section
namespace Go.Proofs.Ytdbjoopkliafeaa.P
open Go Go.RowKit Go.Proofs.YtdbjoopkliafeaaW.PrintWords Go.Proofs.YtdbjoopkliafeaaW.PrintLast Go.Proofs.YtdbjoopkliafeaaW.PrintMore
attribute [local go_sem] max2_int min2_int max_two min_two max_three min_three max_four min_four max_five min_eight max_eight   -- for this text's walks alone
set_option linter.unusedVariables false
set_option linter.unusedSimpArgs false

def shape_Taper.f (k : Nat) (l0 : List (S36)) : Option (Int) := (solid_Check.f k l0).bind fun t21001 => (if t21001 = 0 then (if 0 < (l0.length : Int) then ((shape_Diameter.f k ((rd_T36 l0 0).f1.f0) ((rd_T36 l0 0).f1.f1)).bind fun t21003 => ((shape_Top.f k l0).bind fun t21004 => ((solid_Length.f k l0).bind fun t21005 => (if t21005 = 0 then (none) else (some (wrap64 (Int.tdiv (wrap64 ((mx 0 (wrap64 (t21003 - t21004))) * 10000)) t21005))))))) else (none)) else (some 0))
theorem shape_Taper.mono : ∀ a0 k, LeO (shape_Taper.f k a0) (shape_Taper.f (k + 1) a0) := by
 intro a0 k
 unfold shape_Taper.f
 repeat' first
   | (with_reducible exact shape_Diameter.mono _ _ _)
   | (with_reducible exact shape_Top.mono _ _)
   | (with_reducible exact solid_Check.mono _ _)
   | (with_reducible exact solid_Length.mono _ _)
   | (with_reducible exact LeO.refl _)
   | (with_reducible exact LeO.none _)
   | (with_reducible refine LeO.ite ?_ ?_)
   | (with_reducible refine LeO.bind ?_ (fun _ => ?_))
   | exact shape_Diameter.mono _ _ _
   | exact shape_Top.mono _ _
   | exact solid_Check.mono _ _
   | exact solid_Length.mono _ _
   | exact LeO.none _
   | refine LeO.ite ?_ ?_
   | refine LeO.bind ?_ (fun _ => ?_)
set_option maxHeartbeats 8000000 in
set_option maxRecDepth 100000 in
theorem shape_Taper.calls (k : Nat) (A0 : Option Addr) (c0 : Nat) (l0 : List (S36)) (r : Int) (w : World) (hr0 : Kd.C k36 w A0 l0.length l0) (hc0 : l0.length ≤ c0) (h : shape_Taper.f k l0 = some r) :
  Calls Try.prog 21 #[.slice A0 l0.length c0] w fun e w' => e = .returned (.int .i64 r) ∧ Below w.heap.size w w' := by
 have hu24 := Try.underlying24
 have HR0 := Aside0.mk hr0
 have HC0 := Aside0.mk hc0
 clear hr0 hc0
 have HB := Aside0.mk (Below.refl w.heap.size w)
 have H : ((solid_Check.f k l0).bind fun t21001 => (if t21001 = 0 then (if 0 < (l0.length : Int) then ((shape_Diameter.f k ((rd_T36 l0 0).f1.f0) ((rd_T36 l0 0).f1.f1)).bind fun t21003 => ((shape_Top.f k l0).bind fun t21004 => ((solid_Length.f k l0).bind fun t21005 => (if t21005 = 0 then (none) else (some (wrap64 (Int.tdiv (wrap64 ((mx 0 (wrap64 (t21003 - t21004))) * 10000)) t21005))))))) else (none)) else (some 0))) = some r := h
 clear h
 replace H := Option.bind_eq_some_iff.mp H
 obtain ⟨t21001, A20, H⟩ := H
 replace H : (if t21001 = 0 then (if 0 < (l0.length : Int) then ((shape_Diameter.f k ((rd_T36 l0 0).f1.f0) ((rd_T36 l0 0).f1.f1)).bind fun t21003 => ((shape_Top.f k l0).bind fun t21004 => ((solid_Length.f k l0).bind fun t21005 => (if t21005 = 0 then (none) else (some (wrap64 (Int.tdiv (wrap64 ((mx 0 (wrap64 (t21003 - t21004))) * 10000)) t21005))))))) else (none)) else (some 0)) = some r := H
 have A2 := Aside0.mk A20
 clear A20
 by_cases c3 : t21001 = 0
 ·rw [if_pos c3] at H
  have c3b0 : (t21001 == 0) = true := beq_iff_eq.mpr c3
  have c3b1 : (t21001 != 0) = false := bne_eq_false_iff_eq.mpr c3
  clear c3
  by_cases c4 : 0 < (l0.length : Int)
  ·rw [if_pos c4] at H
   have c4b0 : decide (0 < (l0.length : Int)) = true := decide_eq_true c4
   have c4b1 : decide (0 < l0.length) = true := decide_eq_true (by omega)
   clear c4
   replace H := Option.bind_eq_some_iff.mp H
   obtain ⟨t21003, A50, H⟩ := H
   replace H : ((shape_Top.f k l0).bind fun t21004 => ((solid_Length.f k l0).bind fun t21005 => (if t21005 = 0 then (none) else (some (wrap64 (Int.tdiv (wrap64 ((mx 0 (wrap64 (t21003 - t21004))) * 10000)) t21005)))))) = some r := H
   have A5 := Aside0.mk A50
   clear A50
   replace H := Option.bind_eq_some_iff.mp H
   obtain ⟨t21004, A60, H⟩ := H
   replace H : ((solid_Length.f k l0).bind fun t21005 => (if t21005 = 0 then (none) else (some (wrap64 (Int.tdiv (wrap64 ((mx 0 (wrap64 (t21003 - t21004))) * 10000)) t21005))))) = some r := H
   have A6 := Aside0.mk A60
   clear A60
   obtain ⟨ji7, hji7⟩ : ∃ j_ : Int, (mx 0 (wrap64 (t21003 - t21004))) = j_ := ⟨_, rfl⟩
   replace H : ((solid_Length.f k l0).bind fun t21005 => (if t21005 = 0 then (none) else (some (wrap64 (Int.tdiv (wrap64 ((ji7) * 10000)) t21005))))) = some r := by first | (rw [hji7] at H; exact H) | (simp only [hji7] at H ⊢; exact H)
   (try rw [hji7] at A2)
   (try rw [hji7] at A5)
   (try rw [hji7] at A6)
   (try (have hji7l : 0 ≤ ji7 := by (rw [← hji7]; unfold mx; (repeat' split) <;> omega)))
   (try (have hji7m : 0 ≤ ji7 := by omega))
   have hji7_ : (if 0 < (wrap64 (t21003 - t21004)) then (wrap64 (t21003 - t21004)) else 0) = ji7 := hji7
   replace H := Option.bind_eq_some_iff.mp H
   obtain ⟨t21005, A80, H⟩ := H
   replace H : (if t21005 = 0 then (none) else (some (wrap64 (Int.tdiv (wrap64 ((ji7) * 10000)) t21005)))) = some r := H
   have A8 := Aside0.mk A80
   clear A80
   by_cases c9 : t21005 = 0
   ·rw [if_pos c9] at H
    exact absurd H (by simp)
   ·rw [if_neg c9] at H
    have c9b0 : (t21005 == 0) = false := beq_eq_false_iff_ne.mpr c9
    have c9b1 : (t21005 != 0) = true := bne_iff_ne.mpr c9
    obtain rfl := Option.some.inj H
    go_enter Try.func21, Try.ntmps21
    go_wp2_with (first | ((with_reducible refine gate_callee (f := 25) rfl ?_); refine goesL_ (some 4) rfl rfl Try.func25 (by kernel_rfl) rfl #[.slice A0 l0.length c0] rfl la_ ?_; (with_reducible refine (solid_Check.calls k _ _ l0 t21001 _ ?side1 ?side2 A2.out).mono ?_); (case side1 => repeat (first | exact HR0.out | (with_reducible refine Kd.C_alloc ?_ _) | (with_reducible refine Kd.C_drewN ?_ _) | (with_reducible refine Kd.C_drew ?_))); (case side2 => exact HC0.out); rintro e w10 ⟨rfl, hb⟩; refine ⟨_, rfl, ?_⟩; have n0_ := Aside0.mk (bs_ hb); clear HB; have HB := n0_; clear n0_; (try clear hb); (try clear hb2); (try clear hk); (try clear hi); have p21002 : 0 ≤ (0 : Int) := (by omega); have q21002 : 0 < (l0.length : Int) := of_decide_eq_true (by first | (with_reducible assumption) | assumption); obtain ⟨ad21002, A21002_2, c21002_2, e21002, hx21002_0, hx21002_1, hx21002_2, hl21002_2, hi21002_2⟩ := at_T36 HR0.out 0 p21002 q21002; cases e21002; have qi21002 : (0 < l0.length) = True := eq_true (by omega); (try rw [show ((0 : Int)).toNat = 0 from rfl] at hx21002_0); (try rw [show 0 * 3 = 0 from rfl] at hx21002_0); (try rw [Addr.add_zero'] at hx21002_0); (try rw [show ((0 : Int)).toNat = 0 from rfl] at hx21002_1); (try rw [show 0 * 3 = 0 from rfl] at hx21002_1); (try rw [Addr.add_zero'] at hx21002_1); (try rw [show ((0 : Int)).toNat = 0 from rfl] at hx21002_2); (try rw [show 0 * 3 = 0 from rfl] at hx21002_2); (try rw [Addr.add_zero'] at hx21002_2); replace hx21002_0 := (HB.out.cell (World.block_lt_of_cell? w _ hx21002_0)).trans hx21002_0; replace hx21002_1 := (HB.out.cell (World.block_lt_of_cell? w _ hx21002_1)).trans hx21002_1; replace hx21002_2 := (HB.out.cell (World.block_lt_of_cell? w _ hx21002_2)).trans hx21002_2; have HR21002_2 := Aside0.mk hi21002_2; have HC21002_2 := Aside0.mk hl21002_2; clear hi21002_2 hl21002_2; replace p21002 := eq_true p21002; replace q21002 := eq_true q21002) | ((with_reducible refine gate_callee (f := 12) rfl ?_); refine goesL_ (some 10) rfl rfl Try.func12 (by kernel_rfl) rfl #[.agg #[.int .i64 ((rd_T36 l0 0).f1.f0), .slice A21002_2 ((rd_T36 l0 0).f1.f1).length c21002_2]] rfl la_ ?_; (with_reducible refine (shape_Diameter.calls k ((rd_T36 l0 0).f1.f0) _ _ ((rd_T36 l0 0).f1.f1) t21003 _ ?side1 ?side2 A5.out).mono ?_); (case side1 => repeat (first | exact (Kd.C_below HR21002_2.out HB.out) | (with_reducible refine Kd.C_alloc ?_ _) | (with_reducible refine Kd.C_drewN ?_ _) | (with_reducible refine Kd.C_drew ?_))); (case side2 => exact HC21002_2.out); rintro e w11 ⟨rfl, hb⟩; refine ⟨_, rfl, ?_⟩; have n0_ := Aside0.mk (bs_ hb); clear HB; have HB := n0_; clear n0_; (try clear hb); (try clear hb2); (try clear hk); (try clear hi)) | ((with_reducible refine gate_callee (f := 19) rfl ?_); refine goesL_ (some 12) rfl rfl Try.func19 (by kernel_rfl) rfl #[.slice (some ad21002) l0.length c0] rfl la_ ?_; (with_reducible refine (shape_Top.calls k _ _ l0 t21004 _ ?side1 ?side2 A6.out).mono ?_); (case side1 => repeat (first | exact (Kd.C_below HR0.out HB.out) | (with_reducible refine Kd.C_alloc ?_ _) | (with_reducible refine Kd.C_drewN ?_ _) | (with_reducible refine Kd.C_drew ?_))); (case side2 => exact HC0.out); rintro e w12 ⟨rfl, hb⟩; refine ⟨_, rfl, ?_⟩; have n0_ := Aside0.mk (bs_ hb); clear HB; have HB := n0_; clear n0_; (try clear hb); (try clear hb2); (try clear hk); (try clear hi)) | ((with_reducible refine gate_callee (f := 33) rfl ?_); refine goesL_ (some 17) rfl rfl Try.func33 (by kernel_rfl) rfl #[.slice (some ad21002) l0.length c0] rfl la_ ?_; (with_reducible refine (solid_Length.calls k _ _ l0 t21005 _ ?side1 ?side2 A8.out).mono ?_); (case side1 => repeat (first | exact (Kd.C_below HR0.out HB.out) | (with_reducible refine Kd.C_alloc ?_ _) | (with_reducible refine Kd.C_drewN ?_ _) | (with_reducible refine Kd.C_drew ?_))); (case side2 => exact HC0.out); rintro e w13 ⟨rfl, hb⟩; refine ⟨_, rfl, ?_⟩; have n0_ := Aside0.mk (bs_ hb); clear HB; have HB := n0_; clear n0_; (try clear hb); (try clear hb2); (try clear hk); (try clear hi)))
    go_ret
    exact ⟨by first | rfl | (simp [errW_none, errW_some] <;> rfl) | (simp only [← hji7]; first | rfl | (simp [errW_none, errW_some] <;> rfl)) | (simp [*, errW_none, errW_some] <;> rfl), be_⟩
  ·rw [if_neg c4] at H
   exact absurd H (by simp)
 ·rw [if_neg c3] at H
  have c3b0 : (t21001 == 0) = false := beq_eq_false_iff_ne.mpr c3
  have c3b1 : (t21001 != 0) = true := bne_iff_ne.mpr c3
  obtain rfl := Option.some.inj H
  go_enter Try.func21, Try.ntmps21
  go_wp2_with (first | ((with_reducible refine gate_callee (f := 25) rfl ?_); refine goesL_ (some 4) rfl rfl Try.func25 (by kernel_rfl) rfl #[.slice A0 l0.length c0] rfl la_ ?_; (with_reducible refine (solid_Check.calls k _ _ l0 t21001 _ ?side1 ?side2 A2.out).mono ?_); (case side1 => repeat (first | exact HR0.out | (with_reducible refine Kd.C_alloc ?_ _) | (with_reducible refine Kd.C_drewN ?_ _) | (with_reducible refine Kd.C_drew ?_))); (case side2 => exact HC0.out); rintro e w14 ⟨rfl, hb⟩; refine ⟨_, rfl, ?_⟩; have n0_ := Aside0.mk (bs_ hb); clear HB; have HB := n0_; clear n0_; (try clear hb); (try clear hb2); (try clear hk); (try clear hi)))
  go_ret
  exact ⟨er_, be_⟩

end Go.Proofs.Ytdbjoopkliafeaa.P

end
section
namespace Go.Proofs.Ytdbjoopkliafeaa.P
open Go Go.RowKit Go.Proofs.YtdbjoopkliafeaaW.PrintWords Go.Proofs.YtdbjoopkliafeaaW.PrintLast Go.Proofs.YtdbjoopkliafeaaW.PrintMore
attribute [local go_sem] max2_int min2_int max_two min_two max_three min_three max_four min_four max_five min_eight max_eight   -- for this text's walks alone
set_option linter.unusedVariables false
set_option linter.unusedSimpArgs false

theorem eqA28 (d : Nat) (w : World) (x0 y0 : Int) (x1 y1 : Int) :
  (Op.equalIn (d + 2) 28 (.agg #[.int .i64 x0, .int .i64 x1]) (.agg #[.int .i64 y0, .int .i64 y1])).run Try.prog w = .ok (x0 == y0 && (x1 == y1)) w := by
 refine eqA_of Try.underlying28 (by kernel_rfl) ?_
 refine eqf_cons (by rfl) (by go_simp; rfl) (by go_simp; rfl) (by go_simp) ?_
 exact eqf_last (by rfl) (by go_simp; rfl) (by go_simp; rfl) (by go_simp)
end Go.Proofs.Ytdbjoopkliafeaa.P

end
section
namespace Go.Proofs.Ytdbjoopkliafeaa.P
open Go Go.RowKit Go.Proofs.YtdbjoopkliafeaaW.PrintWords Go.Proofs.YtdbjoopkliafeaaW.PrintLast Go.Proofs.YtdbjoopkliafeaaW.PrintMore
attribute [local go_sem] max2_int min2_int max_two min_two max_three min_three max_four min_four max_five min_eight max_eight   -- for this text's walks alone
set_option linter.unusedVariables false
set_option linter.unusedSimpArgs false

def section_Bounds.l0 : Nat → List (S49) → Int → Int → Int → List (S49) → Int → Int → Option (Int × Int × Int × Int)
 | 0, _, _, _, _, _, _, _ => none
 | k + 1, x18, x19, x20, x65002000, x65002001, x65009000, x65009001 => if x20 < x19 then (if 0 ≤ x20 then (if x20 < (x18.length : Int) then ((section_empty.f ((rd_T49 x18 x20).f0) ((rd_T49 x18 x20).f1)).bind fun t65011 => (if t65011 = true then (section_Bounds.l0 k x18 x19 (wrap64 (x20 + 1)) x65002000 x65002001 x65009000 x65009001) else (section_Bounds.l0 k x18 x19 (wrap64 (x20 + 1)) x65002000 x65002001 (mn x65009000 ((rd_T49 x18 x20).f0)) (mx x65009001 ((rd_T49 x18 x20).f1))))) else (none)) else (none)) else (some (x65009000, x65009001, wrap64 (10 * x65002000), wrap64 (10 * (wrap64 (x65002000 + (x65002001.length : Int))))))
def section_Bounds.f (k : Nat) (a0_0 : Int) (l0_1 : List (S49)) : Option (Int × Int × Int × Int) := (section_valid.f k a0_0 l0_1).bind fun bt65003 => (if (bt65003.2.length : Int) = 0 then (some (0, 0, 0, 0)) else (if 0 < (bt65003.2.length : Int) then (section_Bounds.l0 k bt65003.2 (bt65003.2.length : Int) 0 bt65003.1 bt65003.2 ((rd_T49 bt65003.2 0).f0) ((rd_T49 bt65003.2 0).f1)) else (none)))
theorem section_Bounds.mono_l : ∀ k, (∀ y0 y1 y2 y3 y4 y5 y6, LeO (section_Bounds.l0 k y0 y1 y2 y3 y4 y5 y6) (section_Bounds.l0 (k + 1) y0 y1 y2 y3 y4 y5 y6))
 | 0 => fun _ _ _ _ _ _ _ r h => by simp [section_Bounds.l0] at h
 | k + 1 => by
  have ih0 := section_Bounds.mono_l k
  ·intro y0 y1 y2 y3 y4 y5 y6
   unfold section_Bounds.l0
   repeat' first
   | (with_reducible exact ih0 _ _ _ _ _ _ _)
   | (with_reducible exact section_valid.mono _ _ _)
   | (with_reducible exact LeO.refl _)
   | (with_reducible exact LeO.none _)
   | (with_reducible refine LeO.ite ?_ ?_)
   | (with_reducible refine LeO.bind ?_ (fun _ => ?_))
   | exact ih0 _ _ _ _ _ _ _
   | exact section_valid.mono _ _ _
   | exact LeO.none _
   | refine LeO.ite ?_ ?_
   | refine LeO.bind ?_ (fun _ => ?_)
theorem section_Bounds.mono : ∀ a0 a1 k, LeO (section_Bounds.f k a0 a1) (section_Bounds.f (k + 1) a0 a1) := by
 intro a0 a1 k
 have ih0 := section_Bounds.mono_l k
 unfold section_Bounds.f
 repeat' first
   | (with_reducible exact ih0 _ _ _ _ _ _ _)
   | (with_reducible exact section_valid.mono _ _ _)
   | (with_reducible exact LeO.refl _)
   | (with_reducible exact LeO.none _)
   | (with_reducible refine LeO.ite ?_ ?_)
   | (with_reducible refine LeO.bind ?_ (fun _ => ?_))
   | exact ih0 _ _ _ _ _ _ _
   | exact section_valid.mono _ _ _
   | exact LeO.none _
   | refine LeO.ite ?_ ?_
   | refine LeO.bind ?_ (fun _ => ?_)
set_option maxHeartbeats 8000000 in
set_option maxRecDepth 100000 in
theorem section_Bounds.calls (k : Nat) (a0_0 : Int) (A0_1 : Option Addr) (c0_1 : Nat) (l0_1 : List (S49)) (r1 : Int) (r2 : Int) (r3 : Int) (r4 : Int) (w : World) (hr0_1 : Kd.C k49 w A0_1 l0_1.length l0_1) (hc0_1 : l0_1.length ≤ c0_1) (h : section_Bounds.f k a0_0 l0_1 = some (r1, r2, r3, r4)) :
  Calls Try.prog 65 #[.agg #[.int .i64 a0_0, .slice A0_1 l0_1.length c0_1]] w fun e w' => e = .returned (.agg #[.int .i64 r1, .int .i64 r2, .int .i64 r3, .int .i64 r4]) ∧ Below w.heap.size w w' := by
 have hu24 := Try.underlying24
 have hu54 := Try.underlying54
 have hu49 := Try.underlying49
 have HR0_1 := Aside0.mk hr0_1
 have HC0_1 := Aside0.mk hc0_1
 clear hr0_1 hc0_1
 have HB := Aside0.mk (Below.refl w.heap.size w)
 have H : ((section_valid.f k a0_0 l0_1).bind fun bt65003 => (if (bt65003.2.length : Int) = 0 then (some (0, 0, 0, 0)) else (if 0 < (bt65003.2.length : Int) then (section_Bounds.l0 k bt65003.2 (bt65003.2.length : Int) 0 bt65003.1 bt65003.2 ((rd_T49 bt65003.2 0).f0) ((rd_T49 bt65003.2 0).f1)) else (none)))) = some (r1, r2, r3, r4) := h
 clear h
 replace H := Option.bind_eq_some_iff.mp H
 obtain ⟨⟨t65003, t65004⟩, A20, H⟩ := H
 replace H : (if (t65004.length : Int) = 0 then (some (0, 0, 0, 0)) else (if 0 < (t65004.length : Int) then (section_Bounds.l0 k t65004 (t65004.length : Int) 0 t65003 t65004 ((rd_T49 t65004 0).f0) ((rd_T49 t65004 0).f1)) else (none))) = some (r1, r2, r3, r4) := H
 have A2 := Aside0.mk A20
 clear A20
 by_cases c3 : (t65004.length : Int) = 0
 ·rw [if_pos c3] at H
  have c3b0 : ((t65004.length : Int) == 0) = true := beq_iff_eq.mpr c3
  have c3b1 : ((t65004.length : Int) != 0) = false := bne_eq_false_iff_eq.mpr c3
  clear c3
  simp only [Option.some.injEq, Prod.mk.injEq] at H
  obtain ⟨rfl, rfl, rfl, rfl⟩ := H
  go_enter Try.func65, Try.ntmps65
  go_wp2_with (first | ((with_reducible refine gate_dst (N := 1) rfl ?_); refine box_event ?hg (N := 1) ?hd (cs := #[.int .i64 a0_0, .slice A0_1 l0_1.length c0_1]) (t := 24) ?hr ?_; (case hd => rfl); (case hg => rfl); (case hr => first | (go_simp; done) | (go_simp; rfl)); intro gb65001 hg w4 hbox hb; have n0_ := Aside0.mk (bs_ hb); have n1_ := Aside0.mk (hbox); have n2_ := Aside0.mk ((by rw [hg]; exact bz_ : w.heap.size ≤ gb65001)); have n3_ := Aside0.mk ((by rw [hg]; exact bz_ : w.heap.size ≤ gb65001)); clear HB; have HB := n0_; have BK65001 := n1_; have GW65001 := n2_; have GE65001 := n3_; clear n0_ n1_ n2_ n3_; clear hb hbox hg) | ((with_reducible refine gate_dst (N := 2) rfl ?_); refine box_event ?hg (N := 2) ?hd (cs := #[.int .i64 0, .int .i64 0, .int .i64 0, .int .i64 0]) (t := 54) ?hr ?_; (case hd => rfl); (case hg => rfl); (case hr => first | (go_simp; done) | (go_simp; rfl)); intro gb65002 hg w5 hbox hb; have n0_ := Aside0.mk (blk_below (g := gb65001) (o := .cells #[.int .i64 a0_0, .slice A0_1 l0_1.length c0_1] 24 (0, 0)) (fb_ BK65001.out) hb); have n1_ := Aside0.mk (bs_ hb); have n2_ := Aside0.mk (hbox); have n3_ := Aside0.mk ((by rw [hg]; exact bz_ : w.heap.size ≤ gb65002)); have n4_ := Aside0.mk ((by rw [hg]; exact bz_ : w.heap.size ≤ gb65002)); have n5_ := Aside0.mk ((by rw [hg]; exact Nat.ne_of_lt (blk_lt (g := gb65001) (o := .cells #[.int .i64 a0_0, .slice A0_1 l0_1.length c0_1] 24 (0, 0)) (fb_ BK65001.out)) : gb65001 ≠ gb65002)); have n6_ := Aside0.mk ((by rw [hg]; exact Nat.ne_of_gt (blk_lt (g := gb65001) (o := .cells #[.int .i64 a0_0, .slice A0_1 l0_1.length c0_1] 24 (0, 0)) (fb_ BK65001.out)) : gb65002 ≠ gb65001)); clear BK65001 HB; have BK65001 := n0_; have HB := n1_; have BK65002 := n2_; have GW65002 := n3_; have GE65002 := n4_; have NB65001_65002 := n5_; have NB65002_65001 := n6_; clear n0_ n1_ n2_ n3_ n4_ n5_ n6_ hb hbox hg; have hnb6 := NB65001_65002.out; have hnc6 := NB65002_65001.out; have hcz7_0 : w5.cell? ⟨gb65001, 0, none⟩ = some (.int .i64 a0_0) := (blk_cell BK65001.out 0).trans rfl; have hcz7_1 : w5.cell? ⟨gb65001, 1, none⟩ = some (.slice A0_1 l0_1.length c0_1) := (blk_cell BK65001.out 1).trans rfl; have hfz7_0 := blk_frozen BK65001.out 0; have hfz7_1 := blk_frozen BK65001.out 1) | ((with_reducible refine gate_callee (f := 49) rfl ?_); refine goesL_ (some 7) rfl rfl Try.func49 (by kernel_rfl) rfl #[.agg #[.int .i64 a0_0, .slice A0_1 l0_1.length c0_1]] rfl la_ ?_; (with_reducible refine (section_valid.calls k a0_0 (fun k_ => k_ < w.heap.size) _ _ l0_1 t65003 t65004 _ ?side1 A2.out).mono ?_); (case side1 => exact Kd.V_mk HC0_1.out (Kd.F_below (Kd.C_F k49_heap HR0_1.out) be_)); rintro e w8 ⟨v65005, rfl, ho0, hb⟩; refine ⟨_, rfl, ?_⟩; have n0_ := Aside0.mk (Kd.V_lower (Kd.V_mono (ok' := fun k_ => k_ ≠ gb65001 ∧ k_ ≠ gb65002) ho0 (fun k_ hk_ => ⟨Or.elim hk_ (fun hs_ => fun e_ => Nat.not_le.2 hs_ (by rw [e_]; exact GW65001.out)) (fun hn_ => (Kd.freshB (g := gb65001) (o := .cells #[.int .i64 a0_0, .slice A0_1 l0_1.length c0_1] 24 (0, 0)) (fb_ BK65001.out) k_ hn_)), Or.elim hk_ (fun hs_ => fun e_ => Nat.not_le.2 hs_ (by rw [e_]; exact GW65002.out)) (fun hn_ => (Kd.freshB (g := gb65002) (o := .cells #[.int .i64 0, .int .i64 0, .int .i64 0, .int .i64 0] 54 (0, 0)) (fb_ BK65002.out) k_ hn_))⟩)) bz_); have n1_ := Aside0.mk (blk_below (g := gb65001) (o := .cells #[.int .i64 a0_0, .slice A0_1 l0_1.length c0_1] 24 (0, 0)) (fb_ BK65001.out) hb); have n2_ := Aside0.mk (blk_below (g := gb65002) (o := .cells #[.int .i64 0, .int .i64 0, .int .i64 0, .int .i64 0] 54 (0, 0)) (fb_ BK65002.out) hb); have n3_ := Aside0.mk (bs_ hb); clear BK65001 BK65002 HB; have HO65006 := n0_; have BK65001 := n1_; have BK65002 := n2_; have HB := n3_; clear n0_ n1_ n2_ n3_; (try clear hb); (try clear hb2); (try clear hk); (try clear hi); (try clear ho0); have hcz9_0 : w8.cell? ⟨gb65001, 0, none⟩ = some (.int .i64 a0_0) := (blk_cell BK65001.out 0).trans rfl; have hcz9_1 : w8.cell? ⟨gb65001, 1, none⟩ = some (.slice A0_1 l0_1.length c0_1) := (blk_cell BK65001.out 1).trans rfl; have hfz9_0 := blk_frozen BK65001.out 0; have hfz9_1 := blk_frozen BK65001.out 1; obtain ⟨Ao10, co10, eo10⟩ := Kd.V_slice HO65006.out; subst eo10; have hcz11_0 : w8.cell? ⟨gb65002, 0, none⟩ = some (.int .i64 0) := (blk_cell BK65002.out 0).trans rfl; have hcz11_1 : w8.cell? ⟨gb65002, 1, none⟩ = some (.int .i64 0) := (blk_cell BK65002.out 1).trans rfl; have hcz11_2 : w8.cell? ⟨gb65002, 2, none⟩ = some (.int .i64 0) := (blk_cell BK65002.out 2).trans rfl; have hcz11_3 : w8.cell? ⟨gb65002, 3, none⟩ = some (.int .i64 0) := (blk_cell BK65002.out 3).trans rfl; have hfz11_0 := blk_frozen BK65002.out 0; have hfz11_1 := blk_frozen BK65002.out 1; have hfz11_2 := blk_frozen BK65002.out 2; have hfz11_3 := blk_frozen BK65002.out 3))
  refine bodyPost_ret (results_cell_row rfl _ _ gb65002 54 #[.int .i64 0, .int .i64 0, .int .i64 0, .int .i64 0] (0, 0) _ rfl (by (with_reducible repeat (first | refine blk_drewN ?_ _ | refine blk_drew ?_ | refine blk_alloc ?_ _)); refine blk_put (cs := #[.int .i64 0, .int .i64 0, .int .i64 0, .int .i64 0]) ?_ 3 _ rfl; (with_reducible repeat (first | refine blk_drewN ?_ _ | refine blk_drew ?_ | refine blk_alloc ?_ _)); refine blk_put (cs := #[.int .i64 0, .int .i64 0, .int .i64 0, .int .i64 0]) ?_ 2 _ rfl; (with_reducible repeat (first | refine blk_drewN ?_ _ | refine blk_drew ?_ | refine blk_alloc ?_ _)); refine blk_put (cs := #[.int .i64 0, .int .i64 0, .int .i64 0, .int .i64 0]) ?_ 1 _ rfl; (with_reducible repeat (first | refine blk_drewN ?_ _ | refine blk_drew ?_ | refine blk_alloc ?_ _)); refine blk_put (cs := #[.int .i64 0, .int .i64 0, .int .i64 0, .int .i64 0]) ?_ 0 _ rfl; (with_reducible repeat (first | refine blk_drewN ?_ _ | refine blk_drew ?_ | refine blk_alloc ?_ _)); refine blk_far ?_ NB65002_65001.out _; (with_reducible repeat (first | refine blk_drewN ?_ _ | refine blk_drew ?_ | refine blk_alloc ?_ _)); refine blk_far ?_ NB65002_65001.out _; (with_reducible repeat (first | refine blk_drewN ?_ _ | refine blk_drew ?_ | refine blk_alloc ?_ _)); exact BK65002.out) Try.underlying54 rfl (by kernel_rfl)) rfl ?_
  exact ⟨er_, be_⟩
 ·rw [if_neg c3] at H
  have c3b0 : ((t65004.length : Int) == 0) = false := beq_eq_false_iff_ne.mpr c3
  have c3b1 : ((t65004.length : Int) != 0) = true := bne_iff_ne.mpr c3
  have c3b2 : ¬ (t65004 = []) := fun h_ => c3 (by rw [h_]; rfl)
  by_cases c12 : 0 < (t65004.length : Int)
  ·rw [if_pos c12] at H
   have c12b0 : decide (0 < (t65004.length : Int)) = true := decide_eq_true c12
   have c12b1 : decide (0 < t65004.length) = true := decide_eq_true (by omega)
   clear c12
   have H' := Aside0.mk H
   clear H
   go_enter Try.func65, Try.ntmps65
   go_wp2_with (first | ((with_reducible refine gate_dst (N := 1) rfl ?_); refine box_event ?hg (N := 1) ?hd (cs := #[.int .i64 a0_0, .slice A0_1 l0_1.length c0_1]) (t := 24) ?hr ?_; (case hd => rfl); (case hg => rfl); (case hr => first | (go_simp; done) | (go_simp; rfl)); intro gb65001 hg w13 hbox hb; have n0_ := Aside0.mk (bs_ hb); have n1_ := Aside0.mk (hbox); have n2_ := Aside0.mk ((by rw [hg]; exact bz_ : w.heap.size ≤ gb65001)); have n3_ := Aside0.mk ((by rw [hg]; exact bz_ : w.heap.size ≤ gb65001)); clear HB; have HB := n0_; have BK65001 := n1_; have GW65001 := n2_; have GE65001 := n3_; clear n0_ n1_ n2_ n3_; clear hb hbox hg) | ((with_reducible refine gate_dst (N := 2) rfl ?_); refine box_event ?hg (N := 2) ?hd (cs := #[.int .i64 0, .int .i64 0, .int .i64 0, .int .i64 0]) (t := 54) ?hr ?_; (case hd => rfl); (case hg => rfl); (case hr => first | (go_simp; done) | (go_simp; rfl)); intro gb65002 hg w14 hbox hb; have n0_ := Aside0.mk (blk_below (g := gb65001) (o := .cells #[.int .i64 a0_0, .slice A0_1 l0_1.length c0_1] 24 (0, 0)) (fb_ BK65001.out) hb); have n1_ := Aside0.mk (bs_ hb); have n2_ := Aside0.mk (hbox); have n3_ := Aside0.mk ((by rw [hg]; exact bz_ : w.heap.size ≤ gb65002)); have n4_ := Aside0.mk ((by rw [hg]; exact bz_ : w.heap.size ≤ gb65002)); have n5_ := Aside0.mk ((by rw [hg]; exact Nat.ne_of_lt (blk_lt (g := gb65001) (o := .cells #[.int .i64 a0_0, .slice A0_1 l0_1.length c0_1] 24 (0, 0)) (fb_ BK65001.out)) : gb65001 ≠ gb65002)); have n6_ := Aside0.mk ((by rw [hg]; exact Nat.ne_of_gt (blk_lt (g := gb65001) (o := .cells #[.int .i64 a0_0, .slice A0_1 l0_1.length c0_1] 24 (0, 0)) (fb_ BK65001.out)) : gb65002 ≠ gb65001)); clear BK65001 HB; have BK65001 := n0_; have HB := n1_; have BK65002 := n2_; have GW65002 := n3_; have GE65002 := n4_; have NB65001_65002 := n5_; have NB65002_65001 := n6_; clear n0_ n1_ n2_ n3_ n4_ n5_ n6_ hb hbox hg; have hnb15 := NB65001_65002.out; have hnc15 := NB65002_65001.out; have hcz16_0 : w14.cell? ⟨gb65001, 0, none⟩ = some (.int .i64 a0_0) := (blk_cell BK65001.out 0).trans rfl; have hcz16_1 : w14.cell? ⟨gb65001, 1, none⟩ = some (.slice A0_1 l0_1.length c0_1) := (blk_cell BK65001.out 1).trans rfl; have hfz16_0 := blk_frozen BK65001.out 0; have hfz16_1 := blk_frozen BK65001.out 1) | ((with_reducible refine gate_callee (f := 49) rfl ?_); refine goesL_ (some 7) rfl rfl Try.func49 (by kernel_rfl) rfl #[.agg #[.int .i64 a0_0, .slice A0_1 l0_1.length c0_1]] rfl la_ ?_; (with_reducible refine (section_valid.calls k a0_0 (fun k_ => k_ < w.heap.size) _ _ l0_1 t65003 t65004 _ ?side1 A2.out).mono ?_); (case side1 => exact Kd.V_mk HC0_1.out (Kd.F_below (Kd.C_F k49_heap HR0_1.out) be_)); rintro e w17 ⟨v65005, rfl, ho0, hb⟩; refine ⟨_, rfl, ?_⟩; have n0_ := Aside0.mk (Kd.V_lower (Kd.V_mono (ok' := fun k_ => k_ ≠ gb65001 ∧ k_ ≠ gb65002) ho0 (fun k_ hk_ => ⟨Or.elim hk_ (fun hs_ => fun e_ => Nat.not_le.2 hs_ (by rw [e_]; exact GW65001.out)) (fun hn_ => (Kd.freshB (g := gb65001) (o := .cells #[.int .i64 a0_0, .slice A0_1 l0_1.length c0_1] 24 (0, 0)) (fb_ BK65001.out) k_ hn_)), Or.elim hk_ (fun hs_ => fun e_ => Nat.not_le.2 hs_ (by rw [e_]; exact GW65002.out)) (fun hn_ => (Kd.freshB (g := gb65002) (o := .cells #[.int .i64 0, .int .i64 0, .int .i64 0, .int .i64 0] 54 (0, 0)) (fb_ BK65002.out) k_ hn_))⟩)) bz_); have n1_ := Aside0.mk (blk_below (g := gb65001) (o := .cells #[.int .i64 a0_0, .slice A0_1 l0_1.length c0_1] 24 (0, 0)) (fb_ BK65001.out) hb); have n2_ := Aside0.mk (blk_below (g := gb65002) (o := .cells #[.int .i64 0, .int .i64 0, .int .i64 0, .int .i64 0] 54 (0, 0)) (fb_ BK65002.out) hb); have n3_ := Aside0.mk (bs_ hb); clear BK65001 BK65002 HB; have HO65006 := n0_; have BK65001 := n1_; have BK65002 := n2_; have HB := n3_; clear n0_ n1_ n2_ n3_; (try clear hb); (try clear hb2); (try clear hk); (try clear hi); (try clear ho0); have hcz18_0 : w17.cell? ⟨gb65001, 0, none⟩ = some (.int .i64 a0_0) := (blk_cell BK65001.out 0).trans rfl; have hcz18_1 : w17.cell? ⟨gb65001, 1, none⟩ = some (.slice A0_1 l0_1.length c0_1) := (blk_cell BK65001.out 1).trans rfl; have hfz18_0 := blk_frozen BK65001.out 0; have hfz18_1 := blk_frozen BK65001.out 1; obtain ⟨Ao19, co19, eo19⟩ := Kd.V_slice HO65006.out; subst eo19; have p65007 : 0 ≤ (0 : Int) := (by omega); have q65007 : 0 < (t65004.length : Int) := of_decide_eq_true (by first | (with_reducible assumption) | assumption); obtain ⟨ad65007, e65007, hx65007_0, hx65007_1⟩ := at_T49 (Kd.V_reads' HO65006.out).2.2 0 p65007 q65007; cases e65007; have qi65007 : (0 < t65004.length) = True := eq_true (by omega); (try rw [show ((0 : Int)).toNat = 0 from rfl] at hx65007_0); (try rw [show 0 * 2 = 0 from rfl] at hx65007_0); (try rw [Addr.add_zero'] at hx65007_0); (try rw [show ((0 : Int)).toNat = 0 from rfl] at hx65007_1); (try rw [show 0 * 2 = 0 from rfl] at hx65007_1); (try rw [Addr.add_zero'] at hx65007_1); have hn65007_0 : ad65007.block ≠ gb65001 := (by have z_ := (Kd.F_in (Kd.V_F HO65006.out) rfl (by omega) (by decide)); first | exact z_ | exact z_.1 | exact z_.2 | exact z_.1.1 | exact z_.1.2 | exact z_.2.1 | exact z_.2.2 | exact z_.1.1.1 | exact z_.1.1.2 | exact z_.2.2.1 | exact z_.2.2.2); have hn65007_1 : ad65007.block ≠ gb65001 := (by have z_ := (Kd.F_in (Kd.V_F HO65006.out) rfl (by omega) (by decide)); first | exact z_ | exact z_.1 | exact z_.2 | exact z_.1.1 | exact z_.1.2 | exact z_.2.1 | exact z_.2.2 | exact z_.1.1.1 | exact z_.1.1.2 | exact z_.2.2.1 | exact z_.2.2.2); replace hx65007_0 := (cell_far (p := ⟨gb65001, 0, none⟩) (by first | (rw [add_block]; exact hn65007_0) | (show (Addr.add _ _).block ≠ _; rw [add_block]; exact hn65007_0) | exact hn65007_0) (.int .i64 t65003)).trans hx65007_0; replace hx65007_1 := (cell_far (p := ⟨gb65001, 0, none⟩) (by first | (rw [add_block]; exact hn65007_0) | (show (Addr.add _ _).block ≠ _; rw [add_block]; exact hn65007_0) | exact hn65007_0) (.int .i64 t65003)).trans hx65007_1; replace hx65007_0 := (cell_far (p := ⟨gb65001, 1, none⟩) (by first | (rw [add_block]; exact hn65007_1) | (show (Addr.add _ _).block ≠ _; rw [add_block]; exact hn65007_1) | exact hn65007_1) (.slice (some ad65007) t65004.length co19)).trans hx65007_0; replace hx65007_1 := (cell_far (p := ⟨gb65001, 1, none⟩) (by first | (rw [add_block]; exact hn65007_1) | (show (Addr.add _ _).block ≠ _; rw [add_block]; exact hn65007_1) | exact hn65007_1) (.slice (some ad65007) t65004.length co19)).trans hx65007_1; clear hn65007_0 hn65007_1; replace p65007 := eq_true p65007; replace q65007 := eq_true q65007) | ((with_reducible refine gate_dst (N := 3) rfl ?_); refine box_event ?hg (N := 3) ?hd (cs := #[.int .i64 0, .int .i64 0]) (t := 49) ?hr ?_; (case hd => rfl); (case hg => rfl); (case hr => first | (go_simp; done) | (go_simp; rfl)); intro gb65008 hg w20 hbox hb; have n0_ := Aside0.mk (Kd.V_below (Kd.V_elderB (by (with_reducible repeat (first | apply Kd.V_alloc | apply Kd.V_drewN | apply Kd.V_drew)); exact (Kd.V_mono (Kd.V_far (p := ⟨gb65001, 1, none⟩) (Kd.V_far (p := ⟨gb65001, 0, none⟩) (Kd.V_mono HO65006.out (fun k_ hk => (⟨hk, hk.1⟩ : _ ∧ k_ ≠ gb65001))) (fun _ hk => hk.2) (.int .i64 t65003)) (fun _ hk => hk.2) (.slice (some ad65007) t65004.length co19)) (fun _ h_ => h_.1))) gb65008 (Nat.le_of_eq hg.symm)) hb); have n1_ := Aside0.mk (blk_below (g := gb65001) (o := .cells #[.int .i64 t65003, .slice (some ad65007) t65004.length co19] 24 (0, 0)) (by (with_reducible repeat (first | refine blk_drewN ?_ _ | refine blk_drew ?_ | refine blk_alloc ?_ _)); refine blk_put (cs := #[.int .i64 t65003, .slice A0_1 l0_1.length c0_1]) ?_ 1 _ rfl; (with_reducible repeat (first | refine blk_drewN ?_ _ | refine blk_drew ?_ | refine blk_alloc ?_ _)); refine blk_put (cs := #[.int .i64 a0_0, .slice A0_1 l0_1.length c0_1]) ?_ 0 _ rfl; (with_reducible repeat (first | refine blk_drewN ?_ _ | refine blk_drew ?_ | refine blk_alloc ?_ _)); exact BK65001.out) hb); have n2_ := Aside0.mk (blk_below (g := gb65002) (o := .cells #[.int .i64 0, .int .i64 0, .int .i64 0, .int .i64 0] 54 (0, 0)) (by (with_reducible repeat (first | refine blk_drewN ?_ _ | refine blk_drew ?_ | refine blk_alloc ?_ _)); refine blk_far ?_ NB65002_65001.out _; (with_reducible repeat (first | refine blk_drewN ?_ _ | refine blk_drew ?_ | refine blk_alloc ?_ _)); refine blk_far ?_ NB65002_65001.out _; (with_reducible repeat (first | refine blk_drewN ?_ _ | refine blk_drew ?_ | refine blk_alloc ?_ _)); exact BK65002.out) hb); have n3_ := Aside0.mk (bs_ hb); have n4_ := Aside0.mk (hbox); have n5_ := Aside0.mk ((by rw [hg]; exact bz_ : w.heap.size ≤ gb65008)); have n6_ := Aside0.mk ((by rw [hg]; exact bz_ : w.heap.size ≤ gb65008)); have n7_ := Aside0.mk ((by rw [hg]; exact Nat.ne_of_lt (blk_lt (g := gb65001) (o := .cells #[.int .i64 t65003, .slice (some ad65007) t65004.length co19] 24 (0, 0)) (by (with_reducible repeat (first | refine blk_drewN ?_ _ | refine blk_drew ?_ | refine blk_alloc ?_ _)); refine blk_put (cs := #[.int .i64 t65003, .slice A0_1 l0_1.length c0_1]) ?_ 1 _ rfl; (with_reducible repeat (first | refine blk_drewN ?_ _ | refine blk_drew ?_ | refine blk_alloc ?_ _)); refine blk_put (cs := #[.int .i64 a0_0, .slice A0_1 l0_1.length c0_1]) ?_ 0 _ rfl; (with_reducible repeat (first | refine blk_drewN ?_ _ | refine blk_drew ?_ | refine blk_alloc ?_ _)); exact BK65001.out)) : gb65001 ≠ gb65008)); have n8_ := Aside0.mk ((by rw [hg]; exact Nat.ne_of_gt (blk_lt (g := gb65001) (o := .cells #[.int .i64 t65003, .slice (some ad65007) t65004.length co19] 24 (0, 0)) (by (with_reducible repeat (first | refine blk_drewN ?_ _ | refine blk_drew ?_ | refine blk_alloc ?_ _)); refine blk_put (cs := #[.int .i64 t65003, .slice A0_1 l0_1.length c0_1]) ?_ 1 _ rfl; (with_reducible repeat (first | refine blk_drewN ?_ _ | refine blk_drew ?_ | refine blk_alloc ?_ _)); refine blk_put (cs := #[.int .i64 a0_0, .slice A0_1 l0_1.length c0_1]) ?_ 0 _ rfl; (with_reducible repeat (first | refine blk_drewN ?_ _ | refine blk_drew ?_ | refine blk_alloc ?_ _)); exact BK65001.out)) : gb65008 ≠ gb65001)); have n9_ := Aside0.mk ((by rw [hg]; exact Nat.ne_of_lt (blk_lt (g := gb65002) (o := .cells #[.int .i64 0, .int .i64 0, .int .i64 0, .int .i64 0] 54 (0, 0)) (by (with_reducible repeat (first | refine blk_drewN ?_ _ | refine blk_drew ?_ | refine blk_alloc ?_ _)); refine blk_far ?_ NB65002_65001.out _; (with_reducible repeat (first | refine blk_drewN ?_ _ | refine blk_drew ?_ | refine blk_alloc ?_ _)); refine blk_far ?_ NB65002_65001.out _; (with_reducible repeat (first | refine blk_drewN ?_ _ | refine blk_drew ?_ | refine blk_alloc ?_ _)); exact BK65002.out)) : gb65002 ≠ gb65008)); have n10_ := Aside0.mk ((by rw [hg]; exact Nat.ne_of_gt (blk_lt (g := gb65002) (o := .cells #[.int .i64 0, .int .i64 0, .int .i64 0, .int .i64 0] 54 (0, 0)) (by (with_reducible repeat (first | refine blk_drewN ?_ _ | refine blk_drew ?_ | refine blk_alloc ?_ _)); refine blk_far ?_ NB65002_65001.out _; (with_reducible repeat (first | refine blk_drewN ?_ _ | refine blk_drew ?_ | refine blk_alloc ?_ _)); refine blk_far ?_ NB65002_65001.out _; (with_reducible repeat (first | refine blk_drewN ?_ _ | refine blk_drew ?_ | refine blk_alloc ?_ _)); exact BK65002.out)) : gb65008 ≠ gb65002)); clear HO65006 BK65001 BK65002 HB; have HO65006 := n0_; have BK65001 := n1_; have BK65002 := n2_; have HB := n3_; have BK65008 := n4_; have GW65008 := n5_; have GE65008 := n6_; have NB65001_65008 := n7_; have NB65008_65001 := n8_; have NB65002_65008 := n9_; have NB65008_65002 := n10_; clear n0_ n1_ n2_ n3_ n4_ n5_ n6_ n7_ n8_ n9_ n10_ hb hbox hg; have hnb21 := NB65008_65001.out; have hnc21 := NB65001_65008.out; have hnb22 := NB65008_65002.out; have hnc22 := NB65002_65008.out; have hcz23_0 : w20.cell? ⟨gb65008, 0, none⟩ = some (.int .i64 0) := (blk_cell BK65008.out 0).trans rfl; have hcz23_1 : w20.cell? ⟨gb65008, 1, none⟩ = some (.int .i64 0) := (blk_cell BK65008.out 1).trans rfl; have hfz23_0 := blk_frozen BK65008.out 0; have hfz23_1 := blk_frozen BK65008.out 1; have hcz24_0 : w20.cell? ⟨gb65001, 0, none⟩ = some (.int .i64 t65003) := (blk_cell BK65001.out 0).trans rfl; have hcz24_1 : w20.cell? ⟨gb65001, 1, none⟩ = some (.slice (some ad65007) t65004.length co19) := (blk_cell BK65001.out 1).trans rfl; have hfz24_0 := blk_frozen BK65001.out 0; have hfz24_1 := blk_frozen BK65001.out 1))
   go_loopg [20] k (fun kq v20 w' => ∃ (x20_1 : Int) (x65009000_1 : Int) (x65009001_1 : Int), v20 = .int .i64 x20_1 ∧ Aside0 (section_Bounds.l0 kq t65004 (t65004.length : Int) x20_1 t65003 t65004 x65009000_1 x65009001_1 = some (r1, r2, r3, r4)) ∧ Aside0 (kq ≤ k) ∧ Aside0 (Kd.V k49 49 w' w.heap.size (fun k_ => k_ ≠ gb65001 ∧ k_ ≠ gb65002 ∧ k_ ≠ gb65008) (.slice (some ad65007) t65004.length co19) t65004) ∧ Aside0 (Kd.V k49 49 w' w.heap.size (fun k_ => k_ ≠ gb65001 ∧ k_ ≠ gb65002 ∧ k_ ≠ gb65008) (.slice (some ad65007) t65004.length co19) t65004) ∧ Aside0 (w'.heap[gb65001]? = some (.cells #[.int .i64 t65003, (.slice (some ad65007) t65004.length co19)] 24 (0, 0))) ∧ Aside0 (w'.heap[gb65002]? = some (.cells #[.int .i64 0, .int .i64 0, .int .i64 0, .int .i64 0] 54 (0, 0))) ∧ Aside0 (w'.heap[gb65008]? = some (.cells #[.int .i64 x65009000_1, .int .i64 x65009001_1] 49 (0, 0))) ∧ Aside0 (Below w.heap.size w w'))
   case atStart => exact ⟨(0), ((rd_T49 t65004 0).f0), ((rd_T49 t65004 0).f1), (by first | rfl | (simp; done) | (simp [*]; done)), H', ⟨Nat.le_refl _⟩, ⟨by (with_reducible repeat (first | apply Kd.V_alloc | apply Kd.V_drewN | apply Kd.V_drew)); exact Kd.V_mono (Kd.V_far (p := ⟨gb65008, 1, none⟩) (Kd.V_far (p := ⟨gb65008, 0, none⟩) (Kd.V_mono HO65006.out (fun k_ hk => (⟨hk, hk.2⟩ : _ ∧ k_ ≠ gb65008))) (fun _ hk => hk.2) (.int .i64 ((rd_T49 t65004 0).f0))) (fun _ hk => hk.2) (.int .i64 ((rd_T49 t65004 0).f1))) (fun _ hk => ⟨hk.1.1.1, ⟨hk.1.1.2, hk.1.2⟩⟩)⟩, ⟨by (with_reducible repeat (first | apply Kd.V_alloc | apply Kd.V_drewN | apply Kd.V_drew)); exact Kd.V_mono (Kd.V_far (p := ⟨gb65008, 1, none⟩) (Kd.V_far (p := ⟨gb65008, 0, none⟩) (Kd.V_mono HO65006.out (fun k_ hk => (⟨hk, hk.2⟩ : _ ∧ k_ ≠ gb65008))) (fun _ hk => hk.2) (.int .i64 ((rd_T49 t65004 0).f0))) (fun _ hk => hk.2) (.int .i64 ((rd_T49 t65004 0).f1))) (fun _ hk => ⟨hk.1.1.1, ⟨hk.1.1.2, hk.1.2⟩⟩)⟩, ⟨by (with_reducible repeat (first | refine blk_drewN ?_ _ | refine blk_drew ?_ | refine blk_alloc ?_ _)); refine blk_far ?_ NB65001_65008.out _; (with_reducible repeat (first | refine blk_drewN ?_ _ | refine blk_drew ?_ | refine blk_alloc ?_ _)); refine blk_far ?_ NB65001_65008.out _; (with_reducible repeat (first | refine blk_drewN ?_ _ | refine blk_drew ?_ | refine blk_alloc ?_ _)); exact BK65001.out⟩, ⟨by (with_reducible repeat (first | refine blk_drewN ?_ _ | refine blk_drew ?_ | refine blk_alloc ?_ _)); refine blk_far ?_ NB65002_65008.out _; (with_reducible repeat (first | refine blk_drewN ?_ _ | refine blk_drew ?_ | refine blk_alloc ?_ _)); refine blk_far ?_ NB65002_65008.out _; (with_reducible repeat (first | refine blk_drewN ?_ _ | refine blk_drew ?_ | refine blk_alloc ?_ _)); exact BK65002.out⟩, ⟨by (with_reducible repeat (first | refine blk_drewN ?_ _ | refine blk_drew ?_ | refine blk_alloc ?_ _)); refine blk_put (cs := #[.int .i64 ((rd_T49 t65004 0).f0), .int .i64 0]) ?_ 1 _ rfl; (with_reducible repeat (first | refine blk_drewN ?_ _ | refine blk_drew ?_ | refine blk_alloc ?_ _)); refine blk_put (cs := #[.int .i64 0, .int .i64 0]) ?_ 0 _ rfl; (with_reducible repeat (first | refine blk_drewN ?_ _ | refine blk_drew ?_ | refine blk_alloc ?_ _)); exact BK65008.out⟩, ⟨be_⟩⟩
   case round =>
    clear H'
    try clear c1
    try clear c2
    try clear p2
    try clear c3
    try clear c3b0
    try clear c3b1
    try clear c3b2
    try clear c4
    try clear c6
    try clear p6
    try clear q6
    try clear hx6
    try clear qi6
    try clear c12
    try clear c12b0
    try clear c12b1
    try clear c15
    try clear c21
    try clear c22
    try clear hcz11_0
    try clear hcz11_1
    try clear hcz11_2
    try clear hcz11_3
    try clear hcz16_0
    try clear hcz16_1
    try clear hcz18_0
    try clear hcz18_1
    try clear hcz23_0
    try clear hcz23_1
    try clear hcz24_0
    try clear hcz24_1
    try clear hcz7_0
    try clear hcz7_1
    try clear hcz9_0
    try clear hcz9_1
    try clear hfz11_0
    try clear hfz11_1
    try clear hfz11_2
    try clear hfz11_3
    try clear hfz16_0
    try clear hfz16_1
    try clear hfz18_0
    try clear hfz18_1
    try clear hfz23_0
    try clear hfz23_1
    try clear hfz24_0
    try clear hfz24_1
    try clear hfz7_0
    try clear hfz7_1
    try clear hfz9_0
    try clear hfz9_1
    try clear hx65007_0
    try clear hx65007_1
    try clear p65007
    try clear q65007
    obtain ⟨x20_1, x65009000_1, x65009001_1, rfl, HA, HK1, HO_18, HO_65002001, BK65001, BK65002, BK65008, HB⟩ := hrel
    cases gk with
    | zero => exact absurd HA.out (by simp [section_Bounds.l0])
    | succ k1 =>
     have H := HA.out
     clear HA
     simp only [section_Bounds.l0] at H
     by_cases c25 : x20_1 < (t65004.length : Int)
     ·rw [if_pos c25] at H
      have c25b0 : decide (x20_1 < (t65004.length : Int)) = true := decide_eq_true c25
      clear c25
      by_cases c26 : 0 ≤ x20_1
      ·rw [if_pos c26] at H
       have c26b0 : decide (0 ≤ x20_1) = true := decide_eq_true c26
       clear c26
       by_cases c27 : x20_1 < (t65004.length : Int)
       ·rw [if_pos c27] at H
        have c27b0 : decide (x20_1 < (t65004.length : Int)) = true := decide_eq_true c27
        clear c27
        replace H := Option.bind_eq_some_iff.mp H
        obtain ⟨t65011, A280, H⟩ := H
        replace H : (if t65011 = true then (section_Bounds.l0 k1 t65004 (t65004.length : Int) (wrap64 (x20_1 + 1)) t65003 t65004 x65009000_1 x65009001_1) else (section_Bounds.l0 k1 t65004 (t65004.length : Int) (wrap64 (x20_1 + 1)) t65003 t65004 (mn x65009000_1 ((rd_T49 t65004 x20_1).f0)) (mx x65009001_1 ((rd_T49 t65004 x20_1).f1)))) = some (r1, r2, r3, r4) := H
        have A28 := Aside0.mk A280
        clear A280
        by_cases c29 : t65011 = true
        ·subst c29
         have H1 : (section_Bounds.l0 k1 t65004 (t65004.length : Int) (wrap64 (x20_1 + 1)) t65003 t65004 x65009000_1 x65009001_1) = some (r1, r2, r3, r4) := by rw [if_pos rfl] at H; exact H
         clear H
         have H := H1
         clear H1
         have H' := Aside0.mk H
         clear H
         have p65009 : 0 ≤ (x20_1 : Int) := of_decide_eq_true (by first | (with_reducible assumption) | assumption)
         have q65009 : x20_1 < (t65004.length : Int) := of_decide_eq_true (by first | (with_reducible assumption) | assumption)
         obtain ⟨ad65009, e65009, hx65009_0, hx65009_1⟩ := at_T49 (Kd.V_reads' HO_18.out).2.2 x20_1 p65009 q65009
         obtain rfl : ad65007 = ad65009 := (by injection e65009)
         replace p65009 := eq_true p65009
         replace q65009 := eq_true q65009
         go_wp2_with (first | ((with_reducible refine gate_dst (N := 5) rfl ?_); refine box_event ?hg (N := 5) ?hd (cs := #[.int .i64 0, .int .i64 0]) (t := 49) ?hr ?_; (case hd => rfl); (case hg => rfl); (case hr => first | (go_simp; done) | (go_simp; rfl)); intro gb65010 hg w30 hbox hb; have n0_ := Aside0.mk (Kd.V_below (Kd.V_elderB (fV_ HO_18.out) gb65010 (Nat.le_of_eq hg.symm)) hb); have n1_ := Aside0.mk (Kd.V_below (Kd.V_elderB (fV_ HO_65002001.out) gb65010 (Nat.le_of_eq hg.symm)) hb); have n2_ := Aside0.mk (blk_below (g := gb65001) (o := .cells #[.int .i64 t65003, .slice (some ad65007) t65004.length co19] 24 (0, 0)) (fb_ BK65001.out) hb); have n3_ := Aside0.mk (blk_below (g := gb65002) (o := .cells #[.int .i64 0, .int .i64 0, .int .i64 0, .int .i64 0] 54 (0, 0)) (fb_ BK65002.out) hb); have n4_ := Aside0.mk (blk_below (g := gb65008) (o := .cells #[.int .i64 x65009000_1, .int .i64 x65009001_1] 49 (0, 0)) (fb_ BK65008.out) hb); have n5_ := Aside0.mk (bs_ hb); have n6_ := Aside0.mk (hbox); have n7_ := Aside0.mk ((by rw [hg]; exact bz_ : w.heap.size ≤ gb65010)); have n8_ := Aside0.mk ((by rw [hg]; exact bz_ : w.heap.size ≤ gb65010)); have n9_ := Aside0.mk ((by rw [hg]; exact Nat.ne_of_lt (blk_lt (g := gb65001) (o := .cells #[.int .i64 t65003, .slice (some ad65007) t65004.length co19] 24 (0, 0)) (fb_ BK65001.out)) : gb65001 ≠ gb65010)); have n10_ := Aside0.mk ((by rw [hg]; exact Nat.ne_of_gt (blk_lt (g := gb65001) (o := .cells #[.int .i64 t65003, .slice (some ad65007) t65004.length co19] 24 (0, 0)) (fb_ BK65001.out)) : gb65010 ≠ gb65001)); have n11_ := Aside0.mk ((by rw [hg]; exact Nat.ne_of_lt (blk_lt (g := gb65002) (o := .cells #[.int .i64 0, .int .i64 0, .int .i64 0, .int .i64 0] 54 (0, 0)) (fb_ BK65002.out)) : gb65002 ≠ gb65010)); have n12_ := Aside0.mk ((by rw [hg]; exact Nat.ne_of_gt (blk_lt (g := gb65002) (o := .cells #[.int .i64 0, .int .i64 0, .int .i64 0, .int .i64 0] 54 (0, 0)) (fb_ BK65002.out)) : gb65010 ≠ gb65002)); have n13_ := Aside0.mk ((by rw [hg]; exact Nat.ne_of_lt (blk_lt (g := gb65008) (o := .cells #[.int .i64 x65009000_1, .int .i64 x65009001_1] 49 (0, 0)) (fb_ BK65008.out)) : gb65008 ≠ gb65010)); have n14_ := Aside0.mk ((by rw [hg]; exact Nat.ne_of_gt (blk_lt (g := gb65008) (o := .cells #[.int .i64 x65009000_1, .int .i64 x65009001_1] 49 (0, 0)) (fb_ BK65008.out)) : gb65010 ≠ gb65008)); clear HO_18 HO_65002001 BK65001 BK65002 BK65008 HB; have HO_18 := n0_; have HO_65002001 := n1_; have BK65001 := n2_; have BK65002 := n3_; have BK65008 := n4_; have HB := n5_; have BK65010 := n6_; have GW65010 := n7_; have GE65010 := n8_; have NB65001_65010 := n9_; have NB65010_65001 := n10_; have NB65002_65010 := n11_; have NB65010_65002 := n12_; have NB65008_65010 := n13_; have NB65010_65008 := n14_; clear n0_ n1_ n2_ n3_ n4_ n5_ n6_ n7_ n8_ n9_ n10_ n11_ n12_ n13_ n14_ hb hbox hg; have hnb31 := NB65010_65001.out; have hnc31 := NB65001_65010.out; have hnb32 := NB65010_65002.out; have hnc32 := NB65002_65010.out; have hnb33 := NB65010_65008.out; have hnc33 := NB65008_65010.out; have hcz34_0 : w30.cell? ⟨gb65010, 0, none⟩ = some (.int .i64 0) := (blk_cell BK65010.out 0).trans rfl; have hcz34_1 : w30.cell? ⟨gb65010, 1, none⟩ = some (.int .i64 0) := (blk_cell BK65010.out 1).trans rfl; have hfz34_0 := blk_frozen BK65010.out 0; have hfz34_1 := blk_frozen BK65010.out 1) | ((with_reducible refine gate_callee (f := 55) rfl ?_); refine goesL_ (some 25) rfl rfl Try.func55 (by kernel_rfl) rfl #[.agg #[.int .i64 ((rd_T49 t65004 x20_1).f0), .int .i64 ((rd_T49 t65004 x20_1).f1)]] rfl la_ ?_; (with_reducible refine (section_empty.calls ((rd_T49 t65004 x20_1).f0) ((rd_T49 t65004 x20_1).f1) true _ A28.out).mono ?_); rintro e w35 ⟨rfl, hb⟩; refine ⟨_, rfl, ?_⟩; have n0_ := Aside0.mk (Kd.V_below (by (with_reducible repeat (first | apply Kd.V_alloc | apply Kd.V_drewN | apply Kd.V_drew)); exact (Kd.V_mono (Kd.V_far (p := ⟨gb65010, 1, none⟩) (Kd.V_far (p := ⟨gb65010, 0, none⟩) (Kd.V_mono HO_18.out (fun k_ hk => (⟨hk, hk.2⟩ : _ ∧ k_ ≠ gb65010))) (fun _ hk => hk.2) (.int .i64 ((rd_T49 t65004 x20_1).f0))) (fun _ hk => hk.2) (.int .i64 ((rd_T49 t65004 x20_1).f1))) (fun _ h_ => h_.1))) hb); have n1_ := Aside0.mk (Kd.V_below (by (with_reducible repeat (first | apply Kd.V_alloc | apply Kd.V_drewN | apply Kd.V_drew)); exact (Kd.V_mono (Kd.V_far (p := ⟨gb65010, 1, none⟩) (Kd.V_far (p := ⟨gb65010, 0, none⟩) (Kd.V_mono HO_65002001.out (fun k_ hk => (⟨hk, hk.2⟩ : _ ∧ k_ ≠ gb65010))) (fun _ hk => hk.2) (.int .i64 ((rd_T49 t65004 x20_1).f0))) (fun _ hk => hk.2) (.int .i64 ((rd_T49 t65004 x20_1).f1))) (fun _ h_ => h_.1))) hb); have n2_ := Aside0.mk (blk_below (g := gb65001) (o := .cells #[.int .i64 t65003, .slice (some ad65007) t65004.length co19] 24 (0, 0)) (by (with_reducible repeat (first | refine blk_drewN ?_ _ | refine blk_drew ?_ | refine blk_alloc ?_ _)); refine blk_far ?_ NB65001_65010.out _; (with_reducible repeat (first | refine blk_drewN ?_ _ | refine blk_drew ?_ | refine blk_alloc ?_ _)); refine blk_far ?_ NB65001_65010.out _; (with_reducible repeat (first | refine blk_drewN ?_ _ | refine blk_drew ?_ | refine blk_alloc ?_ _)); exact BK65001.out) hb); have n3_ := Aside0.mk (blk_below (g := gb65002) (o := .cells #[.int .i64 0, .int .i64 0, .int .i64 0, .int .i64 0] 54 (0, 0)) (by (with_reducible repeat (first | refine blk_drewN ?_ _ | refine blk_drew ?_ | refine blk_alloc ?_ _)); refine blk_far ?_ NB65002_65010.out _; (with_reducible repeat (first | refine blk_drewN ?_ _ | refine blk_drew ?_ | refine blk_alloc ?_ _)); refine blk_far ?_ NB65002_65010.out _; (with_reducible repeat (first | refine blk_drewN ?_ _ | refine blk_drew ?_ | refine blk_alloc ?_ _)); exact BK65002.out) hb); have n4_ := Aside0.mk (blk_below (g := gb65008) (o := .cells #[.int .i64 x65009000_1, .int .i64 x65009001_1] 49 (0, 0)) (by (with_reducible repeat (first | refine blk_drewN ?_ _ | refine blk_drew ?_ | refine blk_alloc ?_ _)); refine blk_far ?_ NB65008_65010.out _; (with_reducible repeat (first | refine blk_drewN ?_ _ | refine blk_drew ?_ | refine blk_alloc ?_ _)); refine blk_far ?_ NB65008_65010.out _; (with_reducible repeat (first | refine blk_drewN ?_ _ | refine blk_drew ?_ | refine blk_alloc ?_ _)); exact BK65008.out) hb); have n5_ := Aside0.mk (blk_below (g := gb65010) (o := .cells #[.int .i64 ((rd_T49 t65004 x20_1).f0), .int .i64 ((rd_T49 t65004 x20_1).f1)] 49 (0, 0)) (by (with_reducible repeat (first | refine blk_drewN ?_ _ | refine blk_drew ?_ | refine blk_alloc ?_ _)); refine blk_put (cs := #[.int .i64 ((rd_T49 t65004 x20_1).f0), .int .i64 0]) ?_ 1 _ rfl; (with_reducible repeat (first | refine blk_drewN ?_ _ | refine blk_drew ?_ | refine blk_alloc ?_ _)); refine blk_put (cs := #[.int .i64 0, .int .i64 0]) ?_ 0 _ rfl; (with_reducible repeat (first | refine blk_drewN ?_ _ | refine blk_drew ?_ | refine blk_alloc ?_ _)); exact BK65010.out) hb); have n6_ := Aside0.mk (bs_ hb); clear HO_18 HO_65002001 BK65001 BK65002 BK65008 BK65010 HB; have HO_18 := n0_; have HO_65002001 := n1_; have BK65001 := n2_; have BK65002 := n3_; have BK65008 := n4_; have BK65010 := n5_; have HB := n6_; clear n0_ n1_ n2_ n3_ n4_ n5_ n6_; (try clear hb); (try clear hb2); (try clear hk); (try clear hi)))
         go_roundg k1
         case measure => have := HK1.out; omega
         case rel => exact ⟨(wrap64 (x20_1 + 1)), (x65009000_1), (x65009001_1), (by first | rfl | (simp; done) | (simp [*]; done)), H', ⟨by have := HK1.out; omega⟩, ⟨by (with_reducible repeat (first | apply Kd.V_alloc | apply Kd.V_drewN | apply Kd.V_drew)); exact Kd.V_mono HO_18.out (fun _ hk => ⟨hk.1.1, ⟨hk.1.2.1, hk.1.2.2⟩⟩)⟩, ⟨by (with_reducible repeat (first | apply Kd.V_alloc | apply Kd.V_drewN | apply Kd.V_drew)); exact Kd.V_mono HO_65002001.out (fun _ hk => ⟨hk.1.1, ⟨hk.1.2.1, hk.1.2.2⟩⟩)⟩, ⟨fb_ BK65001.out⟩, ⟨fb_ BK65002.out⟩, ⟨fb_ BK65008.out⟩, ⟨be_⟩⟩
        ·replace c29 := Bool.eq_false_iff.mpr c29
         subst c29
         have H1 : (section_Bounds.l0 k1 t65004 (t65004.length : Int) (wrap64 (x20_1 + 1)) t65003 t65004 (mn x65009000_1 ((rd_T49 t65004 x20_1).f0)) (mx x65009001_1 ((rd_T49 t65004 x20_1).f1))) = some (r1, r2, r3, r4) := by rw [if_neg (show ¬ (false = true) by decide)] at H; exact H
         clear H
         have H := H1
         clear H1
         obtain ⟨ji36, hji36⟩ : ∃ j_ : Int, (mn x65009000_1 ((rd_T49 t65004 x20_1).f0)) = j_ := ⟨_, rfl⟩
         replace H : (section_Bounds.l0 k1 t65004 (t65004.length : Int) (wrap64 (x20_1 + 1)) t65003 t65004 ji36 (mx x65009001_1 ((rd_T49 t65004 x20_1).f1))) = some (r1, r2, r3, r4) := by first | (rw [hji36] at H; exact H) | (simp only [hji36] at H ⊢; exact H)
         (try rw [hji36] at A28)
         have hji36_ : (if ((rd_T49 t65004 x20_1).f0) < x65009000_1 then ((rd_T49 t65004 x20_1).f0) else x65009000_1) = ji36 := hji36
         obtain ⟨ji37, hji37⟩ : ∃ j_ : Int, (mx x65009001_1 ((rd_T49 t65004 x20_1).f1)) = j_ := ⟨_, rfl⟩
         replace H : (section_Bounds.l0 k1 t65004 (t65004.length : Int) (wrap64 (x20_1 + 1)) t65003 t65004 ji36 ji37) = some (r1, r2, r3, r4) := by first | (rw [hji37] at H; exact H) | (simp only [hji37] at H ⊢; exact H)
         (try rw [hji37] at A28)
         have hji37_ : (if x65009001_1 < ((rd_T49 t65004 x20_1).f1) then ((rd_T49 t65004 x20_1).f1) else x65009001_1) = ji37 := hji37
         have H' := Aside0.mk H
         clear H
         have p65009 : 0 ≤ (x20_1 : Int) := of_decide_eq_true (by first | (with_reducible assumption) | assumption)
         have q65009 : x20_1 < (t65004.length : Int) := of_decide_eq_true (by first | (with_reducible assumption) | assumption)
         obtain ⟨ad65009, e65009, hx65009_0, hx65009_1⟩ := at_T49 (Kd.V_reads' HO_18.out).2.2 x20_1 p65009 q65009
         obtain rfl : ad65007 = ad65009 := (by injection e65009)
         replace p65009 := eq_true p65009
         replace q65009 := eq_true q65009
         go_wp2_with (first | ((with_reducible refine gate_dst (N := 5) rfl ?_); refine box_event ?hg (N := 5) ?hd (cs := #[.int .i64 0, .int .i64 0]) (t := 49) ?hr ?_; (case hd => rfl); (case hg => rfl); (case hr => first | (go_simp; done) | (go_simp; rfl)); intro gb65010 hg w38 hbox hb; have n0_ := Aside0.mk (Kd.V_below (Kd.V_elderB (fV_ HO_18.out) gb65010 (Nat.le_of_eq hg.symm)) hb); have n1_ := Aside0.mk (Kd.V_below (Kd.V_elderB (fV_ HO_65002001.out) gb65010 (Nat.le_of_eq hg.symm)) hb); have n2_ := Aside0.mk (blk_below (g := gb65001) (o := .cells #[.int .i64 t65003, .slice (some ad65007) t65004.length co19] 24 (0, 0)) (fb_ BK65001.out) hb); have n3_ := Aside0.mk (blk_below (g := gb65002) (o := .cells #[.int .i64 0, .int .i64 0, .int .i64 0, .int .i64 0] 54 (0, 0)) (fb_ BK65002.out) hb); have n4_ := Aside0.mk (blk_below (g := gb65008) (o := .cells #[.int .i64 x65009000_1, .int .i64 x65009001_1] 49 (0, 0)) (fb_ BK65008.out) hb); have n5_ := Aside0.mk (bs_ hb); have n6_ := Aside0.mk (hbox); have n7_ := Aside0.mk ((by rw [hg]; exact bz_ : w.heap.size ≤ gb65010)); have n8_ := Aside0.mk ((by rw [hg]; exact bz_ : w.heap.size ≤ gb65010)); have n9_ := Aside0.mk ((by rw [hg]; exact Nat.ne_of_lt (blk_lt (g := gb65001) (o := .cells #[.int .i64 t65003, .slice (some ad65007) t65004.length co19] 24 (0, 0)) (fb_ BK65001.out)) : gb65001 ≠ gb65010)); have n10_ := Aside0.mk ((by rw [hg]; exact Nat.ne_of_gt (blk_lt (g := gb65001) (o := .cells #[.int .i64 t65003, .slice (some ad65007) t65004.length co19] 24 (0, 0)) (fb_ BK65001.out)) : gb65010 ≠ gb65001)); have n11_ := Aside0.mk ((by rw [hg]; exact Nat.ne_of_lt (blk_lt (g := gb65002) (o := .cells #[.int .i64 0, .int .i64 0, .int .i64 0, .int .i64 0] 54 (0, 0)) (fb_ BK65002.out)) : gb65002 ≠ gb65010)); have n12_ := Aside0.mk ((by rw [hg]; exact Nat.ne_of_gt (blk_lt (g := gb65002) (o := .cells #[.int .i64 0, .int .i64 0, .int .i64 0, .int .i64 0] 54 (0, 0)) (fb_ BK65002.out)) : gb65010 ≠ gb65002)); have n13_ := Aside0.mk ((by rw [hg]; exact Nat.ne_of_lt (blk_lt (g := gb65008) (o := .cells #[.int .i64 x65009000_1, .int .i64 x65009001_1] 49 (0, 0)) (fb_ BK65008.out)) : gb65008 ≠ gb65010)); have n14_ := Aside0.mk ((by rw [hg]; exact Nat.ne_of_gt (blk_lt (g := gb65008) (o := .cells #[.int .i64 x65009000_1, .int .i64 x65009001_1] 49 (0, 0)) (fb_ BK65008.out)) : gb65010 ≠ gb65008)); clear HO_18 HO_65002001 BK65001 BK65002 BK65008 HB; have HO_18 := n0_; have HO_65002001 := n1_; have BK65001 := n2_; have BK65002 := n3_; have BK65008 := n4_; have HB := n5_; have BK65010 := n6_; have GW65010 := n7_; have GE65010 := n8_; have NB65001_65010 := n9_; have NB65010_65001 := n10_; have NB65002_65010 := n11_; have NB65010_65002 := n12_; have NB65008_65010 := n13_; have NB65010_65008 := n14_; clear n0_ n1_ n2_ n3_ n4_ n5_ n6_ n7_ n8_ n9_ n10_ n11_ n12_ n13_ n14_ hb hbox hg; have hnb39 := NB65010_65001.out; have hnc39 := NB65001_65010.out; have hnb40 := NB65010_65002.out; have hnc40 := NB65002_65010.out; have hnb41 := NB65010_65008.out; have hnc41 := NB65008_65010.out; have hcz42_0 : w38.cell? ⟨gb65010, 0, none⟩ = some (.int .i64 0) := (blk_cell BK65010.out 0).trans rfl; have hcz42_1 : w38.cell? ⟨gb65010, 1, none⟩ = some (.int .i64 0) := (blk_cell BK65010.out 1).trans rfl; have hfz42_0 := blk_frozen BK65010.out 0; have hfz42_1 := blk_frozen BK65010.out 1) | ((with_reducible refine gate_callee (f := 55) rfl ?_); refine goesL_ (some 25) rfl rfl Try.func55 (by kernel_rfl) rfl #[.agg #[.int .i64 ((rd_T49 t65004 x20_1).f0), .int .i64 ((rd_T49 t65004 x20_1).f1)]] rfl la_ ?_; (with_reducible refine (section_empty.calls ((rd_T49 t65004 x20_1).f0) ((rd_T49 t65004 x20_1).f1) false _ A28.out).mono ?_); rintro e w43 ⟨rfl, hb⟩; refine ⟨_, rfl, ?_⟩; have n0_ := Aside0.mk (Kd.V_below (by (with_reducible repeat (first | apply Kd.V_alloc | apply Kd.V_drewN | apply Kd.V_drew)); exact (Kd.V_mono (Kd.V_far (p := ⟨gb65010, 1, none⟩) (Kd.V_far (p := ⟨gb65010, 0, none⟩) (Kd.V_mono HO_18.out (fun k_ hk => (⟨hk, hk.2⟩ : _ ∧ k_ ≠ gb65010))) (fun _ hk => hk.2) (.int .i64 ((rd_T49 t65004 x20_1).f0))) (fun _ hk => hk.2) (.int .i64 ((rd_T49 t65004 x20_1).f1))) (fun _ h_ => h_.1))) hb); have n1_ := Aside0.mk (Kd.V_below (by (with_reducible repeat (first | apply Kd.V_alloc | apply Kd.V_drewN | apply Kd.V_drew)); exact (Kd.V_mono (Kd.V_far (p := ⟨gb65010, 1, none⟩) (Kd.V_far (p := ⟨gb65010, 0, none⟩) (Kd.V_mono HO_65002001.out (fun k_ hk => (⟨hk, hk.2⟩ : _ ∧ k_ ≠ gb65010))) (fun _ hk => hk.2) (.int .i64 ((rd_T49 t65004 x20_1).f0))) (fun _ hk => hk.2) (.int .i64 ((rd_T49 t65004 x20_1).f1))) (fun _ h_ => h_.1))) hb); have n2_ := Aside0.mk (blk_below (g := gb65001) (o := .cells #[.int .i64 t65003, .slice (some ad65007) t65004.length co19] 24 (0, 0)) (by (with_reducible repeat (first | refine blk_drewN ?_ _ | refine blk_drew ?_ | refine blk_alloc ?_ _)); refine blk_far ?_ NB65001_65010.out _; (with_reducible repeat (first | refine blk_drewN ?_ _ | refine blk_drew ?_ | refine blk_alloc ?_ _)); refine blk_far ?_ NB65001_65010.out _; (with_reducible repeat (first | refine blk_drewN ?_ _ | refine blk_drew ?_ | refine blk_alloc ?_ _)); exact BK65001.out) hb); have n3_ := Aside0.mk (blk_below (g := gb65002) (o := .cells #[.int .i64 0, .int .i64 0, .int .i64 0, .int .i64 0] 54 (0, 0)) (by (with_reducible repeat (first | refine blk_drewN ?_ _ | refine blk_drew ?_ | refine blk_alloc ?_ _)); refine blk_far ?_ NB65002_65010.out _; (with_reducible repeat (first | refine blk_drewN ?_ _ | refine blk_drew ?_ | refine blk_alloc ?_ _)); refine blk_far ?_ NB65002_65010.out _; (with_reducible repeat (first | refine blk_drewN ?_ _ | refine blk_drew ?_ | refine blk_alloc ?_ _)); exact BK65002.out) hb); have n4_ := Aside0.mk (blk_below (g := gb65008) (o := .cells #[.int .i64 x65009000_1, .int .i64 x65009001_1] 49 (0, 0)) (by (with_reducible repeat (first | refine blk_drewN ?_ _ | refine blk_drew ?_ | refine blk_alloc ?_ _)); refine blk_far ?_ NB65008_65010.out _; (with_reducible repeat (first | refine blk_drewN ?_ _ | refine blk_drew ?_ | refine blk_alloc ?_ _)); refine blk_far ?_ NB65008_65010.out _; (with_reducible repeat (first | refine blk_drewN ?_ _ | refine blk_drew ?_ | refine blk_alloc ?_ _)); exact BK65008.out) hb); have n5_ := Aside0.mk (blk_below (g := gb65010) (o := .cells #[.int .i64 ((rd_T49 t65004 x20_1).f0), .int .i64 ((rd_T49 t65004 x20_1).f1)] 49 (0, 0)) (by (with_reducible repeat (first | refine blk_drewN ?_ _ | refine blk_drew ?_ | refine blk_alloc ?_ _)); refine blk_put (cs := #[.int .i64 ((rd_T49 t65004 x20_1).f0), .int .i64 0]) ?_ 1 _ rfl; (with_reducible repeat (first | refine blk_drewN ?_ _ | refine blk_drew ?_ | refine blk_alloc ?_ _)); refine blk_put (cs := #[.int .i64 0, .int .i64 0]) ?_ 0 _ rfl; (with_reducible repeat (first | refine blk_drewN ?_ _ | refine blk_drew ?_ | refine blk_alloc ?_ _)); exact BK65010.out) hb); have n6_ := Aside0.mk (bs_ hb); clear HO_18 HO_65002001 BK65001 BK65002 BK65008 BK65010 HB; have HO_18 := n0_; have HO_65002001 := n1_; have BK65001 := n2_; have BK65002 := n3_; have BK65008 := n4_; have BK65010 := n5_; have HB := n6_; clear n0_ n1_ n2_ n3_ n4_ n5_ n6_; (try clear hb); (try clear hb2); (try clear hk); (try clear hi); have hnb44 := NB65008_65001.out; have hnc44 := NB65001_65008.out; have hnb45 := NB65008_65002.out; have hnc45 := NB65002_65008.out; have hcz46_0 : w43.cell? ⟨gb65008, 0, none⟩ = some (.int .i64 x65009000_1) := (blk_cell BK65008.out 0).trans rfl; have hcz46_1 : w43.cell? ⟨gb65008, 1, none⟩ = some (.int .i64 x65009001_1) := (blk_cell BK65008.out 1).trans rfl; have hfz46_0 := blk_frozen BK65008.out 0; have hfz46_1 := blk_frozen BK65008.out 1; have hcz47_0 : w43.cell? ⟨gb65010, 0, none⟩ = some (.int .i64 ((rd_T49 t65004 x20_1).f0)) := (blk_cell BK65010.out 0).trans rfl; have hcz47_1 : w43.cell? ⟨gb65010, 1, none⟩ = some (.int .i64 ((rd_T49 t65004 x20_1).f1)) := (blk_cell BK65010.out 1).trans rfl; have hfz47_0 := blk_frozen BK65010.out 0; have hfz47_1 := blk_frozen BK65010.out 1))
         go_roundg k1
         case measure => have := HK1.out; omega
         case rel => exact ⟨(wrap64 (x20_1 + 1)), (ji36), (ji37), (by first | rfl | (simp; done) | (simp [*]; done)), H', ⟨by have := HK1.out; omega⟩, ⟨by (with_reducible repeat (first | apply Kd.V_alloc | apply Kd.V_drewN | apply Kd.V_drew)); exact Kd.V_mono (Kd.V_far (p := ⟨gb65008, 1, none⟩) (Kd.V_far (p := ⟨gb65008, 0, none⟩) (Kd.V_mono HO_18.out (fun k_ hk => (⟨hk, hk.1.2.2⟩ : _ ∧ k_ ≠ gb65008))) (fun _ hk => hk.2) (.int .i64 ji36)) (fun _ hk => hk.2) (.int .i64 ji37)) (fun _ hk => ⟨hk.1.1.1, ⟨hk.1.1.2.1, hk.1.1.2.2⟩⟩)⟩, ⟨by (with_reducible repeat (first | apply Kd.V_alloc | apply Kd.V_drewN | apply Kd.V_drew)); exact Kd.V_mono (Kd.V_far (p := ⟨gb65008, 1, none⟩) (Kd.V_far (p := ⟨gb65008, 0, none⟩) (Kd.V_mono HO_65002001.out (fun k_ hk => (⟨hk, hk.1.2.2⟩ : _ ∧ k_ ≠ gb65008))) (fun _ hk => hk.2) (.int .i64 ji36)) (fun _ hk => hk.2) (.int .i64 ji37)) (fun _ hk => ⟨hk.1.1.1, ⟨hk.1.1.2.1, hk.1.1.2.2⟩⟩)⟩, ⟨by (with_reducible repeat (first | refine blk_drewN ?_ _ | refine blk_drew ?_ | refine blk_alloc ?_ _)); refine blk_far ?_ NB65001_65008.out _; (with_reducible repeat (first | refine blk_drewN ?_ _ | refine blk_drew ?_ | refine blk_alloc ?_ _)); refine blk_far ?_ NB65001_65008.out _; (with_reducible repeat (first | refine blk_drewN ?_ _ | refine blk_drew ?_ | refine blk_alloc ?_ _)); exact BK65001.out⟩, ⟨by (with_reducible repeat (first | refine blk_drewN ?_ _ | refine blk_drew ?_ | refine blk_alloc ?_ _)); refine blk_far ?_ NB65002_65008.out _; (with_reducible repeat (first | refine blk_drewN ?_ _ | refine blk_drew ?_ | refine blk_alloc ?_ _)); refine blk_far ?_ NB65002_65008.out _; (with_reducible repeat (first | refine blk_drewN ?_ _ | refine blk_drew ?_ | refine blk_alloc ?_ _)); exact BK65002.out⟩, ⟨by (with_reducible repeat (first | refine blk_drewN ?_ _ | refine blk_drew ?_ | refine blk_alloc ?_ _)); refine blk_put (cs := #[.int .i64 ji36, .int .i64 x65009001_1]) ?_ 1 _ rfl; (with_reducible repeat (first | refine blk_drewN ?_ _ | refine blk_drew ?_ | refine blk_alloc ?_ _)); refine blk_put (cs := #[.int .i64 x65009000_1, .int .i64 x65009001_1]) ?_ 0 _ rfl; (with_reducible repeat (first | refine blk_drewN ?_ _ | refine blk_drew ?_ | refine blk_alloc ?_ _)); exact BK65008.out⟩, ⟨be_⟩⟩
       ·rw [if_neg c27] at H
        exact absurd H (by simp)
      ·rw [if_neg c26] at H
       exact absurd H (by simp)
     ·rw [if_neg c25] at H
      have c25b0 : decide (x20_1 < (t65004.length : Int)) = false := decide_eq_false c25
      clear c25
      simp only [Option.some.injEq, Prod.mk.injEq] at H
      obtain ⟨rfl, rfl, rfl, rfl⟩ := H
      have hnb48 := NB65008_65001.out
      have hnc48 := NB65001_65008.out
      have hnb49 := NB65008_65002.out
      have hnc49 := NB65002_65008.out
      have hcz50_0 : wr.cell? ⟨gb65008, 0, none⟩ = some (.int .i64 x65009000_1) := (blk_cell BK65008.out 0).trans rfl
      have hcz50_1 : wr.cell? ⟨gb65008, 1, none⟩ = some (.int .i64 x65009001_1) := (blk_cell BK65008.out 1).trans rfl
      have hfz50_0 := blk_frozen BK65008.out 0
      have hfz50_1 := blk_frozen BK65008.out 1
      have hnb51 := NB65001_65002.out
      have hnc51 := NB65002_65001.out
      have hcz52_0 : wr.cell? ⟨gb65001, 0, none⟩ = some (.int .i64 t65003) := (blk_cell BK65001.out 0).trans rfl
      have hcz52_1 : wr.cell? ⟨gb65001, 1, none⟩ = some (.slice (some ad65007) t65004.length co19) := (blk_cell BK65001.out 1).trans rfl
      have hfz52_0 := blk_frozen BK65001.out 0
      have hfz52_1 := blk_frozen BK65001.out 1
      have hcz53_0 : wr.cell? ⟨gb65002, 0, none⟩ = some (.int .i64 0) := (blk_cell BK65002.out 0).trans rfl
      have hcz53_1 : wr.cell? ⟨gb65002, 1, none⟩ = some (.int .i64 0) := (blk_cell BK65002.out 1).trans rfl
      have hcz53_2 : wr.cell? ⟨gb65002, 2, none⟩ = some (.int .i64 0) := (blk_cell BK65002.out 2).trans rfl
      have hcz53_3 : wr.cell? ⟨gb65002, 3, none⟩ = some (.int .i64 0) := (blk_cell BK65002.out 3).trans rfl
      have hfz53_0 := blk_frozen BK65002.out 0
      have hfz53_1 := blk_frozen BK65002.out 1
      have hfz53_2 := blk_frozen BK65002.out 2
      have hfz53_3 := blk_frozen BK65002.out 3
      go_wp2
      refine bodyPost_ret (results_cell_row rfl _ _ gb65002 54 #[.int .i64 x65009000_1, .int .i64 x65009001_1, .int .i64 (wrap64 (10 * t65003)), .int .i64 (wrap64 (10 * (wrap64 (t65003 + (t65004.length : Int)))))] (0, 0) _ rfl (by (with_reducible repeat (first | refine blk_drewN ?_ _ | refine blk_drew ?_ | refine blk_alloc ?_ _)); refine blk_put (cs := #[.int .i64 x65009000_1, .int .i64 x65009001_1, .int .i64 (wrap64 (10 * t65003)), .int .i64 0]) ?_ 3 _ rfl; (with_reducible repeat (first | refine blk_drewN ?_ _ | refine blk_drew ?_ | refine blk_alloc ?_ _)); refine blk_put (cs := #[.int .i64 x65009000_1, .int .i64 x65009001_1, .int .i64 0, .int .i64 0]) ?_ 2 _ rfl; (with_reducible repeat (first | refine blk_drewN ?_ _ | refine blk_drew ?_ | refine blk_alloc ?_ _)); refine blk_put (cs := #[.int .i64 x65009000_1, .int .i64 0, .int .i64 0, .int .i64 0]) ?_ 1 _ rfl; (with_reducible repeat (first | refine blk_drewN ?_ _ | refine blk_drew ?_ | refine blk_alloc ?_ _)); refine blk_put (cs := #[.int .i64 0, .int .i64 0, .int .i64 0, .int .i64 0]) ?_ 0 _ rfl; (with_reducible repeat (first | refine blk_drewN ?_ _ | refine blk_drew ?_ | refine blk_alloc ?_ _)); exact BK65002.out) Try.underlying54 rfl (by kernel_rfl)) rfl ?_
      exact ⟨er_, be_⟩
  ·rw [if_neg c12] at H
   exact absurd H (by simp)

end Go.Proofs.Ytdbjoopkliafeaa.P

end
section
namespace Go.Proofs.Ytdbjoopkliafeaa.P
open Go Go.RowKit Go.Proofs.YtdbjoopkliafeaaW.PrintWords Go.Proofs.YtdbjoopkliafeaaW.PrintLast Go.Proofs.YtdbjoopkliafeaaW.PrintMore
attribute [local go_sem] max2_int min2_int max_two min_two max_three min_three max_four min_four max_five min_eight max_eight   -- for this text's walks alone
set_option linter.unusedVariables false
set_option linter.unusedSimpArgs false

def shape_bounds.f (k : Nat) (a0_0 : Int) (l0_1 : List (S49)) : Option (Int × Int × Int × Int) := (section_Check.f k a0_0 l0_1).bind fun t39003 => (if t39003 = 0 then ((section_Bounds.f k a0_0 l0_1).bind fun bt39004 => (some (bt39004.1, bt39004.2.1, bt39004.2.2.1, bt39004.2.2.2))) else (some (0, 0, 0, 0)))
theorem shape_bounds.mono : ∀ a0 a1 k, LeO (shape_bounds.f k a0 a1) (shape_bounds.f (k + 1) a0 a1) := by
 intro a0 a1 k
 unfold shape_bounds.f
 repeat' first
   | (with_reducible exact section_Bounds.mono _ _ _)
   | (with_reducible exact section_Check.mono _ _ _)
   | (with_reducible exact LeO.refl _)
   | (with_reducible exact LeO.none _)
   | (with_reducible refine LeO.ite ?_ ?_)
   | (with_reducible refine LeO.bind ?_ (fun _ => ?_))
   | exact section_Bounds.mono _ _ _
   | exact section_Check.mono _ _ _
   | exact LeO.none _
   | refine LeO.ite ?_ ?_
   | refine LeO.bind ?_ (fun _ => ?_)
set_option maxHeartbeats 8000000 in
set_option maxRecDepth 100000 in
theorem shape_bounds.calls (k : Nat) (a0_0 : Int) (A0_1 : Option Addr) (c0_1 : Nat) (l0_1 : List (S49)) (r1 : Int) (r2 : Int) (r3 : Int) (r4 : Int) (w : World) (hr0_1 : Kd.C k49 w A0_1 l0_1.length l0_1) (hc0_1 : l0_1.length ≤ c0_1) (h : shape_bounds.f k a0_0 l0_1 = some (r1, r2, r3, r4)) :
  Calls Try.prog 39 #[.agg #[.int .i64 a0_0, .slice A0_1 l0_1.length c0_1]] w fun e w' => e = .returned (.agg #[.int .i64 r1, .int .i64 r2, .int .i64 r3, .int .i64 r4]) ∧ Below w.heap.size w w' := by
 have hu24 := Try.underlying24
 have hu54 := Try.underlying54
 have HR0_1 := Aside0.mk hr0_1
 have HC0_1 := Aside0.mk hc0_1
 clear hr0_1 hc0_1
 have HB := Aside0.mk (Below.refl w.heap.size w)
 have H : ((section_Check.f k a0_0 l0_1).bind fun t39003 => (if t39003 = 0 then ((section_Bounds.f k a0_0 l0_1).bind fun bt39004 => (some (bt39004.1, bt39004.2.1, bt39004.2.2.1, bt39004.2.2.2))) else (some (0, 0, 0, 0)))) = some (r1, r2, r3, r4) := h
 clear h
 replace H := Option.bind_eq_some_iff.mp H
 obtain ⟨t39003, A20, H⟩ := H
 replace H : (if t39003 = 0 then ((section_Bounds.f k a0_0 l0_1).bind fun bt39004 => (some (bt39004.1, bt39004.2.1, bt39004.2.2.1, bt39004.2.2.2))) else (some (0, 0, 0, 0))) = some (r1, r2, r3, r4) := H
 have A2 := Aside0.mk A20
 clear A20
 by_cases c3 : t39003 = 0
 ·rw [if_pos c3] at H
  have c3b0 : (t39003 == 0) = true := beq_iff_eq.mpr c3
  have c3b1 : (t39003 != 0) = false := bne_eq_false_iff_eq.mpr c3
  clear c3
  replace H := Option.bind_eq_some_iff.mp H
  obtain ⟨⟨t39004, t39005, t39006, t39007⟩, A40, H⟩ := H
  replace H : (some (t39004, t39005, t39006, t39007)) = some (r1, r2, r3, r4) := H
  have A4 := Aside0.mk A40
  clear A40
  simp only [Option.some.injEq, Prod.mk.injEq] at H
  obtain ⟨rfl, rfl, rfl, rfl⟩ := H
  go_enter Try.func39, Try.ntmps39
  go_wp2_with (first | ((with_reducible refine gate_dst (N := 1) rfl ?_); refine box_event ?hg (N := 1) ?hd (cs := #[.int .i64 a0_0, .slice A0_1 l0_1.length c0_1]) (t := 24) ?hr ?_; (case hd => rfl); (case hg => rfl); (case hr => first | (go_simp; done) | (go_simp; rfl)); intro gb39001 hg w5 hbox hb; have n0_ := Aside0.mk (bs_ hb); have n1_ := Aside0.mk (hbox); have n2_ := Aside0.mk ((by rw [hg]; exact bz_ : w.heap.size ≤ gb39001)); have n3_ := Aside0.mk ((by rw [hg]; exact bz_ : w.heap.size ≤ gb39001)); clear HB; have HB := n0_; have BK39001 := n1_; have GW39001 := n2_; have GE39001 := n3_; clear n0_ n1_ n2_ n3_; clear hb hbox hg) | ((with_reducible refine gate_dst (N := 2) rfl ?_); refine box_event ?hg (N := 2) ?hd (cs := #[.int .i64 0, .int .i64 0, .int .i64 0, .int .i64 0]) (t := 54) ?hr ?_; (case hd => rfl); (case hg => rfl); (case hr => first | (go_simp; done) | (go_simp; rfl)); intro gb39002 hg w6 hbox hb; have n0_ := Aside0.mk (blk_below (g := gb39001) (o := .cells #[.int .i64 a0_0, .slice A0_1 l0_1.length c0_1] 24 (0, 0)) (fb_ BK39001.out) hb); have n1_ := Aside0.mk (bs_ hb); have n2_ := Aside0.mk (hbox); have n3_ := Aside0.mk ((by rw [hg]; exact bz_ : w.heap.size ≤ gb39002)); have n4_ := Aside0.mk ((by rw [hg]; exact bz_ : w.heap.size ≤ gb39002)); have n5_ := Aside0.mk ((by rw [hg]; exact Nat.ne_of_lt (blk_lt (g := gb39001) (o := .cells #[.int .i64 a0_0, .slice A0_1 l0_1.length c0_1] 24 (0, 0)) (fb_ BK39001.out)) : gb39001 ≠ gb39002)); have n6_ := Aside0.mk ((by rw [hg]; exact Nat.ne_of_gt (blk_lt (g := gb39001) (o := .cells #[.int .i64 a0_0, .slice A0_1 l0_1.length c0_1] 24 (0, 0)) (fb_ BK39001.out)) : gb39002 ≠ gb39001)); clear BK39001 HB; have BK39001 := n0_; have HB := n1_; have BK39002 := n2_; have GW39002 := n3_; have GE39002 := n4_; have NB39001_39002 := n5_; have NB39002_39001 := n6_; clear n0_ n1_ n2_ n3_ n4_ n5_ n6_ hb hbox hg; have hnb7 := NB39001_39002.out; have hnc7 := NB39002_39001.out; have hcz8_0 : w6.cell? ⟨gb39001, 0, none⟩ = some (.int .i64 a0_0) := (blk_cell BK39001.out 0).trans rfl; have hcz8_1 : w6.cell? ⟨gb39001, 1, none⟩ = some (.slice A0_1 l0_1.length c0_1) := (blk_cell BK39001.out 1).trans rfl; have hfz8_0 := blk_frozen BK39001.out 0; have hfz8_1 := blk_frozen BK39001.out 1) | ((with_reducible refine gate_callee (f := 29) rfl ?_); refine goesL_ (some 4) rfl rfl Try.func29 (by kernel_rfl) rfl #[.agg #[.int .i64 a0_0, .slice A0_1 l0_1.length c0_1]] rfl la_ ?_; (with_reducible refine (section_Check.calls k a0_0 _ _ l0_1 t39003 _ ?side1 ?side2 A2.out).mono ?_); (case side1 => repeat (first | exact (Kd.C_below HR0_1.out HB.out) | (with_reducible refine Kd.C_alloc ?_ _) | (with_reducible refine Kd.C_drewN ?_ _) | (with_reducible refine Kd.C_drew ?_))); (case side2 => exact HC0_1.out); rintro e w9 ⟨rfl, hb⟩; refine ⟨_, rfl, ?_⟩; have n0_ := Aside0.mk (blk_below (g := gb39001) (o := .cells #[.int .i64 a0_0, .slice A0_1 l0_1.length c0_1] 24 (0, 0)) (fb_ BK39001.out) hb); have n1_ := Aside0.mk (blk_below (g := gb39002) (o := .cells #[.int .i64 0, .int .i64 0, .int .i64 0, .int .i64 0] 54 (0, 0)) (fb_ BK39002.out) hb); have n2_ := Aside0.mk (bs_ hb); clear BK39001 BK39002 HB; have BK39001 := n0_; have BK39002 := n1_; have HB := n2_; clear n0_ n1_ n2_; (try clear hb); (try clear hb2); (try clear hk); (try clear hi); have hcz10_0 : w9.cell? ⟨gb39001, 0, none⟩ = some (.int .i64 a0_0) := (blk_cell BK39001.out 0).trans rfl; have hcz10_1 : w9.cell? ⟨gb39001, 1, none⟩ = some (.slice A0_1 l0_1.length c0_1) := (blk_cell BK39001.out 1).trans rfl; have hfz10_0 := blk_frozen BK39001.out 0; have hfz10_1 := blk_frozen BK39001.out 1) | ((with_reducible refine gate_callee (f := 65) rfl ?_); refine goesL_ (some 8) rfl rfl Try.func65 (by kernel_rfl) rfl #[.agg #[.int .i64 a0_0, .slice A0_1 l0_1.length c0_1]] rfl la_ ?_; (with_reducible refine (section_Bounds.calls k a0_0 _ _ l0_1 t39004 t39005 t39006 t39007 _ ?side1 ?side2 A4.out).mono ?_); (case side1 => repeat (first | exact (Kd.C_below HR0_1.out HB.out) | (with_reducible refine Kd.C_alloc ?_ _) | (with_reducible refine Kd.C_drewN ?_ _) | (with_reducible refine Kd.C_drew ?_))); (case side2 => exact HC0_1.out); rintro e w11 ⟨rfl, hb⟩; refine ⟨_, rfl, ?_⟩; have n0_ := Aside0.mk (blk_below (g := gb39001) (o := .cells #[.int .i64 a0_0, .slice A0_1 l0_1.length c0_1] 24 (0, 0)) (fb_ BK39001.out) hb); have n1_ := Aside0.mk (blk_below (g := gb39002) (o := .cells #[.int .i64 0, .int .i64 0, .int .i64 0, .int .i64 0] 54 (0, 0)) (fb_ BK39002.out) hb); have n2_ := Aside0.mk (bs_ hb); clear BK39001 BK39002 HB; have BK39001 := n0_; have BK39002 := n1_; have HB := n2_; clear n0_ n1_ n2_; (try clear hb); (try clear hb2); (try clear hk); (try clear hi); have hcz12_0 : w11.cell? ⟨gb39002, 0, none⟩ = some (.int .i64 0) := (blk_cell BK39002.out 0).trans rfl; have hcz12_1 : w11.cell? ⟨gb39002, 1, none⟩ = some (.int .i64 0) := (blk_cell BK39002.out 1).trans rfl; have hcz12_2 : w11.cell? ⟨gb39002, 2, none⟩ = some (.int .i64 0) := (blk_cell BK39002.out 2).trans rfl; have hcz12_3 : w11.cell? ⟨gb39002, 3, none⟩ = some (.int .i64 0) := (blk_cell BK39002.out 3).trans rfl; have hfz12_0 := blk_frozen BK39002.out 0; have hfz12_1 := blk_frozen BK39002.out 1; have hfz12_2 := blk_frozen BK39002.out 2; have hfz12_3 := blk_frozen BK39002.out 3))
  refine bodyPost_ret (results_cell_row rfl _ _ gb39002 54 #[.int .i64 t39004, .int .i64 t39005, .int .i64 t39006, .int .i64 t39007] (0, 0) _ rfl (by (with_reducible repeat (first | refine blk_drewN ?_ _ | refine blk_drew ?_ | refine blk_alloc ?_ _)); refine blk_put (cs := #[.int .i64 t39004, .int .i64 t39005, .int .i64 t39006, .int .i64 0]) ?_ 3 _ rfl; (with_reducible repeat (first | refine blk_drewN ?_ _ | refine blk_drew ?_ | refine blk_alloc ?_ _)); refine blk_put (cs := #[.int .i64 t39004, .int .i64 t39005, .int .i64 0, .int .i64 0]) ?_ 2 _ rfl; (with_reducible repeat (first | refine blk_drewN ?_ _ | refine blk_drew ?_ | refine blk_alloc ?_ _)); refine blk_put (cs := #[.int .i64 t39004, .int .i64 0, .int .i64 0, .int .i64 0]) ?_ 1 _ rfl; (with_reducible repeat (first | refine blk_drewN ?_ _ | refine blk_drew ?_ | refine blk_alloc ?_ _)); refine blk_put (cs := #[.int .i64 0, .int .i64 0, .int .i64 0, .int .i64 0]) ?_ 0 _ rfl; (with_reducible repeat (first | refine blk_drewN ?_ _ | refine blk_drew ?_ | refine blk_alloc ?_ _)); exact BK39002.out) Try.underlying54 rfl (by kernel_rfl)) rfl ?_
  exact ⟨er_, be_⟩
 ·rw [if_neg c3] at H
  have c3b0 : (t39003 == 0) = false := beq_eq_false_iff_ne.mpr c3
  have c3b1 : (t39003 != 0) = true := bne_iff_ne.mpr c3
  simp only [Option.some.injEq, Prod.mk.injEq] at H
  obtain ⟨rfl, rfl, rfl, rfl⟩ := H
  go_enter Try.func39, Try.ntmps39
  go_wp2_with (first | ((with_reducible refine gate_dst (N := 1) rfl ?_); refine box_event ?hg (N := 1) ?hd (cs := #[.int .i64 a0_0, .slice A0_1 l0_1.length c0_1]) (t := 24) ?hr ?_; (case hd => rfl); (case hg => rfl); (case hr => first | (go_simp; done) | (go_simp; rfl)); intro gb39001 hg w13 hbox hb; have n0_ := Aside0.mk (bs_ hb); have n1_ := Aside0.mk (hbox); have n2_ := Aside0.mk ((by rw [hg]; exact bz_ : w.heap.size ≤ gb39001)); have n3_ := Aside0.mk ((by rw [hg]; exact bz_ : w.heap.size ≤ gb39001)); clear HB; have HB := n0_; have BK39001 := n1_; have GW39001 := n2_; have GE39001 := n3_; clear n0_ n1_ n2_ n3_; clear hb hbox hg) | ((with_reducible refine gate_dst (N := 2) rfl ?_); refine box_event ?hg (N := 2) ?hd (cs := #[.int .i64 0, .int .i64 0, .int .i64 0, .int .i64 0]) (t := 54) ?hr ?_; (case hd => rfl); (case hg => rfl); (case hr => first | (go_simp; done) | (go_simp; rfl)); intro gb39002 hg w14 hbox hb; have n0_ := Aside0.mk (blk_below (g := gb39001) (o := .cells #[.int .i64 a0_0, .slice A0_1 l0_1.length c0_1] 24 (0, 0)) (fb_ BK39001.out) hb); have n1_ := Aside0.mk (bs_ hb); have n2_ := Aside0.mk (hbox); have n3_ := Aside0.mk ((by rw [hg]; exact bz_ : w.heap.size ≤ gb39002)); have n4_ := Aside0.mk ((by rw [hg]; exact bz_ : w.heap.size ≤ gb39002)); have n5_ := Aside0.mk ((by rw [hg]; exact Nat.ne_of_lt (blk_lt (g := gb39001) (o := .cells #[.int .i64 a0_0, .slice A0_1 l0_1.length c0_1] 24 (0, 0)) (fb_ BK39001.out)) : gb39001 ≠ gb39002)); have n6_ := Aside0.mk ((by rw [hg]; exact Nat.ne_of_gt (blk_lt (g := gb39001) (o := .cells #[.int .i64 a0_0, .slice A0_1 l0_1.length c0_1] 24 (0, 0)) (fb_ BK39001.out)) : gb39002 ≠ gb39001)); clear BK39001 HB; have BK39001 := n0_; have HB := n1_; have BK39002 := n2_; have GW39002 := n3_; have GE39002 := n4_; have NB39001_39002 := n5_; have NB39002_39001 := n6_; clear n0_ n1_ n2_ n3_ n4_ n5_ n6_ hb hbox hg; have hnb15 := NB39001_39002.out; have hnc15 := NB39002_39001.out; have hcz16_0 : w14.cell? ⟨gb39001, 0, none⟩ = some (.int .i64 a0_0) := (blk_cell BK39001.out 0).trans rfl; have hcz16_1 : w14.cell? ⟨gb39001, 1, none⟩ = some (.slice A0_1 l0_1.length c0_1) := (blk_cell BK39001.out 1).trans rfl; have hfz16_0 := blk_frozen BK39001.out 0; have hfz16_1 := blk_frozen BK39001.out 1) | ((with_reducible refine gate_callee (f := 29) rfl ?_); refine goesL_ (some 4) rfl rfl Try.func29 (by kernel_rfl) rfl #[.agg #[.int .i64 a0_0, .slice A0_1 l0_1.length c0_1]] rfl la_ ?_; (with_reducible refine (section_Check.calls k a0_0 _ _ l0_1 t39003 _ ?side1 ?side2 A2.out).mono ?_); (case side1 => repeat (first | exact (Kd.C_below HR0_1.out HB.out) | (with_reducible refine Kd.C_alloc ?_ _) | (with_reducible refine Kd.C_drewN ?_ _) | (with_reducible refine Kd.C_drew ?_))); (case side2 => exact HC0_1.out); rintro e w17 ⟨rfl, hb⟩; refine ⟨_, rfl, ?_⟩; have n0_ := Aside0.mk (blk_below (g := gb39001) (o := .cells #[.int .i64 a0_0, .slice A0_1 l0_1.length c0_1] 24 (0, 0)) (fb_ BK39001.out) hb); have n1_ := Aside0.mk (blk_below (g := gb39002) (o := .cells #[.int .i64 0, .int .i64 0, .int .i64 0, .int .i64 0] 54 (0, 0)) (fb_ BK39002.out) hb); have n2_ := Aside0.mk (bs_ hb); clear BK39001 BK39002 HB; have BK39001 := n0_; have BK39002 := n1_; have HB := n2_; clear n0_ n1_ n2_; (try clear hb); (try clear hb2); (try clear hk); (try clear hi); have hcz18_0 : w17.cell? ⟨gb39002, 0, none⟩ = some (.int .i64 0) := (blk_cell BK39002.out 0).trans rfl; have hcz18_1 : w17.cell? ⟨gb39002, 1, none⟩ = some (.int .i64 0) := (blk_cell BK39002.out 1).trans rfl; have hcz18_2 : w17.cell? ⟨gb39002, 2, none⟩ = some (.int .i64 0) := (blk_cell BK39002.out 2).trans rfl; have hcz18_3 : w17.cell? ⟨gb39002, 3, none⟩ = some (.int .i64 0) := (blk_cell BK39002.out 3).trans rfl; have hfz18_0 := blk_frozen BK39002.out 0; have hfz18_1 := blk_frozen BK39002.out 1; have hfz18_2 := blk_frozen BK39002.out 2; have hfz18_3 := blk_frozen BK39002.out 3))
  refine bodyPost_ret (results_cell_row rfl _ _ gb39002 54 #[.int .i64 0, .int .i64 0, .int .i64 0, .int .i64 0] (0, 0) _ rfl (by (with_reducible repeat (first | refine blk_drewN ?_ _ | refine blk_drew ?_ | refine blk_alloc ?_ _)); refine blk_put (cs := #[.int .i64 0, .int .i64 0, .int .i64 0, .int .i64 0]) ?_ 3 _ rfl; (with_reducible repeat (first | refine blk_drewN ?_ _ | refine blk_drew ?_ | refine blk_alloc ?_ _)); refine blk_put (cs := #[.int .i64 0, .int .i64 0, .int .i64 0, .int .i64 0]) ?_ 2 _ rfl; (with_reducible repeat (first | refine blk_drewN ?_ _ | refine blk_drew ?_ | refine blk_alloc ?_ _)); refine blk_put (cs := #[.int .i64 0, .int .i64 0, .int .i64 0, .int .i64 0]) ?_ 1 _ rfl; (with_reducible repeat (first | refine blk_drewN ?_ _ | refine blk_drew ?_ | refine blk_alloc ?_ _)); refine blk_put (cs := #[.int .i64 0, .int .i64 0, .int .i64 0, .int .i64 0]) ?_ 0 _ rfl; (with_reducible repeat (first | refine blk_drewN ?_ _ | refine blk_drew ?_ | refine blk_alloc ?_ _)); exact BK39002.out) Try.underlying54 rfl (by kernel_rfl)) rfl ?_
  exact ⟨er_, be_⟩

end Go.Proofs.Ytdbjoopkliafeaa.P

end
section
namespace Go.Proofs.Ytdbjoopkliafeaa.P
open Go Go.RowKit Go.Proofs.YtdbjoopkliafeaaW.PrintWords Go.Proofs.YtdbjoopkliafeaaW.PrintLast Go.Proofs.YtdbjoopkliafeaaW.PrintMore
attribute [local go_sem] max2_int min2_int max_two min_two max_three min_three max_four min_four max_five min_eight max_eight   -- for this text's walks alone
set_option linter.unusedVariables false
set_option linter.unusedSimpArgs false

def shape_Center2.f (k : Nat) (a0_0 : Int) (l0_1 : List (S49)) : Option (Int × Int) := (shape_bounds.f k a0_0 l0_1).bind fun bt14003 => (some (wrap64 (bt14003.1 + bt14003.2.1), wrap64 (bt14003.2.2.1 + bt14003.2.2.2)))
theorem shape_Center2.mono : ∀ a0 a1 k, LeO (shape_Center2.f k a0 a1) (shape_Center2.f (k + 1) a0 a1) := by
 intro a0 a1 k
 unfold shape_Center2.f
 repeat' first
   | (with_reducible exact shape_bounds.mono _ _ _)
   | (with_reducible exact LeO.refl _)
   | (with_reducible exact LeO.none _)
   | (with_reducible refine LeO.ite ?_ ?_)
   | (with_reducible refine LeO.bind ?_ (fun _ => ?_))
   | exact shape_bounds.mono _ _ _
   | exact LeO.none _
   | refine LeO.ite ?_ ?_
   | refine LeO.bind ?_ (fun _ => ?_)
set_option maxHeartbeats 8000000 in
set_option maxRecDepth 100000 in
theorem shape_Center2.calls (k : Nat) (a0_0 : Int) (A0_1 : Option Addr) (c0_1 : Nat) (l0_1 : List (S49)) (r1 : Int) (r2 : Int) (w : World) (hr0_1 : Kd.C k49 w A0_1 l0_1.length l0_1) (hc0_1 : l0_1.length ≤ c0_1) (h : shape_Center2.f k a0_0 l0_1 = some (r1, r2)) :
  Calls Try.prog 14 #[.agg #[.int .i64 a0_0, .slice A0_1 l0_1.length c0_1]] w fun e w' => e = .returned (.agg #[.int .i64 r1, .int .i64 r2]) ∧ Below w.heap.size w w' := by
 have hu24 := Try.underlying24
 have hu28 := Try.underlying28
 have hu54 := Try.underlying54
 have HR0_1 := Aside0.mk hr0_1
 have HC0_1 := Aside0.mk hc0_1
 clear hr0_1 hc0_1
 have HB := Aside0.mk (Below.refl w.heap.size w)
 have H : ((shape_bounds.f k a0_0 l0_1).bind fun bt14003 => (some (wrap64 (bt14003.1 + bt14003.2.1), wrap64 (bt14003.2.2.1 + bt14003.2.2.2)))) = some (r1, r2) := h
 clear h
 replace H := Option.bind_eq_some_iff.mp H
 obtain ⟨⟨t14003, t14004, t14005, t14006⟩, A20, H⟩ := H
 replace H : (some (wrap64 (t14003 + t14004), wrap64 (t14005 + t14006))) = some (r1, r2) := H
 have A2 := Aside0.mk A20
 clear A20
 simp only [Option.some.injEq, Prod.mk.injEq] at H
 obtain ⟨rfl, rfl⟩ := H
 go_enter Try.func14, Try.ntmps14
 go_wp2_with (first | ((with_reducible refine gate_dst (N := 1) rfl ?_); refine box_event ?hg (N := 1) ?hd (cs := #[.int .i64 a0_0, .slice A0_1 l0_1.length c0_1]) (t := 24) ?hr ?_; (case hd => rfl); (case hg => rfl); (case hr => first | (go_simp; done) | (go_simp; rfl)); intro gb14001 hg w3 hbox hb; have n0_ := Aside0.mk (bs_ hb); have n1_ := Aside0.mk (hbox); have n2_ := Aside0.mk ((by rw [hg]; exact bz_ : w.heap.size ≤ gb14001)); have n3_ := Aside0.mk ((by rw [hg]; exact bz_ : w.heap.size ≤ gb14001)); clear HB; have HB := n0_; have BK14001 := n1_; have GW14001 := n2_; have GE14001 := n3_; clear n0_ n1_ n2_ n3_; clear hb hbox hg) | ((with_reducible refine gate_dst (N := 2) rfl ?_); refine box_event ?hg (N := 2) ?hd (cs := #[.int .i64 0, .int .i64 0]) (t := 28) ?hr ?_; (case hd => rfl); (case hg => rfl); (case hr => first | (go_simp; done) | (go_simp; rfl)); intro gb14002 hg w4 hbox hb; have n0_ := Aside0.mk (blk_below (g := gb14001) (o := .cells #[.int .i64 a0_0, .slice A0_1 l0_1.length c0_1] 24 (0, 0)) (fb_ BK14001.out) hb); have n1_ := Aside0.mk (bs_ hb); have n2_ := Aside0.mk (hbox); have n3_ := Aside0.mk ((by rw [hg]; exact bz_ : w.heap.size ≤ gb14002)); have n4_ := Aside0.mk ((by rw [hg]; exact bz_ : w.heap.size ≤ gb14002)); have n5_ := Aside0.mk ((by rw [hg]; exact Nat.ne_of_lt (blk_lt (g := gb14001) (o := .cells #[.int .i64 a0_0, .slice A0_1 l0_1.length c0_1] 24 (0, 0)) (fb_ BK14001.out)) : gb14001 ≠ gb14002)); have n6_ := Aside0.mk ((by rw [hg]; exact Nat.ne_of_gt (blk_lt (g := gb14001) (o := .cells #[.int .i64 a0_0, .slice A0_1 l0_1.length c0_1] 24 (0, 0)) (fb_ BK14001.out)) : gb14002 ≠ gb14001)); clear BK14001 HB; have BK14001 := n0_; have HB := n1_; have BK14002 := n2_; have GW14002 := n3_; have GE14002 := n4_; have NB14001_14002 := n5_; have NB14002_14001 := n6_; clear n0_ n1_ n2_ n3_ n4_ n5_ n6_ hb hbox hg; have hnb5 := NB14001_14002.out; have hnc5 := NB14002_14001.out; have hcz6_0 : w4.cell? ⟨gb14001, 0, none⟩ = some (.int .i64 a0_0) := (blk_cell BK14001.out 0).trans rfl; have hcz6_1 : w4.cell? ⟨gb14001, 1, none⟩ = some (.slice A0_1 l0_1.length c0_1) := (blk_cell BK14001.out 1).trans rfl; have hfz6_0 := blk_frozen BK14001.out 0; have hfz6_1 := blk_frozen BK14001.out 1) | ((with_reducible refine gate_callee (f := 39) rfl ?_); refine goesL_ (some 5) rfl rfl Try.func39 (by kernel_rfl) rfl #[.agg #[.int .i64 a0_0, .slice A0_1 l0_1.length c0_1]] rfl la_ ?_; (with_reducible refine (shape_bounds.calls k a0_0 _ _ l0_1 t14003 t14004 t14005 t14006 _ ?side1 ?side2 A2.out).mono ?_); (case side1 => repeat (first | exact (Kd.C_below HR0_1.out HB.out) | (with_reducible refine Kd.C_alloc ?_ _) | (with_reducible refine Kd.C_drewN ?_ _) | (with_reducible refine Kd.C_drew ?_))); (case side2 => exact HC0_1.out); rintro e w7 ⟨rfl, hb⟩; refine ⟨_, rfl, ?_⟩; have n0_ := Aside0.mk (blk_below (g := gb14001) (o := .cells #[.int .i64 a0_0, .slice A0_1 l0_1.length c0_1] 24 (0, 0)) (fb_ BK14001.out) hb); have n1_ := Aside0.mk (blk_below (g := gb14002) (o := .cells #[.int .i64 0, .int .i64 0] 28 (0, 0)) (fb_ BK14002.out) hb); have n2_ := Aside0.mk (bs_ hb); clear BK14001 BK14002 HB; have BK14001 := n0_; have BK14002 := n1_; have HB := n2_; clear n0_ n1_ n2_; (try clear hb); (try clear hb2); (try clear hk); (try clear hi)) | ((with_reducible refine gate_dst (N := 3) rfl ?_); refine box_event ?hg (N := 3) ?hd (cs := #[.int .i64 0, .int .i64 0, .int .i64 0, .int .i64 0]) (t := 54) ?hr ?_; (case hd => rfl); (case hg => rfl); (case hr => first | (go_simp; done) | (go_simp; rfl)); intro gb14007 hg w8 hbox hb; have n0_ := Aside0.mk (blk_below (g := gb14001) (o := .cells #[.int .i64 a0_0, .slice A0_1 l0_1.length c0_1] 24 (0, 0)) (fb_ BK14001.out) hb); have n1_ := Aside0.mk (blk_below (g := gb14002) (o := .cells #[.int .i64 0, .int .i64 0] 28 (0, 0)) (fb_ BK14002.out) hb); have n2_ := Aside0.mk (bs_ hb); have n3_ := Aside0.mk (hbox); have n4_ := Aside0.mk ((by rw [hg]; exact bz_ : w.heap.size ≤ gb14007)); have n5_ := Aside0.mk ((by rw [hg]; exact bz_ : w.heap.size ≤ gb14007)); have n6_ := Aside0.mk ((by rw [hg]; exact Nat.ne_of_lt (blk_lt (g := gb14001) (o := .cells #[.int .i64 a0_0, .slice A0_1 l0_1.length c0_1] 24 (0, 0)) (fb_ BK14001.out)) : gb14001 ≠ gb14007)); have n7_ := Aside0.mk ((by rw [hg]; exact Nat.ne_of_gt (blk_lt (g := gb14001) (o := .cells #[.int .i64 a0_0, .slice A0_1 l0_1.length c0_1] 24 (0, 0)) (fb_ BK14001.out)) : gb14007 ≠ gb14001)); have n8_ := Aside0.mk ((by rw [hg]; exact Nat.ne_of_lt (blk_lt (g := gb14002) (o := .cells #[.int .i64 0, .int .i64 0] 28 (0, 0)) (fb_ BK14002.out)) : gb14002 ≠ gb14007)); have n9_ := Aside0.mk ((by rw [hg]; exact Nat.ne_of_gt (blk_lt (g := gb14002) (o := .cells #[.int .i64 0, .int .i64 0] 28 (0, 0)) (fb_ BK14002.out)) : gb14007 ≠ gb14002)); clear BK14001 BK14002 HB; have BK14001 := n0_; have BK14002 := n1_; have HB := n2_; have BK14007 := n3_; have GW14007 := n4_; have GE14007 := n5_; have NB14001_14007 := n6_; have NB14007_14001 := n7_; have NB14002_14007 := n8_; have NB14007_14002 := n9_; clear n0_ n1_ n2_ n3_ n4_ n5_ n6_ n7_ n8_ n9_ hb hbox hg; have hnb9 := NB14007_14001.out; have hnc9 := NB14001_14007.out; have hnb10 := NB14007_14002.out; have hnc10 := NB14002_14007.out; have hcz11_0 : w8.cell? ⟨gb14007, 0, none⟩ = some (.int .i64 0) := (blk_cell BK14007.out 0).trans rfl; have hcz11_1 : w8.cell? ⟨gb14007, 1, none⟩ = some (.int .i64 0) := (blk_cell BK14007.out 1).trans rfl; have hcz11_2 : w8.cell? ⟨gb14007, 2, none⟩ = some (.int .i64 0) := (blk_cell BK14007.out 2).trans rfl; have hcz11_3 : w8.cell? ⟨gb14007, 3, none⟩ = some (.int .i64 0) := (blk_cell BK14007.out 3).trans rfl; have hfz11_0 := blk_frozen BK14007.out 0; have hfz11_1 := blk_frozen BK14007.out 1; have hfz11_2 := blk_frozen BK14007.out 2; have hfz11_3 := blk_frozen BK14007.out 3; have hcz12_0 : w8.cell? ⟨gb14002, 0, none⟩ = some (.int .i64 0) := (blk_cell BK14002.out 0).trans rfl; have hcz12_1 : w8.cell? ⟨gb14002, 1, none⟩ = some (.int .i64 0) := (blk_cell BK14002.out 1).trans rfl; have hfz12_0 := blk_frozen BK14002.out 0; have hfz12_1 := blk_frozen BK14002.out 1))
 refine bodyPost_ret (results_cell_row rfl _ _ gb14002 28 #[.int .i64 (wrap64 (t14003 + t14004)), .int .i64 (wrap64 (t14005 + t14006))] (0, 0) _ rfl (by (with_reducible repeat (first | refine blk_drewN ?_ _ | refine blk_drew ?_ | refine blk_alloc ?_ _)); refine blk_put (cs := #[.int .i64 (wrap64 (t14003 + t14004)), .int .i64 0]) ?_ 1 _ rfl; (with_reducible repeat (first | refine blk_drewN ?_ _ | refine blk_drew ?_ | refine blk_alloc ?_ _)); refine blk_put (cs := #[.int .i64 0, .int .i64 0]) ?_ 0 _ rfl; (with_reducible repeat (first | refine blk_drewN ?_ _ | refine blk_drew ?_ | refine blk_alloc ?_ _)); refine blk_far ?_ NB14002_14007.out _; (with_reducible repeat (first | refine blk_drewN ?_ _ | refine blk_drew ?_ | refine blk_alloc ?_ _)); refine blk_far ?_ NB14002_14007.out _; (with_reducible repeat (first | refine blk_drewN ?_ _ | refine blk_drew ?_ | refine blk_alloc ?_ _)); refine blk_far ?_ NB14002_14007.out _; (with_reducible repeat (first | refine blk_drewN ?_ _ | refine blk_drew ?_ | refine blk_alloc ?_ _)); refine blk_far ?_ NB14002_14007.out _; (with_reducible repeat (first | refine blk_drewN ?_ _ | refine blk_drew ?_ | refine blk_alloc ?_ _)); exact BK14002.out) Try.underlying28 rfl (by kernel_rfl)) rfl ?_
 exact ⟨er_, be_⟩

end Go.Proofs.Ytdbjoopkliafeaa.P

end
section
namespace Go.Proofs.Ytdbjoopkliafeaa.P
open Go Go.RowKit Go.Proofs.YtdbjoopkliafeaaW.PrintWords Go.Proofs.YtdbjoopkliafeaaW.PrintLast Go.Proofs.YtdbjoopkliafeaaW.PrintMore
attribute [local go_sem] max2_int min2_int max_two min_two max_three min_three max_four min_four max_five min_eight max_eight   -- for this text's walks alone
set_option linter.unusedVariables false
set_option linter.unusedSimpArgs false

def shape_Oval.f (k : Nat) (a0_0 : Int) (l0_1 : List (S49)) : Option (Int) := (shape_bounds.f k a0_0 l0_1).bind fun bt16002 => (some (wrap64 ((wrap64 (bt16002.2.1 - bt16002.1)) - (wrap64 (bt16002.2.2.2 - bt16002.2.2.1)))))
theorem shape_Oval.mono : ∀ a0 a1 k, LeO (shape_Oval.f k a0 a1) (shape_Oval.f (k + 1) a0 a1) := by
 intro a0 a1 k
 unfold shape_Oval.f
 repeat' first
   | (with_reducible exact shape_bounds.mono _ _ _)
   | (with_reducible exact LeO.refl _)
   | (with_reducible exact LeO.none _)
   | (with_reducible refine LeO.ite ?_ ?_)
   | (with_reducible refine LeO.bind ?_ (fun _ => ?_))
   | exact shape_bounds.mono _ _ _
   | exact LeO.none _
   | refine LeO.ite ?_ ?_
   | refine LeO.bind ?_ (fun _ => ?_)
set_option maxHeartbeats 8000000 in
set_option maxRecDepth 100000 in
theorem shape_Oval.calls (k : Nat) (a0_0 : Int) (A0_1 : Option Addr) (c0_1 : Nat) (l0_1 : List (S49)) (r : Int) (w : World) (hr0_1 : Kd.C k49 w A0_1 l0_1.length l0_1) (hc0_1 : l0_1.length ≤ c0_1) (h : shape_Oval.f k a0_0 l0_1 = some r) :
  Calls Try.prog 16 #[.agg #[.int .i64 a0_0, .slice A0_1 l0_1.length c0_1]] w fun e w' => e = .returned (.int .i64 r) ∧ Below w.heap.size w w' := by
 have hu24 := Try.underlying24
 have hu54 := Try.underlying54
 have HR0_1 := Aside0.mk hr0_1
 have HC0_1 := Aside0.mk hc0_1
 clear hr0_1 hc0_1
 have HB := Aside0.mk (Below.refl w.heap.size w)
 have H : ((shape_bounds.f k a0_0 l0_1).bind fun bt16002 => (some (wrap64 ((wrap64 (bt16002.2.1 - bt16002.1)) - (wrap64 (bt16002.2.2.2 - bt16002.2.2.1)))))) = some r := h
 clear h
 replace H := Option.bind_eq_some_iff.mp H
 obtain ⟨⟨t16002, t16003, t16004, t16005⟩, A20, H⟩ := H
 replace H : (some (wrap64 ((wrap64 (t16003 - t16002)) - (wrap64 (t16005 - t16004))))) = some r := H
 have A2 := Aside0.mk A20
 clear A20
 obtain rfl := Option.some.inj H
 go_enter Try.func16, Try.ntmps16
 go_wp2_with (first | ((with_reducible refine gate_dst (N := 1) rfl ?_); refine box_event ?hg (N := 1) ?hd (cs := #[.int .i64 a0_0, .slice A0_1 l0_1.length c0_1]) (t := 24) ?hr ?_; (case hd => rfl); (case hg => rfl); (case hr => first | (go_simp; done) | (go_simp; rfl)); intro gb16001 hg w3 hbox hb; have n0_ := Aside0.mk (bs_ hb); have n1_ := Aside0.mk (hbox); have n2_ := Aside0.mk ((by rw [hg]; exact bz_ : w.heap.size ≤ gb16001)); have n3_ := Aside0.mk ((by rw [hg]; exact bz_ : w.heap.size ≤ gb16001)); clear HB; have HB := n0_; have BK16001 := n1_; have GW16001 := n2_; have GE16001 := n3_; clear n0_ n1_ n2_ n3_ hb hbox hg; have hcz4_0 : w3.cell? ⟨gb16001, 0, none⟩ = some (.int .i64 a0_0) := (blk_cell BK16001.out 0).trans rfl; have hcz4_1 : w3.cell? ⟨gb16001, 1, none⟩ = some (.slice A0_1 l0_1.length c0_1) := (blk_cell BK16001.out 1).trans rfl; have hfz4_0 := blk_frozen BK16001.out 0; have hfz4_1 := blk_frozen BK16001.out 1) | ((with_reducible refine gate_callee (f := 39) rfl ?_); refine goesL_ (some 5) rfl rfl Try.func39 (by kernel_rfl) rfl #[.agg #[.int .i64 a0_0, .slice A0_1 l0_1.length c0_1]] rfl la_ ?_; (with_reducible refine (shape_bounds.calls k a0_0 _ _ l0_1 t16002 t16003 t16004 t16005 _ ?side1 ?side2 A2.out).mono ?_); (case side1 => repeat (first | exact (Kd.C_below HR0_1.out HB.out) | (with_reducible refine Kd.C_alloc ?_ _) | (with_reducible refine Kd.C_drewN ?_ _) | (with_reducible refine Kd.C_drew ?_))); (case side2 => exact HC0_1.out); rintro e w5 ⟨rfl, hb⟩; refine ⟨_, rfl, ?_⟩; have n0_ := Aside0.mk (blk_below (g := gb16001) (o := .cells #[.int .i64 a0_0, .slice A0_1 l0_1.length c0_1] 24 (0, 0)) (fb_ BK16001.out) hb); have n1_ := Aside0.mk (bs_ hb); clear BK16001 HB; have BK16001 := n0_; have HB := n1_; clear n0_ n1_; (try clear hb); (try clear hb2); (try clear hk); (try clear hi)) | ((with_reducible refine gate_dst (N := 3) rfl ?_); refine box_event ?hg (N := 3) ?hd (cs := #[.int .i64 0, .int .i64 0, .int .i64 0, .int .i64 0]) (t := 54) ?hr ?_; (case hd => rfl); (case hg => rfl); (case hr => first | (go_simp; done) | (go_simp; rfl)); intro gb16006 hg w6 hbox hb; have n0_ := Aside0.mk (blk_below (g := gb16001) (o := .cells #[.int .i64 a0_0, .slice A0_1 l0_1.length c0_1] 24 (0, 0)) (fb_ BK16001.out) hb); have n1_ := Aside0.mk (bs_ hb); have n2_ := Aside0.mk (hbox); have n3_ := Aside0.mk ((by rw [hg]; exact bz_ : w.heap.size ≤ gb16006)); have n4_ := Aside0.mk ((by rw [hg]; exact bz_ : w.heap.size ≤ gb16006)); have n5_ := Aside0.mk ((by rw [hg]; exact Nat.ne_of_lt (blk_lt (g := gb16001) (o := .cells #[.int .i64 a0_0, .slice A0_1 l0_1.length c0_1] 24 (0, 0)) (fb_ BK16001.out)) : gb16001 ≠ gb16006)); have n6_ := Aside0.mk ((by rw [hg]; exact Nat.ne_of_gt (blk_lt (g := gb16001) (o := .cells #[.int .i64 a0_0, .slice A0_1 l0_1.length c0_1] 24 (0, 0)) (fb_ BK16001.out)) : gb16006 ≠ gb16001)); clear BK16001 HB; have BK16001 := n0_; have HB := n1_; have BK16006 := n2_; have GW16006 := n3_; have GE16006 := n4_; have NB16001_16006 := n5_; have NB16006_16001 := n6_; clear n0_ n1_ n2_ n3_ n4_ n5_ n6_ hb hbox hg; have hnb7 := NB16006_16001.out; have hnc7 := NB16001_16006.out; have hcz8_0 : w6.cell? ⟨gb16006, 0, none⟩ = some (.int .i64 0) := (blk_cell BK16006.out 0).trans rfl; have hcz8_1 : w6.cell? ⟨gb16006, 1, none⟩ = some (.int .i64 0) := (blk_cell BK16006.out 1).trans rfl; have hcz8_2 : w6.cell? ⟨gb16006, 2, none⟩ = some (.int .i64 0) := (blk_cell BK16006.out 2).trans rfl; have hcz8_3 : w6.cell? ⟨gb16006, 3, none⟩ = some (.int .i64 0) := (blk_cell BK16006.out 3).trans rfl; have hfz8_0 := blk_frozen BK16006.out 0; have hfz8_1 := blk_frozen BK16006.out 1; have hfz8_2 := blk_frozen BK16006.out 2; have hfz8_3 := blk_frozen BK16006.out 3))
 go_ret
 exact ⟨er_, be_⟩

end Go.Proofs.Ytdbjoopkliafeaa.P

end
section
namespace Go.Proofs.Ytdbjoopkliafeaa.P
open Go Go.RowKit Go.Proofs.YtdbjoopkliafeaaW.PrintWords Go.Proofs.YtdbjoopkliafeaaW.PrintLast Go.Proofs.YtdbjoopkliafeaaW.PrintMore
attribute [local go_sem] max2_int min2_int max_two min_two max_three min_three max_four min_four max_five min_eight max_eight   -- for this text's walks alone
set_option linter.unusedVariables false
set_option linter.unusedSimpArgs false

def units_Floor_1.f (a0 : Int) (a1 : Int) : Option (Bool) := some false
set_option maxHeartbeats 8000000 in
set_option maxRecDepth 100000 in
theorem units_Floor_1.calls (a0 : Int) (a1 : Int) (r : Bool) (w : World) (h : units_Floor_1.f a0 a1 = some r) :
  Calls Try.prog 67 #[.int .i64 a0, .int .i64 a1] w fun e w' => e = .returned (.bool r) ∧ Drawn0 w w' := by
 have H : (some false) = some r := h
 clear h
 obtain rfl := Option.some.inj H
 go_enter Try.func67, Try.ntmps67
 go_wp2
 go_ret
 exact ⟨by first | rfl | (simp; done) | (simp [*]; done), by repeat (first | exact Drawn0.refl _ | apply Drawn0.step)⟩

end Go.Proofs.Ytdbjoopkliafeaa.P

end
section
namespace Go.Proofs.Ytdbjoopkliafeaa.P
open Go Go.RowKit Go.Proofs.YtdbjoopkliafeaaW.PrintWords Go.Proofs.YtdbjoopkliafeaaW.PrintLast Go.Proofs.YtdbjoopkliafeaaW.PrintMore
attribute [local go_sem] max2_int min2_int max_two min_two max_three min_three max_four min_four max_five min_eight max_eight   -- for this text's walks alone
set_option linter.unusedVariables false
set_option linter.unusedSimpArgs false

mutual
def units_division_of.j0 : Nat → Int → Int → Bool → Option (Int × Bool)
 | 0, _, _, _ => none
 | k + 1, x1, x2, x19 => if x19 = true then (some (0, false)) else (if x2 = 0 then (none) else (if (Int.tmod x1 x2) = 0 then (units_division_of.j1 k x2 (wrap64 (Int.tdiv x1 x2)) (Int.tmod x1 x2) false) else (units_division_of.j1 k x2 (wrap64 (Int.tdiv x1 x2)) (Int.tmod x1 x2) ((decide ((Int.tmod x1 x2) < 0)) != (decide (x2 < 0))))))
def units_division_of.j1 : Nat → Int → Int → Int → Bool → Option (Int × Bool)
 | 0, _, _, _, _ => none
 | k + 1, x2, x8, x9, x34 => if x34 = true then ((units_Floor_1.f (wrap64 (x9 + x2)) x2).bind fun t68002 => (if t68002 = true then (some (wrap64 ((wrap64 (x8 - 1)) + 1), true)) else (some (wrap64 (x8 - 1), true)))) else ((units_Floor_1.f x9 x2).bind fun t68003 => (if t68003 = true then (some (wrap64 (x8 + 1), true)) else (some (x8, true))))
end
def units_division_of.f (k : Nat) (a0_0 : Unit) (a1 : Int) (a2 : Int) : Option (Int × Bool) := if a2 = 0 then (units_division_of.j0 k a1 a2 true) else (if a1 = (-9223372036854775808) then (units_division_of.j0 k a1 a2 (a2 == (-1))) else (units_division_of.j0 k a1 a2 false))
theorem units_division_of.mono_l : ∀ k, (∀ y0 y1 y2, LeO (units_division_of.j0 k y0 y1 y2) (units_division_of.j0 (k + 1) y0 y1 y2)) ∧ (∀ y0 y1 y2 y3, LeO (units_division_of.j1 k y0 y1 y2 y3) (units_division_of.j1 (k + 1) y0 y1 y2 y3))
 | 0 => ⟨fun _ _ _ r h => by simp [units_division_of.j0] at h, fun _ _ _ _ r h => by simp [units_division_of.j1] at h⟩
 | k + 1 => by
  obtain ⟨ih0, ih1⟩ := units_division_of.mono_l k
  refine ⟨?_, ?_⟩
  ·intro y0 y1 y2
   unfold units_division_of.j0
   repeat' first
   | (with_reducible exact ih0 _ _ _)
   | (with_reducible exact ih1 _ _ _ _)
   | (with_reducible exact LeO.refl _)
   | (with_reducible exact LeO.none _)
   | (with_reducible refine LeO.ite ?_ ?_)
   | (with_reducible refine LeO.bind ?_ (fun _ => ?_))
   | exact ih0 _ _ _
   | exact ih1 _ _ _ _
   | exact LeO.none _
   | refine LeO.ite ?_ ?_
   | refine LeO.bind ?_ (fun _ => ?_)
  ·intro y0 y1 y2 y3
   unfold units_division_of.j1
   repeat' first
   | (with_reducible exact ih0 _ _ _)
   | (with_reducible exact ih1 _ _ _ _)
   | (with_reducible exact LeO.refl _)
   | (with_reducible exact LeO.none _)
   | (with_reducible refine LeO.ite ?_ ?_)
   | (with_reducible refine LeO.bind ?_ (fun _ => ?_))
   | exact ih0 _ _ _
   | exact ih1 _ _ _ _
   | exact LeO.none _
   | refine LeO.ite ?_ ?_
   | refine LeO.bind ?_ (fun _ => ?_)
theorem units_division_of.mono : ∀ a0 a1 a2 k, LeO (units_division_of.f k a0 a1 a2) (units_division_of.f (k + 1) a0 a1 a2) := by
 intro a0 a1 a2 k
 obtain ⟨ih0, ih1⟩ := units_division_of.mono_l k
 unfold units_division_of.f
 repeat' first
   | (with_reducible exact ih0 _ _ _)
   | (with_reducible exact ih1 _ _ _ _)
   | (with_reducible exact LeO.refl _)
   | (with_reducible exact LeO.none _)
   | (with_reducible refine LeO.ite ?_ ?_)
   | (with_reducible refine LeO.bind ?_ (fun _ => ?_))
   | exact ih0 _ _ _
   | exact ih1 _ _ _ _
   | exact LeO.none _
   | refine LeO.ite ?_ ?_
   | refine LeO.bind ?_ (fun _ => ?_)
set_option maxHeartbeats 8000000 in
set_option maxRecDepth 100000 in
theorem units_division_of.calls (k : Nat) (a0_0 : Unit) (a1 : Int) (a2 : Int) (r1 : Int) (r2 : Bool) (w : World) (h : units_division_of.f k a0_0 a1 a2 = some (r1, r2)) :
  Calls Try.prog 68 #[.agg #[(.func (.func 67) #[] #[])], .int .i64 a1, .int .i64 a2] w fun e w' => e = .returned (.tuple #[.int .i64 r1, .bool r2]) ∧ Below w.heap.size w w' := by
 have hu76 := Try.underlying76
 have HB := Aside0.mk (Below.refl w.heap.size w)
 have H : (if a2 = 0 then (units_division_of.j0 k a1 a2 true) else (if a1 = (-9223372036854775808) then (units_division_of.j0 k a1 a2 (a2 == (-1))) else (units_division_of.j0 k a1 a2 false))) = some (r1, r2) := h
 clear h
 have HC4 := Aside0.mk H
 clear H
 go_enter Try.func68, Try.ntmps68
 go_upto_region 1 with (first | ((with_reducible refine gate_dst (N := 3) rfl ?_); refine box_event ?hg (N := 3) ?hd (cs := #[(.func (.func 67) #[] #[])]) (t := 76) ?hr ?_; (case hd => rfl); (case hg => rfl); (case hr => first | (go_simp; done) | (go_simp; rfl)); intro gb68001 hg w5 hbox hb; have n0_ := Aside0.mk (bs_ hb); have n1_ := Aside0.mk (hbox); have n2_ := Aside0.mk ((by rw [hg]; exact bz_ : w.heap.size ≤ gb68001)); have n3_ := Aside0.mk ((by rw [hg]; exact bz_ : w.heap.size ≤ gb68001)); clear HB; have HB := n0_; have BK68001 := n1_; have GW68001 := n2_; have GE68001 := n3_; clear n0_ n1_ n2_ n3_; clear hb hbox hg))
 repeat (go_quiet (first | ((with_reducible refine gate_dst (N := 3) rfl ?_); refine box_event ?hg (N := 3) ?hd (cs := #[(.func (.func 67) #[] #[])]) (t := 76) ?hr ?_; (case hd => rfl); (case hg => rfl); (case hr => first | (go_simp; done) | (go_simp; rfl)); intro gb68001 hg w5 hbox hb; have n0_ := Aside0.mk (bs_ hb); have n1_ := Aside0.mk (hbox); have n2_ := Aside0.mk ((by rw [hg]; exact bz_ : w.heap.size ≤ gb68001)); have n3_ := Aside0.mk ((by rw [hg]; exact bz_ : w.heap.size ≤ gb68001)); clear HB; have HB := n0_; have BK68001 := n1_; have GW68001 := n2_; have GE68001 := n3_; clear n0_ n1_ n2_ n3_; clear hb hbox hg)); go_upto_region 1 with (first | ((with_reducible refine gate_dst (N := 3) rfl ?_); refine box_event ?hg (N := 3) ?hd (cs := #[(.func (.func 67) #[] #[])]) (t := 76) ?hr ?_; (case hd => rfl); (case hg => rfl); (case hr => first | (go_simp; done) | (go_simp; rfl)); intro gb68001 hg w5 hbox hb; have n0_ := Aside0.mk (bs_ hb); have n1_ := Aside0.mk (hbox); have n2_ := Aside0.mk ((by rw [hg]; exact bz_ : w.heap.size ≤ gb68001)); have n3_ := Aside0.mk ((by rw [hg]; exact bz_ : w.heap.size ≤ gb68001)); clear HB; have HB := n0_; have BK68001 := n1_; have GW68001 := n2_; have GE68001 := n3_; clear n0_ n1_ n2_ n3_; clear hb hbox hg)))
 (try simp only [Act.put, List.setIfInBounds_toArray, List.set_cons_zero, List.set_cons_succ])
 go_cut [19] (fun v19 wc => ∃ (kq : Nat) (x19_3 : Bool), v19 = .bool x19_3 ∧ Aside0 (units_division_of.j0 kq a1 a2 x19_3 = some (r1, r2)) ∧ Aside0 (kq ≤ k) ∧ Aside0 (wc.heap[gb68001]? = some (.cells #[(.func (.func 67) #[] #[])] 76 (0, 0))) ∧ Aside0 (Below w.heap.size w wc))
 case first =>
  have H := HC4.out
  clear HC4
  by_cases c6 : a2 = 0
  ·rw [if_pos c6] at H
   have c6b0 : (a2 == 0) = true := beq_iff_eq.mpr c6
   have c6b1 : (a2 != 0) = false := bne_eq_false_iff_eq.mpr c6
   clear c6
   (first | rw [c6b0] | (simp only [i64_w, i32_w]; rw [c6b0]) | skip)
   have H' := Aside0.mk H
   clear H
   go_wp2
   repeat (go_quiet (fail); try go_wp2)
   go_meet
   case rel => exact ⟨_, (true), (by first | rfl | (simp; done) | (simp [*]; done)), H', ⟨by first | omega | exact Nat.le_refl _⟩, ⟨fb_ BK68001.out⟩, ⟨be_⟩⟩
  ·rw [if_neg c6] at H
   have c6b0 : (a2 == 0) = false := beq_eq_false_iff_ne.mpr c6
   have c6b1 : (a2 != 0) = true := bne_iff_ne.mpr c6
   (first | rw [c6b0] | (simp only [i64_w, i32_w]; rw [c6b0]) | skip)
   by_cases c7 : a1 = (-9223372036854775808)
   ·rw [if_pos c7] at H
    have c7b0 : (a1 == (-9223372036854775808)) = true := beq_iff_eq.mpr c7
    have c7b1 : (a1 != (-9223372036854775808)) = false := bne_eq_false_iff_eq.mpr c7
    clear c7
    have H' := Aside0.mk H
    clear H
    go_wp2
    repeat (go_quiet (fail); try go_wp2)
    go_meet
    case rel => exact ⟨_, ((a2 == (-1))), (by first | rfl | (simp; done) | (simp [*]; done)), H', ⟨by first | omega | exact Nat.le_refl _⟩, ⟨fb_ BK68001.out⟩, ⟨be_⟩⟩
   ·rw [if_neg c7] at H
    have c7b0 : (a1 == (-9223372036854775808)) = false := beq_eq_false_iff_ne.mpr c7
    have c7b1 : (a1 != (-9223372036854775808)) = true := bne_iff_ne.mpr c7
    have H' := Aside0.mk H
    clear H
    go_wp2
    repeat (go_quiet (fail); try go_wp2)
    go_meet
    case rel => exact ⟨_, (false), (by first | rfl | (simp; done) | (simp [*]; done)), H', ⟨by first | omega | exact Nat.le_refl _⟩, ⟨fb_ BK68001.out⟩, ⟨be_⟩⟩
 case rest =>
  clear HC4
  try clear p2
  try clear c6
  try clear c6b0
  try clear c6b1
  try clear c7
  try clear c7b0
  try clear c7b1
  obtain ⟨kq, x19_3, rfl, HA, HJ3, BK68001, HB⟩ := hcut
  cases kq with
  | zero => exact absurd HA.out (by simp [units_division_of.j0])
  | succ kj3 =>
   have H := HA.out
   clear HA
   simp only [units_division_of.j0] at H
   by_cases c8 : x19_3 = true
   ·subst c8
    have H1 : (some (0, false)) = some (r1, r2) := by rw [if_pos rfl] at H; exact H
    clear H
    have H := H1
    clear H1
    simp only [Option.some.injEq, Prod.mk.injEq] at H
    obtain ⟨rfl, rfl⟩ := H
    go_wp2
    repeat (go_quiet (fail); try go_wp2)
    go_ret2
    exact ⟨er_, be_⟩
   ·replace c8 := Bool.eq_false_iff.mpr c8
    subst c8
    have H1 : (if a2 = 0 then (none) else (if (Int.tmod a1 a2) = 0 then (units_division_of.j1 kj3 a2 (wrap64 (Int.tdiv a1 a2)) (Int.tmod a1 a2) false) else (units_division_of.j1 kj3 a2 (wrap64 (Int.tdiv a1 a2)) (Int.tmod a1 a2) ((decide ((Int.tmod a1 a2) < 0)) != (decide (a2 < 0)))))) = some (r1, r2) := by rw [if_neg (show ¬ (false = true) by decide)] at H; exact H
    clear H
    have H := H1
    clear H1
    by_cases c9 : a2 = 0
    ·rw [if_pos c9] at H
     exact absurd H (by simp)
    ·rw [if_neg c9] at H
     have c9b0 : (a2 == 0) = false := beq_eq_false_iff_ne.mpr c9
     have c9b1 : (a2 != 0) = true := bne_iff_ne.mpr c9
     have HC10 := Aside0.mk H
     clear H
     go_upto_region 4 with (fail)
     repeat (go_quiet (fail); go_upto_region 4 with (fail))
     go_cut [34] (fun v34 wc => ∃ (kq : Nat) (x34_9 : Bool), v34 = .bool x34_9 ∧ Aside0 (units_division_of.j1 kq a2 (wrap64 (Int.tdiv a1 a2)) (Int.tmod a1 a2) x34_9 = some (r1, r2)) ∧ Aside0 (kq ≤ kj3) ∧ Aside0 (wc.heap[gb68001]? = some (.cells #[(.func (.func 67) #[] #[])] 76 (0, 0))) ∧ Aside0 (Below w.heap.size w wc))
     case first =>
      have H := HC10.out
      clear HC10
      by_cases c11 : (Int.tmod a1 a2) = 0
      ·rw [if_pos c11] at H
       have c11b0 : ((Int.tmod a1 a2) == 0) = true := beq_iff_eq.mpr c11
       have c11b1 : ((Int.tmod a1 a2) != 0) = false := bne_eq_false_iff_eq.mpr c11
       clear c11
       (first | rw [c11b0] | (simp only [i64_w, i32_w]; rw [c11b0]) | skip)
       have H' := Aside0.mk H
       clear H
       go_wp2
       repeat (go_quiet (fail); try go_wp2)
       go_meet
       case rel => exact ⟨_, (false), (by first | rfl | (simp; done) | (simp [*]; done)), H', ⟨by have := HJ3.out; first | omega | exact Nat.le_refl _⟩, ⟨fb_ BK68001.out⟩, ⟨be_⟩⟩
      ·rw [if_neg c11] at H
       have c11b0 : ((Int.tmod a1 a2) == 0) = false := beq_eq_false_iff_ne.mpr c11
       have c11b1 : ((Int.tmod a1 a2) != 0) = true := bne_iff_ne.mpr c11
       (first | rw [c11b0] | (simp only [i64_w, i32_w]; rw [c11b0]) | skip)
       have H' := Aside0.mk H
       clear H
       go_wp2
       repeat (go_quiet (fail); try go_wp2)
       go_meet
       case rel => exact ⟨_, (((decide ((Int.tmod a1 a2) < 0)) != (decide (a2 < 0)))), (by first | rfl | (simp; done) | (simp [*]; done)), H', ⟨by have := HJ3.out; first | omega | exact Nat.le_refl _⟩, ⟨fb_ BK68001.out⟩, ⟨be_⟩⟩
     case rest =>
      clear HC10
      try clear c1
      try clear p2
      try clear c6
      try clear c6b0
      try clear c6b1
      try clear p6
      try clear c7
      try clear c7b0
      try clear c7b1
      try clear c8
      try clear c9
      try clear c9b0
      try clear c9b1
      try clear c11
      try clear c11b0
      try clear c11b1
      try clear p2
      obtain ⟨kq, x34_9, rfl, HA, HJ9, BK68001, HB⟩ := hcut
      cases kq with
      | zero => exact absurd HA.out (by simp [units_division_of.j1])
      | succ kj9 =>
       have H := HA.out
       clear HA
       simp only [units_division_of.j1] at H
       by_cases c12 : x34_9 = true
       ·subst c12
        have H1 : ((units_Floor_1.f (wrap64 ((Int.tmod a1 a2) + a2)) a2).bind fun t68002 => (if t68002 = true then (some (wrap64 ((wrap64 ((wrap64 (Int.tdiv a1 a2)) - 1)) + 1), true)) else (some (wrap64 ((wrap64 (Int.tdiv a1 a2)) - 1), true)))) = some (r1, r2) := by rw [if_pos rfl] at H; exact H
        clear H
        have H := H1
        clear H1
        replace H := Option.bind_eq_some_iff.mp H
        obtain ⟨t68002, A130, H⟩ := H
        replace H : (if t68002 = true then (some (wrap64 ((wrap64 ((wrap64 (Int.tdiv a1 a2)) - 1)) + 1), true)) else (some (wrap64 ((wrap64 (Int.tdiv a1 a2)) - 1), true))) = some (r1, r2) := H
        have A13 := Aside0.mk A130
        clear A130
        by_cases c14 : t68002 = true
        ·subst c14
         have H1 : (some (wrap64 ((wrap64 ((wrap64 (Int.tdiv a1 a2)) - 1)) + 1), true)) = some (r1, r2) := by rw [if_pos rfl] at H; exact H
         clear H
         have H := H1
         clear H1
         simp only [Option.some.injEq, Prod.mk.injEq] at H
         obtain ⟨rfl, rfl⟩ := H
         have hcz15_0 : wc.cell? ⟨gb68001, 0, none⟩ = some ((.func (.func 67) #[] #[])) := (blk_cell BK68001.out 0).trans rfl
         have hfz15_0 := blk_frozen BK68001.out 0
         go_wp2_with (first | (go_at_call 67; (with_reducible refine (units_Floor_1.calls (wrap64 ((Int.tmod a1 a2) + a2)) a2 true _ A13.out).mono ?_); rintro e w' ⟨rfl, ⟨nd, rfl⟩⟩; (try first | exact ⟨rfl, _, World.drewN_drewN _ _ _⟩ | exact ⟨rfl, _, Eq.trans (World.drewN_drewN _ _ _) (congrArg (World.drewN _) (Nat.add_assoc _ _ _))⟩)))
         repeat (go_quiet (first | (go_at_call 67; (with_reducible refine (units_Floor_1.calls (wrap64 ((Int.tmod a1 a2) + a2)) a2 true _ A13.out).mono ?_); rintro e w' ⟨rfl, ⟨nd, rfl⟩⟩; (try first | exact ⟨rfl, _, World.drewN_drewN _ _ _⟩ | exact ⟨rfl, _, Eq.trans (World.drewN_drewN _ _ _) (congrArg (World.drewN _) (Nat.add_assoc _ _ _))⟩))); try go_wp2_with (first | (go_at_call 67; (with_reducible refine (units_Floor_1.calls (wrap64 ((Int.tmod a1 a2) + a2)) a2 true _ A13.out).mono ?_); rintro e w' ⟨rfl, ⟨nd, rfl⟩⟩; (try first | exact ⟨rfl, _, World.drewN_drewN _ _ _⟩ | exact ⟨rfl, _, Eq.trans (World.drewN_drewN _ _ _) (congrArg (World.drewN _) (Nat.add_assoc _ _ _))⟩))))
         go_ret2
         exact ⟨er_, be_⟩
        ·replace c14 := Bool.eq_false_iff.mpr c14
         subst c14
         have H1 : (some (wrap64 ((wrap64 (Int.tdiv a1 a2)) - 1), true)) = some (r1, r2) := by rw [if_neg (show ¬ (false = true) by decide)] at H; exact H
         clear H
         have H := H1
         clear H1
         simp only [Option.some.injEq, Prod.mk.injEq] at H
         obtain ⟨rfl, rfl⟩ := H
         have hcz16_0 : wc.cell? ⟨gb68001, 0, none⟩ = some ((.func (.func 67) #[] #[])) := (blk_cell BK68001.out 0).trans rfl
         have hfz16_0 := blk_frozen BK68001.out 0
         go_wp2_with (first | (go_at_call 67; (with_reducible refine (units_Floor_1.calls (wrap64 ((Int.tmod a1 a2) + a2)) a2 false _ A13.out).mono ?_); rintro e w' ⟨rfl, ⟨nd, rfl⟩⟩; (try first | exact ⟨rfl, _, World.drewN_drewN _ _ _⟩ | exact ⟨rfl, _, Eq.trans (World.drewN_drewN _ _ _) (congrArg (World.drewN _) (Nat.add_assoc _ _ _))⟩)))
         repeat (go_quiet (first | (go_at_call 67; (with_reducible refine (units_Floor_1.calls (wrap64 ((Int.tmod a1 a2) + a2)) a2 false _ A13.out).mono ?_); rintro e w' ⟨rfl, ⟨nd, rfl⟩⟩; (try first | exact ⟨rfl, _, World.drewN_drewN _ _ _⟩ | exact ⟨rfl, _, Eq.trans (World.drewN_drewN _ _ _) (congrArg (World.drewN _) (Nat.add_assoc _ _ _))⟩))); try go_wp2_with (first | (go_at_call 67; (with_reducible refine (units_Floor_1.calls (wrap64 ((Int.tmod a1 a2) + a2)) a2 false _ A13.out).mono ?_); rintro e w' ⟨rfl, ⟨nd, rfl⟩⟩; (try first | exact ⟨rfl, _, World.drewN_drewN _ _ _⟩ | exact ⟨rfl, _, Eq.trans (World.drewN_drewN _ _ _) (congrArg (World.drewN _) (Nat.add_assoc _ _ _))⟩))))
         go_ret2
         exact ⟨er_, be_⟩
       ·replace c12 := Bool.eq_false_iff.mpr c12
        subst c12
        have H1 : ((units_Floor_1.f (Int.tmod a1 a2) a2).bind fun t68003 => (if t68003 = true then (some (wrap64 ((wrap64 (Int.tdiv a1 a2)) + 1), true)) else (some ((wrap64 (Int.tdiv a1 a2)), true)))) = some (r1, r2) := by rw [if_neg (show ¬ (false = true) by decide)] at H; exact H
        clear H
        have H := H1
        clear H1
        replace H := Option.bind_eq_some_iff.mp H
        obtain ⟨t68003, A170, H⟩ := H
        replace H : (if t68003 = true then (some (wrap64 ((wrap64 (Int.tdiv a1 a2)) + 1), true)) else (some ((wrap64 (Int.tdiv a1 a2)), true))) = some (r1, r2) := H
        have A17 := Aside0.mk A170
        clear A170
        by_cases c18 : t68003 = true
        ·subst c18
         have H1 : (some (wrap64 ((wrap64 (Int.tdiv a1 a2)) + 1), true)) = some (r1, r2) := by rw [if_pos rfl] at H; exact H
         clear H
         have H := H1
         clear H1
         simp only [Option.some.injEq, Prod.mk.injEq] at H
         obtain ⟨rfl, rfl⟩ := H
         have hcz19_0 : wc.cell? ⟨gb68001, 0, none⟩ = some ((.func (.func 67) #[] #[])) := (blk_cell BK68001.out 0).trans rfl
         have hfz19_0 := blk_frozen BK68001.out 0
         go_wp2_with (first | (go_at_call 67; (with_reducible refine (units_Floor_1.calls (Int.tmod a1 a2) a2 true _ A17.out).mono ?_); rintro e w' ⟨rfl, ⟨nd, rfl⟩⟩; (try first | exact ⟨rfl, _, World.drewN_drewN _ _ _⟩ | exact ⟨rfl, _, Eq.trans (World.drewN_drewN _ _ _) (congrArg (World.drewN _) (Nat.add_assoc _ _ _))⟩)))
         repeat (go_quiet (first | (go_at_call 67; (with_reducible refine (units_Floor_1.calls (Int.tmod a1 a2) a2 true _ A17.out).mono ?_); rintro e w' ⟨rfl, ⟨nd, rfl⟩⟩; (try first | exact ⟨rfl, _, World.drewN_drewN _ _ _⟩ | exact ⟨rfl, _, Eq.trans (World.drewN_drewN _ _ _) (congrArg (World.drewN _) (Nat.add_assoc _ _ _))⟩))); try go_wp2_with (first | (go_at_call 67; (with_reducible refine (units_Floor_1.calls (Int.tmod a1 a2) a2 true _ A17.out).mono ?_); rintro e w' ⟨rfl, ⟨nd, rfl⟩⟩; (try first | exact ⟨rfl, _, World.drewN_drewN _ _ _⟩ | exact ⟨rfl, _, Eq.trans (World.drewN_drewN _ _ _) (congrArg (World.drewN _) (Nat.add_assoc _ _ _))⟩))))
         go_ret2
         exact ⟨er_, be_⟩
        ·replace c18 := Bool.eq_false_iff.mpr c18
         subst c18
         have H1 : (some ((wrap64 (Int.tdiv a1 a2)), true)) = some (r1, r2) := by rw [if_neg (show ¬ (false = true) by decide)] at H; exact H
         clear H
         have H := H1
         clear H1
         simp only [Option.some.injEq, Prod.mk.injEq] at H
         obtain ⟨rfl, rfl⟩ := H
         have hcz20_0 : wc.cell? ⟨gb68001, 0, none⟩ = some ((.func (.func 67) #[] #[])) := (blk_cell BK68001.out 0).trans rfl
         have hfz20_0 := blk_frozen BK68001.out 0
         go_wp2_with (first | (go_at_call 67; (with_reducible refine (units_Floor_1.calls (Int.tmod a1 a2) a2 false _ A17.out).mono ?_); rintro e w' ⟨rfl, ⟨nd, rfl⟩⟩; (try first | exact ⟨rfl, _, World.drewN_drewN _ _ _⟩ | exact ⟨rfl, _, Eq.trans (World.drewN_drewN _ _ _) (congrArg (World.drewN _) (Nat.add_assoc _ _ _))⟩)))
         repeat (go_quiet (first | (go_at_call 67; (with_reducible refine (units_Floor_1.calls (Int.tmod a1 a2) a2 false _ A17.out).mono ?_); rintro e w' ⟨rfl, ⟨nd, rfl⟩⟩; (try first | exact ⟨rfl, _, World.drewN_drewN _ _ _⟩ | exact ⟨rfl, _, Eq.trans (World.drewN_drewN _ _ _) (congrArg (World.drewN _) (Nat.add_assoc _ _ _))⟩))); try go_wp2_with (first | (go_at_call 67; (with_reducible refine (units_Floor_1.calls (Int.tmod a1 a2) a2 false _ A17.out).mono ?_); rintro e w' ⟨rfl, ⟨nd, rfl⟩⟩; (try first | exact ⟨rfl, _, World.drewN_drewN _ _ _⟩ | exact ⟨rfl, _, Eq.trans (World.drewN_drewN _ _ _) (congrArg (World.drewN _) (Nat.add_assoc _ _ _))⟩))))
         go_ret2
         exact ⟨er_, be_⟩

end Go.Proofs.Ytdbjoopkliafeaa.P

end
section
namespace Go.Proofs.Ytdbjoopkliafeaa.P
open Go Go.RowKit Go.Proofs.YtdbjoopkliafeaaW.PrintWords Go.Proofs.YtdbjoopkliafeaaW.PrintLast Go.Proofs.YtdbjoopkliafeaaW.PrintMore
attribute [local go_sem] max2_int min2_int max_two min_two max_three min_three max_four min_four max_five min_eight max_eight   -- for this text's walks alone
set_option linter.unusedVariables false
set_option linter.unusedSimpArgs false

def units_Floor.f (k : Nat) (a0 : Int) (a1 : Int) : Option (Int × Bool) := (units_division_of.f k fnc67 a0 a1).bind fun bt44001 => (some (bt44001.1, bt44001.2))
theorem units_Floor.mono : ∀ a0 a1 k, LeO (units_Floor.f k a0 a1) (units_Floor.f (k + 1) a0 a1) := by
 intro a0 a1 k
 unfold units_Floor.f
 repeat' first
   | (with_reducible exact units_division_of.mono _ _ _ _)
   | (with_reducible exact LeO.refl _)
   | (with_reducible exact LeO.none _)
   | (with_reducible refine LeO.ite ?_ ?_)
   | (with_reducible refine LeO.bind ?_ (fun _ => ?_))
   | exact units_division_of.mono _ _ _ _
   | exact LeO.none _
   | refine LeO.ite ?_ ?_
   | refine LeO.bind ?_ (fun _ => ?_)
set_option maxHeartbeats 8000000 in
set_option maxRecDepth 100000 in
theorem units_Floor.calls (k : Nat) (a0 : Int) (a1 : Int) (r1 : Int) (r2 : Bool) (w : World) (h : units_Floor.f k a0 a1 = some (r1, r2)) :
  Calls Try.prog 44 #[.int .i64 a0, .int .i64 a1] w fun e w' => e = .returned (.tuple #[.int .i64 r1, .bool r2]) ∧ Below w.heap.size w w' := by
 have hu76 := Try.underlying76
 have HB := Aside0.mk (Below.refl w.heap.size w)
 have H : ((units_division_of.f k fnc67 a0 a1).bind fun bt44001 => (some (bt44001.1, bt44001.2))) = some (r1, r2) := h
 clear h
 replace H := Option.bind_eq_some_iff.mp H
 obtain ⟨⟨t44001, t44002⟩, A30, H⟩ := H
 replace H : (some (t44001, t44002)) = some (r1, r2) := H
 have A3 := Aside0.mk A30
 clear A30
 simp only [Option.some.injEq, Prod.mk.injEq] at H
 obtain ⟨rfl, rfl⟩ := H
 go_enter Try.func44, Try.ntmps44
 go_wp2_with (first | ((with_reducible refine gate_callee (f := 68) rfl ?_); refine goesL_ (some 9) rfl rfl Try.func68 (by kernel_rfl) rfl #[.agg #[(.func (.func 67) #[] #[])], .int .i64 a0, .int .i64 a1] rfl la_ ?_; (with_reducible refine (units_division_of.calls k fnc67 a0 a1 t44001 t44002 _ A3.out).mono ?_); rintro e w4 ⟨rfl, hb⟩; refine ⟨_, rfl, ?_⟩; have n0_ := Aside0.mk (bs_ hb); clear HB; have HB := n0_; clear n0_; (try clear hb); (try clear hb2); (try clear hk); (try clear hi)))
 go_ret2
 exact ⟨er_, be_⟩

end Go.Proofs.Ytdbjoopkliafeaa.P

end
