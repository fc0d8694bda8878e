/- Functions of the program: what each computes, and that the call computes it; conditions: the fuel that the plain function asks for. -/
import Derived.Test.YtdbjoopkliafeaaCShapeLogsV6
section
namespace Go.Proofs.Ytdbjoopkliafeaa.P
open Go Go.RowKit Go.Proofs.YtdbjoopkliafeaaW.PrintWords Go.Proofs.YtdbjoopkliafeaaW.PrintLast Go.Proofs.YtdbjoopkliafeaaW.PrintMore
attribute [local go_sem] max2_int min2_int max_two min_two max_three min_three max_four min_four max_five min_eight max_eight   -- for this text's walks alone
set_option linter.unusedVariables false
set_option linter.unusedSimpArgs false

def sawmillref14_bounds.f (k : Nat) (a0_0 : Int) (l0_1 : List (S49)) : Option (Int × Int × Int × Int) := (sawmillref10_Check.f k a0_0 l0_1).bind fun t40003 => (if t40003 = 0 then ((sawmillref10_Bounds.f k a0_0 l0_1).bind fun bt40004 => (some (bt40004.1, bt40004.2.1, bt40004.2.2.1, bt40004.2.2.2))) else (some (0, 0, 0, 0)))
theorem sawmillref14_bounds.mono : ∀ a0 a1 k, LeO (sawmillref14_bounds.f k a0 a1) (sawmillref14_bounds.f (k + 1) a0 a1) := by
 intro a0 a1 k
 unfold sawmillref14_bounds.f
 repeat' first
   | (with_reducible exact sawmillref10_Bounds.mono _ _ _)
   | (with_reducible exact sawmillref10_Check.mono _ _ _)
   | (with_reducible exact LeO.refl _)
   | (with_reducible exact LeO.none _)
   | (with_reducible refine LeO.ite ?_ ?_)
   | (with_reducible refine LeO.bind ?_ (fun _ => ?_))
   | exact sawmillref10_Bounds.mono _ _ _
   | exact sawmillref10_Check.mono _ _ _
   | exact LeO.none _
   | refine LeO.ite ?_ ?_
   | refine LeO.bind ?_ (fun _ => ?_)
set_option maxHeartbeats 8000000 in
set_option maxRecDepth 100000 in
theorem sawmillref14_bounds.calls (k : Nat) (a0_0 : Int) (A0_1 : Option Addr) (c0_1 : Nat) (l0_1 : List (S49)) (r1 : Int) (r2 : Int) (r3 : Int) (r4 : Int) (w : World) (hr0_1 : Kd.C k49 w A0_1 l0_1.length l0_1) (hc0_1 : l0_1.length ≤ c0_1) (h : sawmillref14_bounds.f k a0_0 l0_1 = some (r1, r2, r3, r4)) :
  Calls Try.prog 40 #[.agg #[.int .i64 a0_0, .slice A0_1 l0_1.length c0_1]] w fun e w' => e = .returned (.agg #[.int .i64 r1, .int .i64 r2, .int .i64 r3, .int .i64 r4]) ∧ Below w.heap.size w w' := by
 have hu24 := Try.underlying24
 have hu54 := Try.underlying54
 have HR0_1 := Aside0.mk hr0_1
 have HC0_1 := Aside0.mk hc0_1
 clear hr0_1 hc0_1
 have HB := Aside0.mk (Below.refl w.heap.size w)
 have H : ((sawmillref10_Check.f k a0_0 l0_1).bind fun t40003 => (if t40003 = 0 then ((sawmillref10_Bounds.f k a0_0 l0_1).bind fun bt40004 => (some (bt40004.1, bt40004.2.1, bt40004.2.2.1, bt40004.2.2.2))) else (some (0, 0, 0, 0)))) = some (r1, r2, r3, r4) := h
 clear h
 replace H := Option.bind_eq_some_iff.mp H
 obtain ⟨t40003, A20, H⟩ := H
 replace H : (if t40003 = 0 then ((sawmillref10_Bounds.f k a0_0 l0_1).bind fun bt40004 => (some (bt40004.1, bt40004.2.1, bt40004.2.2.1, bt40004.2.2.2))) else (some (0, 0, 0, 0))) = some (r1, r2, r3, r4) := H
 have A2 := Aside0.mk A20
 clear A20
 by_cases c3 : t40003 = 0
 ·rw [if_pos c3] at H
  have c3b0 : (t40003 == 0) = true := beq_iff_eq.mpr c3
  have c3b1 : (t40003 != 0) = false := bne_eq_false_iff_eq.mpr c3
  clear c3
  replace H := Option.bind_eq_some_iff.mp H
  obtain ⟨⟨t40004, t40005, t40006, t40007⟩, A40, H⟩ := H
  replace H : (some (t40004, t40005, t40006, t40007)) = some (r1, r2, r3, r4) := H
  have A4 := Aside0.mk A40
  clear A40
  simp only [Option.some.injEq, Prod.mk.injEq] at H
  obtain ⟨rfl, rfl, rfl, rfl⟩ := H
  go_enter Try.func40, Try.ntmps40
  go_wp2_with (first | ((with_reducible refine gate_dst (N := 1) rfl ?_); refine box_event ?hg (N := 1) ?hd (cs := #[.int .i64 a0_0, .slice A0_1 l0_1.length c0_1]) (t := 24) ?hr ?_; (case hd => rfl); (case hg => rfl); (case hr => first | (go_simp; done) | (go_simp; rfl)); intro gb40001 hg w5 hbox hb; have n0_ := Aside0.mk (bs_ hb); have n1_ := Aside0.mk (hbox); have n2_ := Aside0.mk ((by rw [hg]; exact bz_ : w.heap.size ≤ gb40001)); have n3_ := Aside0.mk ((by rw [hg]; exact bz_ : w.heap.size ≤ gb40001)); clear HB; have HB := n0_; have BK40001 := n1_; have GW40001 := n2_; have GE40001 := n3_; clear n0_ n1_ n2_ n3_; clear hb hbox hg) | ((with_reducible refine gate_dst (N := 2) rfl ?_); refine box_event ?hg (N := 2) ?hd (cs := #[.int .i64 0, .int .i64 0, .int .i64 0, .int .i64 0]) (t := 54) ?hr ?_; (case hd => rfl); (case hg => rfl); (case hr => first | (go_simp; done) | (go_simp; rfl)); intro gb40002 hg w6 hbox hb; have n0_ := Aside0.mk (blk_below (g := gb40001) (o := .cells #[.int .i64 a0_0, .slice A0_1 l0_1.length c0_1] 24 (0, 0)) (fb_ BK40001.out) hb); have n1_ := Aside0.mk (bs_ hb); have n2_ := Aside0.mk (hbox); have n3_ := Aside0.mk ((by rw [hg]; exact bz_ : w.heap.size ≤ gb40002)); have n4_ := Aside0.mk ((by rw [hg]; exact bz_ : w.heap.size ≤ gb40002)); have n5_ := Aside0.mk ((by rw [hg]; exact Nat.ne_of_lt (blk_lt (g := gb40001) (o := .cells #[.int .i64 a0_0, .slice A0_1 l0_1.length c0_1] 24 (0, 0)) (fb_ BK40001.out)) : gb40001 ≠ gb40002)); have n6_ := Aside0.mk ((by rw [hg]; exact Nat.ne_of_gt (blk_lt (g := gb40001) (o := .cells #[.int .i64 a0_0, .slice A0_1 l0_1.length c0_1] 24 (0, 0)) (fb_ BK40001.out)) : gb40002 ≠ gb40001)); clear BK40001 HB; have BK40001 := n0_; have HB := n1_; have BK40002 := n2_; have GW40002 := n3_; have GE40002 := n4_; have NB40001_40002 := n5_; have NB40002_40001 := n6_; clear n0_ n1_ n2_ n3_ n4_ n5_ n6_ hb hbox hg; have hnb7 := NB40001_40002.out; have hnc7 := NB40002_40001.out; have hcz8_0 : w6.cell? ⟨gb40001, 0, none⟩ = some (.int .i64 a0_0) := (blk_cell BK40001.out 0).trans rfl; have hcz8_1 : w6.cell? ⟨gb40001, 1, none⟩ = some (.slice A0_1 l0_1.length c0_1) := (blk_cell BK40001.out 1).trans rfl; have hfz8_0 := blk_frozen BK40001.out 0; have hfz8_1 := blk_frozen BK40001.out 1) | ((with_reducible refine gate_callee (f := 37) rfl ?_); refine goesL_ (some 4) rfl rfl Try.func37 (by kernel_rfl) rfl #[.agg #[.int .i64 a0_0, .slice A0_1 l0_1.length c0_1]] rfl la_ ?_; (with_reducible refine (sawmillref10_Check.calls k a0_0 _ _ l0_1 t40003 _ ?side1 ?side2 A2.out).mono ?_); (case side1 => repeat (first | exact (Kd.C_below HR0_1.out HB.out) | (with_reducible refine Kd.C_alloc ?_ _) | (with_reducible refine Kd.C_drewN ?_ _) | (with_reducible refine Kd.C_drew ?_))); (case side2 => exact HC0_1.out); rintro e w9 ⟨rfl, hb⟩; refine ⟨_, rfl, ?_⟩; have n0_ := Aside0.mk (blk_below (g := gb40001) (o := .cells #[.int .i64 a0_0, .slice A0_1 l0_1.length c0_1] 24 (0, 0)) (fb_ BK40001.out) hb); have n1_ := Aside0.mk (blk_below (g := gb40002) (o := .cells #[.int .i64 0, .int .i64 0, .int .i64 0, .int .i64 0] 54 (0, 0)) (fb_ BK40002.out) hb); have n2_ := Aside0.mk (bs_ hb); clear BK40001 BK40002 HB; have BK40001 := n0_; have BK40002 := n1_; have HB := n2_; clear n0_ n1_ n2_; (try clear hb); (try clear hb2); (try clear hk); (try clear hi); have hcz10_0 : w9.cell? ⟨gb40001, 0, none⟩ = some (.int .i64 a0_0) := (blk_cell BK40001.out 0).trans rfl; have hcz10_1 : w9.cell? ⟨gb40001, 1, none⟩ = some (.slice A0_1 l0_1.length c0_1) := (blk_cell BK40001.out 1).trans rfl; have hfz10_0 := blk_frozen BK40001.out 0; have hfz10_1 := blk_frozen BK40001.out 1) | ((with_reducible refine gate_callee (f := 66) rfl ?_); refine goesL_ (some 8) rfl rfl Try.func66 (by kernel_rfl) rfl #[.agg #[.int .i64 a0_0, .slice A0_1 l0_1.length c0_1]] rfl la_ ?_; (with_reducible refine (sawmillref10_Bounds.calls k a0_0 _ _ l0_1 t40004 t40005 t40006 t40007 _ ?side1 ?side2 A4.out).mono ?_); (case side1 => repeat (first | exact (Kd.C_below HR0_1.out HB.out) | (with_reducible refine Kd.C_alloc ?_ _) | (with_reducible refine Kd.C_drewN ?_ _) | (with_reducible refine Kd.C_drew ?_))); (case side2 => exact HC0_1.out); rintro e w11 ⟨rfl, hb⟩; refine ⟨_, rfl, ?_⟩; have n0_ := Aside0.mk (blk_below (g := gb40001) (o := .cells #[.int .i64 a0_0, .slice A0_1 l0_1.length c0_1] 24 (0, 0)) (fb_ BK40001.out) hb); have n1_ := Aside0.mk (blk_below (g := gb40002) (o := .cells #[.int .i64 0, .int .i64 0, .int .i64 0, .int .i64 0] 54 (0, 0)) (fb_ BK40002.out) hb); have n2_ := Aside0.mk (bs_ hb); clear BK40001 BK40002 HB; have BK40001 := n0_; have BK40002 := n1_; have HB := n2_; clear n0_ n1_ n2_; (try clear hb); (try clear hb2); (try clear hk); (try clear hi); have hcz12_0 : w11.cell? ⟨gb40002, 0, none⟩ = some (.int .i64 0) := (blk_cell BK40002.out 0).trans rfl; have hcz12_1 : w11.cell? ⟨gb40002, 1, none⟩ = some (.int .i64 0) := (blk_cell BK40002.out 1).trans rfl; have hcz12_2 : w11.cell? ⟨gb40002, 2, none⟩ = some (.int .i64 0) := (blk_cell BK40002.out 2).trans rfl; have hcz12_3 : w11.cell? ⟨gb40002, 3, none⟩ = some (.int .i64 0) := (blk_cell BK40002.out 3).trans rfl; have hfz12_0 := blk_frozen BK40002.out 0; have hfz12_1 := blk_frozen BK40002.out 1; have hfz12_2 := blk_frozen BK40002.out 2; have hfz12_3 := blk_frozen BK40002.out 3))
  refine bodyPost_ret (results_cell_row rfl _ _ gb40002 54 #[.int .i64 t40004, .int .i64 t40005, .int .i64 t40006, .int .i64 t40007] (0, 0) _ rfl (by (with_reducible repeat (first | refine blk_drewN ?_ _ | refine blk_drew ?_ | refine blk_alloc ?_ _)); refine blk_put (cs := #[.int .i64 t40004, .int .i64 t40005, .int .i64 t40006, .int .i64 0]) ?_ 3 _ rfl; (with_reducible repeat (first | refine blk_drewN ?_ _ | refine blk_drew ?_ | refine blk_alloc ?_ _)); refine blk_put (cs := #[.int .i64 t40004, .int .i64 t40005, .int .i64 0, .int .i64 0]) ?_ 2 _ rfl; (with_reducible repeat (first | refine blk_drewN ?_ _ | refine blk_drew ?_ | refine blk_alloc ?_ _)); refine blk_put (cs := #[.int .i64 t40004, .int .i64 0, .int .i64 0, .int .i64 0]) ?_ 1 _ rfl; (with_reducible repeat (first | refine blk_drewN ?_ _ | refine blk_drew ?_ | refine blk_alloc ?_ _)); refine blk_put (cs := #[.int .i64 0, .int .i64 0, .int .i64 0, .int .i64 0]) ?_ 0 _ rfl; (with_reducible repeat (first | refine blk_drewN ?_ _ | refine blk_drew ?_ | refine blk_alloc ?_ _)); exact BK40002.out) Try.underlying54 rfl (by kernel_rfl)) rfl ?_
  exact ⟨er_, be_⟩
 ·rw [if_neg c3] at H
  have c3b0 : (t40003 == 0) = false := beq_eq_false_iff_ne.mpr c3
  have c3b1 : (t40003 != 0) = true := bne_iff_ne.mpr c3
  simp only [Option.some.injEq, Prod.mk.injEq] at H
  obtain ⟨rfl, rfl, rfl, rfl⟩ := H
  go_enter Try.func40, Try.ntmps40
  go_wp2_with (first | ((with_reducible refine gate_dst (N := 1) rfl ?_); refine box_event ?hg (N := 1) ?hd (cs := #[.int .i64 a0_0, .slice A0_1 l0_1.length c0_1]) (t := 24) ?hr ?_; (case hd => rfl); (case hg => rfl); (case hr => first | (go_simp; done) | (go_simp; rfl)); intro gb40001 hg w13 hbox hb; have n0_ := Aside0.mk (bs_ hb); have n1_ := Aside0.mk (hbox); have n2_ := Aside0.mk ((by rw [hg]; exact bz_ : w.heap.size ≤ gb40001)); have n3_ := Aside0.mk ((by rw [hg]; exact bz_ : w.heap.size ≤ gb40001)); clear HB; have HB := n0_; have BK40001 := n1_; have GW40001 := n2_; have GE40001 := n3_; clear n0_ n1_ n2_ n3_; clear hb hbox hg) | ((with_reducible refine gate_dst (N := 2) rfl ?_); refine box_event ?hg (N := 2) ?hd (cs := #[.int .i64 0, .int .i64 0, .int .i64 0, .int .i64 0]) (t := 54) ?hr ?_; (case hd => rfl); (case hg => rfl); (case hr => first | (go_simp; done) | (go_simp; rfl)); intro gb40002 hg w14 hbox hb; have n0_ := Aside0.mk (blk_below (g := gb40001) (o := .cells #[.int .i64 a0_0, .slice A0_1 l0_1.length c0_1] 24 (0, 0)) (fb_ BK40001.out) hb); have n1_ := Aside0.mk (bs_ hb); have n2_ := Aside0.mk (hbox); have n3_ := Aside0.mk ((by rw [hg]; exact bz_ : w.heap.size ≤ gb40002)); have n4_ := Aside0.mk ((by rw [hg]; exact bz_ : w.heap.size ≤ gb40002)); have n5_ := Aside0.mk ((by rw [hg]; exact Nat.ne_of_lt (blk_lt (g := gb40001) (o := .cells #[.int .i64 a0_0, .slice A0_1 l0_1.length c0_1] 24 (0, 0)) (fb_ BK40001.out)) : gb40001 ≠ gb40002)); have n6_ := Aside0.mk ((by rw [hg]; exact Nat.ne_of_gt (blk_lt (g := gb40001) (o := .cells #[.int .i64 a0_0, .slice A0_1 l0_1.length c0_1] 24 (0, 0)) (fb_ BK40001.out)) : gb40002 ≠ gb40001)); clear BK40001 HB; have BK40001 := n0_; have HB := n1_; have BK40002 := n2_; have GW40002 := n3_; have GE40002 := n4_; have NB40001_40002 := n5_; have NB40002_40001 := n6_; clear n0_ n1_ n2_ n3_ n4_ n5_ n6_ hb hbox hg; have hnb15 := NB40001_40002.out; have hnc15 := NB40002_40001.out; have hcz16_0 : w14.cell? ⟨gb40001, 0, none⟩ = some (.int .i64 a0_0) := (blk_cell BK40001.out 0).trans rfl; have hcz16_1 : w14.cell? ⟨gb40001, 1, none⟩ = some (.slice A0_1 l0_1.length c0_1) := (blk_cell BK40001.out 1).trans rfl; have hfz16_0 := blk_frozen BK40001.out 0; have hfz16_1 := blk_frozen BK40001.out 1) | ((with_reducible refine gate_callee (f := 37) rfl ?_); refine goesL_ (some 4) rfl rfl Try.func37 (by kernel_rfl) rfl #[.agg #[.int .i64 a0_0, .slice A0_1 l0_1.length c0_1]] rfl la_ ?_; (with_reducible refine (sawmillref10_Check.calls k a0_0 _ _ l0_1 t40003 _ ?side1 ?side2 A2.out).mono ?_); (case side1 => repeat (first | exact (Kd.C_below HR0_1.out HB.out) | (with_reducible refine Kd.C_alloc ?_ _) | (with_reducible refine Kd.C_drewN ?_ _) | (with_reducible refine Kd.C_drew ?_))); (case side2 => exact HC0_1.out); rintro e w17 ⟨rfl, hb⟩; refine ⟨_, rfl, ?_⟩; have n0_ := Aside0.mk (blk_below (g := gb40001) (o := .cells #[.int .i64 a0_0, .slice A0_1 l0_1.length c0_1] 24 (0, 0)) (fb_ BK40001.out) hb); have n1_ := Aside0.mk (blk_below (g := gb40002) (o := .cells #[.int .i64 0, .int .i64 0, .int .i64 0, .int .i64 0] 54 (0, 0)) (fb_ BK40002.out) hb); have n2_ := Aside0.mk (bs_ hb); clear BK40001 BK40002 HB; have BK40001 := n0_; have BK40002 := n1_; have HB := n2_; clear n0_ n1_ n2_; (try clear hb); (try clear hb2); (try clear hk); (try clear hi); have hcz18_0 : w17.cell? ⟨gb40002, 0, none⟩ = some (.int .i64 0) := (blk_cell BK40002.out 0).trans rfl; have hcz18_1 : w17.cell? ⟨gb40002, 1, none⟩ = some (.int .i64 0) := (blk_cell BK40002.out 1).trans rfl; have hcz18_2 : w17.cell? ⟨gb40002, 2, none⟩ = some (.int .i64 0) := (blk_cell BK40002.out 2).trans rfl; have hcz18_3 : w17.cell? ⟨gb40002, 3, none⟩ = some (.int .i64 0) := (blk_cell BK40002.out 3).trans rfl; have hfz18_0 := blk_frozen BK40002.out 0; have hfz18_1 := blk_frozen BK40002.out 1; have hfz18_2 := blk_frozen BK40002.out 2; have hfz18_3 := blk_frozen BK40002.out 3))
  refine bodyPost_ret (results_cell_row rfl _ _ gb40002 54 #[.int .i64 0, .int .i64 0, .int .i64 0, .int .i64 0] (0, 0) _ rfl (by (with_reducible repeat (first | refine blk_drewN ?_ _ | refine blk_drew ?_ | refine blk_alloc ?_ _)); refine blk_put (cs := #[.int .i64 0, .int .i64 0, .int .i64 0, .int .i64 0]) ?_ 3 _ rfl; (with_reducible repeat (first | refine blk_drewN ?_ _ | refine blk_drew ?_ | refine blk_alloc ?_ _)); refine blk_put (cs := #[.int .i64 0, .int .i64 0, .int .i64 0, .int .i64 0]) ?_ 2 _ rfl; (with_reducible repeat (first | refine blk_drewN ?_ _ | refine blk_drew ?_ | refine blk_alloc ?_ _)); refine blk_put (cs := #[.int .i64 0, .int .i64 0, .int .i64 0, .int .i64 0]) ?_ 1 _ rfl; (with_reducible repeat (first | refine blk_drewN ?_ _ | refine blk_drew ?_ | refine blk_alloc ?_ _)); refine blk_put (cs := #[.int .i64 0, .int .i64 0, .int .i64 0, .int .i64 0]) ?_ 0 _ rfl; (with_reducible repeat (first | refine blk_drewN ?_ _ | refine blk_drew ?_ | refine blk_alloc ?_ _)); exact BK40002.out) Try.underlying54 rfl (by kernel_rfl)) rfl ?_
  exact ⟨er_, be_⟩

end Go.Proofs.Ytdbjoopkliafeaa.P

end
section
namespace Go.Proofs.Ytdbjoopkliafeaa.P
open Go Go.RowKit Go.Proofs.YtdbjoopkliafeaaW.PrintWords Go.Proofs.YtdbjoopkliafeaaW.PrintLast Go.Proofs.YtdbjoopkliafeaaW.PrintMore
attribute [local go_sem] max2_int min2_int max_two min_two max_three min_three max_four min_four max_five min_eight max_eight   -- for this text's walks alone
set_option linter.unusedVariables false
set_option linter.unusedSimpArgs false

def sawmillref14_Center2.f (k : Nat) (a0_0 : Int) (l0_1 : List (S49)) : Option (Int × Int) := (sawmillref14_bounds.f k a0_0 l0_1).bind fun bt15003 => (some (wrap64 (bt15003.1 + bt15003.2.1), wrap64 (bt15003.2.2.1 + bt15003.2.2.2)))
theorem sawmillref14_Center2.mono : ∀ a0 a1 k, LeO (sawmillref14_Center2.f k a0 a1) (sawmillref14_Center2.f (k + 1) a0 a1) := by
 intro a0 a1 k
 unfold sawmillref14_Center2.f
 repeat' first
   | (with_reducible exact sawmillref14_bounds.mono _ _ _)
   | (with_reducible exact LeO.refl _)
   | (with_reducible exact LeO.none _)
   | (with_reducible refine LeO.ite ?_ ?_)
   | (with_reducible refine LeO.bind ?_ (fun _ => ?_))
   | exact sawmillref14_bounds.mono _ _ _
   | exact LeO.none _
   | refine LeO.ite ?_ ?_
   | refine LeO.bind ?_ (fun _ => ?_)
set_option maxHeartbeats 8000000 in
set_option maxRecDepth 100000 in
theorem sawmillref14_Center2.calls (k : Nat) (a0_0 : Int) (A0_1 : Option Addr) (c0_1 : Nat) (l0_1 : List (S49)) (r1 : Int) (r2 : Int) (w : World) (hr0_1 : Kd.C k49 w A0_1 l0_1.length l0_1) (hc0_1 : l0_1.length ≤ c0_1) (h : sawmillref14_Center2.f k a0_0 l0_1 = some (r1, r2)) :
  Calls Try.prog 15 #[.agg #[.int .i64 a0_0, .slice A0_1 l0_1.length c0_1]] w fun e w' => e = .returned (.agg #[.int .i64 r1, .int .i64 r2]) ∧ Below w.heap.size w w' := by
 have hu24 := Try.underlying24
 have hu28 := Try.underlying28
 have hu54 := Try.underlying54
 have HR0_1 := Aside0.mk hr0_1
 have HC0_1 := Aside0.mk hc0_1
 clear hr0_1 hc0_1
 have HB := Aside0.mk (Below.refl w.heap.size w)
 have H : ((sawmillref14_bounds.f k a0_0 l0_1).bind fun bt15003 => (some (wrap64 (bt15003.1 + bt15003.2.1), wrap64 (bt15003.2.2.1 + bt15003.2.2.2)))) = some (r1, r2) := h
 clear h
 replace H := Option.bind_eq_some_iff.mp H
 obtain ⟨⟨t15003, t15004, t15005, t15006⟩, A20, H⟩ := H
 replace H : (some (wrap64 (t15003 + t15004), wrap64 (t15005 + t15006))) = some (r1, r2) := H
 have A2 := Aside0.mk A20
 clear A20
 simp only [Option.some.injEq, Prod.mk.injEq] at H
 obtain ⟨rfl, rfl⟩ := H
 go_enter Try.func15, Try.ntmps15
 go_wp2_with (first | ((with_reducible refine gate_dst (N := 1) rfl ?_); refine box_event ?hg (N := 1) ?hd (cs := #[.int .i64 a0_0, .slice A0_1 l0_1.length c0_1]) (t := 24) ?hr ?_; (case hd => rfl); (case hg => rfl); (case hr => first | (go_simp; done) | (go_simp; rfl)); intro gb15001 hg w3 hbox hb; have n0_ := Aside0.mk (bs_ hb); have n1_ := Aside0.mk (hbox); have n2_ := Aside0.mk ((by rw [hg]; exact bz_ : w.heap.size ≤ gb15001)); have n3_ := Aside0.mk ((by rw [hg]; exact bz_ : w.heap.size ≤ gb15001)); clear HB; have HB := n0_; have BK15001 := n1_; have GW15001 := n2_; have GE15001 := n3_; clear n0_ n1_ n2_ n3_; clear hb hbox hg) | ((with_reducible refine gate_dst (N := 2) rfl ?_); refine box_event ?hg (N := 2) ?hd (cs := #[.int .i64 0, .int .i64 0]) (t := 28) ?hr ?_; (case hd => rfl); (case hg => rfl); (case hr => first | (go_simp; done) | (go_simp; rfl)); intro gb15002 hg w4 hbox hb; have n0_ := Aside0.mk (blk_below (g := gb15001) (o := .cells #[.int .i64 a0_0, .slice A0_1 l0_1.length c0_1] 24 (0, 0)) (fb_ BK15001.out) hb); have n1_ := Aside0.mk (bs_ hb); have n2_ := Aside0.mk (hbox); have n3_ := Aside0.mk ((by rw [hg]; exact bz_ : w.heap.size ≤ gb15002)); have n4_ := Aside0.mk ((by rw [hg]; exact bz_ : w.heap.size ≤ gb15002)); have n5_ := Aside0.mk ((by rw [hg]; exact Nat.ne_of_lt (blk_lt (g := gb15001) (o := .cells #[.int .i64 a0_0, .slice A0_1 l0_1.length c0_1] 24 (0, 0)) (fb_ BK15001.out)) : gb15001 ≠ gb15002)); have n6_ := Aside0.mk ((by rw [hg]; exact Nat.ne_of_gt (blk_lt (g := gb15001) (o := .cells #[.int .i64 a0_0, .slice A0_1 l0_1.length c0_1] 24 (0, 0)) (fb_ BK15001.out)) : gb15002 ≠ gb15001)); clear BK15001 HB; have BK15001 := n0_; have HB := n1_; have BK15002 := n2_; have GW15002 := n3_; have GE15002 := n4_; have NB15001_15002 := n5_; have NB15002_15001 := n6_; clear n0_ n1_ n2_ n3_ n4_ n5_ n6_ hb hbox hg; have hnb5 := NB15001_15002.out; have hnc5 := NB15002_15001.out; have hcz6_0 : w4.cell? ⟨gb15001, 0, none⟩ = some (.int .i64 a0_0) := (blk_cell BK15001.out 0).trans rfl; have hcz6_1 : w4.cell? ⟨gb15001, 1, none⟩ = some (.slice A0_1 l0_1.length c0_1) := (blk_cell BK15001.out 1).trans rfl; have hfz6_0 := blk_frozen BK15001.out 0; have hfz6_1 := blk_frozen BK15001.out 1) | ((with_reducible refine gate_callee (f := 40) rfl ?_); refine goesL_ (some 5) rfl rfl Try.func40 (by kernel_rfl) rfl #[.agg #[.int .i64 a0_0, .slice A0_1 l0_1.length c0_1]] rfl la_ ?_; (with_reducible refine (sawmillref14_bounds.calls k a0_0 _ _ l0_1 t15003 t15004 t15005 t15006 _ ?side1 ?side2 A2.out).mono ?_); (case side1 => repeat (first | exact (Kd.C_below HR0_1.out HB.out) | (with_reducible refine Kd.C_alloc ?_ _) | (with_reducible refine Kd.C_drewN ?_ _) | (with_reducible refine Kd.C_drew ?_))); (case side2 => exact HC0_1.out); rintro e w7 ⟨rfl, hb⟩; refine ⟨_, rfl, ?_⟩; have n0_ := Aside0.mk (blk_below (g := gb15001) (o := .cells #[.int .i64 a0_0, .slice A0_1 l0_1.length c0_1] 24 (0, 0)) (fb_ BK15001.out) hb); have n1_ := Aside0.mk (blk_below (g := gb15002) (o := .cells #[.int .i64 0, .int .i64 0] 28 (0, 0)) (fb_ BK15002.out) hb); have n2_ := Aside0.mk (bs_ hb); clear BK15001 BK15002 HB; have BK15001 := n0_; have BK15002 := n1_; have HB := n2_; clear n0_ n1_ n2_; (try clear hb); (try clear hb2); (try clear hk); (try clear hi)) | ((with_reducible refine gate_dst (N := 3) rfl ?_); refine box_event ?hg (N := 3) ?hd (cs := #[.int .i64 0, .int .i64 0, .int .i64 0, .int .i64 0]) (t := 54) ?hr ?_; (case hd => rfl); (case hg => rfl); (case hr => first | (go_simp; done) | (go_simp; rfl)); intro gb15007 hg w8 hbox hb; have n0_ := Aside0.mk (blk_below (g := gb15001) (o := .cells #[.int .i64 a0_0, .slice A0_1 l0_1.length c0_1] 24 (0, 0)) (fb_ BK15001.out) hb); have n1_ := Aside0.mk (blk_below (g := gb15002) (o := .cells #[.int .i64 0, .int .i64 0] 28 (0, 0)) (fb_ BK15002.out) hb); have n2_ := Aside0.mk (bs_ hb); have n3_ := Aside0.mk (hbox); have n4_ := Aside0.mk ((by rw [hg]; exact bz_ : w.heap.size ≤ gb15007)); have n5_ := Aside0.mk ((by rw [hg]; exact bz_ : w.heap.size ≤ gb15007)); have n6_ := Aside0.mk ((by rw [hg]; exact Nat.ne_of_lt (blk_lt (g := gb15001) (o := .cells #[.int .i64 a0_0, .slice A0_1 l0_1.length c0_1] 24 (0, 0)) (fb_ BK15001.out)) : gb15001 ≠ gb15007)); have n7_ := Aside0.mk ((by rw [hg]; exact Nat.ne_of_gt (blk_lt (g := gb15001) (o := .cells #[.int .i64 a0_0, .slice A0_1 l0_1.length c0_1] 24 (0, 0)) (fb_ BK15001.out)) : gb15007 ≠ gb15001)); have n8_ := Aside0.mk ((by rw [hg]; exact Nat.ne_of_lt (blk_lt (g := gb15002) (o := .cells #[.int .i64 0, .int .i64 0] 28 (0, 0)) (fb_ BK15002.out)) : gb15002 ≠ gb15007)); have n9_ := Aside0.mk ((by rw [hg]; exact Nat.ne_of_gt (blk_lt (g := gb15002) (o := .cells #[.int .i64 0, .int .i64 0] 28 (0, 0)) (fb_ BK15002.out)) : gb15007 ≠ gb15002)); clear BK15001 BK15002 HB; have BK15001 := n0_; have BK15002 := n1_; have HB := n2_; have BK15007 := n3_; have GW15007 := n4_; have GE15007 := n5_; have NB15001_15007 := n6_; have NB15007_15001 := n7_; have NB15002_15007 := n8_; have NB15007_15002 := n9_; clear n0_ n1_ n2_ n3_ n4_ n5_ n6_ n7_ n8_ n9_ hb hbox hg; have hnb9 := NB15007_15001.out; have hnc9 := NB15001_15007.out; have hnb10 := NB15007_15002.out; have hnc10 := NB15002_15007.out; have hcz11_0 : w8.cell? ⟨gb15007, 0, none⟩ = some (.int .i64 0) := (blk_cell BK15007.out 0).trans rfl; have hcz11_1 : w8.cell? ⟨gb15007, 1, none⟩ = some (.int .i64 0) := (blk_cell BK15007.out 1).trans rfl; have hcz11_2 : w8.cell? ⟨gb15007, 2, none⟩ = some (.int .i64 0) := (blk_cell BK15007.out 2).trans rfl; have hcz11_3 : w8.cell? ⟨gb15007, 3, none⟩ = some (.int .i64 0) := (blk_cell BK15007.out 3).trans rfl; have hfz11_0 := blk_frozen BK15007.out 0; have hfz11_1 := blk_frozen BK15007.out 1; have hfz11_2 := blk_frozen BK15007.out 2; have hfz11_3 := blk_frozen BK15007.out 3; have hcz12_0 : w8.cell? ⟨gb15002, 0, none⟩ = some (.int .i64 0) := (blk_cell BK15002.out 0).trans rfl; have hcz12_1 : w8.cell? ⟨gb15002, 1, none⟩ = some (.int .i64 0) := (blk_cell BK15002.out 1).trans rfl; have hfz12_0 := blk_frozen BK15002.out 0; have hfz12_1 := blk_frozen BK15002.out 1))
 refine bodyPost_ret (results_cell_row rfl _ _ gb15002 28 #[.int .i64 (wrap64 (t15003 + t15004)), .int .i64 (wrap64 (t15005 + t15006))] (0, 0) _ rfl (by (with_reducible repeat (first | refine blk_drewN ?_ _ | refine blk_drew ?_ | refine blk_alloc ?_ _)); refine blk_put (cs := #[.int .i64 (wrap64 (t15003 + t15004)), .int .i64 0]) ?_ 1 _ rfl; (with_reducible repeat (first | refine blk_drewN ?_ _ | refine blk_drew ?_ | refine blk_alloc ?_ _)); refine blk_put (cs := #[.int .i64 0, .int .i64 0]) ?_ 0 _ rfl; (with_reducible repeat (first | refine blk_drewN ?_ _ | refine blk_drew ?_ | refine blk_alloc ?_ _)); refine blk_far ?_ NB15002_15007.out _; (with_reducible repeat (first | refine blk_drewN ?_ _ | refine blk_drew ?_ | refine blk_alloc ?_ _)); refine blk_far ?_ NB15002_15007.out _; (with_reducible repeat (first | refine blk_drewN ?_ _ | refine blk_drew ?_ | refine blk_alloc ?_ _)); refine blk_far ?_ NB15002_15007.out _; (with_reducible repeat (first | refine blk_drewN ?_ _ | refine blk_drew ?_ | refine blk_alloc ?_ _)); refine blk_far ?_ NB15002_15007.out _; (with_reducible repeat (first | refine blk_drewN ?_ _ | refine blk_drew ?_ | refine blk_alloc ?_ _)); exact BK15002.out) Try.underlying28 rfl (by kernel_rfl)) rfl ?_
 exact ⟨er_, be_⟩

end Go.Proofs.Ytdbjoopkliafeaa.P

end
section
namespace Go.Proofs.Ytdbjoopkliafeaa.P
open Go Go.RowKit Go.Proofs.YtdbjoopkliafeaaW.PrintWords Go.Proofs.YtdbjoopkliafeaaW.PrintLast Go.Proofs.YtdbjoopkliafeaaW.PrintMore
attribute [local go_sem] max2_int min2_int max_two min_two max_three min_three max_four min_four max_five min_eight max_eight   -- for this text's walks alone
set_option linter.unusedVariables false
set_option linter.unusedSimpArgs false

def sawmillref14_Oval.f (k : Nat) (a0_0 : Int) (l0_1 : List (S49)) : Option (Int) := (sawmillref14_bounds.f k a0_0 l0_1).bind fun bt17002 => (some (wrap64 ((wrap64 (bt17002.2.1 - bt17002.1)) - (wrap64 (bt17002.2.2.2 - bt17002.2.2.1)))))
theorem sawmillref14_Oval.mono : ∀ a0 a1 k, LeO (sawmillref14_Oval.f k a0 a1) (sawmillref14_Oval.f (k + 1) a0 a1) := by
 intro a0 a1 k
 unfold sawmillref14_Oval.f
 repeat' first
   | (with_reducible exact sawmillref14_bounds.mono _ _ _)
   | (with_reducible exact LeO.refl _)
   | (with_reducible exact LeO.none _)
   | (with_reducible refine LeO.ite ?_ ?_)
   | (with_reducible refine LeO.bind ?_ (fun _ => ?_))
   | exact sawmillref14_bounds.mono _ _ _
   | exact LeO.none _
   | refine LeO.ite ?_ ?_
   | refine LeO.bind ?_ (fun _ => ?_)
set_option maxHeartbeats 8000000 in
set_option maxRecDepth 100000 in
theorem sawmillref14_Oval.calls (k : Nat) (a0_0 : Int) (A0_1 : Option Addr) (c0_1 : Nat) (l0_1 : List (S49)) (r : Int) (w : World) (hr0_1 : Kd.C k49 w A0_1 l0_1.length l0_1) (hc0_1 : l0_1.length ≤ c0_1) (h : sawmillref14_Oval.f k a0_0 l0_1 = some r) :
  Calls Try.prog 17 #[.agg #[.int .i64 a0_0, .slice A0_1 l0_1.length c0_1]] w fun e w' => e = .returned (.int .i64 r) ∧ Below w.heap.size w w' := by
 have hu24 := Try.underlying24
 have hu54 := Try.underlying54
 have HR0_1 := Aside0.mk hr0_1
 have HC0_1 := Aside0.mk hc0_1
 clear hr0_1 hc0_1
 have HB := Aside0.mk (Below.refl w.heap.size w)
 have H : ((sawmillref14_bounds.f k a0_0 l0_1).bind fun bt17002 => (some (wrap64 ((wrap64 (bt17002.2.1 - bt17002.1)) - (wrap64 (bt17002.2.2.2 - bt17002.2.2.1)))))) = some r := h
 clear h
 replace H := Option.bind_eq_some_iff.mp H
 obtain ⟨⟨t17002, t17003, t17004, t17005⟩, A20, H⟩ := H
 replace H : (some (wrap64 ((wrap64 (t17003 - t17002)) - (wrap64 (t17005 - t17004))))) = some r := H
 have A2 := Aside0.mk A20
 clear A20
 obtain rfl := Option.some.inj H
 go_enter Try.func17, Try.ntmps17
 go_wp2_with (first | ((with_reducible refine gate_dst (N := 1) rfl ?_); refine box_event ?hg (N := 1) ?hd (cs := #[.int .i64 a0_0, .slice A0_1 l0_1.length c0_1]) (t := 24) ?hr ?_; (case hd => rfl); (case hg => rfl); (case hr => first | (go_simp; done) | (go_simp; rfl)); intro gb17001 hg w3 hbox hb; have n0_ := Aside0.mk (bs_ hb); have n1_ := Aside0.mk (hbox); have n2_ := Aside0.mk ((by rw [hg]; exact bz_ : w.heap.size ≤ gb17001)); have n3_ := Aside0.mk ((by rw [hg]; exact bz_ : w.heap.size ≤ gb17001)); clear HB; have HB := n0_; have BK17001 := n1_; have GW17001 := n2_; have GE17001 := n3_; clear n0_ n1_ n2_ n3_ hb hbox hg; have hcz4_0 : w3.cell? ⟨gb17001, 0, none⟩ = some (.int .i64 a0_0) := (blk_cell BK17001.out 0).trans rfl; have hcz4_1 : w3.cell? ⟨gb17001, 1, none⟩ = some (.slice A0_1 l0_1.length c0_1) := (blk_cell BK17001.out 1).trans rfl; have hfz4_0 := blk_frozen BK17001.out 0; have hfz4_1 := blk_frozen BK17001.out 1) | ((with_reducible refine gate_callee (f := 40) rfl ?_); refine goesL_ (some 5) rfl rfl Try.func40 (by kernel_rfl) rfl #[.agg #[.int .i64 a0_0, .slice A0_1 l0_1.length c0_1]] rfl la_ ?_; (with_reducible refine (sawmillref14_bounds.calls k a0_0 _ _ l0_1 t17002 t17003 t17004 t17005 _ ?side1 ?side2 A2.out).mono ?_); (case side1 => repeat (first | exact (Kd.C_below HR0_1.out HB.out) | (with_reducible refine Kd.C_alloc ?_ _) | (with_reducible refine Kd.C_drewN ?_ _) | (with_reducible refine Kd.C_drew ?_))); (case side2 => exact HC0_1.out); rintro e w5 ⟨rfl, hb⟩; refine ⟨_, rfl, ?_⟩; have n0_ := Aside0.mk (blk_below (g := gb17001) (o := .cells #[.int .i64 a0_0, .slice A0_1 l0_1.length c0_1] 24 (0, 0)) (fb_ BK17001.out) hb); have n1_ := Aside0.mk (bs_ hb); clear BK17001 HB; have BK17001 := n0_; have HB := n1_; clear n0_ n1_; (try clear hb); (try clear hb2); (try clear hk); (try clear hi)) | ((with_reducible refine gate_dst (N := 3) rfl ?_); refine box_event ?hg (N := 3) ?hd (cs := #[.int .i64 0, .int .i64 0, .int .i64 0, .int .i64 0]) (t := 54) ?hr ?_; (case hd => rfl); (case hg => rfl); (case hr => first | (go_simp; done) | (go_simp; rfl)); intro gb17006 hg w6 hbox hb; have n0_ := Aside0.mk (blk_below (g := gb17001) (o := .cells #[.int .i64 a0_0, .slice A0_1 l0_1.length c0_1] 24 (0, 0)) (fb_ BK17001.out) hb); have n1_ := Aside0.mk (bs_ hb); have n2_ := Aside0.mk (hbox); have n3_ := Aside0.mk ((by rw [hg]; exact bz_ : w.heap.size ≤ gb17006)); have n4_ := Aside0.mk ((by rw [hg]; exact bz_ : w.heap.size ≤ gb17006)); have n5_ := Aside0.mk ((by rw [hg]; exact Nat.ne_of_lt (blk_lt (g := gb17001) (o := .cells #[.int .i64 a0_0, .slice A0_1 l0_1.length c0_1] 24 (0, 0)) (fb_ BK17001.out)) : gb17001 ≠ gb17006)); have n6_ := Aside0.mk ((by rw [hg]; exact Nat.ne_of_gt (blk_lt (g := gb17001) (o := .cells #[.int .i64 a0_0, .slice A0_1 l0_1.length c0_1] 24 (0, 0)) (fb_ BK17001.out)) : gb17006 ≠ gb17001)); clear BK17001 HB; have BK17001 := n0_; have HB := n1_; have BK17006 := n2_; have GW17006 := n3_; have GE17006 := n4_; have NB17001_17006 := n5_; have NB17006_17001 := n6_; clear n0_ n1_ n2_ n3_ n4_ n5_ n6_ hb hbox hg; have hnb7 := NB17006_17001.out; have hnc7 := NB17001_17006.out; have hcz8_0 : w6.cell? ⟨gb17006, 0, none⟩ = some (.int .i64 0) := (blk_cell BK17006.out 0).trans rfl; have hcz8_1 : w6.cell? ⟨gb17006, 1, none⟩ = some (.int .i64 0) := (blk_cell BK17006.out 1).trans rfl; have hcz8_2 : w6.cell? ⟨gb17006, 2, none⟩ = some (.int .i64 0) := (blk_cell BK17006.out 2).trans rfl; have hcz8_3 : w6.cell? ⟨gb17006, 3, none⟩ = some (.int .i64 0) := (blk_cell BK17006.out 3).trans rfl; have hfz8_0 := blk_frozen BK17006.out 0; have hfz8_1 := blk_frozen BK17006.out 1; have hfz8_2 := blk_frozen BK17006.out 2; have hfz8_3 := blk_frozen BK17006.out 3))
 go_ret
 exact ⟨er_, be_⟩

end Go.Proofs.Ytdbjoopkliafeaa.P

end
section
namespace Go.Proofs.Ytdbjoopkliafeaa.P
open Go Go.RowKit Go.Proofs.YtdbjoopkliafeaaW.PrintWords Go.Proofs.YtdbjoopkliafeaaW.PrintLast Go.Proofs.YtdbjoopkliafeaaW.PrintMore
attribute [local go_sem] max2_int min2_int max_two min_two max_three min_three max_four min_four max_five min_eight max_eight   -- for this text's walks alone
set_option linter.unusedVariables false
set_option linter.unusedSimpArgs false

def sawmillref14_away.f (a0 : Int) (a1 : Int) : Option (Int) := some (mx (wrap64 (a0 - a1)) (wrap64 (a1 - a0)))
set_option maxHeartbeats 8000000 in
set_option maxRecDepth 100000 in
theorem sawmillref14_away.calls (a0 : Int) (a1 : Int) (r : Int) (w : World) (h : sawmillref14_away.f a0 a1 = some r) :
  Calls Try.prog 46 #[.int .i64 a0, .int .i64 a1] w fun e w' => e = .returned (.int .i64 r) ∧ Below w.heap.size w w' := by
 have HB := Aside0.mk (Below.refl w.heap.size w)
 have H : (some (mx (wrap64 (a0 - a1)) (wrap64 (a1 - a0)))) = some r := h
 clear h
 obtain ⟨ji3, hji3⟩ : ∃ j_ : Int, (mx (wrap64 (a0 - a1)) (wrap64 (a1 - a0))) = j_ := ⟨_, rfl⟩
 replace H : (some ji3) = some r := by first | (rw [hji3] at H; exact H) | (simp only [hji3] at H ⊢; exact H)
 have hji3_ : (if (wrap64 (a0 - a1)) < (wrap64 (a1 - a0)) then (wrap64 (a1 - a0)) else (wrap64 (a0 - a1))) = ji3 := hji3
 obtain rfl := Option.some.inj H
 go_enter Try.func46, Try.ntmps46
 go_wp2
 go_ret
 exact ⟨by first | rfl | (simp [errW_none, errW_some] <;> rfl) | (simp only [← hji3]; first | rfl | (simp [errW_none, errW_some] <;> rfl)) | (simp [*, errW_none, errW_some] <;> rfl), be_⟩

end Go.Proofs.Ytdbjoopkliafeaa.P

end
