/- Functions of the program: what each computes, and that the call computes it; conditions: the fuel that the plain function asks for. -/
import Derived.Test.YtdbjoopkliafeaaV2
section
namespace Go.Proofs.Ytdbjoopkliafeaa.P
open Go Go.RowKit Go.Proofs.YtdbjoopkliafeaaW.PrintWords Go.Proofs.YtdbjoopkliafeaaW.PrintLast Go.Proofs.YtdbjoopkliafeaaW.PrintMore
attribute [local go_sem] max2_int min2_int max_two min_two max_three min_three max_four min_four max_five min_eight max_eight   -- for this text's walks alone
set_option linter.unusedVariables false
set_option linter.unusedSimpArgs false

def solid_Check.l0 : Nat → Int → List (S36) → Int → Int → Option (Int)
 | 0, _, _, _, _ => none
 | k + 1, x3, x13, x14, x15 => if x15 < x14 then (if 0 ≤ x15 then (if x15 < (x13.length : Int) then ((section_Check.f k ((rd_T36 x13 x15).f1.f0) ((rd_T36 x13 x15).f1.f1)).bind fun t25003 => (if t25003 = 0 then (if (((rd_T36 x13 x15).f1.f1).length : Int) = 0 then (some 18) else (if ((rd_T36 x13 x15).f0) < 1 then (some 9) else (if ((rd_T36 x13 x15).f0) > x3 then (some 9) else (solid_Check.l0 k (wrap64 (x3 - ((rd_T36 x13 x15).f0))) x13 x14 (wrap64 (x15 + 1)))))) else (some t25003))) else (none)) else (none)) else (some 0)
def solid_Check.f (k : Nat) (l0 : List (S36)) : Option (Int) := if (l0.length : Int) = 0 then (some 3) else (if (l0.length : Int) > 24 then (some 4) else (solid_Check.l0 k 20000 l0 (l0.length : Int) 0))
theorem solid_Check.mono_l : ∀ k, (∀ y0 y1 y2 y3, LeO (solid_Check.l0 k y0 y1 y2 y3) (solid_Check.l0 (k + 1) y0 y1 y2 y3))
 | 0 => fun _ _ _ _ r h => by simp [solid_Check.l0] at h
 | k + 1 => by
  have ih0 := solid_Check.mono_l k
  ·intro y0 y1 y2 y3
   unfold solid_Check.l0
   repeat' first
   | (with_reducible exact ih0 _ _ _ _)
   | (with_reducible exact section_Check.mono _ _ _)
   | (with_reducible exact LeO.refl _)
   | (with_reducible exact LeO.none _)
   | (with_reducible refine LeO.ite ?_ ?_)
   | (with_reducible refine LeO.bind ?_ (fun _ => ?_))
   | exact ih0 _ _ _ _
   | exact section_Check.mono _ _ _
   | exact LeO.none _
   | refine LeO.ite ?_ ?_
   | refine LeO.bind ?_ (fun _ => ?_)
theorem solid_Check.mono : ∀ a0 k, LeO (solid_Check.f k a0) (solid_Check.f (k + 1) a0) := by
 intro a0 k
 have ih0 := solid_Check.mono_l k
 unfold solid_Check.f
 repeat' first
   | (with_reducible exact ih0 _ _ _ _)
   | (with_reducible exact section_Check.mono _ _ _)
   | (with_reducible exact LeO.refl _)
   | (with_reducible exact LeO.none _)
   | (with_reducible refine LeO.ite ?_ ?_)
   | (with_reducible refine LeO.bind ?_ (fun _ => ?_))
   | exact ih0 _ _ _ _
   | exact section_Check.mono _ _ _
   | exact LeO.none _
   | refine LeO.ite ?_ ?_
   | refine LeO.bind ?_ (fun _ => ?_)
set_option maxHeartbeats 8000000 in
set_option maxRecDepth 100000 in
theorem solid_Check.calls (k : Nat) (A0 : Option Addr) (c0 : Nat) (l0 : List (S36)) (r : Int) (w : World) (hr0 : Kd.C k36 w A0 l0.length l0) (hc0 : l0.length ≤ c0) (h : solid_Check.f k l0 = some r) :
  Calls Try.prog 25 #[.slice A0 l0.length c0] w fun e w' => e = .returned (.int .i64 r) ∧ Below w.heap.size w w' := by
 have hu36 := Try.underlying36
 have hu24 := Try.underlying24
 have HR0 := Aside0.mk hr0
 have HC0 := Aside0.mk hc0
 clear hr0 hc0
 have HB := Aside0.mk (Below.refl w.heap.size w)
 have H : (if (l0.length : Int) = 0 then (some 3) else (if (l0.length : Int) > 24 then (some 4) else (solid_Check.l0 k 20000 l0 (l0.length : Int) 0))) = some r := h
 clear h
 by_cases c2 : (l0.length : Int) = 0
 ·rw [if_pos c2] at H
  have c2b0 : ((l0.length : Int) == 0) = true := beq_iff_eq.mpr c2
  have c2b1 : ((l0.length : Int) != 0) = false := bne_eq_false_iff_eq.mpr c2
  clear c2
  obtain rfl := Option.some.inj H
  go_enter Try.func25, Try.ntmps25
  go_wp2
  go_ret
  exact ⟨er_, be_⟩
 ·rw [if_neg c2] at H
  have c2b0 : ((l0.length : Int) == 0) = false := beq_eq_false_iff_ne.mpr c2
  have c2b1 : ((l0.length : Int) != 0) = true := bne_iff_ne.mpr c2
  have c2b2 : ¬ (l0 = []) := fun h_ => c2 (by rw [h_]; rfl)
  by_cases c3 : (l0.length : Int) > 24
  ·rw [if_pos c3] at H
   have c3b0 : decide (24 < (l0.length : Int)) = true := decide_eq_true c3
   have c3b1 : decide (24 < l0.length) = true := decide_eq_true (by omega)
   clear c3
   obtain rfl := Option.some.inj H
   go_enter Try.func25, Try.ntmps25
   go_wp2
   go_ret
   exact ⟨er_, be_⟩
  ·rw [if_neg c3] at H
   have c3b0 : decide (24 < (l0.length : Int)) = false := decide_eq_false c3
   have c3b1 : decide (24 < l0.length) = false := decide_eq_false (by omega)
   clear c3
   have H' := Aside0.mk H
   clear H
   go_enter Try.func25, Try.ntmps25
   go_wp2
   go_loopg [3, 15] k (fun kq v3 v15 w' => ∃ (x3_1 : Int) (x15_1 : Int), v3 = .int .i64 x3_1 ∧ v15 = .int .i64 x15_1 ∧ Aside0 (solid_Check.l0 kq x3_1 l0 (l0.length : Int) x15_1 = some r) ∧ Aside0 (kq ≤ k) ∧ Aside0 (Below w.heap.size w w'))
   case atStart => exact ⟨(20000), (0), (by first | rfl | (simp; done) | (simp [*]; done)), (by first | rfl | (simp; done) | (simp [*]; done)), H', ⟨Nat.le_refl _⟩, ⟨be_⟩⟩
   case round =>
    clear H'
    try clear c2
    try clear c2b0
    try clear c2b1
    try clear c2b2
    try clear p2
    try clear c3
    try clear c3b0
    try clear c3b1
    obtain ⟨x3_1, x15_1, rfl, rfl, HA, HK1, HB⟩ := hrel
    cases gk with
    | zero => exact absurd HA.out (by simp [solid_Check.l0])
    | succ k1 =>
     have H := HA.out
     clear HA
     simp only [solid_Check.l0] at H
     by_cases c4 : x15_1 < (l0.length : Int)
     ·rw [if_pos c4] at H
      have c4b0 : decide (x15_1 < (l0.length : Int)) = true := decide_eq_true c4
      clear c4
      by_cases c5 : 0 ≤ x15_1
      ·rw [if_pos c5] at H
       have c5b0 : decide (0 ≤ x15_1) = true := decide_eq_true c5
       clear c5
       by_cases c6 : x15_1 < (l0.length : Int)
       ·rw [if_pos c6] at H
        have c6b0 : decide (x15_1 < (l0.length : Int)) = true := decide_eq_true c6
        clear c6
        replace H := Option.bind_eq_some_iff.mp H
        obtain ⟨t25003, A70, H⟩ := H
        replace H : (if t25003 = 0 then (if (((rd_T36 l0 x15_1).f1.f1).length : Int) = 0 then (some 18) else (if ((rd_T36 l0 x15_1).f0) < 1 then (some 9) else (if ((rd_T36 l0 x15_1).f0) > x3_1 then (some 9) else (solid_Check.l0 k1 (wrap64 (x3_1 - ((rd_T36 l0 x15_1).f0))) l0 (l0.length : Int) (wrap64 (x15_1 + 1)))))) else (some t25003)) = some r := H
        have A7 := Aside0.mk A70
        clear A70
        by_cases c8 : t25003 = 0
        ·rw [if_pos c8] at H
         have c8b0 : (t25003 == 0) = true := beq_iff_eq.mpr c8
         have c8b1 : (t25003 != 0) = false := bne_eq_false_iff_eq.mpr c8
         clear c8
         by_cases c9 : (((rd_T36 l0 x15_1).f1.f1).length : Int) = 0
         ·rw [if_pos c9] at H
          have c9b0 : ((((rd_T36 l0 x15_1).f1.f1).length : Int) == 0) = true := beq_iff_eq.mpr c9
          have c9b1 : ((((rd_T36 l0 x15_1).f1.f1).length : Int) != 0) = false := bne_eq_false_iff_eq.mpr c9
          clear c9
          obtain rfl := Option.some.inj H
          have p25001 : 0 ≤ (x15_1 : Int) := of_decide_eq_true (by first | (with_reducible assumption) | assumption)
          have q25001 : x15_1 < (l0.length : Int) := of_decide_eq_true (by first | (with_reducible assumption) | assumption)
          obtain ⟨ad25001, A25001_2, c25001_2, e25001, hx25001_0, hx25001_1, hx25001_2, hl25001_2, hi25001_2⟩ := at_T36 HR0.out x15_1 p25001 q25001
          cases e25001
          replace hx25001_0 := (HB.out.cell (World.block_lt_of_cell? w _ hx25001_0)).trans hx25001_0
          replace hx25001_1 := (HB.out.cell (World.block_lt_of_cell? w _ hx25001_1)).trans hx25001_1
          replace hx25001_2 := (HB.out.cell (World.block_lt_of_cell? w _ hx25001_2)).trans hx25001_2
          have HR25001_2 := Aside0.mk hi25001_2
          have HC25001_2 := Aside0.mk hl25001_2
          clear hi25001_2 hl25001_2
          replace p25001 := eq_true p25001
          replace q25001 := eq_true q25001
          go_wp2_with (first | ((with_reducible refine gate_dst (N := 5) rfl ?_); refine box_event ?hg (N := 5) ?hd (cs := #[.int .i64 0, .int .i64 0, .slice none 0 0]) (t := 36) ?hr ?_; (case hd => rfl); (case hg => rfl); (case hr => first | (go_simp; done) | (go_simp; rfl)); intro gb25002 hg w10 hbox hb; have n0_ := Aside0.mk (bs_ hb); have n1_ := Aside0.mk (hbox); have n2_ := Aside0.mk ((by rw [hg]; exact bz_ : w.heap.size ≤ gb25002)); have n3_ := Aside0.mk ((by rw [hg]; exact bz_ : w.heap.size ≤ gb25002)); clear HB; have HB := n0_; have BK25002 := n1_; have GW25002 := n2_; have GE25002 := n3_; clear n0_ n1_ n2_ n3_ hb hbox hg; have hcz11_0 : w10.cell? ⟨gb25002, 0, none⟩ = some (.int .i64 0) := (blk_cell BK25002.out 0).trans rfl; have hcz11_1 : w10.cell? ⟨gb25002, 1, none⟩ = some (.int .i64 0) := (blk_cell BK25002.out 1).trans rfl; have hcz11_2 : w10.cell? ⟨gb25002, 2, none⟩ = some (.slice none 0 0) := (blk_cell BK25002.out 2).trans rfl; have hfz11_0 := blk_frozen BK25002.out 0; have hfz11_1 := blk_frozen BK25002.out 1; have hfz11_2 := blk_frozen BK25002.out 2) | ((with_reducible refine gate_callee (f := 29) rfl ?_); refine goesL_ (some 21) rfl rfl Try.func29 (by kernel_rfl) rfl #[.agg #[.int .i64 ((rd_T36 l0 x15_1).f1.f0), .slice A25001_2 ((rd_T36 l0 x15_1).f1.f1).length c25001_2]] rfl la_ ?_; (with_reducible refine (section_Check.calls k1 ((rd_T36 l0 x15_1).f1.f0) _ _ ((rd_T36 l0 x15_1).f1.f1) t25003 _ ?side1 ?side2 A7.out).mono ?_); (case side1 => exact Kd.C_below HR25001_2.out be_); (case side2 => exact HC25001_2.out); rintro e w12 ⟨rfl, hb⟩; refine ⟨_, rfl, ?_⟩; have n0_ := Aside0.mk (blk_below (g := gb25002) (o := .cells #[.int .i64 ((rd_T36 l0 x15_1).f0), .int .i64 ((rd_T36 l0 x15_1).f1.f0), .slice A25001_2 ((rd_T36 l0 x15_1).f1.f1).length c25001_2] 36 (0, 0)) (by (with_reducible repeat (first | refine blk_drewN ?_ _ | refine blk_drew ?_ | refine blk_alloc ?_ _)); refine blk_put (cs := #[.int .i64 ((rd_T36 l0 x15_1).f0), .int .i64 ((rd_T36 l0 x15_1).f1.f0), .slice none 0 0]) ?_ 2 _ rfl; (with_reducible repeat (first | refine blk_drewN ?_ _ | refine blk_drew ?_ | refine blk_alloc ?_ _)); refine blk_put (cs := #[.int .i64 ((rd_T36 l0 x15_1).f0), .int .i64 0, .slice none 0 0]) ?_ 1 _ rfl; (with_reducible repeat (first | refine blk_drewN ?_ _ | refine blk_drew ?_ | refine blk_alloc ?_ _)); refine blk_put (cs := #[.int .i64 0, .int .i64 0, .slice none 0 0]) ?_ 0 _ rfl; (with_reducible repeat (first | refine blk_drewN ?_ _ | refine blk_drew ?_ | refine blk_alloc ?_ _)); exact BK25002.out) hb); have n1_ := Aside0.mk (bs_ hb); clear BK25002 HB; have BK25002 := n0_; have HB := n1_; clear n0_ n1_; (try clear hb); (try clear hb2); (try clear hk); (try clear hi); have hcz13_0 : w12.cell? ⟨gb25002, 0, none⟩ = some (.int .i64 ((rd_T36 l0 x15_1).f0)) := (blk_cell BK25002.out 0).trans rfl; have hcz13_1 : w12.cell? ⟨gb25002, 1, none⟩ = some (.int .i64 ((rd_T36 l0 x15_1).f1.f0)) := (blk_cell BK25002.out 1).trans rfl; have hcz13_2 : w12.cell? ⟨gb25002, 2, none⟩ = some (.slice A25001_2 ((rd_T36 l0 x15_1).f1.f1).length c25001_2) := (blk_cell BK25002.out 2).trans rfl; have hfz13_0 := blk_frozen BK25002.out 0; have hfz13_1 := blk_frozen BK25002.out 1; have hfz13_2 := blk_frozen BK25002.out 2))
          go_ret
          exact ⟨er_, be_⟩
         ·rw [if_neg c9] at H
          have c9b0 : ((((rd_T36 l0 x15_1).f1.f1).length : Int) == 0) = false := beq_eq_false_iff_ne.mpr c9
          have c9b1 : ((((rd_T36 l0 x15_1).f1.f1).length : Int) != 0) = true := bne_iff_ne.mpr c9
          have c9b2 : ¬ (((rd_T36 l0 x15_1).f1.f1) = []) := fun h_ => c9 (by rw [h_]; rfl)
          by_cases c14 : ((rd_T36 l0 x15_1).f0) < 1
          ·rw [if_pos c14] at H
           have c14b0 : decide (((rd_T36 l0 x15_1).f0) < 1) = true := decide_eq_true c14
           clear c14
           obtain rfl := Option.some.inj H
           have p25001 : 0 ≤ (x15_1 : Int) := of_decide_eq_true (by first | (with_reducible assumption) | assumption)
           have q25001 : x15_1 < (l0.length : Int) := of_decide_eq_true (by first | (with_reducible assumption) | assumption)
           obtain ⟨ad25001, A25001_2, c25001_2, e25001, hx25001_0, hx25001_1, hx25001_2, hl25001_2, hi25001_2⟩ := at_T36 HR0.out x15_1 p25001 q25001
           cases e25001
           replace hx25001_0 := (HB.out.cell (World.block_lt_of_cell? w _ hx25001_0)).trans hx25001_0
           replace hx25001_1 := (HB.out.cell (World.block_lt_of_cell? w _ hx25001_1)).trans hx25001_1
           replace hx25001_2 := (HB.out.cell (World.block_lt_of_cell? w _ hx25001_2)).trans hx25001_2
           have HR25001_2 := Aside0.mk hi25001_2
           have HC25001_2 := Aside0.mk hl25001_2
           clear hi25001_2 hl25001_2
           replace p25001 := eq_true p25001
           replace q25001 := eq_true q25001
           go_wp2_with (first | ((with_reducible refine gate_dst (N := 5) rfl ?_); refine box_event ?hg (N := 5) ?hd (cs := #[.int .i64 0, .int .i64 0, .slice none 0 0]) (t := 36) ?hr ?_; (case hd => rfl); (case hg => rfl); (case hr => first | (go_simp; done) | (go_simp; rfl)); intro gb25002 hg w15 hbox hb; have n0_ := Aside0.mk (bs_ hb); have n1_ := Aside0.mk (hbox); have n2_ := Aside0.mk ((by rw [hg]; exact bz_ : w.heap.size ≤ gb25002)); have n3_ := Aside0.mk ((by rw [hg]; exact bz_ : w.heap.size ≤ gb25002)); clear HB; have HB := n0_; have BK25002 := n1_; have GW25002 := n2_; have GE25002 := n3_; clear n0_ n1_ n2_ n3_ hb hbox hg; have hcz16_0 : w15.cell? ⟨gb25002, 0, none⟩ = some (.int .i64 0) := (blk_cell BK25002.out 0).trans rfl; have hcz16_1 : w15.cell? ⟨gb25002, 1, none⟩ = some (.int .i64 0) := (blk_cell BK25002.out 1).trans rfl; have hcz16_2 : w15.cell? ⟨gb25002, 2, none⟩ = some (.slice none 0 0) := (blk_cell BK25002.out 2).trans rfl; have hfz16_0 := blk_frozen BK25002.out 0; have hfz16_1 := blk_frozen BK25002.out 1; have hfz16_2 := blk_frozen BK25002.out 2) | ((with_reducible refine gate_callee (f := 29) rfl ?_); refine goesL_ (some 21) rfl rfl Try.func29 (by kernel_rfl) rfl #[.agg #[.int .i64 ((rd_T36 l0 x15_1).f1.f0), .slice A25001_2 ((rd_T36 l0 x15_1).f1.f1).length c25001_2]] rfl la_ ?_; (with_reducible refine (section_Check.calls k1 ((rd_T36 l0 x15_1).f1.f0) _ _ ((rd_T36 l0 x15_1).f1.f1) t25003 _ ?side1 ?side2 A7.out).mono ?_); (case side1 => exact Kd.C_below HR25001_2.out be_); (case side2 => exact HC25001_2.out); rintro e w17 ⟨rfl, hb⟩; refine ⟨_, rfl, ?_⟩; have n0_ := Aside0.mk (blk_below (g := gb25002) (o := .cells #[.int .i64 ((rd_T36 l0 x15_1).f0), .int .i64 ((rd_T36 l0 x15_1).f1.f0), .slice A25001_2 ((rd_T36 l0 x15_1).f1.f1).length c25001_2] 36 (0, 0)) (by (with_reducible repeat (first | refine blk_drewN ?_ _ | refine blk_drew ?_ | refine blk_alloc ?_ _)); refine blk_put (cs := #[.int .i64 ((rd_T36 l0 x15_1).f0), .int .i64 ((rd_T36 l0 x15_1).f1.f0), .slice none 0 0]) ?_ 2 _ rfl; (with_reducible repeat (first | refine blk_drewN ?_ _ | refine blk_drew ?_ | refine blk_alloc ?_ _)); refine blk_put (cs := #[.int .i64 ((rd_T36 l0 x15_1).f0), .int .i64 0, .slice none 0 0]) ?_ 1 _ rfl; (with_reducible repeat (first | refine blk_drewN ?_ _ | refine blk_drew ?_ | refine blk_alloc ?_ _)); refine blk_put (cs := #[.int .i64 0, .int .i64 0, .slice none 0 0]) ?_ 0 _ rfl; (with_reducible repeat (first | refine blk_drewN ?_ _ | refine blk_drew ?_ | refine blk_alloc ?_ _)); exact BK25002.out) hb); have n1_ := Aside0.mk (bs_ hb); clear BK25002 HB; have BK25002 := n0_; have HB := n1_; clear n0_ n1_; (try clear hb); (try clear hb2); (try clear hk); (try clear hi); have hcz18_0 : w17.cell? ⟨gb25002, 0, none⟩ = some (.int .i64 ((rd_T36 l0 x15_1).f0)) := (blk_cell BK25002.out 0).trans rfl; have hcz18_1 : w17.cell? ⟨gb25002, 1, none⟩ = some (.int .i64 ((rd_T36 l0 x15_1).f1.f0)) := (blk_cell BK25002.out 1).trans rfl; have hcz18_2 : w17.cell? ⟨gb25002, 2, none⟩ = some (.slice A25001_2 ((rd_T36 l0 x15_1).f1.f1).length c25001_2) := (blk_cell BK25002.out 2).trans rfl; have hfz18_0 := blk_frozen BK25002.out 0; have hfz18_1 := blk_frozen BK25002.out 1; have hfz18_2 := blk_frozen BK25002.out 2))
           go_ret
           exact ⟨er_, be_⟩
          ·rw [if_neg c14] at H
           have c14b0 : decide (((rd_T36 l0 x15_1).f0) < 1) = false := decide_eq_false c14
           clear c14
           by_cases c19 : ((rd_T36 l0 x15_1).f0) > x3_1
           ·rw [if_pos c19] at H
            have c19b0 : decide (x3_1 < ((rd_T36 l0 x15_1).f0)) = true := decide_eq_true c19
            clear c19
            obtain rfl := Option.some.inj H
            have p25001 : 0 ≤ (x15_1 : Int) := of_decide_eq_true (by first | (with_reducible assumption) | assumption)
            have q25001 : x15_1 < (l0.length : Int) := of_decide_eq_true (by first | (with_reducible assumption) | assumption)
            obtain ⟨ad25001, A25001_2, c25001_2, e25001, hx25001_0, hx25001_1, hx25001_2, hl25001_2, hi25001_2⟩ := at_T36 HR0.out x15_1 p25001 q25001
            cases e25001
            replace hx25001_0 := (HB.out.cell (World.block_lt_of_cell? w _ hx25001_0)).trans hx25001_0
            replace hx25001_1 := (HB.out.cell (World.block_lt_of_cell? w _ hx25001_1)).trans hx25001_1
            replace hx25001_2 := (HB.out.cell (World.block_lt_of_cell? w _ hx25001_2)).trans hx25001_2
            have HR25001_2 := Aside0.mk hi25001_2
            have HC25001_2 := Aside0.mk hl25001_2
            clear hi25001_2 hl25001_2
            replace p25001 := eq_true p25001
            replace q25001 := eq_true q25001
            go_wp2_with (first | ((with_reducible refine gate_dst (N := 5) rfl ?_); refine box_event ?hg (N := 5) ?hd (cs := #[.int .i64 0, .int .i64 0, .slice none 0 0]) (t := 36) ?hr ?_; (case hd => rfl); (case hg => rfl); (case hr => first | (go_simp; done) | (go_simp; rfl)); intro gb25002 hg w20 hbox hb; have n0_ := Aside0.mk (bs_ hb); have n1_ := Aside0.mk (hbox); have n2_ := Aside0.mk ((by rw [hg]; exact bz_ : w.heap.size ≤ gb25002)); have n3_ := Aside0.mk ((by rw [hg]; exact bz_ : w.heap.size ≤ gb25002)); clear HB; have HB := n0_; have BK25002 := n1_; have GW25002 := n2_; have GE25002 := n3_; clear n0_ n1_ n2_ n3_ hb hbox hg; have hcz21_0 : w20.cell? ⟨gb25002, 0, none⟩ = some (.int .i64 0) := (blk_cell BK25002.out 0).trans rfl; have hcz21_1 : w20.cell? ⟨gb25002, 1, none⟩ = some (.int .i64 0) := (blk_cell BK25002.out 1).trans rfl; have hcz21_2 : w20.cell? ⟨gb25002, 2, none⟩ = some (.slice none 0 0) := (blk_cell BK25002.out 2).trans rfl; have hfz21_0 := blk_frozen BK25002.out 0; have hfz21_1 := blk_frozen BK25002.out 1; have hfz21_2 := blk_frozen BK25002.out 2) | ((with_reducible refine gate_callee (f := 29) rfl ?_); refine goesL_ (some 21) rfl rfl Try.func29 (by kernel_rfl) rfl #[.agg #[.int .i64 ((rd_T36 l0 x15_1).f1.f0), .slice A25001_2 ((rd_T36 l0 x15_1).f1.f1).length c25001_2]] rfl la_ ?_; (with_reducible refine (section_Check.calls k1 ((rd_T36 l0 x15_1).f1.f0) _ _ ((rd_T36 l0 x15_1).f1.f1) t25003 _ ?side1 ?side2 A7.out).mono ?_); (case side1 => exact Kd.C_below HR25001_2.out be_); (case side2 => exact HC25001_2.out); rintro e w22 ⟨rfl, hb⟩; refine ⟨_, rfl, ?_⟩; have n0_ := Aside0.mk (blk_below (g := gb25002) (o := .cells #[.int .i64 ((rd_T36 l0 x15_1).f0), .int .i64 ((rd_T36 l0 x15_1).f1.f0), .slice A25001_2 ((rd_T36 l0 x15_1).f1.f1).length c25001_2] 36 (0, 0)) (by (with_reducible repeat (first | refine blk_drewN ?_ _ | refine blk_drew ?_ | refine blk_alloc ?_ _)); refine blk_put (cs := #[.int .i64 ((rd_T36 l0 x15_1).f0), .int .i64 ((rd_T36 l0 x15_1).f1.f0), .slice none 0 0]) ?_ 2 _ rfl; (with_reducible repeat (first | refine blk_drewN ?_ _ | refine blk_drew ?_ | refine blk_alloc ?_ _)); refine blk_put (cs := #[.int .i64 ((rd_T36 l0 x15_1).f0), .int .i64 0, .slice none 0 0]) ?_ 1 _ rfl; (with_reducible repeat (first | refine blk_drewN ?_ _ | refine blk_drew ?_ | refine blk_alloc ?_ _)); refine blk_put (cs := #[.int .i64 0, .int .i64 0, .slice none 0 0]) ?_ 0 _ rfl; (with_reducible repeat (first | refine blk_drewN ?_ _ | refine blk_drew ?_ | refine blk_alloc ?_ _)); exact BK25002.out) hb); have n1_ := Aside0.mk (bs_ hb); clear BK25002 HB; have BK25002 := n0_; have HB := n1_; clear n0_ n1_; (try clear hb); (try clear hb2); (try clear hk); (try clear hi); have hcz23_0 : w22.cell? ⟨gb25002, 0, none⟩ = some (.int .i64 ((rd_T36 l0 x15_1).f0)) := (blk_cell BK25002.out 0).trans rfl; have hcz23_1 : w22.cell? ⟨gb25002, 1, none⟩ = some (.int .i64 ((rd_T36 l0 x15_1).f1.f0)) := (blk_cell BK25002.out 1).trans rfl; have hcz23_2 : w22.cell? ⟨gb25002, 2, none⟩ = some (.slice A25001_2 ((rd_T36 l0 x15_1).f1.f1).length c25001_2) := (blk_cell BK25002.out 2).trans rfl; have hfz23_0 := blk_frozen BK25002.out 0; have hfz23_1 := blk_frozen BK25002.out 1; have hfz23_2 := blk_frozen BK25002.out 2))
            go_ret
            exact ⟨er_, be_⟩
           ·rw [if_neg c19] at H
            have c19b0 : decide (x3_1 < ((rd_T36 l0 x15_1).f0)) = false := decide_eq_false c19
            clear c19
            have H' := Aside0.mk H
            clear H
            have p25001 : 0 ≤ (x15_1 : Int) := of_decide_eq_true (by first | (with_reducible assumption) | assumption)
            have q25001 : x15_1 < (l0.length : Int) := of_decide_eq_true (by first | (with_reducible assumption) | assumption)
            obtain ⟨ad25001, A25001_2, c25001_2, e25001, hx25001_0, hx25001_1, hx25001_2, hl25001_2, hi25001_2⟩ := at_T36 HR0.out x15_1 p25001 q25001
            cases e25001
            replace hx25001_0 := (HB.out.cell (World.block_lt_of_cell? w _ hx25001_0)).trans hx25001_0
            replace hx25001_1 := (HB.out.cell (World.block_lt_of_cell? w _ hx25001_1)).trans hx25001_1
            replace hx25001_2 := (HB.out.cell (World.block_lt_of_cell? w _ hx25001_2)).trans hx25001_2
            have HR25001_2 := Aside0.mk hi25001_2
            have HC25001_2 := Aside0.mk hl25001_2
            clear hi25001_2 hl25001_2
            replace p25001 := eq_true p25001
            replace q25001 := eq_true q25001
            go_wp2_with (first | ((with_reducible refine gate_dst (N := 5) rfl ?_); refine box_event ?hg (N := 5) ?hd (cs := #[.int .i64 0, .int .i64 0, .slice none 0 0]) (t := 36) ?hr ?_; (case hd => rfl); (case hg => rfl); (case hr => first | (go_simp; done) | (go_simp; rfl)); intro gb25002 hg w24 hbox hb; have n0_ := Aside0.mk (bs_ hb); have n1_ := Aside0.mk (hbox); have n2_ := Aside0.mk ((by rw [hg]; exact bz_ : w.heap.size ≤ gb25002)); have n3_ := Aside0.mk ((by rw [hg]; exact bz_ : w.heap.size ≤ gb25002)); clear HB; have HB := n0_; have BK25002 := n1_; have GW25002 := n2_; have GE25002 := n3_; clear n0_ n1_ n2_ n3_ hb hbox hg; have hcz25_0 : w24.cell? ⟨gb25002, 0, none⟩ = some (.int .i64 0) := (blk_cell BK25002.out 0).trans rfl; have hcz25_1 : w24.cell? ⟨gb25002, 1, none⟩ = some (.int .i64 0) := (blk_cell BK25002.out 1).trans rfl; have hcz25_2 : w24.cell? ⟨gb25002, 2, none⟩ = some (.slice none 0 0) := (blk_cell BK25002.out 2).trans rfl; have hfz25_0 := blk_frozen BK25002.out 0; have hfz25_1 := blk_frozen BK25002.out 1; have hfz25_2 := blk_frozen BK25002.out 2) | ((with_reducible refine gate_callee (f := 29) rfl ?_); refine goesL_ (some 21) rfl rfl Try.func29 (by kernel_rfl) rfl #[.agg #[.int .i64 ((rd_T36 l0 x15_1).f1.f0), .slice A25001_2 ((rd_T36 l0 x15_1).f1.f1).length c25001_2]] rfl la_ ?_; (with_reducible refine (section_Check.calls k1 ((rd_T36 l0 x15_1).f1.f0) _ _ ((rd_T36 l0 x15_1).f1.f1) t25003 _ ?side1 ?side2 A7.out).mono ?_); (case side1 => exact Kd.C_below HR25001_2.out be_); (case side2 => exact HC25001_2.out); rintro e w26 ⟨rfl, hb⟩; refine ⟨_, rfl, ?_⟩; have n0_ := Aside0.mk (blk_below (g := gb25002) (o := .cells #[.int .i64 ((rd_T36 l0 x15_1).f0), .int .i64 ((rd_T36 l0 x15_1).f1.f0), .slice A25001_2 ((rd_T36 l0 x15_1).f1.f1).length c25001_2] 36 (0, 0)) (by (with_reducible repeat (first | refine blk_drewN ?_ _ | refine blk_drew ?_ | refine blk_alloc ?_ _)); refine blk_put (cs := #[.int .i64 ((rd_T36 l0 x15_1).f0), .int .i64 ((rd_T36 l0 x15_1).f1.f0), .slice none 0 0]) ?_ 2 _ rfl; (with_reducible repeat (first | refine blk_drewN ?_ _ | refine blk_drew ?_ | refine blk_alloc ?_ _)); refine blk_put (cs := #[.int .i64 ((rd_T36 l0 x15_1).f0), .int .i64 0, .slice none 0 0]) ?_ 1 _ rfl; (with_reducible repeat (first | refine blk_drewN ?_ _ | refine blk_drew ?_ | refine blk_alloc ?_ _)); refine blk_put (cs := #[.int .i64 0, .int .i64 0, .slice none 0 0]) ?_ 0 _ rfl; (with_reducible repeat (first | refine blk_drewN ?_ _ | refine blk_drew ?_ | refine blk_alloc ?_ _)); exact BK25002.out) hb); have n1_ := Aside0.mk (bs_ hb); clear BK25002 HB; have BK25002 := n0_; have HB := n1_; clear n0_ n1_; (try clear hb); (try clear hb2); (try clear hk); (try clear hi); have hcz27_0 : w26.cell? ⟨gb25002, 0, none⟩ = some (.int .i64 ((rd_T36 l0 x15_1).f0)) := (blk_cell BK25002.out 0).trans rfl; have hcz27_1 : w26.cell? ⟨gb25002, 1, none⟩ = some (.int .i64 ((rd_T36 l0 x15_1).f1.f0)) := (blk_cell BK25002.out 1).trans rfl; have hcz27_2 : w26.cell? ⟨gb25002, 2, none⟩ = some (.slice A25001_2 ((rd_T36 l0 x15_1).f1.f1).length c25001_2) := (blk_cell BK25002.out 2).trans rfl; have hfz27_0 := blk_frozen BK25002.out 0; have hfz27_1 := blk_frozen BK25002.out 1; have hfz27_2 := blk_frozen BK25002.out 2))
            go_roundg k1
            case measure => have := HK1.out; omega
            case rel => exact ⟨(wrap64 (x3_1 - ((rd_T36 l0 x15_1).f0))), (wrap64 (x15_1 + 1)), (by first | rfl | (simp; done) | (simp [*]; done)), (by first | rfl | (simp; done) | (simp [*]; done)), H', ⟨by have := HK1.out; omega⟩, ⟨be_⟩⟩
        ·rw [if_neg c8] at H
         have c8b0 : (t25003 == 0) = false := beq_eq_false_iff_ne.mpr c8
         have c8b1 : (t25003 != 0) = true := bne_iff_ne.mpr c8
         obtain rfl := Option.some.inj H
         have p25001 : 0 ≤ (x15_1 : Int) := of_decide_eq_true (by first | (with_reducible assumption) | assumption)
         have q25001 : x15_1 < (l0.length : Int) := of_decide_eq_true (by first | (with_reducible assumption) | assumption)
         obtain ⟨ad25001, A25001_2, c25001_2, e25001, hx25001_0, hx25001_1, hx25001_2, hl25001_2, hi25001_2⟩ := at_T36 HR0.out x15_1 p25001 q25001
         cases e25001
         replace hx25001_0 := (HB.out.cell (World.block_lt_of_cell? w _ hx25001_0)).trans hx25001_0
         replace hx25001_1 := (HB.out.cell (World.block_lt_of_cell? w _ hx25001_1)).trans hx25001_1
         replace hx25001_2 := (HB.out.cell (World.block_lt_of_cell? w _ hx25001_2)).trans hx25001_2
         have HR25001_2 := Aside0.mk hi25001_2
         have HC25001_2 := Aside0.mk hl25001_2
         clear hi25001_2 hl25001_2
         replace p25001 := eq_true p25001
         replace q25001 := eq_true q25001
         go_wp2_with (first | ((with_reducible refine gate_dst (N := 5) rfl ?_); refine box_event ?hg (N := 5) ?hd (cs := #[.int .i64 0, .int .i64 0, .slice none 0 0]) (t := 36) ?hr ?_; (case hd => rfl); (case hg => rfl); (case hr => first | (go_simp; done) | (go_simp; rfl)); intro gb25002 hg w28 hbox hb; have n0_ := Aside0.mk (bs_ hb); have n1_ := Aside0.mk (hbox); have n2_ := Aside0.mk ((by rw [hg]; exact bz_ : w.heap.size ≤ gb25002)); have n3_ := Aside0.mk ((by rw [hg]; exact bz_ : w.heap.size ≤ gb25002)); clear HB; have HB := n0_; have BK25002 := n1_; have GW25002 := n2_; have GE25002 := n3_; clear n0_ n1_ n2_ n3_ hb hbox hg; have hcz29_0 : w28.cell? ⟨gb25002, 0, none⟩ = some (.int .i64 0) := (blk_cell BK25002.out 0).trans rfl; have hcz29_1 : w28.cell? ⟨gb25002, 1, none⟩ = some (.int .i64 0) := (blk_cell BK25002.out 1).trans rfl; have hcz29_2 : w28.cell? ⟨gb25002, 2, none⟩ = some (.slice none 0 0) := (blk_cell BK25002.out 2).trans rfl; have hfz29_0 := blk_frozen BK25002.out 0; have hfz29_1 := blk_frozen BK25002.out 1; have hfz29_2 := blk_frozen BK25002.out 2) | ((with_reducible refine gate_callee (f := 29) rfl ?_); refine goesL_ (some 21) rfl rfl Try.func29 (by kernel_rfl) rfl #[.agg #[.int .i64 ((rd_T36 l0 x15_1).f1.f0), .slice A25001_2 ((rd_T36 l0 x15_1).f1.f1).length c25001_2]] rfl la_ ?_; (with_reducible refine (section_Check.calls k1 ((rd_T36 l0 x15_1).f1.f0) _ _ ((rd_T36 l0 x15_1).f1.f1) t25003 _ ?side1 ?side2 A7.out).mono ?_); (case side1 => exact Kd.C_below HR25001_2.out be_); (case side2 => exact HC25001_2.out); rintro e w30 ⟨rfl, hb⟩; refine ⟨_, rfl, ?_⟩; have n0_ := Aside0.mk (blk_below (g := gb25002) (o := .cells #[.int .i64 ((rd_T36 l0 x15_1).f0), .int .i64 ((rd_T36 l0 x15_1).f1.f0), .slice A25001_2 ((rd_T36 l0 x15_1).f1.f1).length c25001_2] 36 (0, 0)) (by (with_reducible repeat (first | refine blk_drewN ?_ _ | refine blk_drew ?_ | refine blk_alloc ?_ _)); refine blk_put (cs := #[.int .i64 ((rd_T36 l0 x15_1).f0), .int .i64 ((rd_T36 l0 x15_1).f1.f0), .slice none 0 0]) ?_ 2 _ rfl; (with_reducible repeat (first | refine blk_drewN ?_ _ | refine blk_drew ?_ | refine blk_alloc ?_ _)); refine blk_put (cs := #[.int .i64 ((rd_T36 l0 x15_1).f0), .int .i64 0, .slice none 0 0]) ?_ 1 _ rfl; (with_reducible repeat (first | refine blk_drewN ?_ _ | refine blk_drew ?_ | refine blk_alloc ?_ _)); refine blk_put (cs := #[.int .i64 0, .int .i64 0, .slice none 0 0]) ?_ 0 _ rfl; (with_reducible repeat (first | refine blk_drewN ?_ _ | refine blk_drew ?_ | refine blk_alloc ?_ _)); exact BK25002.out) hb); have n1_ := Aside0.mk (bs_ hb); clear BK25002 HB; have BK25002 := n0_; have HB := n1_; clear n0_ n1_; (try clear hb); (try clear hb2); (try clear hk); (try clear hi)))
         go_ret
         exact ⟨er_, be_⟩
       ·rw [if_neg c6] at H
        exact absurd H (by simp)
      ·rw [if_neg c5] at H
       exact absurd H (by simp)
     ·rw [if_neg c4] at H
      have c4b0 : decide (x15_1 < (l0.length : Int)) = false := decide_eq_false c4
      clear c4
      obtain rfl := Option.some.inj H
      go_wp2
      go_ret
      exact ⟨er_, be_⟩

end Go.Proofs.Ytdbjoopkliafeaa.P

end
section
namespace Go.Proofs.Ytdbjoopkliafeaa.P
open Go Go.RowKit Go.Proofs.YtdbjoopkliafeaaW.PrintWords Go.Proofs.YtdbjoopkliafeaaW.PrintLast Go.Proofs.YtdbjoopkliafeaaW.PrintMore
attribute [local go_sem] max2_int min2_int max_two min_two max_three min_three max_four min_four max_five min_eight max_eight   -- for this text's walks alone
set_option linter.unusedVariables false
set_option linter.unusedSimpArgs false

def shape_Top.f (k : Nat) (l0 : List (S36)) : Option (Int) := (solid_Check.f k l0).bind fun t19001 => (if t19001 = 0 then (if 0 ≤ (wrap64 ((l0.length : Int) - 1)) then (if (wrap64 ((l0.length : Int) - 1)) < (l0.length : Int) then ((shape_Diameter.f k ((rd_T36 l0 (wrap64 ((l0.length : Int) - 1))).f1.f0) ((rd_T36 l0 (wrap64 ((l0.length : Int) - 1))).f1.f1)).bind fun t19003 => (some t19003)) else (none)) else (none)) else (some 0))
theorem shape_Top.mono : ∀ a0 k, LeO (shape_Top.f k a0) (shape_Top.f (k + 1) a0) := by
 intro a0 k
 unfold shape_Top.f
 repeat' first
   | (with_reducible exact shape_Diameter.mono _ _ _)
   | (with_reducible exact solid_Check.mono _ _)
   | (with_reducible exact LeO.refl _)
   | (with_reducible exact LeO.none _)
   | (with_reducible refine LeO.ite ?_ ?_)
   | (with_reducible refine LeO.bind ?_ (fun _ => ?_))
   | exact shape_Diameter.mono _ _ _
   | exact solid_Check.mono _ _
   | exact LeO.none _
   | refine LeO.ite ?_ ?_
   | refine LeO.bind ?_ (fun _ => ?_)
set_option maxHeartbeats 8000000 in
set_option maxRecDepth 100000 in
theorem shape_Top.calls (k : Nat) (A0 : Option Addr) (c0 : Nat) (l0 : List (S36)) (r : Int) (w : World) (hr0 : Kd.C k36 w A0 l0.length l0) (hc0 : l0.length ≤ c0) (h : shape_Top.f k l0 = some r) :
  Calls Try.prog 19 #[.slice A0 l0.length c0] w fun e w' => e = .returned (.int .i64 r) ∧ Below w.heap.size w w' := by
 have hu24 := Try.underlying24
 have HR0 := Aside0.mk hr0
 have HC0 := Aside0.mk hc0
 clear hr0 hc0
 have HB := Aside0.mk (Below.refl w.heap.size w)
 have H : ((solid_Check.f k l0).bind fun t19001 => (if t19001 = 0 then (if 0 ≤ (wrap64 ((l0.length : Int) - 1)) then (if (wrap64 ((l0.length : Int) - 1)) < (l0.length : Int) then ((shape_Diameter.f k ((rd_T36 l0 (wrap64 ((l0.length : Int) - 1))).f1.f0) ((rd_T36 l0 (wrap64 ((l0.length : Int) - 1))).f1.f1)).bind fun t19003 => (some t19003)) else (none)) else (none)) else (some 0))) = some r := h
 clear h
 replace H := Option.bind_eq_some_iff.mp H
 obtain ⟨t19001, A20, H⟩ := H
 replace H : (if t19001 = 0 then (if 0 ≤ (wrap64 ((l0.length : Int) - 1)) then (if (wrap64 ((l0.length : Int) - 1)) < (l0.length : Int) then ((shape_Diameter.f k ((rd_T36 l0 (wrap64 ((l0.length : Int) - 1))).f1.f0) ((rd_T36 l0 (wrap64 ((l0.length : Int) - 1))).f1.f1)).bind fun t19003 => (some t19003)) else (none)) else (none)) else (some 0)) = some r := H
 have A2 := Aside0.mk A20
 clear A20
 by_cases c3 : t19001 = 0
 ·rw [if_pos c3] at H
  have c3b0 : (t19001 == 0) = true := beq_iff_eq.mpr c3
  have c3b1 : (t19001 != 0) = false := bne_eq_false_iff_eq.mpr c3
  clear c3
  obtain ⟨ji4, hji4⟩ : ∃ j_ : Int, (wrap64 ((l0.length : Int) - 1)) = j_ := ⟨_, rfl⟩
  replace H : (if 0 ≤ (ji4) then (if (ji4) < (l0.length : Int) then ((shape_Diameter.f k ((rd_T36 l0 (ji4)).f1.f0) ((rd_T36 l0 (ji4)).f1.f1)).bind fun t19003 => (some t19003)) else (none)) else (none)) = some r := by first | (rw [hji4] at H; exact H) | (simp only [hji4] at H ⊢; exact H)
  (try rw [hji4] at A2)
  have hji4w : (IntKind.i64.wrap ((l0.length : Int) - 1)) = ji4 := (i64_w _).trans hji4
  by_cases c5 : 0 ≤ (ji4)
  ·rw [if_pos c5] at H
   have c5b0 : decide (0 ≤ (ji4)) = true := decide_eq_true c5
   clear c5
   by_cases c6 : (ji4) < (l0.length : Int)
   ·rw [if_pos c6] at H
    have c6b0 : decide ((ji4) < (l0.length : Int)) = true := decide_eq_true c6
    clear c6
    replace H := Option.bind_eq_some_iff.mp H
    obtain ⟨t19003, A70, H⟩ := H
    replace H : (some t19003) = some r := H
    have A7 := Aside0.mk A70
    clear A70
    obtain rfl := Option.some.inj H
    go_enter Try.func19, Try.ntmps19
    go_wp2_with (first | ((with_reducible refine gate_callee (f := 25) rfl ?_); refine goesL_ (some 4) rfl rfl Try.func25 (by kernel_rfl) rfl #[.slice A0 l0.length c0] rfl la_ ?_; (with_reducible refine (solid_Check.calls k _ _ l0 t19001 _ ?side1 ?side2 A2.out).mono ?_); (case side1 => repeat (first | exact HR0.out | (with_reducible refine Kd.C_alloc ?_ _) | (with_reducible refine Kd.C_drewN ?_ _) | (with_reducible refine Kd.C_drew ?_))); (case side2 => exact HC0.out); rintro e w8 ⟨rfl, hb⟩; refine ⟨_, rfl, ?_⟩; have n0_ := Aside0.mk (bs_ hb); clear HB; have HB := n0_; clear n0_; (try clear hb); (try clear hb2); (try clear hk); (try clear hi); have p19002 : 0 ≤ ((ji4) : Int) := of_decide_eq_true (by first | (with_reducible assumption) | assumption); have q19002 : (ji4) < (l0.length : Int) := of_decide_eq_true (by first | (with_reducible assumption) | assumption); obtain ⟨ad19002, A19002_2, c19002_2, e19002, hx19002_0, hx19002_1, hx19002_2, hl19002_2, hi19002_2⟩ := at_T36 HR0.out (ji4) p19002 q19002; cases e19002; replace hx19002_0 := (HB.out.cell (World.block_lt_of_cell? w _ hx19002_0)).trans hx19002_0; replace hx19002_1 := (HB.out.cell (World.block_lt_of_cell? w _ hx19002_1)).trans hx19002_1; replace hx19002_2 := (HB.out.cell (World.block_lt_of_cell? w _ hx19002_2)).trans hx19002_2; have HR19002_2 := Aside0.mk hi19002_2; have HC19002_2 := Aside0.mk hl19002_2; clear hi19002_2 hl19002_2; replace p19002 := eq_true p19002; replace q19002 := eq_true q19002) | ((with_reducible refine gate_callee (f := 12) rfl ?_); refine goesL_ (some 13) rfl rfl Try.func12 (by kernel_rfl) rfl #[.agg #[.int .i64 ((rd_T36 l0 (ji4)).f1.f0), .slice A19002_2 ((rd_T36 l0 (ji4)).f1.f1).length c19002_2]] rfl (by (try simp only [List.map_toArray, List.map_cons, List.map_nil]); first | done | (simp only [hji4]; rfl) | rfl | (simp only [List.length_drop, List.length_take]; rfl)) ?_; (with_reducible refine (shape_Diameter.calls k ((rd_T36 l0 (ji4)).f1.f0) _ _ ((rd_T36 l0 (ji4)).f1.f1) t19003 _ ?side1 ?side2 A7.out).mono ?_); (case side1 => repeat (first | exact (Kd.C_below HR19002_2.out HB.out) | (with_reducible refine Kd.C_alloc ?_ _) | (with_reducible refine Kd.C_drewN ?_ _) | (with_reducible refine Kd.C_drew ?_))); (case side2 => exact HC19002_2.out); rintro e w9 ⟨rfl, hb⟩; refine ⟨_, rfl, ?_⟩; have n0_ := Aside0.mk (bs_ hb); clear HB; have HB := n0_; clear n0_; (try clear hb); (try clear hb2); (try clear hk); (try clear hi)))
    go_ret
    exact ⟨by first | rfl | (simp [errW_none, errW_some] <;> rfl) | (simp only [← hji4]; first | rfl | (simp [errW_none, errW_some] <;> rfl)) | (simp [*, errW_none, errW_some] <;> rfl), be_⟩
   ·rw [if_neg c6] at H
    exact absurd H (by simp)
  ·rw [if_neg c5] at H
   exact absurd H (by simp)
 ·rw [if_neg c3] at H
  have c3b0 : (t19001 == 0) = false := beq_eq_false_iff_ne.mpr c3
  have c3b1 : (t19001 != 0) = true := bne_iff_ne.mpr c3
  obtain rfl := Option.some.inj H
  go_enter Try.func19, Try.ntmps19
  go_wp2_with (first | ((with_reducible refine gate_callee (f := 25) rfl ?_); refine goesL_ (some 4) rfl rfl Try.func25 (by kernel_rfl) rfl #[.slice A0 l0.length c0] rfl la_ ?_; (with_reducible refine (solid_Check.calls k _ _ l0 t19001 _ ?side1 ?side2 A2.out).mono ?_); (case side1 => repeat (first | exact HR0.out | (with_reducible refine Kd.C_alloc ?_ _) | (with_reducible refine Kd.C_drewN ?_ _) | (with_reducible refine Kd.C_drew ?_))); (case side2 => exact HC0.out); rintro e w10 ⟨rfl, hb⟩; refine ⟨_, rfl, ?_⟩; have n0_ := Aside0.mk (bs_ hb); clear HB; have HB := n0_; clear n0_; (try clear hb); (try clear hb2); (try clear hk); (try clear hi)))
  go_ret
  exact ⟨er_, be_⟩

end Go.Proofs.Ytdbjoopkliafeaa.P

end
section
namespace Go.Proofs.Ytdbjoopkliafeaa.P
open Go Go.RowKit Go.Proofs.YtdbjoopkliafeaaW.PrintWords Go.Proofs.YtdbjoopkliafeaaW.PrintLast Go.Proofs.YtdbjoopkliafeaaW.PrintMore
attribute [local go_sem] max2_int min2_int max_two min_two max_three min_three max_four min_four max_five min_eight max_eight   -- for this text's walks alone
set_option linter.unusedVariables false
set_option linter.unusedSimpArgs false

def solid_whole.f  : Option (Int × Int) := some (0, 20000)
set_option maxHeartbeats 8000000 in
set_option maxRecDepth 100000 in
theorem solid_whole.calls  (r1 : Int) (r2 : Int) (w : World) (h : solid_whole.f  = some (r1, r2)) :
  Calls Try.prog 47 #[] w fun e w' => e = .returned (.agg #[.int .i64 r1, .int .i64 r2]) ∧ Below w.heap.size w w' := by
 have hu49 := Try.underlying49
 have HB := Aside0.mk (Below.refl w.heap.size w)
 have H : (some (0, 20000)) = some (r1, r2) := h
 clear h
 simp only [Option.some.injEq, Prod.mk.injEq] at H
 obtain ⟨rfl, rfl⟩ := H
 go_enter Try.func47, Try.ntmps47
 go_wp2_with (first | ((with_reducible refine gate_dst (N := 0) rfl ?_); refine box_event ?hg (N := 0) ?hd (cs := #[.int .i64 0, .int .i64 0]) (t := 49) ?hr ?_; (case hd => rfl); (case hg => rfl); (case hr => first | (go_simp; done) | (go_simp; rfl)); intro gb47001 hg w1 hbox hb; have n0_ := Aside0.mk (bs_ hb); have n1_ := Aside0.mk (hbox); have n2_ := Aside0.mk ((by rw [hg]; exact bz_ : w.heap.size ≤ gb47001)); have n3_ := Aside0.mk ((by rw [hg]; exact bz_ : w.heap.size ≤ gb47001)); clear HB; have HB := n0_; have BK47001 := n1_; have GW47001 := n2_; have GE47001 := n3_; clear n0_ n1_ n2_ n3_ hb hbox hg; have hcz2_0 : w1.cell? ⟨gb47001, 0, none⟩ = some (.int .i64 0) := (blk_cell BK47001.out 0).trans rfl; have hcz2_1 : w1.cell? ⟨gb47001, 1, none⟩ = some (.int .i64 0) := (blk_cell BK47001.out 1).trans rfl; have hfz2_0 := blk_frozen BK47001.out 0; have hfz2_1 := blk_frozen BK47001.out 1))
 refine bodyPost_ret (results_cell_row rfl _ _ gb47001 49 #[.int .i64 0, .int .i64 20000] (0, 0) _ rfl (by (with_reducible repeat (first | refine blk_drewN ?_ _ | refine blk_drew ?_ | refine blk_alloc ?_ _)); refine blk_put (cs := #[.int .i64 0, .int .i64 0]) ?_ 1 _ rfl; (with_reducible repeat (first | refine blk_drewN ?_ _ | refine blk_drew ?_ | refine blk_alloc ?_ _)); refine blk_put (cs := #[.int .i64 0, .int .i64 0]) ?_ 0 _ rfl; (with_reducible repeat (first | refine blk_drewN ?_ _ | refine blk_drew ?_ | refine blk_alloc ?_ _)); exact BK47001.out) Try.underlying49 rfl (by kernel_rfl)) rfl ?_
 exact ⟨er_, be_⟩

end Go.Proofs.Ytdbjoopkliafeaa.P

end
section
namespace Go.Proofs.Ytdbjoopkliafeaa.P
open Go Go.RowKit Go.Proofs.YtdbjoopkliafeaaW.PrintWords Go.Proofs.YtdbjoopkliafeaaW.PrintLast Go.Proofs.YtdbjoopkliafeaaW.PrintMore
attribute [local go_sem] max2_int min2_int max_two min_two max_three min_three max_four min_four max_five min_eight max_eight   -- for this text's walks alone
set_option linter.unusedVariables false
set_option linter.unusedSimpArgs false

def span_Meet.f (a0_0 : Int) (a0_1 : Int) (a1_0 : Int) (a1_1 : Int) : Option (Int × Int) := (span_empty.f a0_0 a0_1).bind fun t53005 => (if t53005 = true then (some (0, 0)) else ((span_empty.f a1_0 a1_1).bind fun t53006 => (if t53006 = true then (some (0, 0)) else ((span_empty.f (mx a0_0 a1_0) (mn a0_1 a1_1)).bind fun t53007 => (if t53007 = true then (some (0, 0)) else (some (mx a0_0 a1_0, mn a0_1 a1_1)))))))
set_option maxHeartbeats 8000000 in
set_option maxRecDepth 100000 in
theorem span_Meet.calls (a0_0 : Int) (a0_1 : Int) (a1_0 : Int) (a1_1 : Int) (r1 : Int) (r2 : Int) (w : World) (h : span_Meet.f a0_0 a0_1 a1_0 a1_1 = some (r1, r2)) :
  Calls Try.prog 53 #[.agg #[.int .i64 a0_0, .int .i64 a0_1], .agg #[.int .i64 a1_0, .int .i64 a1_1]] w fun e w' => e = .returned (.agg #[.int .i64 r1, .int .i64 r2]) ∧ Below w.heap.size w w' := by
 have hu49 := Try.underlying49
 have HB := Aside0.mk (Below.refl w.heap.size w)
 have H : ((span_empty.f a0_0 a0_1).bind fun t53005 => (if t53005 = true then (some (0, 0)) else ((span_empty.f a1_0 a1_1).bind fun t53006 => (if t53006 = true then (some (0, 0)) else ((span_empty.f (mx a0_0 a1_0) (mn a0_1 a1_1)).bind fun t53007 => (if t53007 = true then (some (0, 0)) else (some (mx a0_0 a1_0, mn a0_1 a1_1)))))))) = some (r1, r2) := h
 clear h
 obtain ⟨ji3, hji3⟩ : ∃ j_ : Int, (mx a0_0 a1_0) = j_ := ⟨_, rfl⟩
 replace H : ((span_empty.f a0_0 a0_1).bind fun t53005 => (if t53005 = true then (some (0, 0)) else ((span_empty.f a1_0 a1_1).bind fun t53006 => (if t53006 = true then (some (0, 0)) else ((span_empty.f (ji3) (mn a0_1 a1_1)).bind fun t53007 => (if t53007 = true then (some (0, 0)) else (some (ji3, mn a0_1 a1_1)))))))) = some (r1, r2) := by first | (rw [hji3] at H; exact H) | (simp only [hji3] at H ⊢; exact H)
 have hji3_ : (if a0_0 < a1_0 then a1_0 else a0_0) = ji3 := hji3
 obtain ⟨ji4, hji4⟩ : ∃ j_ : Int, (mn a0_1 a1_1) = j_ := ⟨_, rfl⟩
 replace H : ((span_empty.f a0_0 a0_1).bind fun t53005 => (if t53005 = true then (some (0, 0)) else ((span_empty.f a1_0 a1_1).bind fun t53006 => (if t53006 = true then (some (0, 0)) else ((span_empty.f (ji3) (ji4)).bind fun t53007 => (if t53007 = true then (some (0, 0)) else (some (ji3, ji4)))))))) = some (r1, r2) := by first | (rw [hji4] at H; exact H) | (simp only [hji4] at H ⊢; exact H)
 have hji4_ : (if a1_1 < a0_1 then a1_1 else a0_1) = ji4 := hji4
 replace H := Option.bind_eq_some_iff.mp H
 obtain ⟨t53005, A50, H⟩ := H
 replace H : (if t53005 = true then (some (0, 0)) else ((span_empty.f a1_0 a1_1).bind fun t53006 => (if t53006 = true then (some (0, 0)) else ((span_empty.f (ji3) (ji4)).bind fun t53007 => (if t53007 = true then (some (0, 0)) else (some (ji3, ji4))))))) = some (r1, r2) := H
 have A5 := Aside0.mk A50
 clear A50
 by_cases c6 : t53005 = true
 ·subst c6
  have H1 : (some (0, 0)) = some (r1, r2) := by rw [if_pos rfl] at H; exact H
  clear H
  have H := H1
  clear H1
  simp only [Option.some.injEq, Prod.mk.injEq] at H
  obtain ⟨rfl, rfl⟩ := H
  go_enter Try.func53, Try.ntmps53
  go_wp2_with (first | ((with_reducible refine gate_dst (N := 2) rfl ?_); refine box_event ?hg (N := 2) ?hd (cs := #[.int .i64 a0_0, .int .i64 a0_1]) (t := 49) ?hr ?_; (case hd => rfl); (case hg => rfl); (case hr => first | (go_simp; done) | (go_simp; rfl)); intro gb53001 hg w7 hbox hb; have n0_ := Aside0.mk (bs_ hb); have n1_ := Aside0.mk (hbox); have n2_ := Aside0.mk ((by rw [hg]; exact bz_ : w.heap.size ≤ gb53001)); have n3_ := Aside0.mk ((by rw [hg]; exact bz_ : w.heap.size ≤ gb53001)); clear HB; have HB := n0_; have BK53001 := n1_; have GW53001 := n2_; have GE53001 := n3_; clear n0_ n1_ n2_ n3_; clear hb hbox hg) | ((with_reducible refine gate_dst (N := 3) rfl ?_); refine box_event ?hg (N := 3) ?hd (cs := #[.int .i64 a1_0, .int .i64 a1_1]) (t := 49) ?hr ?_; (case hd => rfl); (case hg => rfl); (case hr => first | (go_simp; done) | (go_simp; rfl)); intro gb53002 hg w8 hbox hb; have n0_ := Aside0.mk (blk_below (g := gb53001) (o := .cells #[.int .i64 a0_0, .int .i64 a0_1] 49 (0, 0)) (fb_ BK53001.out) hb); have n1_ := Aside0.mk (bs_ hb); have n2_ := Aside0.mk (hbox); have n3_ := Aside0.mk ((by rw [hg]; exact bz_ : w.heap.size ≤ gb53002)); have n4_ := Aside0.mk ((by rw [hg]; exact bz_ : w.heap.size ≤ gb53002)); have n5_ := Aside0.mk ((by rw [hg]; exact Nat.ne_of_lt (blk_lt (g := gb53001) (o := .cells #[.int .i64 a0_0, .int .i64 a0_1] 49 (0, 0)) (fb_ BK53001.out)) : gb53001 ≠ gb53002)); have n6_ := Aside0.mk ((by rw [hg]; exact Nat.ne_of_gt (blk_lt (g := gb53001) (o := .cells #[.int .i64 a0_0, .int .i64 a0_1] 49 (0, 0)) (fb_ BK53001.out)) : gb53002 ≠ gb53001)); clear BK53001 HB; have BK53001 := n0_; have HB := n1_; have BK53002 := n2_; have GW53002 := n3_; have GE53002 := n4_; have NB53001_53002 := n5_; have NB53002_53001 := n6_; clear n0_ n1_ n2_ n3_ n4_ n5_ n6_; clear hb hbox hg) | ((with_reducible refine gate_dst (N := 4) rfl ?_); refine box_event ?hg (N := 4) ?hd (cs := #[.int .i64 0, .int .i64 0]) (t := 49) ?hr ?_; (case hd => rfl); (case hg => rfl); (case hr => first | (go_simp; done) | (go_simp; rfl)); intro gb53003 hg w9 hbox hb; have n0_ := Aside0.mk (blk_below (g := gb53001) (o := .cells #[.int .i64 a0_0, .int .i64 a0_1] 49 (0, 0)) (fb_ BK53001.out) hb); have n1_ := Aside0.mk (blk_below (g := gb53002) (o := .cells #[.int .i64 a1_0, .int .i64 a1_1] 49 (0, 0)) (fb_ BK53002.out) hb); have n2_ := Aside0.mk (bs_ hb); have n3_ := Aside0.mk (hbox); have n4_ := Aside0.mk ((by rw [hg]; exact bz_ : w.heap.size ≤ gb53003)); have n5_ := Aside0.mk ((by rw [hg]; exact bz_ : w.heap.size ≤ gb53003)); have n6_ := Aside0.mk ((by rw [hg]; exact Nat.ne_of_lt (blk_lt (g := gb53001) (o := .cells #[.int .i64 a0_0, .int .i64 a0_1] 49 (0, 0)) (fb_ BK53001.out)) : gb53001 ≠ gb53003)); have n7_ := Aside0.mk ((by rw [hg]; exact Nat.ne_of_gt (blk_lt (g := gb53001) (o := .cells #[.int .i64 a0_0, .int .i64 a0_1] 49 (0, 0)) (fb_ BK53001.out)) : gb53003 ≠ gb53001)); have n8_ := Aside0.mk ((by rw [hg]; exact Nat.ne_of_lt (blk_lt (g := gb53002) (o := .cells #[.int .i64 a1_0, .int .i64 a1_1] 49 (0, 0)) (fb_ BK53002.out)) : gb53002 ≠ gb53003)); have n9_ := Aside0.mk ((by rw [hg]; exact Nat.ne_of_gt (blk_lt (g := gb53002) (o := .cells #[.int .i64 a1_0, .int .i64 a1_1] 49 (0, 0)) (fb_ BK53002.out)) : gb53003 ≠ gb53002)); clear BK53001 BK53002 HB; have BK53001 := n0_; have BK53002 := n1_; have HB := n2_; have BK53003 := n3_; have GW53003 := n4_; have GE53003 := n5_; have NB53001_53003 := n6_; have NB53003_53001 := n7_; have NB53002_53003 := n8_; have NB53003_53002 := n9_; clear n0_ n1_ n2_ n3_ n4_ n5_ n6_ n7_ n8_ n9_ hb hbox hg; have hnb10 := NB53001_53002.out; have hnc10 := NB53002_53001.out; have hnb11 := NB53001_53003.out; have hnc11 := NB53003_53001.out; have hcz12_0 : w9.cell? ⟨gb53001, 0, none⟩ = some (.int .i64 a0_0) := (blk_cell BK53001.out 0).trans rfl; have hcz12_1 : w9.cell? ⟨gb53001, 1, none⟩ = some (.int .i64 a0_1) := (blk_cell BK53001.out 1).trans rfl; have hfz12_0 := blk_frozen BK53001.out 0; have hfz12_1 := blk_frozen BK53001.out 1; have hnb13 := NB53002_53003.out; have hnc13 := NB53003_53002.out; have hcz14_0 : w9.cell? ⟨gb53002, 0, none⟩ = some (.int .i64 a1_0) := (blk_cell BK53002.out 0).trans rfl; have hcz14_1 : w9.cell? ⟨gb53002, 1, none⟩ = some (.int .i64 a1_1) := (blk_cell BK53002.out 1).trans rfl; have hfz14_0 := blk_frozen BK53002.out 0; have hfz14_1 := blk_frozen BK53002.out 1) | ((with_reducible refine gate_dst (N := 5) rfl ?_); refine box_event ?hg (N := 5) ?hd (cs := #[.int .i64 0, .int .i64 0]) (t := 49) ?hr ?_; (case hd => rfl); (case hg => rfl); (case hr => first | (go_simp; done) | (go_simp; rfl)); intro gb53004 hg w15 hbox hb; have n0_ := Aside0.mk (blk_below (g := gb53001) (o := .cells #[.int .i64 a0_0, .int .i64 a0_1] 49 (0, 0)) (fb_ BK53001.out) hb); have n1_ := Aside0.mk (blk_below (g := gb53002) (o := .cells #[.int .i64 a1_0, .int .i64 a1_1] 49 (0, 0)) (fb_ BK53002.out) hb); have n2_ := Aside0.mk (blk_below (g := gb53003) (o := .cells #[.int .i64 0, .int .i64 0] 49 (0, 0)) (fb_ BK53003.out) hb); have n3_ := Aside0.mk (bs_ hb); have n4_ := Aside0.mk (hbox); have n5_ := Aside0.mk ((by rw [hg]; exact bz_ : w.heap.size ≤ gb53004)); have n6_ := Aside0.mk ((by rw [hg]; exact bz_ : w.heap.size ≤ gb53004)); have n7_ := Aside0.mk ((by rw [hg]; exact Nat.ne_of_lt (blk_lt (g := gb53001) (o := .cells #[.int .i64 a0_0, .int .i64 a0_1] 49 (0, 0)) (fb_ BK53001.out)) : gb53001 ≠ gb53004)); have n8_ := Aside0.mk ((by rw [hg]; exact Nat.ne_of_gt (blk_lt (g := gb53001) (o := .cells #[.int .i64 a0_0, .int .i64 a0_1] 49 (0, 0)) (fb_ BK53001.out)) : gb53004 ≠ gb53001)); have n9_ := Aside0.mk ((by rw [hg]; exact Nat.ne_of_lt (blk_lt (g := gb53002) (o := .cells #[.int .i64 a1_0, .int .i64 a1_1] 49 (0, 0)) (fb_ BK53002.out)) : gb53002 ≠ gb53004)); have n10_ := Aside0.mk ((by rw [hg]; exact Nat.ne_of_gt (blk_lt (g := gb53002) (o := .cells #[.int .i64 a1_0, .int .i64 a1_1] 49 (0, 0)) (fb_ BK53002.out)) : gb53004 ≠ gb53002)); have n11_ := Aside0.mk ((by rw [hg]; exact Nat.ne_of_lt (blk_lt (g := gb53003) (o := .cells #[.int .i64 0, .int .i64 0] 49 (0, 0)) (fb_ BK53003.out)) : gb53003 ≠ gb53004)); have n12_ := Aside0.mk ((by rw [hg]; exact Nat.ne_of_gt (blk_lt (g := gb53003) (o := .cells #[.int .i64 0, .int .i64 0] 49 (0, 0)) (fb_ BK53003.out)) : gb53004 ≠ gb53003)); clear BK53001 BK53002 BK53003 HB; have BK53001 := n0_; have BK53002 := n1_; have BK53003 := n2_; have HB := n3_; have BK53004 := n4_; have GW53004 := n5_; have GE53004 := n6_; have NB53001_53004 := n7_; have NB53004_53001 := n8_; have NB53002_53004 := n9_; have NB53004_53002 := n10_; have NB53003_53004 := n11_; have NB53004_53003 := n12_; clear n0_ n1_ n2_ n3_ n4_ n5_ n6_ n7_ n8_ n9_ n10_ n11_ n12_ hb hbox hg; have hnb16 := NB53004_53001.out; have hnc16 := NB53001_53004.out; have hnb17 := NB53004_53002.out; have hnc17 := NB53002_53004.out; have hnb18 := NB53004_53003.out; have hnc18 := NB53003_53004.out; have hcz19_0 : w15.cell? ⟨gb53004, 0, none⟩ = some (.int .i64 0) := (blk_cell BK53004.out 0).trans rfl; have hcz19_1 : w15.cell? ⟨gb53004, 1, none⟩ = some (.int .i64 0) := (blk_cell BK53004.out 1).trans rfl; have hfz19_0 := blk_frozen BK53004.out 0; have hfz19_1 := blk_frozen BK53004.out 1; have hcz20_0 : w15.cell? ⟨gb53001, 0, none⟩ = some (.int .i64 a0_0) := (blk_cell BK53001.out 0).trans rfl; have hcz20_1 : w15.cell? ⟨gb53001, 1, none⟩ = some (.int .i64 a0_1) := (blk_cell BK53001.out 1).trans rfl; have hfz20_0 := blk_frozen BK53001.out 0; have hfz20_1 := blk_frozen BK53001.out 1) | ((with_reducible refine gate_callee (f := 69) rfl ?_); refine goesL_ (some 18) rfl rfl Try.func69 (by kernel_rfl) rfl #[.agg #[.int .i64 a0_0, .int .i64 a0_1]] rfl la_ ?_; (with_reducible refine (span_empty.calls a0_0 a0_1 true _ A5.out).mono ?_); rintro e w21 ⟨rfl, hb⟩; refine ⟨_, rfl, ?_⟩; have n0_ := Aside0.mk (blk_below (g := gb53001) (o := .cells #[.int .i64 a0_0, .int .i64 a0_1] 49 (0, 0)) (by (with_reducible repeat (first | refine blk_drewN ?_ _ | refine blk_drew ?_ | refine blk_alloc ?_ _)); refine blk_far ?_ NB53001_53004.out _; (with_reducible repeat (first | refine blk_drewN ?_ _ | refine blk_drew ?_ | refine blk_alloc ?_ _)); refine blk_far ?_ NB53001_53004.out _; (with_reducible repeat (first | refine blk_drewN ?_ _ | refine blk_drew ?_ | refine blk_alloc ?_ _)); exact BK53001.out) hb); have n1_ := Aside0.mk (blk_below (g := gb53002) (o := .cells #[.int .i64 a1_0, .int .i64 a1_1] 49 (0, 0)) (by (with_reducible repeat (first | refine blk_drewN ?_ _ | refine blk_drew ?_ | refine blk_alloc ?_ _)); refine blk_far ?_ NB53002_53004.out _; (with_reducible repeat (first | refine blk_drewN ?_ _ | refine blk_drew ?_ | refine blk_alloc ?_ _)); refine blk_far ?_ NB53002_53004.out _; (with_reducible repeat (first | refine blk_drewN ?_ _ | refine blk_drew ?_ | refine blk_alloc ?_ _)); exact BK53002.out) hb); have n2_ := Aside0.mk (blk_below (g := gb53003) (o := .cells #[.int .i64 0, .int .i64 0] 49 (0, 0)) (by (with_reducible repeat (first | refine blk_drewN ?_ _ | refine blk_drew ?_ | refine blk_alloc ?_ _)); refine blk_far ?_ NB53003_53004.out _; (with_reducible repeat (first | refine blk_drewN ?_ _ | refine blk_drew ?_ | refine blk_alloc ?_ _)); refine blk_far ?_ NB53003_53004.out _; (with_reducible repeat (first | refine blk_drewN ?_ _ | refine blk_drew ?_ | refine blk_alloc ?_ _)); exact BK53003.out) hb); have n3_ := Aside0.mk (blk_below (g := gb53004) (o := .cells #[.int .i64 ji3, .int .i64 ji4] 49 (0, 0)) (by (with_reducible repeat (first | refine blk_drewN ?_ _ | refine blk_drew ?_ | refine blk_alloc ?_ _)); refine blk_put (cs := #[.int .i64 ji3, .int .i64 0]) ?_ 1 _ rfl; (with_reducible repeat (first | refine blk_drewN ?_ _ | refine blk_drew ?_ | refine blk_alloc ?_ _)); refine blk_put (cs := #[.int .i64 0, .int .i64 0]) ?_ 0 _ rfl; (with_reducible repeat (first | refine blk_drewN ?_ _ | refine blk_drew ?_ | refine blk_alloc ?_ _)); exact BK53004.out) hb); have n4_ := Aside0.mk (bs_ hb); clear BK53001 BK53002 BK53003 BK53004 HB; have BK53001 := n0_; have BK53002 := n1_; have BK53003 := n2_; have BK53004 := n3_; have HB := n4_; clear n0_ n1_ n2_ n3_ n4_; (try clear hb); (try clear hb2); (try clear hk); (try clear hi); have hcz22_0 : w21.cell? ⟨gb53003, 0, none⟩ = some (.int .i64 0) := (blk_cell BK53003.out 0).trans rfl; have hcz22_1 : w21.cell? ⟨gb53003, 1, none⟩ = some (.int .i64 0) := (blk_cell BK53003.out 1).trans rfl; have hfz22_0 := blk_frozen BK53003.out 0; have hfz22_1 := blk_frozen BK53003.out 1))
  refine bodyPost_ret (results_cell_row rfl _ _ gb53003 49 #[.int .i64 0, .int .i64 0] (0, 0) _ rfl (by (with_reducible repeat (first | refine blk_drewN ?_ _ | refine blk_drew ?_ | refine blk_alloc ?_ _)); refine blk_put (cs := #[.int .i64 0, .int .i64 0]) ?_ 1 _ rfl; (with_reducible repeat (first | refine blk_drewN ?_ _ | refine blk_drew ?_ | refine blk_alloc ?_ _)); refine blk_put (cs := #[.int .i64 0, .int .i64 0]) ?_ 0 _ rfl; (with_reducible repeat (first | refine blk_drewN ?_ _ | refine blk_drew ?_ | refine blk_alloc ?_ _)); exact BK53003.out) Try.underlying49 rfl (by kernel_rfl)) rfl ?_
  exact ⟨by first | rfl | (simp [errW_none, errW_some] <;> rfl) | (simp only [← hji3, ← hji4]; first | rfl | (simp [errW_none, errW_some] <;> rfl)) | (simp [*, errW_none, errW_some] <;> rfl), be_⟩
 ·replace c6 := Bool.eq_false_iff.mpr c6
  subst c6
  have H1 : ((span_empty.f a1_0 a1_1).bind fun t53006 => (if t53006 = true then (some (0, 0)) else ((span_empty.f (ji3) (ji4)).bind fun t53007 => (if t53007 = true then (some (0, 0)) else (some (ji3, ji4)))))) = some (r1, r2) := by rw [if_neg (show ¬ (false = true) by decide)] at H; exact H
  clear H
  have H := H1
  clear H1
  replace H := Option.bind_eq_some_iff.mp H
  obtain ⟨t53006, A230, H⟩ := H
  replace H : (if t53006 = true then (some (0, 0)) else ((span_empty.f (ji3) (ji4)).bind fun t53007 => (if t53007 = true then (some (0, 0)) else (some (ji3, ji4))))) = some (r1, r2) := H
  have A23 := Aside0.mk A230
  clear A230
  by_cases c24 : t53006 = true
  ·subst c24
   have H1 : (some (0, 0)) = some (r1, r2) := by rw [if_pos rfl] at H; exact H
   clear H
   have H := H1
   clear H1
   simp only [Option.some.injEq, Prod.mk.injEq] at H
   obtain ⟨rfl, rfl⟩ := H
   go_enter Try.func53, Try.ntmps53
   go_wp2_with (first | ((with_reducible refine gate_dst (N := 2) rfl ?_); refine box_event ?hg (N := 2) ?hd (cs := #[.int .i64 a0_0, .int .i64 a0_1]) (t := 49) ?hr ?_; (case hd => rfl); (case hg => rfl); (case hr => first | (go_simp; done) | (go_simp; rfl)); intro gb53001 hg w25 hbox hb; have n0_ := Aside0.mk (bs_ hb); have n1_ := Aside0.mk (hbox); have n2_ := Aside0.mk ((by rw [hg]; exact bz_ : w.heap.size ≤ gb53001)); have n3_ := Aside0.mk ((by rw [hg]; exact bz_ : w.heap.size ≤ gb53001)); clear HB; have HB := n0_; have BK53001 := n1_; have GW53001 := n2_; have GE53001 := n3_; clear n0_ n1_ n2_ n3_; clear hb hbox hg) | ((with_reducible refine gate_dst (N := 3) rfl ?_); refine box_event ?hg (N := 3) ?hd (cs := #[.int .i64 a1_0, .int .i64 a1_1]) (t := 49) ?hr ?_; (case hd => rfl); (case hg => rfl); (case hr => first | (go_simp; done) | (go_simp; rfl)); intro gb53002 hg w26 hbox hb; have n0_ := Aside0.mk (blk_below (g := gb53001) (o := .cells #[.int .i64 a0_0, .int .i64 a0_1] 49 (0, 0)) (fb_ BK53001.out) hb); have n1_ := Aside0.mk (bs_ hb); have n2_ := Aside0.mk (hbox); have n3_ := Aside0.mk ((by rw [hg]; exact bz_ : w.heap.size ≤ gb53002)); have n4_ := Aside0.mk ((by rw [hg]; exact bz_ : w.heap.size ≤ gb53002)); have n5_ := Aside0.mk ((by rw [hg]; exact Nat.ne_of_lt (blk_lt (g := gb53001) (o := .cells #[.int .i64 a0_0, .int .i64 a0_1] 49 (0, 0)) (fb_ BK53001.out)) : gb53001 ≠ gb53002)); have n6_ := Aside0.mk ((by rw [hg]; exact Nat.ne_of_gt (blk_lt (g := gb53001) (o := .cells #[.int .i64 a0_0, .int .i64 a0_1] 49 (0, 0)) (fb_ BK53001.out)) : gb53002 ≠ gb53001)); clear BK53001 HB; have BK53001 := n0_; have HB := n1_; have BK53002 := n2_; have GW53002 := n3_; have GE53002 := n4_; have NB53001_53002 := n5_; have NB53002_53001 := n6_; clear n0_ n1_ n2_ n3_ n4_ n5_ n6_; clear hb hbox hg) | ((with_reducible refine gate_dst (N := 4) rfl ?_); refine box_event ?hg (N := 4) ?hd (cs := #[.int .i64 0, .int .i64 0]) (t := 49) ?hr ?_; (case hd => rfl); (case hg => rfl); (case hr => first | (go_simp; done) | (go_simp; rfl)); intro gb53003 hg w27 hbox hb; have n0_ := Aside0.mk (blk_below (g := gb53001) (o := .cells #[.int .i64 a0_0, .int .i64 a0_1] 49 (0, 0)) (fb_ BK53001.out) hb); have n1_ := Aside0.mk (blk_below (g := gb53002) (o := .cells #[.int .i64 a1_0, .int .i64 a1_1] 49 (0, 0)) (fb_ BK53002.out) hb); have n2_ := Aside0.mk (bs_ hb); have n3_ := Aside0.mk (hbox); have n4_ := Aside0.mk ((by rw [hg]; exact bz_ : w.heap.size ≤ gb53003)); have n5_ := Aside0.mk ((by rw [hg]; exact bz_ : w.heap.size ≤ gb53003)); have n6_ := Aside0.mk ((by rw [hg]; exact Nat.ne_of_lt (blk_lt (g := gb53001) (o := .cells #[.int .i64 a0_0, .int .i64 a0_1] 49 (0, 0)) (fb_ BK53001.out)) : gb53001 ≠ gb53003)); have n7_ := Aside0.mk ((by rw [hg]; exact Nat.ne_of_gt (blk_lt (g := gb53001) (o := .cells #[.int .i64 a0_0, .int .i64 a0_1] 49 (0, 0)) (fb_ BK53001.out)) : gb53003 ≠ gb53001)); have n8_ := Aside0.mk ((by rw [hg]; exact Nat.ne_of_lt (blk_lt (g := gb53002) (o := .cells #[.int .i64 a1_0, .int .i64 a1_1] 49 (0, 0)) (fb_ BK53002.out)) : gb53002 ≠ gb53003)); have n9_ := Aside0.mk ((by rw [hg]; exact Nat.ne_of_gt (blk_lt (g := gb53002) (o := .cells #[.int .i64 a1_0, .int .i64 a1_1] 49 (0, 0)) (fb_ BK53002.out)) : gb53003 ≠ gb53002)); clear BK53001 BK53002 HB; have BK53001 := n0_; have BK53002 := n1_; have HB := n2_; have BK53003 := n3_; have GW53003 := n4_; have GE53003 := n5_; have NB53001_53003 := n6_; have NB53003_53001 := n7_; have NB53002_53003 := n8_; have NB53003_53002 := n9_; clear n0_ n1_ n2_ n3_ n4_ n5_ n6_ n7_ n8_ n9_ hb hbox hg; have hnb28 := NB53001_53002.out; have hnc28 := NB53002_53001.out; have hnb29 := NB53001_53003.out; have hnc29 := NB53003_53001.out; have hcz30_0 : w27.cell? ⟨gb53001, 0, none⟩ = some (.int .i64 a0_0) := (blk_cell BK53001.out 0).trans rfl; have hcz30_1 : w27.cell? ⟨gb53001, 1, none⟩ = some (.int .i64 a0_1) := (blk_cell BK53001.out 1).trans rfl; have hfz30_0 := blk_frozen BK53001.out 0; have hfz30_1 := blk_frozen BK53001.out 1; have hnb31 := NB53002_53003.out; have hnc31 := NB53003_53002.out; have hcz32_0 : w27.cell? ⟨gb53002, 0, none⟩ = some (.int .i64 a1_0) := (blk_cell BK53002.out 0).trans rfl; have hcz32_1 : w27.cell? ⟨gb53002, 1, none⟩ = some (.int .i64 a1_1) := (blk_cell BK53002.out 1).trans rfl; have hfz32_0 := blk_frozen BK53002.out 0; have hfz32_1 := blk_frozen BK53002.out 1) | ((with_reducible refine gate_dst (N := 5) rfl ?_); refine box_event ?hg (N := 5) ?hd (cs := #[.int .i64 0, .int .i64 0]) (t := 49) ?hr ?_; (case hd => rfl); (case hg => rfl); (case hr => first | (go_simp; done) | (go_simp; rfl)); intro gb53004 hg w33 hbox hb; have n0_ := Aside0.mk (blk_below (g := gb53001) (o := .cells #[.int .i64 a0_0, .int .i64 a0_1] 49 (0, 0)) (fb_ BK53001.out) hb); have n1_ := Aside0.mk (blk_below (g := gb53002) (o := .cells #[.int .i64 a1_0, .int .i64 a1_1] 49 (0, 0)) (fb_ BK53002.out) hb); have n2_ := Aside0.mk (blk_below (g := gb53003) (o := .cells #[.int .i64 0, .int .i64 0] 49 (0, 0)) (fb_ BK53003.out) hb); have n3_ := Aside0.mk (bs_ hb); have n4_ := Aside0.mk (hbox); have n5_ := Aside0.mk ((by rw [hg]; exact bz_ : w.heap.size ≤ gb53004)); have n6_ := Aside0.mk ((by rw [hg]; exact bz_ : w.heap.size ≤ gb53004)); have n7_ := Aside0.mk ((by rw [hg]; exact Nat.ne_of_lt (blk_lt (g := gb53001) (o := .cells #[.int .i64 a0_0, .int .i64 a0_1] 49 (0, 0)) (fb_ BK53001.out)) : gb53001 ≠ gb53004)); have n8_ := Aside0.mk ((by rw [hg]; exact Nat.ne_of_gt (blk_lt (g := gb53001) (o := .cells #[.int .i64 a0_0, .int .i64 a0_1] 49 (0, 0)) (fb_ BK53001.out)) : gb53004 ≠ gb53001)); have n9_ := Aside0.mk ((by rw [hg]; exact Nat.ne_of_lt (blk_lt (g := gb53002) (o := .cells #[.int .i64 a1_0, .int .i64 a1_1] 49 (0, 0)) (fb_ BK53002.out)) : gb53002 ≠ gb53004)); have n10_ := Aside0.mk ((by rw [hg]; exact Nat.ne_of_gt (blk_lt (g := gb53002) (o := .cells #[.int .i64 a1_0, .int .i64 a1_1] 49 (0, 0)) (fb_ BK53002.out)) : gb53004 ≠ gb53002)); have n11_ := Aside0.mk ((by rw [hg]; exact Nat.ne_of_lt (blk_lt (g := gb53003) (o := .cells #[.int .i64 0, .int .i64 0] 49 (0, 0)) (fb_ BK53003.out)) : gb53003 ≠ gb53004)); have n12_ := Aside0.mk ((by rw [hg]; exact Nat.ne_of_gt (blk_lt (g := gb53003) (o := .cells #[.int .i64 0, .int .i64 0] 49 (0, 0)) (fb_ BK53003.out)) : gb53004 ≠ gb53003)); clear BK53001 BK53002 BK53003 HB; have BK53001 := n0_; have BK53002 := n1_; have BK53003 := n2_; have HB := n3_; have BK53004 := n4_; have GW53004 := n5_; have GE53004 := n6_; have NB53001_53004 := n7_; have NB53004_53001 := n8_; have NB53002_53004 := n9_; have NB53004_53002 := n10_; have NB53003_53004 := n11_; have NB53004_53003 := n12_; clear n0_ n1_ n2_ n3_ n4_ n5_ n6_ n7_ n8_ n9_ n10_ n11_ n12_ hb hbox hg; have hnb34 := NB53004_53001.out; have hnc34 := NB53001_53004.out; have hnb35 := NB53004_53002.out; have hnc35 := NB53002_53004.out; have hnb36 := NB53004_53003.out; have hnc36 := NB53003_53004.out; have hcz37_0 : w33.cell? ⟨gb53004, 0, none⟩ = some (.int .i64 0) := (blk_cell BK53004.out 0).trans rfl; have hcz37_1 : w33.cell? ⟨gb53004, 1, none⟩ = some (.int .i64 0) := (blk_cell BK53004.out 1).trans rfl; have hfz37_0 := blk_frozen BK53004.out 0; have hfz37_1 := blk_frozen BK53004.out 1; have hcz38_0 : w33.cell? ⟨gb53001, 0, none⟩ = some (.int .i64 a0_0) := (blk_cell BK53001.out 0).trans rfl; have hcz38_1 : w33.cell? ⟨gb53001, 1, none⟩ = some (.int .i64 a0_1) := (blk_cell BK53001.out 1).trans rfl; have hfz38_0 := blk_frozen BK53001.out 0; have hfz38_1 := blk_frozen BK53001.out 1) | ((with_reducible refine gate_callee (f := 69) rfl ?_); refine goesL_ (some 18) rfl rfl Try.func69 (by kernel_rfl) rfl #[.agg #[.int .i64 a0_0, .int .i64 a0_1]] rfl la_ ?_; (with_reducible refine (span_empty.calls a0_0 a0_1 false _ A5.out).mono ?_); rintro e w39 ⟨rfl, hb⟩; refine ⟨_, rfl, ?_⟩; have n0_ := Aside0.mk (blk_below (g := gb53001) (o := .cells #[.int .i64 a0_0, .int .i64 a0_1] 49 (0, 0)) (by (with_reducible repeat (first | refine blk_drewN ?_ _ | refine blk_drew ?_ | refine blk_alloc ?_ _)); refine blk_far ?_ NB53001_53004.out _; (with_reducible repeat (first | refine blk_drewN ?_ _ | refine blk_drew ?_ | refine blk_alloc ?_ _)); refine blk_far ?_ NB53001_53004.out _; (with_reducible repeat (first | refine blk_drewN ?_ _ | refine blk_drew ?_ | refine blk_alloc ?_ _)); exact BK53001.out) hb); have n1_ := Aside0.mk (blk_below (g := gb53002) (o := .cells #[.int .i64 a1_0, .int .i64 a1_1] 49 (0, 0)) (by (with_reducible repeat (first | refine blk_drewN ?_ _ | refine blk_drew ?_ | refine blk_alloc ?_ _)); refine blk_far ?_ NB53002_53004.out _; (with_reducible repeat (first | refine blk_drewN ?_ _ | refine blk_drew ?_ | refine blk_alloc ?_ _)); refine blk_far ?_ NB53002_53004.out _; (with_reducible repeat (first | refine blk_drewN ?_ _ | refine blk_drew ?_ | refine blk_alloc ?_ _)); exact BK53002.out) hb); have n2_ := Aside0.mk (blk_below (g := gb53003) (o := .cells #[.int .i64 0, .int .i64 0] 49 (0, 0)) (by (with_reducible repeat (first | refine blk_drewN ?_ _ | refine blk_drew ?_ | refine blk_alloc ?_ _)); refine blk_far ?_ NB53003_53004.out _; (with_reducible repeat (first | refine blk_drewN ?_ _ | refine blk_drew ?_ | refine blk_alloc ?_ _)); refine blk_far ?_ NB53003_53004.out _; (with_reducible repeat (first | refine blk_drewN ?_ _ | refine blk_drew ?_ | refine blk_alloc ?_ _)); exact BK53003.out) hb); have n3_ := Aside0.mk (blk_below (g := gb53004) (o := .cells #[.int .i64 ji3, .int .i64 ji4] 49 (0, 0)) (by (with_reducible repeat (first | refine blk_drewN ?_ _ | refine blk_drew ?_ | refine blk_alloc ?_ _)); refine blk_put (cs := #[.int .i64 ji3, .int .i64 0]) ?_ 1 _ rfl; (with_reducible repeat (first | refine blk_drewN ?_ _ | refine blk_drew ?_ | refine blk_alloc ?_ _)); refine blk_put (cs := #[.int .i64 0, .int .i64 0]) ?_ 0 _ rfl; (with_reducible repeat (first | refine blk_drewN ?_ _ | refine blk_drew ?_ | refine blk_alloc ?_ _)); exact BK53004.out) hb); have n4_ := Aside0.mk (bs_ hb); clear BK53001 BK53002 BK53003 BK53004 HB; have BK53001 := n0_; have BK53002 := n1_; have BK53003 := n2_; have BK53004 := n3_; have HB := n4_; clear n0_ n1_ n2_ n3_ n4_; (try clear hb); (try clear hb2); (try clear hk); (try clear hi); have hcz40_0 : w39.cell? ⟨gb53002, 0, none⟩ = some (.int .i64 a1_0) := (blk_cell BK53002.out 0).trans rfl; have hcz40_1 : w39.cell? ⟨gb53002, 1, none⟩ = some (.int .i64 a1_1) := (blk_cell BK53002.out 1).trans rfl; have hfz40_0 := blk_frozen BK53002.out 0; have hfz40_1 := blk_frozen BK53002.out 1) | (go_at_call 69; (with_reducible refine (span_empty.calls a1_0 a1_1 true _ A23.out).mono ?_); rintro e w41 ⟨rfl, hb⟩; have n0_ := Aside0.mk (blk_below (g := gb53001) (o := .cells #[.int .i64 a0_0, .int .i64 a0_1] 49 (0, 0)) (fb_ BK53001.out) hb); have n1_ := Aside0.mk (blk_below (g := gb53002) (o := .cells #[.int .i64 a1_0, .int .i64 a1_1] 49 (0, 0)) (fb_ BK53002.out) hb); have n2_ := Aside0.mk (blk_below (g := gb53003) (o := .cells #[.int .i64 0, .int .i64 0] 49 (0, 0)) (fb_ BK53003.out) hb); have n3_ := Aside0.mk (blk_below (g := gb53004) (o := .cells #[.int .i64 ji3, .int .i64 ji4] 49 (0, 0)) (fb_ BK53004.out) hb); have n4_ := Aside0.mk (bs_ hb); clear BK53001 BK53002 BK53003 BK53004 HB; have BK53001 := n0_; have BK53002 := n1_; have BK53003 := n2_; have BK53004 := n3_; have HB := n4_; clear n0_ n1_ n2_ n3_ n4_; (try clear hb); (try clear hb2); (try clear hk); (try clear hi); have hcz42_0 : w41.cell? ⟨gb53003, 0, none⟩ = some (.int .i64 0) := (blk_cell BK53003.out 0).trans rfl; have hcz42_1 : w41.cell? ⟨gb53003, 1, none⟩ = some (.int .i64 0) := (blk_cell BK53003.out 1).trans rfl; have hfz42_0 := blk_frozen BK53003.out 0; have hfz42_1 := blk_frozen BK53003.out 1))
   refine bodyPost_ret (results_cell_row rfl _ _ gb53003 49 #[.int .i64 0, .int .i64 0] (0, 0) _ rfl (by (with_reducible repeat (first | refine blk_drewN ?_ _ | refine blk_drew ?_ | refine blk_alloc ?_ _)); refine blk_put (cs := #[.int .i64 0, .int .i64 0]) ?_ 1 _ rfl; (with_reducible repeat (first | refine blk_drewN ?_ _ | refine blk_drew ?_ | refine blk_alloc ?_ _)); refine blk_put (cs := #[.int .i64 0, .int .i64 0]) ?_ 0 _ rfl; (with_reducible repeat (first | refine blk_drewN ?_ _ | refine blk_drew ?_ | refine blk_alloc ?_ _)); exact BK53003.out) Try.underlying49 rfl (by kernel_rfl)) rfl ?_
   exact ⟨by first | rfl | (simp [errW_none, errW_some] <;> rfl) | (simp only [← hji3, ← hji4]; first | rfl | (simp [errW_none, errW_some] <;> rfl)) | (simp [*, errW_none, errW_some] <;> rfl), be_⟩
  ·replace c24 := Bool.eq_false_iff.mpr c24
   subst c24
   have H1 : ((span_empty.f (ji3) (ji4)).bind fun t53007 => (if t53007 = true then (some (0, 0)) else (some (ji3, ji4)))) = some (r1, r2) := by rw [if_neg (show ¬ (false = true) by decide)] at H; exact H
   clear H
   have H := H1
   clear H1
   replace H := Option.bind_eq_some_iff.mp H
   obtain ⟨t53007, A430, H⟩ := H
   replace H : (if t53007 = true then (some (0, 0)) else (some (ji3, ji4))) = some (r1, r2) := H
   have A43 := Aside0.mk A430
   clear A430
   by_cases c44 : t53007 = true
   ·subst c44
    have H1 : (some (0, 0)) = some (r1, r2) := by rw [if_pos rfl] at H; exact H
    clear H
    have H := H1
    clear H1
    simp only [Option.some.injEq, Prod.mk.injEq] at H
    obtain ⟨rfl, rfl⟩ := H
    go_enter Try.func53, Try.ntmps53
    go_wp2_with (first | ((with_reducible refine gate_dst (N := 2) rfl ?_); refine box_event ?hg (N := 2) ?hd (cs := #[.int .i64 a0_0, .int .i64 a0_1]) (t := 49) ?hr ?_; (case hd => rfl); (case hg => rfl); (case hr => first | (go_simp; done) | (go_simp; rfl)); intro gb53001 hg w45 hbox hb; have n0_ := Aside0.mk (bs_ hb); have n1_ := Aside0.mk (hbox); have n2_ := Aside0.mk ((by rw [hg]; exact bz_ : w.heap.size ≤ gb53001)); have n3_ := Aside0.mk ((by rw [hg]; exact bz_ : w.heap.size ≤ gb53001)); clear HB; have HB := n0_; have BK53001 := n1_; have GW53001 := n2_; have GE53001 := n3_; clear n0_ n1_ n2_ n3_; clear hb hbox hg) | ((with_reducible refine gate_dst (N := 3) rfl ?_); refine box_event ?hg (N := 3) ?hd (cs := #[.int .i64 a1_0, .int .i64 a1_1]) (t := 49) ?hr ?_; (case hd => rfl); (case hg => rfl); (case hr => first | (go_simp; done) | (go_simp; rfl)); intro gb53002 hg w46 hbox hb; have n0_ := Aside0.mk (blk_below (g := gb53001) (o := .cells #[.int .i64 a0_0, .int .i64 a0_1] 49 (0, 0)) (fb_ BK53001.out) hb); have n1_ := Aside0.mk (bs_ hb); have n2_ := Aside0.mk (hbox); have n3_ := Aside0.mk ((by rw [hg]; exact bz_ : w.heap.size ≤ gb53002)); have n4_ := Aside0.mk ((by rw [hg]; exact bz_ : w.heap.size ≤ gb53002)); have n5_ := Aside0.mk ((by rw [hg]; exact Nat.ne_of_lt (blk_lt (g := gb53001) (o := .cells #[.int .i64 a0_0, .int .i64 a0_1] 49 (0, 0)) (fb_ BK53001.out)) : gb53001 ≠ gb53002)); have n6_ := Aside0.mk ((by rw [hg]; exact Nat.ne_of_gt (blk_lt (g := gb53001) (o := .cells #[.int .i64 a0_0, .int .i64 a0_1] 49 (0, 0)) (fb_ BK53001.out)) : gb53002 ≠ gb53001)); clear BK53001 HB; have BK53001 := n0_; have HB := n1_; have BK53002 := n2_; have GW53002 := n3_; have GE53002 := n4_; have NB53001_53002 := n5_; have NB53002_53001 := n6_; clear n0_ n1_ n2_ n3_ n4_ n5_ n6_; clear hb hbox hg) | ((with_reducible refine gate_dst (N := 4) rfl ?_); refine box_event ?hg (N := 4) ?hd (cs := #[.int .i64 0, .int .i64 0]) (t := 49) ?hr ?_; (case hd => rfl); (case hg => rfl); (case hr => first | (go_simp; done) | (go_simp; rfl)); intro gb53003 hg w47 hbox hb; have n0_ := Aside0.mk (blk_below (g := gb53001) (o := .cells #[.int .i64 a0_0, .int .i64 a0_1] 49 (0, 0)) (fb_ BK53001.out) hb); have n1_ := Aside0.mk (blk_below (g := gb53002) (o := .cells #[.int .i64 a1_0, .int .i64 a1_1] 49 (0, 0)) (fb_ BK53002.out) hb); have n2_ := Aside0.mk (bs_ hb); have n3_ := Aside0.mk (hbox); have n4_ := Aside0.mk ((by rw [hg]; exact bz_ : w.heap.size ≤ gb53003)); have n5_ := Aside0.mk ((by rw [hg]; exact bz_ : w.heap.size ≤ gb53003)); have n6_ := Aside0.mk ((by rw [hg]; exact Nat.ne_of_lt (blk_lt (g := gb53001) (o := .cells #[.int .i64 a0_0, .int .i64 a0_1] 49 (0, 0)) (fb_ BK53001.out)) : gb53001 ≠ gb53003)); have n7_ := Aside0.mk ((by rw [hg]; exact Nat.ne_of_gt (blk_lt (g := gb53001) (o := .cells #[.int .i64 a0_0, .int .i64 a0_1] 49 (0, 0)) (fb_ BK53001.out)) : gb53003 ≠ gb53001)); have n8_ := Aside0.mk ((by rw [hg]; exact Nat.ne_of_lt (blk_lt (g := gb53002) (o := .cells #[.int .i64 a1_0, .int .i64 a1_1] 49 (0, 0)) (fb_ BK53002.out)) : gb53002 ≠ gb53003)); have n9_ := Aside0.mk ((by rw [hg]; exact Nat.ne_of_gt (blk_lt (g := gb53002) (o := .cells #[.int .i64 a1_0, .int .i64 a1_1] 49 (0, 0)) (fb_ BK53002.out)) : gb53003 ≠ gb53002)); clear BK53001 BK53002 HB; have BK53001 := n0_; have BK53002 := n1_; have HB := n2_; have BK53003 := n3_; have GW53003 := n4_; have GE53003 := n5_; have NB53001_53003 := n6_; have NB53003_53001 := n7_; have NB53002_53003 := n8_; have NB53003_53002 := n9_; clear n0_ n1_ n2_ n3_ n4_ n5_ n6_ n7_ n8_ n9_ hb hbox hg; have hnb48 := NB53001_53002.out; have hnc48 := NB53002_53001.out; have hnb49 := NB53001_53003.out; have hnc49 := NB53003_53001.out; have hcz50_0 : w47.cell? ⟨gb53001, 0, none⟩ = some (.int .i64 a0_0) := (blk_cell BK53001.out 0).trans rfl; have hcz50_1 : w47.cell? ⟨gb53001, 1, none⟩ = some (.int .i64 a0_1) := (blk_cell BK53001.out 1).trans rfl; have hfz50_0 := blk_frozen BK53001.out 0; have hfz50_1 := blk_frozen BK53001.out 1; have hnb51 := NB53002_53003.out; have hnc51 := NB53003_53002.out; have hcz52_0 : w47.cell? ⟨gb53002, 0, none⟩ = some (.int .i64 a1_0) := (blk_cell BK53002.out 0).trans rfl; have hcz52_1 : w47.cell? ⟨gb53002, 1, none⟩ = some (.int .i64 a1_1) := (blk_cell BK53002.out 1).trans rfl; have hfz52_0 := blk_frozen BK53002.out 0; have hfz52_1 := blk_frozen BK53002.out 1) | ((with_reducible refine gate_dst (N := 5) rfl ?_); refine box_event ?hg (N := 5) ?hd (cs := #[.int .i64 0, .int .i64 0]) (t := 49) ?hr ?_; (case hd => rfl); (case hg => rfl); (case hr => first | (go_simp; done) | (go_simp; rfl)); intro gb53004 hg w53 hbox hb; have n0_ := Aside0.mk (blk_below (g := gb53001) (o := .cells #[.int .i64 a0_0, .int .i64 a0_1] 49 (0, 0)) (fb_ BK53001.out) hb); have n1_ := Aside0.mk (blk_below (g := gb53002) (o := .cells #[.int .i64 a1_0, .int .i64 a1_1] 49 (0, 0)) (fb_ BK53002.out) hb); have n2_ := Aside0.mk (blk_below (g := gb53003) (o := .cells #[.int .i64 0, .int .i64 0] 49 (0, 0)) (fb_ BK53003.out) hb); have n3_ := Aside0.mk (bs_ hb); have n4_ := Aside0.mk (hbox); have n5_ := Aside0.mk ((by rw [hg]; exact bz_ : w.heap.size ≤ gb53004)); have n6_ := Aside0.mk ((by rw [hg]; exact bz_ : w.heap.size ≤ gb53004)); have n7_ := Aside0.mk ((by rw [hg]; exact Nat.ne_of_lt (blk_lt (g := gb53001) (o := .cells #[.int .i64 a0_0, .int .i64 a0_1] 49 (0, 0)) (fb_ BK53001.out)) : gb53001 ≠ gb53004)); have n8_ := Aside0.mk ((by rw [hg]; exact Nat.ne_of_gt (blk_lt (g := gb53001) (o := .cells #[.int .i64 a0_0, .int .i64 a0_1] 49 (0, 0)) (fb_ BK53001.out)) : gb53004 ≠ gb53001)); have n9_ := Aside0.mk ((by rw [hg]; exact Nat.ne_of_lt (blk_lt (g := gb53002) (o := .cells #[.int .i64 a1_0, .int .i64 a1_1] 49 (0, 0)) (fb_ BK53002.out)) : gb53002 ≠ gb53004)); have n10_ := Aside0.mk ((by rw [hg]; exact Nat.ne_of_gt (blk_lt (g := gb53002) (o := .cells #[.int .i64 a1_0, .int .i64 a1_1] 49 (0, 0)) (fb_ BK53002.out)) : gb53004 ≠ gb53002)); have n11_ := Aside0.mk ((by rw [hg]; exact Nat.ne_of_lt (blk_lt (g := gb53003) (o := .cells #[.int .i64 0, .int .i64 0] 49 (0, 0)) (fb_ BK53003.out)) : gb53003 ≠ gb53004)); have n12_ := Aside0.mk ((by rw [hg]; exact Nat.ne_of_gt (blk_lt (g := gb53003) (o := .cells #[.int .i64 0, .int .i64 0] 49 (0, 0)) (fb_ BK53003.out)) : gb53004 ≠ gb53003)); clear BK53001 BK53002 BK53003 HB; have BK53001 := n0_; have BK53002 := n1_; have BK53003 := n2_; have HB := n3_; have BK53004 := n4_; have GW53004 := n5_; have GE53004 := n6_; have NB53001_53004 := n7_; have NB53004_53001 := n8_; have NB53002_53004 := n9_; have NB53004_53002 := n10_; have NB53003_53004 := n11_; have NB53004_53003 := n12_; clear n0_ n1_ n2_ n3_ n4_ n5_ n6_ n7_ n8_ n9_ n10_ n11_ n12_ hb hbox hg; have hnb54 := NB53004_53001.out; have hnc54 := NB53001_53004.out; have hnb55 := NB53004_53002.out; have hnc55 := NB53002_53004.out; have hnb56 := NB53004_53003.out; have hnc56 := NB53003_53004.out; have hcz57_0 : w53.cell? ⟨gb53004, 0, none⟩ = some (.int .i64 0) := (blk_cell BK53004.out 0).trans rfl; have hcz57_1 : w53.cell? ⟨gb53004, 1, none⟩ = some (.int .i64 0) := (blk_cell BK53004.out 1).trans rfl; have hfz57_0 := blk_frozen BK53004.out 0; have hfz57_1 := blk_frozen BK53004.out 1; have hcz58_0 : w53.cell? ⟨gb53001, 0, none⟩ = some (.int .i64 a0_0) := (blk_cell BK53001.out 0).trans rfl; have hcz58_1 : w53.cell? ⟨gb53001, 1, none⟩ = some (.int .i64 a0_1) := (blk_cell BK53001.out 1).trans rfl; have hfz58_0 := blk_frozen BK53001.out 0; have hfz58_1 := blk_frozen BK53001.out 1) | ((with_reducible refine gate_callee (f := 69) rfl ?_); refine goesL_ (some 18) rfl rfl Try.func69 (by kernel_rfl) rfl #[.agg #[.int .i64 a0_0, .int .i64 a0_1]] rfl la_ ?_; (with_reducible refine (span_empty.calls a0_0 a0_1 false _ A5.out).mono ?_); rintro e w59 ⟨rfl, hb⟩; refine ⟨_, rfl, ?_⟩; have n0_ := Aside0.mk (blk_below (g := gb53001) (o := .cells #[.int .i64 a0_0, .int .i64 a0_1] 49 (0, 0)) (by (with_reducible repeat (first | refine blk_drewN ?_ _ | refine blk_drew ?_ | refine blk_alloc ?_ _)); refine blk_far ?_ NB53001_53004.out _; (with_reducible repeat (first | refine blk_drewN ?_ _ | refine blk_drew ?_ | refine blk_alloc ?_ _)); refine blk_far ?_ NB53001_53004.out _; (with_reducible repeat (first | refine blk_drewN ?_ _ | refine blk_drew ?_ | refine blk_alloc ?_ _)); exact BK53001.out) hb); have n1_ := Aside0.mk (blk_below (g := gb53002) (o := .cells #[.int .i64 a1_0, .int .i64 a1_1] 49 (0, 0)) (by (with_reducible repeat (first | refine blk_drewN ?_ _ | refine blk_drew ?_ | refine blk_alloc ?_ _)); refine blk_far ?_ NB53002_53004.out _; (with_reducible repeat (first | refine blk_drewN ?_ _ | refine blk_drew ?_ | refine blk_alloc ?_ _)); refine blk_far ?_ NB53002_53004.out _; (with_reducible repeat (first | refine blk_drewN ?_ _ | refine blk_drew ?_ | refine blk_alloc ?_ _)); exact BK53002.out) hb); have n2_ := Aside0.mk (blk_below (g := gb53003) (o := .cells #[.int .i64 0, .int .i64 0] 49 (0, 0)) (by (with_reducible repeat (first | refine blk_drewN ?_ _ | refine blk_drew ?_ | refine blk_alloc ?_ _)); refine blk_far ?_ NB53003_53004.out _; (with_reducible repeat (first | refine blk_drewN ?_ _ | refine blk_drew ?_ | refine blk_alloc ?_ _)); refine blk_far ?_ NB53003_53004.out _; (with_reducible repeat (first | refine blk_drewN ?_ _ | refine blk_drew ?_ | refine blk_alloc ?_ _)); exact BK53003.out) hb); have n3_ := Aside0.mk (blk_below (g := gb53004) (o := .cells #[.int .i64 ji3, .int .i64 ji4] 49 (0, 0)) (by (with_reducible repeat (first | refine blk_drewN ?_ _ | refine blk_drew ?_ | refine blk_alloc ?_ _)); refine blk_put (cs := #[.int .i64 ji3, .int .i64 0]) ?_ 1 _ rfl; (with_reducible repeat (first | refine blk_drewN ?_ _ | refine blk_drew ?_ | refine blk_alloc ?_ _)); refine blk_put (cs := #[.int .i64 0, .int .i64 0]) ?_ 0 _ rfl; (with_reducible repeat (first | refine blk_drewN ?_ _ | refine blk_drew ?_ | refine blk_alloc ?_ _)); exact BK53004.out) hb); have n4_ := Aside0.mk (bs_ hb); clear BK53001 BK53002 BK53003 BK53004 HB; have BK53001 := n0_; have BK53002 := n1_; have BK53003 := n2_; have BK53004 := n3_; have HB := n4_; clear n0_ n1_ n2_ n3_ n4_; (try clear hb); (try clear hb2); (try clear hk); (try clear hi); have hcz60_0 : w59.cell? ⟨gb53002, 0, none⟩ = some (.int .i64 a1_0) := (blk_cell BK53002.out 0).trans rfl; have hcz60_1 : w59.cell? ⟨gb53002, 1, none⟩ = some (.int .i64 a1_1) := (blk_cell BK53002.out 1).trans rfl; have hfz60_0 := blk_frozen BK53002.out 0; have hfz60_1 := blk_frozen BK53002.out 1) | (go_at_call 69; (with_reducible refine (span_empty.calls a1_0 a1_1 false _ A23.out).mono ?_); rintro e w61 ⟨rfl, hb⟩; have n0_ := Aside0.mk (blk_below (g := gb53001) (o := .cells #[.int .i64 a0_0, .int .i64 a0_1] 49 (0, 0)) (fb_ BK53001.out) hb); have n1_ := Aside0.mk (blk_below (g := gb53002) (o := .cells #[.int .i64 a1_0, .int .i64 a1_1] 49 (0, 0)) (fb_ BK53002.out) hb); have n2_ := Aside0.mk (blk_below (g := gb53003) (o := .cells #[.int .i64 0, .int .i64 0] 49 (0, 0)) (fb_ BK53003.out) hb); have n3_ := Aside0.mk (blk_below (g := gb53004) (o := .cells #[.int .i64 ji3, .int .i64 ji4] 49 (0, 0)) (fb_ BK53004.out) hb); have n4_ := Aside0.mk (bs_ hb); clear BK53001 BK53002 BK53003 BK53004 HB; have BK53001 := n0_; have BK53002 := n1_; have BK53003 := n2_; have BK53004 := n3_; have HB := n4_; clear n0_ n1_ n2_ n3_ n4_; (try clear hb); (try clear hb2); (try clear hk); (try clear hi); have hcz62_0 : w61.cell? ⟨gb53004, 0, none⟩ = some (.int .i64 ji3) := (blk_cell BK53004.out 0).trans rfl; have hcz62_1 : w61.cell? ⟨gb53004, 1, none⟩ = some (.int .i64 ji4) := (blk_cell BK53004.out 1).trans rfl; have hfz62_0 := blk_frozen BK53004.out 0; have hfz62_1 := blk_frozen BK53004.out 1) | (go_at_call 69; (with_reducible refine (span_empty.calls ji3 ji4 true _ A43.out).mono ?_); rintro e w63 ⟨rfl, hb⟩; have n0_ := Aside0.mk (blk_below (g := gb53001) (o := .cells #[.int .i64 a0_0, .int .i64 a0_1] 49 (0, 0)) (fb_ BK53001.out) hb); have n1_ := Aside0.mk (blk_below (g := gb53002) (o := .cells #[.int .i64 a1_0, .int .i64 a1_1] 49 (0, 0)) (fb_ BK53002.out) hb); have n2_ := Aside0.mk (blk_below (g := gb53003) (o := .cells #[.int .i64 0, .int .i64 0] 49 (0, 0)) (fb_ BK53003.out) hb); have n3_ := Aside0.mk (blk_below (g := gb53004) (o := .cells #[.int .i64 ji3, .int .i64 ji4] 49 (0, 0)) (fb_ BK53004.out) hb); have n4_ := Aside0.mk (bs_ hb); clear BK53001 BK53002 BK53003 BK53004 HB; have BK53001 := n0_; have BK53002 := n1_; have BK53003 := n2_; have BK53004 := n3_; have HB := n4_; clear n0_ n1_ n2_ n3_ n4_; (try clear hb); (try clear hb2); (try clear hk); (try clear hi); have hcz64_0 : w63.cell? ⟨gb53003, 0, none⟩ = some (.int .i64 0) := (blk_cell BK53003.out 0).trans rfl; have hcz64_1 : w63.cell? ⟨gb53003, 1, none⟩ = some (.int .i64 0) := (blk_cell BK53003.out 1).trans rfl; have hfz64_0 := blk_frozen BK53003.out 0; have hfz64_1 := blk_frozen BK53003.out 1))
    refine bodyPost_ret (results_cell_row rfl _ _ gb53003 49 #[.int .i64 0, .int .i64 0] (0, 0) _ rfl (by (with_reducible repeat (first | refine blk_drewN ?_ _ | refine blk_drew ?_ | refine blk_alloc ?_ _)); refine blk_put (cs := #[.int .i64 0, .int .i64 0]) ?_ 1 _ rfl; (with_reducible repeat (first | refine blk_drewN ?_ _ | refine blk_drew ?_ | refine blk_alloc ?_ _)); refine blk_put (cs := #[.int .i64 0, .int .i64 0]) ?_ 0 _ rfl; (with_reducible repeat (first | refine blk_drewN ?_ _ | refine blk_drew ?_ | refine blk_alloc ?_ _)); exact BK53003.out) Try.underlying49 rfl (by kernel_rfl)) rfl ?_
    exact ⟨by first | rfl | (simp [errW_none, errW_some] <;> rfl) | (simp only [← hji3, ← hji4]; first | rfl | (simp [errW_none, errW_some] <;> rfl)) | (simp [*, errW_none, errW_some] <;> rfl), be_⟩
   ·replace c44 := Bool.eq_false_iff.mpr c44
    subst c44
    have H1 : (some (ji3, ji4)) = some (r1, r2) := by rw [if_neg (show ¬ (false = true) by decide)] at H; exact H
    clear H
    have H := H1
    clear H1
    simp only [Option.some.injEq, Prod.mk.injEq] at H
    obtain ⟨rfl, rfl⟩ := H
    go_enter Try.func53, Try.ntmps53
    go_wp2_with (first | ((with_reducible refine gate_dst (N := 2) rfl ?_); refine box_event ?hg (N := 2) ?hd (cs := #[.int .i64 a0_0, .int .i64 a0_1]) (t := 49) ?hr ?_; (case hd => rfl); (case hg => rfl); (case hr => first | (go_simp; done) | (go_simp; rfl)); intro gb53001 hg w65 hbox hb; have n0_ := Aside0.mk (bs_ hb); have n1_ := Aside0.mk (hbox); have n2_ := Aside0.mk ((by rw [hg]; exact bz_ : w.heap.size ≤ gb53001)); have n3_ := Aside0.mk ((by rw [hg]; exact bz_ : w.heap.size ≤ gb53001)); clear HB; have HB := n0_; have BK53001 := n1_; have GW53001 := n2_; have GE53001 := n3_; clear n0_ n1_ n2_ n3_; clear hb hbox hg) | ((with_reducible refine gate_dst (N := 3) rfl ?_); refine box_event ?hg (N := 3) ?hd (cs := #[.int .i64 a1_0, .int .i64 a1_1]) (t := 49) ?hr ?_; (case hd => rfl); (case hg => rfl); (case hr => first | (go_simp; done) | (go_simp; rfl)); intro gb53002 hg w66 hbox hb; have n0_ := Aside0.mk (blk_below (g := gb53001) (o := .cells #[.int .i64 a0_0, .int .i64 a0_1] 49 (0, 0)) (fb_ BK53001.out) hb); have n1_ := Aside0.mk (bs_ hb); have n2_ := Aside0.mk (hbox); have n3_ := Aside0.mk ((by rw [hg]; exact bz_ : w.heap.size ≤ gb53002)); have n4_ := Aside0.mk ((by rw [hg]; exact bz_ : w.heap.size ≤ gb53002)); have n5_ := Aside0.mk ((by rw [hg]; exact Nat.ne_of_lt (blk_lt (g := gb53001) (o := .cells #[.int .i64 a0_0, .int .i64 a0_1] 49 (0, 0)) (fb_ BK53001.out)) : gb53001 ≠ gb53002)); have n6_ := Aside0.mk ((by rw [hg]; exact Nat.ne_of_gt (blk_lt (g := gb53001) (o := .cells #[.int .i64 a0_0, .int .i64 a0_1] 49 (0, 0)) (fb_ BK53001.out)) : gb53002 ≠ gb53001)); clear BK53001 HB; have BK53001 := n0_; have HB := n1_; have BK53002 := n2_; have GW53002 := n3_; have GE53002 := n4_; have NB53001_53002 := n5_; have NB53002_53001 := n6_; clear n0_ n1_ n2_ n3_ n4_ n5_ n6_; clear hb hbox hg) | ((with_reducible refine gate_dst (N := 4) rfl ?_); refine box_event ?hg (N := 4) ?hd (cs := #[.int .i64 0, .int .i64 0]) (t := 49) ?hr ?_; (case hd => rfl); (case hg => rfl); (case hr => first | (go_simp; done) | (go_simp; rfl)); intro gb53003 hg w67 hbox hb; have n0_ := Aside0.mk (blk_below (g := gb53001) (o := .cells #[.int .i64 a0_0, .int .i64 a0_1] 49 (0, 0)) (fb_ BK53001.out) hb); have n1_ := Aside0.mk (blk_below (g := gb53002) (o := .cells #[.int .i64 a1_0, .int .i64 a1_1] 49 (0, 0)) (fb_ BK53002.out) hb); have n2_ := Aside0.mk (bs_ hb); have n3_ := Aside0.mk (hbox); have n4_ := Aside0.mk ((by rw [hg]; exact bz_ : w.heap.size ≤ gb53003)); have n5_ := Aside0.mk ((by rw [hg]; exact bz_ : w.heap.size ≤ gb53003)); have n6_ := Aside0.mk ((by rw [hg]; exact Nat.ne_of_lt (blk_lt (g := gb53001) (o := .cells #[.int .i64 a0_0, .int .i64 a0_1] 49 (0, 0)) (fb_ BK53001.out)) : gb53001 ≠ gb53003)); have n7_ := Aside0.mk ((by rw [hg]; exact Nat.ne_of_gt (blk_lt (g := gb53001) (o := .cells #[.int .i64 a0_0, .int .i64 a0_1] 49 (0, 0)) (fb_ BK53001.out)) : gb53003 ≠ gb53001)); have n8_ := Aside0.mk ((by rw [hg]; exact Nat.ne_of_lt (blk_lt (g := gb53002) (o := .cells #[.int .i64 a1_0, .int .i64 a1_1] 49 (0, 0)) (fb_ BK53002.out)) : gb53002 ≠ gb53003)); have n9_ := Aside0.mk ((by rw [hg]; exact Nat.ne_of_gt (blk_lt (g := gb53002) (o := .cells #[.int .i64 a1_0, .int .i64 a1_1] 49 (0, 0)) (fb_ BK53002.out)) : gb53003 ≠ gb53002)); clear BK53001 BK53002 HB; have BK53001 := n0_; have BK53002 := n1_; have HB := n2_; have BK53003 := n3_; have GW53003 := n4_; have GE53003 := n5_; have NB53001_53003 := n6_; have NB53003_53001 := n7_; have NB53002_53003 := n8_; have NB53003_53002 := n9_; clear n0_ n1_ n2_ n3_ n4_ n5_ n6_ n7_ n8_ n9_ hb hbox hg; have hnb68 := NB53001_53002.out; have hnc68 := NB53002_53001.out; have hnb69 := NB53001_53003.out; have hnc69 := NB53003_53001.out; have hcz70_0 : w67.cell? ⟨gb53001, 0, none⟩ = some (.int .i64 a0_0) := (blk_cell BK53001.out 0).trans rfl; have hcz70_1 : w67.cell? ⟨gb53001, 1, none⟩ = some (.int .i64 a0_1) := (blk_cell BK53001.out 1).trans rfl; have hfz70_0 := blk_frozen BK53001.out 0; have hfz70_1 := blk_frozen BK53001.out 1; have hnb71 := NB53002_53003.out; have hnc71 := NB53003_53002.out; have hcz72_0 : w67.cell? ⟨gb53002, 0, none⟩ = some (.int .i64 a1_0) := (blk_cell BK53002.out 0).trans rfl; have hcz72_1 : w67.cell? ⟨gb53002, 1, none⟩ = some (.int .i64 a1_1) := (blk_cell BK53002.out 1).trans rfl; have hfz72_0 := blk_frozen BK53002.out 0; have hfz72_1 := blk_frozen BK53002.out 1) | ((with_reducible refine gate_dst (N := 5) rfl ?_); refine box_event ?hg (N := 5) ?hd (cs := #[.int .i64 0, .int .i64 0]) (t := 49) ?hr ?_; (case hd => rfl); (case hg => rfl); (case hr => first | (go_simp; done) | (go_simp; rfl)); intro gb53004 hg w73 hbox hb; have n0_ := Aside0.mk (blk_below (g := gb53001) (o := .cells #[.int .i64 a0_0, .int .i64 a0_1] 49 (0, 0)) (fb_ BK53001.out) hb); have n1_ := Aside0.mk (blk_below (g := gb53002) (o := .cells #[.int .i64 a1_0, .int .i64 a1_1] 49 (0, 0)) (fb_ BK53002.out) hb); have n2_ := Aside0.mk (blk_below (g := gb53003) (o := .cells #[.int .i64 0, .int .i64 0] 49 (0, 0)) (fb_ BK53003.out) hb); have n3_ := Aside0.mk (bs_ hb); have n4_ := Aside0.mk (hbox); have n5_ := Aside0.mk ((by rw [hg]; exact bz_ : w.heap.size ≤ gb53004)); have n6_ := Aside0.mk ((by rw [hg]; exact bz_ : w.heap.size ≤ gb53004)); have n7_ := Aside0.mk ((by rw [hg]; exact Nat.ne_of_lt (blk_lt (g := gb53001) (o := .cells #[.int .i64 a0_0, .int .i64 a0_1] 49 (0, 0)) (fb_ BK53001.out)) : gb53001 ≠ gb53004)); have n8_ := Aside0.mk ((by rw [hg]; exact Nat.ne_of_gt (blk_lt (g := gb53001) (o := .cells #[.int .i64 a0_0, .int .i64 a0_1] 49 (0, 0)) (fb_ BK53001.out)) : gb53004 ≠ gb53001)); have n9_ := Aside0.mk ((by rw [hg]; exact Nat.ne_of_lt (blk_lt (g := gb53002) (o := .cells #[.int .i64 a1_0, .int .i64 a1_1] 49 (0, 0)) (fb_ BK53002.out)) : gb53002 ≠ gb53004)); have n10_ := Aside0.mk ((by rw [hg]; exact Nat.ne_of_gt (blk_lt (g := gb53002) (o := .cells #[.int .i64 a1_0, .int .i64 a1_1] 49 (0, 0)) (fb_ BK53002.out)) : gb53004 ≠ gb53002)); have n11_ := Aside0.mk ((by rw [hg]; exact Nat.ne_of_lt (blk_lt (g := gb53003) (o := .cells #[.int .i64 0, .int .i64 0] 49 (0, 0)) (fb_ BK53003.out)) : gb53003 ≠ gb53004)); have n12_ := Aside0.mk ((by rw [hg]; exact Nat.ne_of_gt (blk_lt (g := gb53003) (o := .cells #[.int .i64 0, .int .i64 0] 49 (0, 0)) (fb_ BK53003.out)) : gb53004 ≠ gb53003)); clear BK53001 BK53002 BK53003 HB; have BK53001 := n0_; have BK53002 := n1_; have BK53003 := n2_; have HB := n3_; have BK53004 := n4_; have GW53004 := n5_; have GE53004 := n6_; have NB53001_53004 := n7_; have NB53004_53001 := n8_; have NB53002_53004 := n9_; have NB53004_53002 := n10_; have NB53003_53004 := n11_; have NB53004_53003 := n12_; clear n0_ n1_ n2_ n3_ n4_ n5_ n6_ n7_ n8_ n9_ n10_ n11_ n12_ hb hbox hg; have hnb74 := NB53004_53001.out; have hnc74 := NB53001_53004.out; have hnb75 := NB53004_53002.out; have hnc75 := NB53002_53004.out; have hnb76 := NB53004_53003.out; have hnc76 := NB53003_53004.out; have hcz77_0 : w73.cell? ⟨gb53004, 0, none⟩ = some (.int .i64 0) := (blk_cell BK53004.out 0).trans rfl; have hcz77_1 : w73.cell? ⟨gb53004, 1, none⟩ = some (.int .i64 0) := (blk_cell BK53004.out 1).trans rfl; have hfz77_0 := blk_frozen BK53004.out 0; have hfz77_1 := blk_frozen BK53004.out 1; have hcz78_0 : w73.cell? ⟨gb53001, 0, none⟩ = some (.int .i64 a0_0) := (blk_cell BK53001.out 0).trans rfl; have hcz78_1 : w73.cell? ⟨gb53001, 1, none⟩ = some (.int .i64 a0_1) := (blk_cell BK53001.out 1).trans rfl; have hfz78_0 := blk_frozen BK53001.out 0; have hfz78_1 := blk_frozen BK53001.out 1) | ((with_reducible refine gate_callee (f := 69) rfl ?_); refine goesL_ (some 18) rfl rfl Try.func69 (by kernel_rfl) rfl #[.agg #[.int .i64 a0_0, .int .i64 a0_1]] rfl la_ ?_; (with_reducible refine (span_empty.calls a0_0 a0_1 false _ A5.out).mono ?_); rintro e w79 ⟨rfl, hb⟩; refine ⟨_, rfl, ?_⟩; have n0_ := Aside0.mk (blk_below (g := gb53001) (o := .cells #[.int .i64 a0_0, .int .i64 a0_1] 49 (0, 0)) (by (with_reducible repeat (first | refine blk_drewN ?_ _ | refine blk_drew ?_ | refine blk_alloc ?_ _)); refine blk_far ?_ NB53001_53004.out _; (with_reducible repeat (first | refine blk_drewN ?_ _ | refine blk_drew ?_ | refine blk_alloc ?_ _)); refine blk_far ?_ NB53001_53004.out _; (with_reducible repeat (first | refine blk_drewN ?_ _ | refine blk_drew ?_ | refine blk_alloc ?_ _)); exact BK53001.out) hb); have n1_ := Aside0.mk (blk_below (g := gb53002) (o := .cells #[.int .i64 a1_0, .int .i64 a1_1] 49 (0, 0)) (by (with_reducible repeat (first | refine blk_drewN ?_ _ | refine blk_drew ?_ | refine blk_alloc ?_ _)); refine blk_far ?_ NB53002_53004.out _; (with_reducible repeat (first | refine blk_drewN ?_ _ | refine blk_drew ?_ | refine blk_alloc ?_ _)); refine blk_far ?_ NB53002_53004.out _; (with_reducible repeat (first | refine blk_drewN ?_ _ | refine blk_drew ?_ | refine blk_alloc ?_ _)); exact BK53002.out) hb); have n2_ := Aside0.mk (blk_below (g := gb53003) (o := .cells #[.int .i64 0, .int .i64 0] 49 (0, 0)) (by (with_reducible repeat (first | refine blk_drewN ?_ _ | refine blk_drew ?_ | refine blk_alloc ?_ _)); refine blk_far ?_ NB53003_53004.out _; (with_reducible repeat (first | refine blk_drewN ?_ _ | refine blk_drew ?_ | refine blk_alloc ?_ _)); refine blk_far ?_ NB53003_53004.out _; (with_reducible repeat (first | refine blk_drewN ?_ _ | refine blk_drew ?_ | refine blk_alloc ?_ _)); exact BK53003.out) hb); have n3_ := Aside0.mk (blk_below (g := gb53004) (o := .cells #[.int .i64 ji3, .int .i64 ji4] 49 (0, 0)) (by (with_reducible repeat (first | refine blk_drewN ?_ _ | refine blk_drew ?_ | refine blk_alloc ?_ _)); refine blk_put (cs := #[.int .i64 ji3, .int .i64 0]) ?_ 1 _ rfl; (with_reducible repeat (first | refine blk_drewN ?_ _ | refine blk_drew ?_ | refine blk_alloc ?_ _)); refine blk_put (cs := #[.int .i64 0, .int .i64 0]) ?_ 0 _ rfl; (with_reducible repeat (first | refine blk_drewN ?_ _ | refine blk_drew ?_ | refine blk_alloc ?_ _)); exact BK53004.out) hb); have n4_ := Aside0.mk (bs_ hb); clear BK53001 BK53002 BK53003 BK53004 HB; have BK53001 := n0_; have BK53002 := n1_; have BK53003 := n2_; have BK53004 := n3_; have HB := n4_; clear n0_ n1_ n2_ n3_ n4_; (try clear hb); (try clear hb2); (try clear hk); (try clear hi); have hcz80_0 : w79.cell? ⟨gb53002, 0, none⟩ = some (.int .i64 a1_0) := (blk_cell BK53002.out 0).trans rfl; have hcz80_1 : w79.cell? ⟨gb53002, 1, none⟩ = some (.int .i64 a1_1) := (blk_cell BK53002.out 1).trans rfl; have hfz80_0 := blk_frozen BK53002.out 0; have hfz80_1 := blk_frozen BK53002.out 1) | (go_at_call 69; (with_reducible refine (span_empty.calls a1_0 a1_1 false _ A23.out).mono ?_); rintro e w81 ⟨rfl, hb⟩; have n0_ := Aside0.mk (blk_below (g := gb53001) (o := .cells #[.int .i64 a0_0, .int .i64 a0_1] 49 (0, 0)) (fb_ BK53001.out) hb); have n1_ := Aside0.mk (blk_below (g := gb53002) (o := .cells #[.int .i64 a1_0, .int .i64 a1_1] 49 (0, 0)) (fb_ BK53002.out) hb); have n2_ := Aside0.mk (blk_below (g := gb53003) (o := .cells #[.int .i64 0, .int .i64 0] 49 (0, 0)) (fb_ BK53003.out) hb); have n3_ := Aside0.mk (blk_below (g := gb53004) (o := .cells #[.int .i64 ji3, .int .i64 ji4] 49 (0, 0)) (fb_ BK53004.out) hb); have n4_ := Aside0.mk (bs_ hb); clear BK53001 BK53002 BK53003 BK53004 HB; have BK53001 := n0_; have BK53002 := n1_; have BK53003 := n2_; have BK53004 := n3_; have HB := n4_; clear n0_ n1_ n2_ n3_ n4_; (try clear hb); (try clear hb2); (try clear hk); (try clear hi); have hcz82_0 : w81.cell? ⟨gb53004, 0, none⟩ = some (.int .i64 ji3) := (blk_cell BK53004.out 0).trans rfl; have hcz82_1 : w81.cell? ⟨gb53004, 1, none⟩ = some (.int .i64 ji4) := (blk_cell BK53004.out 1).trans rfl; have hfz82_0 := blk_frozen BK53004.out 0; have hfz82_1 := blk_frozen BK53004.out 1) | (go_at_call 69; (with_reducible refine (span_empty.calls ji3 ji4 false _ A43.out).mono ?_); rintro e w83 ⟨rfl, hb⟩; have n0_ := Aside0.mk (blk_below (g := gb53001) (o := .cells #[.int .i64 a0_0, .int .i64 a0_1] 49 (0, 0)) (fb_ BK53001.out) hb); have n1_ := Aside0.mk (blk_below (g := gb53002) (o := .cells #[.int .i64 a1_0, .int .i64 a1_1] 49 (0, 0)) (fb_ BK53002.out) hb); have n2_ := Aside0.mk (blk_below (g := gb53003) (o := .cells #[.int .i64 0, .int .i64 0] 49 (0, 0)) (fb_ BK53003.out) hb); have n3_ := Aside0.mk (blk_below (g := gb53004) (o := .cells #[.int .i64 ji3, .int .i64 ji4] 49 (0, 0)) (fb_ BK53004.out) hb); have n4_ := Aside0.mk (bs_ hb); clear BK53001 BK53002 BK53003 BK53004 HB; have BK53001 := n0_; have BK53002 := n1_; have BK53003 := n2_; have BK53004 := n3_; have HB := n4_; clear n0_ n1_ n2_ n3_ n4_; (try clear hb); (try clear hb2); (try clear hk); (try clear hi); have hcz84_0 : w83.cell? ⟨gb53004, 0, none⟩ = some (.int .i64 ji3) := (blk_cell BK53004.out 0).trans rfl; have hcz84_1 : w83.cell? ⟨gb53004, 1, none⟩ = some (.int .i64 ji4) := (blk_cell BK53004.out 1).trans rfl; have hfz84_0 := blk_frozen BK53004.out 0; have hfz84_1 := blk_frozen BK53004.out 1; have hcz85_0 : w83.cell? ⟨gb53003, 0, none⟩ = some (.int .i64 0) := (blk_cell BK53003.out 0).trans rfl; have hcz85_1 : w83.cell? ⟨gb53003, 1, none⟩ = some (.int .i64 0) := (blk_cell BK53003.out 1).trans rfl; have hfz85_0 := blk_frozen BK53003.out 0; have hfz85_1 := blk_frozen BK53003.out 1))
    refine bodyPost_ret (results_cell_row rfl _ _ gb53003 49 #[.int .i64 ji3, .int .i64 ji4] (0, 0) _ rfl (by (with_reducible repeat (first | refine blk_drewN ?_ _ | refine blk_drew ?_ | refine blk_alloc ?_ _)); refine blk_put (cs := #[.int .i64 ji3, .int .i64 0]) ?_ 1 _ rfl; (with_reducible repeat (first | refine blk_drewN ?_ _ | refine blk_drew ?_ | refine blk_alloc ?_ _)); refine blk_put (cs := #[.int .i64 0, .int .i64 0]) ?_ 0 _ rfl; (with_reducible repeat (first | refine blk_drewN ?_ _ | refine blk_drew ?_ | refine blk_alloc ?_ _)); exact BK53003.out) Try.underlying49 rfl (by kernel_rfl)) rfl ?_
    exact ⟨by first | rfl | (simp [errW_none, errW_some] <;> rfl) | (simp only [← hji3, ← hji4]; first | rfl | (simp [errW_none, errW_some] <;> rfl)) | (simp [*, errW_none, errW_some] <;> rfl), be_⟩

end Go.Proofs.Ytdbjoopkliafeaa.P

end
section
namespace Go.Proofs.Ytdbjoopkliafeaa.P
open Go Go.RowKit Go.Proofs.YtdbjoopkliafeaaW.PrintWords Go.Proofs.YtdbjoopkliafeaaW.PrintLast Go.Proofs.YtdbjoopkliafeaaW.PrintMore
attribute [local go_sem] max2_int min2_int max_two min_two max_three min_three max_four min_four max_five min_eight max_eight   -- for this text's walks alone
set_option linter.unusedVariables false
set_option linter.unusedSimpArgs false

def solid_parts.l0 : Nat → List (S72) → Int → List (S36) → Int → Int → Int → Int → Option ((List (S72)))
 | 0, _, _, _, _, _, _, _ => none
 | k + 1, x5, x6, x13, x14, x15, x60002000, x60002001 => if x15 < x14 then (if 0 ≤ x15 then (if x15 < (x13.length : Int) then ((span_Meet.f x6 (wrap64 (x6 + ((rd_T36 x13 x15).f0))) x60002000 x60002001).bind fun bt60005 => (if bt60005.1 < bt60005.2 then (if x5.length < 2932031007402 then (solid_parts.l0 k (x5 ++ [(⟨(⟨bt60005.1, bt60005.2⟩ : S49), (⟨(rd_T36 x13 x15).f1.f0, (rd_T36 x13 x15).f1.f1⟩ : S24)⟩ : S72)]) (wrap64 (x6 + ((rd_T36 x13 x15).f0))) x13 x14 (wrap64 (x15 + 1)) x60002000 x60002001) else (none)) else (solid_parts.l0 k x5 (wrap64 (x6 + ((rd_T36 x13 x15).f0))) x13 x14 (wrap64 (x15 + 1)) x60002000 x60002001))) else (none)) else (none)) else (some x5)
def solid_parts.f (k : Nat) (l0 : List (S36)) (a1_0 : Int) (a1_1 : Int) : Option ((List (S72))) := (solid_Check.f k l0).bind fun t60002 => (if t60002 = 0 then (solid_parts.l0 k ([] : List (S72)) 0 l0 (l0.length : Int) 0 a1_0 a1_1) else (some ([] : List (S72))))
theorem solid_parts.mono_l : ∀ k, (∀ y0 y1 y2 y3 y4 y5 y6, LeO (solid_parts.l0 k y0 y1 y2 y3 y4 y5 y6) (solid_parts.l0 (k + 1) y0 y1 y2 y3 y4 y5 y6))
 | 0 => fun _ _ _ _ _ _ _ r h => by simp [solid_parts.l0] at h
 | k + 1 => by
  have ih0 := solid_parts.mono_l k
  ·intro y0 y1 y2 y3 y4 y5 y6
   unfold solid_parts.l0
   repeat' first
   | (with_reducible exact ih0 _ _ _ _ _ _ _)
   | (with_reducible exact solid_Check.mono _ _)
   | (with_reducible exact LeO.refl _)
   | (with_reducible exact LeO.none _)
   | (with_reducible refine LeO.ite ?_ ?_)
   | (with_reducible refine LeO.bind ?_ (fun _ => ?_))
   | exact ih0 _ _ _ _ _ _ _
   | exact solid_Check.mono _ _
   | exact LeO.none _
   | refine LeO.ite ?_ ?_
   | refine LeO.bind ?_ (fun _ => ?_)
theorem solid_parts.mono : ∀ a0 a1 a2 k, LeO (solid_parts.f k a0 a1 a2) (solid_parts.f (k + 1) a0 a1 a2) := by
 intro a0 a1 a2 k
 have ih0 := solid_parts.mono_l k
 unfold solid_parts.f
 repeat' first
   | (with_reducible exact ih0 _ _ _ _ _ _ _)
   | (with_reducible exact solid_Check.mono _ _)
   | (with_reducible exact LeO.refl _)
   | (with_reducible exact LeO.none _)
   | (with_reducible refine LeO.ite ?_ ?_)
   | (with_reducible refine LeO.bind ?_ (fun _ => ?_))
   | exact ih0 _ _ _ _ _ _ _
   | exact solid_Check.mono _ _
   | exact LeO.none _
   | refine LeO.ite ?_ ?_
   | refine LeO.bind ?_ (fun _ => ?_)
set_option maxHeartbeats 8000000 in
set_option maxRecDepth 100000 in
theorem solid_parts.calls (k : Nat) (P0_ : Nat → Prop) (A0 : Option Addr) (c0 : Nat) (l0 : List (S36)) (a1_0 : Int) (a1_1 : Int) (r : List (S72)) (w : World) (hs0 : Kd.V k36 36 w w.heap.size (fun k_ => P0_ k_) (.slice A0 l0.length c0) l0) (h : solid_parts.f k l0 a1_0 a1_1 = some r) :
  Calls Try.prog 60 #[.slice A0 l0.length c0, .agg #[.int .i64 a1_0, .int .i64 a1_1]] w fun e w' => ∃ v0_ : Value, e = .returned (v0_) ∧ Kd.N k72 72 w' w.heap.size (fun k_ => (P0_ k_ ∨ w.heap.size ≤ k_)) v0_ r ∧ Below w.heap.size w w' := by
 have hu49 := Try.underlying49
 have hu36 := Try.underlying36
 have hu24 := Try.underlying24
 have hu72 := Try.underlying72
 have HO0 := Aside0.mk (show Kd.V k36 36 w w.heap.size (fun k_ => (P0_ k_ ∨ w.heap.size ≤ k_)) (.slice A0 l0.length c0) l0 from Kd.V_mono hs0 (fun k_ hk => .inl hk))
 have HB := Aside0.mk (Below.refl w.heap.size w)
 have H : ((solid_Check.f k l0).bind fun t60002 => (if t60002 = 0 then (solid_parts.l0 k ([] : List (S72)) 0 l0 (l0.length : Int) 0 a1_0 a1_1) else (some ([] : List (S72))))) = some r := h
 clear h
 replace H := Option.bind_eq_some_iff.mp H
 obtain ⟨t60002, A30, H⟩ := H
 replace H : (if t60002 = 0 then (solid_parts.l0 k ([] : List (S72)) 0 l0 (l0.length : Int) 0 a1_0 a1_1) else (some ([] : List (S72)))) = some r := H
 have A3 := Aside0.mk A30
 clear A30
 by_cases c4 : t60002 = 0
 ·rw [if_pos c4] at H
  have c4b0 : (t60002 == 0) = true := beq_iff_eq.mpr c4
  have c4b1 : (t60002 != 0) = false := bne_eq_false_iff_eq.mpr c4
  clear c4
  have H' := Aside0.mk H
  clear H
  go_enter Try.func60, Try.ntmps60
  go_wp2_with (first | ((with_reducible refine gate_dst (N := 3) rfl ?_); refine box_event ?hg (N := 3) ?hd (cs := #[.int .i64 a1_0, .int .i64 a1_1]) (t := 49) ?hr ?_; (case hd => rfl); (case hg => rfl); (case hr => first | (go_simp; done) | (go_simp; rfl)); intro gb60001 hg w5 hbox hb; have n0_ := Aside0.mk (Kd.V_below (Kd.V_elderB (fV_ HO0.out) gb60001 (Nat.le_of_eq hg.symm)) hb); have n1_ := Aside0.mk (bs_ hb); have n2_ := Aside0.mk (hbox); have n3_ := Aside0.mk ((by rw [hg]; exact bz_ : w.heap.size ≤ gb60001)); have n4_ := Aside0.mk ((by rw [hg]; exact bz_ : w.heap.size ≤ gb60001)); clear HO0 HB; have HO0 := n0_; have HB := n1_; have BK60001 := n2_; have GW60001 := n3_; have GE60001 := n4_; clear n0_ n1_ n2_ n3_ n4_; clear hb hbox hg) | ((with_reducible refine gate_callee (f := 25) rfl ?_); refine goesL_ (some 11) rfl rfl Try.func25 (by kernel_rfl) rfl #[.slice A0 l0.length c0] rfl la_ ?_; (with_reducible refine (solid_Check.calls k _ _ l0 t60002 _ ?side1 ?side2 A3.out).mono ?_); (case side1 => repeat (first | exact (Kd.V_reads' HO0.out).2.2 | (with_reducible refine Kd.C_alloc ?_ _) | (with_reducible refine Kd.C_drewN ?_ _) | (with_reducible refine Kd.C_drew ?_))); (case side2 => exact (Kd.V_reads' HO0.out).2.1); rintro e w6 ⟨rfl, hb⟩; refine ⟨_, rfl, ?_⟩; have n0_ := Aside0.mk (Kd.V_below (fV_ HO0.out) hb); have n1_ := Aside0.mk (blk_below (g := gb60001) (o := .cells #[.int .i64 a1_0, .int .i64 a1_1] 49 (0, 0)) (fb_ BK60001.out) hb); have n2_ := Aside0.mk (bs_ hb); clear HO0 BK60001 HB; have HO0 := n0_; have BK60001 := n1_; have HB := n2_; clear n0_ n1_ n2_; (try clear hb); (try clear hb2); (try clear hk); (try clear hi)))
  go_loopg [5, 6, 15] k (fun kq v5 v6 v15 w' => ∃ (x5_1 : List (S72)) (x6_1 : Int) (x15_1 : Int), v6 = .int .i64 x6_1 ∧ v15 = .int .i64 x15_1 ∧ Aside0 (solid_parts.l0 kq x5_1 x6_1 l0 (l0.length : Int) x15_1 a1_0 a1_1 = some r) ∧ Aside0 (kq ≤ k) ∧ Aside0 (Kd.N k72 72 w' w.heap.size (fun k_ => (P0_ k_ ∨ w.heap.size ≤ k_) ∧ k_ ≠ gb60001) v5 x5_1) ∧ Aside0 (Kd.V k36 36 w' w.heap.size (fun k_ => (P0_ k_ ∨ w.heap.size ≤ k_) ∧ some k_ ≠ (v5 : Value).ownBlock ∧ k_ ≠ gb60001) (.slice A0 l0.length c0) l0) ∧ Aside0 (w'.heap[gb60001]? = some (.cells #[.int .i64 a1_0, .int .i64 a1_1] 49 (0, 0))) ∧ Aside0 (Below w.heap.size w w'))
  case atStart => exact ⟨(([] : List (S72))), (0), (0), (by first | rfl | (simp; done) | (simp [*]; done)), (by first | rfl | (simp; done) | (simp [*]; done)), H', ⟨Nat.le_refl _⟩, ⟨by first | exact Kd.S_nil _ _ _ _ _ | exact Kd.N_nil _ _ _ _ _ | exact Kd.V_nil _ _ _ _ _ | exact Kd.Q_nil _ _ _ _ _ | exact Kd.R_nil _ _ _ _ _⟩, ⟨by (with_reducible repeat (first | apply Kd.V_alloc | apply Kd.V_drewN | apply Kd.V_drew)); exact Kd.V_mono HO0.out (fun _ hk => ⟨hk.1, ⟨(by simp [Value.ownBlock]), hk.2⟩⟩)⟩, ⟨fb_ BK60001.out⟩, ⟨be_⟩⟩
  case round =>
   clear H'
   try clear c2
   try clear p2
   try clear c4
   try clear c4b0
   try clear c4b1
   try clear c6
   obtain ⟨x5_1, x6_1, x15_1, rfl, rfl, HA, HK1, HO_5, HO_13, BK60001, HB⟩ := hrel
   cases gk with
   | zero => exact absurd HA.out (by simp [solid_parts.l0])
   | succ k1 =>
    have H := HA.out
    clear HA
    simp only [solid_parts.l0] at H
    by_cases c7 : x15_1 < (l0.length : Int)
    ·rw [if_pos c7] at H
     have c7b0 : decide (x15_1 < (l0.length : Int)) = true := decide_eq_true c7
     clear c7
     by_cases c8 : 0 ≤ x15_1
     ·rw [if_pos c8] at H
      have c8b0 : decide (0 ≤ x15_1) = true := decide_eq_true c8
      clear c8
      by_cases c9 : x15_1 < (l0.length : Int)
      ·rw [if_pos c9] at H
       have c9b0 : decide (x15_1 < (l0.length : Int)) = true := decide_eq_true c9
       clear c9
       replace H := Option.bind_eq_some_iff.mp H
       obtain ⟨⟨t60005, t60006⟩, A100, H⟩ := H
       replace H : (if t60005 < t60006 then (if x5_1.length < 2932031007402 then (solid_parts.l0 k1 (x5_1 ++ [(⟨(⟨t60005, t60006⟩ : S49), (⟨(rd_T36 l0 x15_1).f1.f0, (rd_T36 l0 x15_1).f1.f1⟩ : S24)⟩ : S72)]) (wrap64 (x6_1 + ((rd_T36 l0 x15_1).f0))) l0 (l0.length : Int) (wrap64 (x15_1 + 1)) a1_0 a1_1) else (none)) else (solid_parts.l0 k1 x5_1 (wrap64 (x6_1 + ((rd_T36 l0 x15_1).f0))) l0 (l0.length : Int) (wrap64 (x15_1 + 1)) a1_0 a1_1)) = some r := H
       have A10 := Aside0.mk A100
       clear A100
       by_cases c11 : t60005 < t60006
       ·rw [if_pos c11] at H
        have c11b0 : decide (t60005 < t60006) = true := decide_eq_true c11
        clear c11
        by_cases c12 : x5_1.length < 2932031007402
        ·rw [if_pos c12] at H
         have LMc12 := Aside0.mk c12
         clear c12
         obtain ⟨y60008, hy60008⟩ : ∃ y_ : List (S72), y_ = (x5_1 ++ [(⟨(⟨t60005, t60006⟩ : S49), (⟨(rd_T36 l0 x15_1).f1.f0, (rd_T36 l0 x15_1).f1.f1⟩ : S24)⟩ : S72)]) := ⟨_, rfl⟩
         replace H : (solid_parts.l0 k1 y60008 (wrap64 (x6_1 + ((rd_T36 l0 x15_1).f0))) l0 (l0.length : Int) (wrap64 (x15_1 + 1)) a1_0 a1_1) = some r := by first | (rw [hy60008]; with_reducible exact H) | (have H2_ := (Option.bind_some _ _).symm.trans H; rw [hy60008]; with_reducible exact H2_) | (have H2_ := (Option.bind_some _ _).symm.trans H; with_reducible exact H2_) | with_reducible exact H | (rw [hy60008]; exact H) | exact H
         have Ny60008 := Aside0.mk hy60008
         clear hy60008
         have H' := Aside0.mk H
         clear H
         have p60003 : 0 ≤ (x15_1 : Int) := of_decide_eq_true (by first | (with_reducible assumption) | assumption)
         have q60003 : x15_1 < (l0.length : Int) := of_decide_eq_true (by first | (with_reducible assumption) | assumption)
         obtain ⟨ad60003, A60003_2, c60003_2, e60003, hx60003_0, hx60003_1, hx60003_2, hl60003_2, hi60003_2⟩ := at_T36 (Kd.V_reads' HO_13.out).2.2 x15_1 p60003 q60003
         cases e60003
         obtain ⟨ce60003, hce60003, hMe60003, hcc60003⟩ := Kd.V_get HO_13.out z36 x15_1 p60003 (by first | exact q60003 | exact of_decide_eq_true (by first | (with_reducible assumption) | assumption) | (have e_ := (Kd.V_reads' HO_13.out).1; omega))
         obtain ⟨ua60003_2, uc60003_2, rfl, ul60003_2, ge60003_2⟩ := k36_openF hMe60003
         have hv60003_2 := hcc60003 2 _ rfl
         rw [add_field _ _ 2 (by omega)] at hv60003_2
         replace hv60003_2 := Option.some.inj (hv60003_2.symm.trans hx60003_2)
         injection hv60003_2 with hva_ hvn_ hvc_
         rw [hva_] at ge60003_2
         rw [hvc_] at ul60003_2
         have HL60003_2 := Aside0.mk (show Kd.V k49 49 _ w.heap.size _ _ ((rd_T36 l0 x15_1).f1.f1) from Kd.V_mk ul60003_2 ge60003_2)
         clear hva_ hvn_ hvc_ ge60003_2 ul60003_2 hcc60003 hce60003
         have HR60003_2 := Aside0.mk hi60003_2
         have HC60003_2 := Aside0.mk hl60003_2
         clear hi60003_2 hl60003_2
         replace p60003 := eq_true p60003
         replace q60003 := eq_true q60003
         go_wp2_with (first | ((with_reducible refine gate_dst (N := 8) rfl ?_); refine box_event ?hg (N := 8) ?hd (cs := #[.int .i64 0, .int .i64 0, .slice none 0 0]) (t := 36) ?hr ?_; (case hd => rfl); (case hg => rfl); (case hr => first | (go_simp; done) | (go_simp; rfl)); intro gb60004 hg w13 hbox hb; have n0_ := Aside0.mk (Kd.N_below (Kd.N_elderB (fN_ HO_5.out) gb60004 (Nat.le_of_eq hg.symm)) hb); have n1_ := Aside0.mk (Kd.V_below (Kd.V_elderB (fV_ HO_13.out) gb60004 (Nat.le_of_eq hg.symm)) hb); have n2_ := Aside0.mk (Kd.V_below (Kd.V_elderB (fV_ HL60003_2.out) gb60004 (Nat.le_of_eq hg.symm)) hb); have n3_ := Aside0.mk (blk_below (g := gb60001) (o := .cells #[.int .i64 a1_0, .int .i64 a1_1] 49 (0, 0)) (fb_ BK60001.out) hb); have n4_ := Aside0.mk (Kd.C_below (by repeat (first | (with_reducible exact HR60003_2.out) | (with_reducible refine Kd.C_alloc ?_ _) | (with_reducible refine Kd.C_drewN ?_ _) | (with_reducible refine Kd.C_drew ?_) | exact HR60003_2.out)) hb); have n5_ := Aside0.mk (bs_ hb); have n6_ := Aside0.mk (hbox); have n7_ := Aside0.mk ((by rw [hg]; exact bz_ : w.heap.size ≤ gb60004)); have n8_ := Aside0.mk ((by rw [hg]; exact bz_ : w.heap.size ≤ gb60004)); have n9_ := Aside0.mk ((by rw [hg]; exact Nat.ne_of_lt (blk_lt (g := gb60001) (o := .cells #[.int .i64 a1_0, .int .i64 a1_1] 49 (0, 0)) (fb_ BK60001.out)) : gb60001 ≠ gb60004)); have n10_ := Aside0.mk ((by rw [hg]; exact Nat.ne_of_gt (blk_lt (g := gb60001) (o := .cells #[.int .i64 a1_0, .int .i64 a1_1] 49 (0, 0)) (fb_ BK60001.out)) : gb60004 ≠ gb60001)); clear HO_5 HO_13 HL60003_2 BK60001 HR60003_2 HB; have HO_5 := n0_; have HO_13 := n1_; have HL60003_2 := n2_; have BK60001 := n3_; have HR60003_2 := n4_; have HB := n5_; have BK60004 := n6_; have GW60004 := n7_; have GE60004 := n8_; have NB60001_60004 := n9_; have NB60004_60001 := n10_; clear n0_ n1_ n2_ n3_ n4_ n5_ n6_ n7_ n8_ n9_ n10_ hb hbox hg; have hnb14 := NB60004_60001.out; have hnc14 := NB60001_60004.out; have hcz15_0 : w13.cell? ⟨gb60004, 0, none⟩ = some (.int .i64 0) := (blk_cell BK60004.out 0).trans rfl; have hcz15_1 : w13.cell? ⟨gb60004, 1, none⟩ = some (.int .i64 0) := (blk_cell BK60004.out 1).trans rfl; have hcz15_2 : w13.cell? ⟨gb60004, 2, none⟩ = some (.slice none 0 0) := (blk_cell BK60004.out 2).trans rfl; have hfz15_0 := blk_frozen BK60004.out 0; have hfz15_1 := blk_frozen BK60004.out 1; have hfz15_2 := blk_frozen BK60004.out 2; have hcz16_0 : w13.cell? ⟨gb60001, 0, none⟩ = some (.int .i64 a1_0) := (blk_cell BK60001.out 0).trans rfl; have hcz16_1 : w13.cell? ⟨gb60001, 1, none⟩ = some (.int .i64 a1_1) := (blk_cell BK60001.out 1).trans rfl; have hfz16_0 := blk_frozen BK60001.out 0; have hfz16_1 := blk_frozen BK60001.out 1) | ((with_reducible refine gate_callee (f := 53) rfl ?_); refine goesL_ (some 26) rfl rfl Try.func53 (by kernel_rfl) rfl #[.agg #[.int .i64 x6_1, .int .i64 (wrap64 (x6_1 + ((rd_T36 l0 x15_1).f0)))], .agg #[.int .i64 a1_0, .int .i64 a1_1]] rfl la_ ?_; (with_reducible refine (span_Meet.calls x6_1 (wrap64 (x6_1 + ((rd_T36 l0 x15_1).f0))) a1_0 a1_1 t60005 t60006 _ A10.out).mono ?_); rintro e w17 ⟨rfl, hb⟩; refine ⟨_, rfl, ?_⟩; have n0_ := Aside0.mk (Kd.N_below (by (with_reducible repeat (first | apply Kd.N_alloc | apply Kd.N_drewN | apply Kd.N_drew)); exact (Kd.N_mono (Kd.N_far (p := ⟨gb60004, 2, none⟩) (Kd.N_far (p := ⟨gb60004, 1, none⟩) (Kd.N_far (p := ⟨gb60004, 0, none⟩) (Kd.N_mono HO_5.out (fun k_ hk => (⟨hk, hk.2⟩ : _ ∧ k_ ≠ gb60004))) (fun _ hk => hk.2) (.int .i64 ((rd_T36 l0 x15_1).f0))) (fun _ hk => hk.2) (.int .i64 ((rd_T36 l0 x15_1).f1.f0))) (fun _ hk => hk.2) (.slice A60003_2 ((rd_T36 l0 x15_1).f1.f1).length c60003_2)) (fun _ h_ => h_.1))) hb); have n1_ := Aside0.mk (Kd.V_below (by (with_reducible repeat (first | apply Kd.V_alloc | apply Kd.V_drewN | apply Kd.V_drew)); exact (Kd.V_mono (Kd.V_far (p := ⟨gb60004, 2, none⟩) (Kd.V_far (p := ⟨gb60004, 1, none⟩) (Kd.V_far (p := ⟨gb60004, 0, none⟩) (Kd.V_mono HO_13.out (fun k_ hk => (⟨hk, hk.2⟩ : _ ∧ k_ ≠ gb60004))) (fun _ hk => hk.2) (.int .i64 ((rd_T36 l0 x15_1).f0))) (fun _ hk => hk.2) (.int .i64 ((rd_T36 l0 x15_1).f1.f0))) (fun _ hk => hk.2) (.slice A60003_2 ((rd_T36 l0 x15_1).f1.f1).length c60003_2)) (fun _ h_ => h_.1))) hb); have n2_ := Aside0.mk (Kd.V_below (by (with_reducible repeat (first | apply Kd.V_alloc | apply Kd.V_drewN | apply Kd.V_drew)); exact (Kd.V_mono (Kd.V_far (p := ⟨gb60004, 2, none⟩) (Kd.V_far (p := ⟨gb60004, 1, none⟩) (Kd.V_far (p := ⟨gb60004, 0, none⟩) (Kd.V_mono HL60003_2.out (fun k_ hk => (⟨hk, hk.2⟩ : _ ∧ k_ ≠ gb60004))) (fun _ hk => hk.2) (.int .i64 ((rd_T36 l0 x15_1).f0))) (fun _ hk => hk.2) (.int .i64 ((rd_T36 l0 x15_1).f1.f0))) (fun _ hk => hk.2) (.slice A60003_2 ((rd_T36 l0 x15_1).f1.f1).length c60003_2)) (fun _ h_ => h_.1))) hb); have n3_ := Aside0.mk (blk_below (g := gb60001) (o := .cells #[.int .i64 a1_0, .int .i64 a1_1] 49 (0, 0)) (by (with_reducible repeat (first | refine blk_drewN ?_ _ | refine blk_drew ?_ | refine blk_alloc ?_ _)); refine blk_far ?_ NB60001_60004.out _; (with_reducible repeat (first | refine blk_drewN ?_ _ | refine blk_drew ?_ | refine blk_alloc ?_ _)); refine blk_far ?_ NB60001_60004.out _; (with_reducible repeat (first | refine blk_drewN ?_ _ | refine blk_drew ?_ | refine blk_alloc ?_ _)); refine blk_far ?_ NB60001_60004.out _; (with_reducible repeat (first | refine blk_drewN ?_ _ | refine blk_drew ?_ | refine blk_alloc ?_ _)); exact BK60001.out) hb); have n4_ := Aside0.mk (Kd.C_below ((Kd.V_reads' (by (with_reducible repeat (first | apply Kd.V_alloc | apply Kd.V_drewN | apply Kd.V_drew)); exact (Kd.V_mono (Kd.V_far (p := ⟨gb60004, 2, none⟩) (Kd.V_far (p := ⟨gb60004, 1, none⟩) (Kd.V_far (p := ⟨gb60004, 0, none⟩) (Kd.V_mono HL60003_2.out (fun k_ hk => (⟨hk, hk.2⟩ : _ ∧ k_ ≠ gb60004))) (fun _ hk => hk.2) (.int .i64 ((rd_T36 l0 x15_1).f0))) (fun _ hk => hk.2) (.int .i64 ((rd_T36 l0 x15_1).f1.f0))) (fun _ hk => hk.2) (.slice A60003_2 ((rd_T36 l0 x15_1).f1.f1).length c60003_2)) (fun _ h_ => h_.1)))).2.2) hb); have n5_ := Aside0.mk (blk_below (g := gb60004) (o := .cells #[.int .i64 ((rd_T36 l0 x15_1).f0), .int .i64 ((rd_T36 l0 x15_1).f1.f0), .slice A60003_2 ((rd_T36 l0 x15_1).f1.f1).length c60003_2] 36 (0, 0)) (by (with_reducible repeat (first | refine blk_drewN ?_ _ | refine blk_drew ?_ | refine blk_alloc ?_ _)); refine blk_put (cs := #[.int .i64 ((rd_T36 l0 x15_1).f0), .int .i64 ((rd_T36 l0 x15_1).f1.f0), .slice none 0 0]) ?_ 2 _ rfl; (with_reducible repeat (first | refine blk_drewN ?_ _ | refine blk_drew ?_ | refine blk_alloc ?_ _)); refine blk_put (cs := #[.int .i64 ((rd_T36 l0 x15_1).f0), .int .i64 0, .slice none 0 0]) ?_ 1 _ rfl; (with_reducible repeat (first | refine blk_drewN ?_ _ | refine blk_drew ?_ | refine blk_alloc ?_ _)); refine blk_put (cs := #[.int .i64 0, .int .i64 0, .slice none 0 0]) ?_ 0 _ rfl; (with_reducible repeat (first | refine blk_drewN ?_ _ | refine blk_drew ?_ | refine blk_alloc ?_ _)); exact BK60004.out) hb); have n6_ := Aside0.mk (bs_ hb); clear HO_5 HO_13 HL60003_2 BK60001 HR60003_2 BK60004 HB; have HO_5 := n0_; have HO_13 := n1_; have HL60003_2 := n2_; have BK60001 := n3_; have HR60003_2 := n4_; have BK60004 := n5_; have HB := n6_; clear n0_ n1_ n2_ n3_ n4_ n5_ n6_; (try clear hb); (try clear hb2); (try clear hk); (try clear hi)) | ((with_reducible refine gate_dst (N := 9) rfl ?_); refine box_event ?hg (N := 9) ?hd (cs := #[.int .i64 0, .int .i64 0]) (t := 49) ?hr ?_; (case hd => rfl); (case hg => rfl); (case hr => first | (go_simp; done) | (go_simp; rfl)); intro gb60007 hg w18 hbox hb; have n0_ := Aside0.mk (Kd.N_below (Kd.N_elderB (fN_ HO_5.out) gb60007 (Nat.le_of_eq hg.symm)) hb); have n1_ := Aside0.mk (Kd.V_below (Kd.V_elderB (fV_ HO_13.out) gb60007 (Nat.le_of_eq hg.symm)) hb); have n2_ := Aside0.mk (Kd.V_below (Kd.V_elderB (fV_ HL60003_2.out) gb60007 (Nat.le_of_eq hg.symm)) hb); have n3_ := Aside0.mk (blk_below (g := gb60001) (o := .cells #[.int .i64 a1_0, .int .i64 a1_1] 49 (0, 0)) (fb_ BK60001.out) hb); have n4_ := Aside0.mk (Kd.C_below (by repeat (first | (with_reducible exact HR60003_2.out) | (with_reducible refine Kd.C_alloc ?_ _) | (with_reducible refine Kd.C_drewN ?_ _) | (with_reducible refine Kd.C_drew ?_) | exact HR60003_2.out)) hb); have n5_ := Aside0.mk (blk_below (g := gb60004) (o := .cells #[.int .i64 ((rd_T36 l0 x15_1).f0), .int .i64 ((rd_T36 l0 x15_1).f1.f0), .slice A60003_2 ((rd_T36 l0 x15_1).f1.f1).length c60003_2] 36 (0, 0)) (fb_ BK60004.out) hb); have n6_ := Aside0.mk (bs_ hb); have n7_ := Aside0.mk (hbox); have n8_ := Aside0.mk ((by rw [hg]; exact bz_ : w.heap.size ≤ gb60007)); have n9_ := Aside0.mk ((by rw [hg]; exact bz_ : w.heap.size ≤ gb60007)); have n10_ := Aside0.mk ((by rw [hg]; exact Nat.ne_of_lt (blk_lt (g := gb60001) (o := .cells #[.int .i64 a1_0, .int .i64 a1_1] 49 (0, 0)) (fb_ BK60001.out)) : gb60001 ≠ gb60007)); have n11_ := Aside0.mk ((by rw [hg]; exact Nat.ne_of_gt (blk_lt (g := gb60001) (o := .cells #[.int .i64 a1_0, .int .i64 a1_1] 49 (0, 0)) (fb_ BK60001.out)) : gb60007 ≠ gb60001)); have n12_ := Aside0.mk ((by rw [hg]; exact Nat.ne_of_lt (blk_lt (g := gb60004) (o := .cells #[.int .i64 ((rd_T36 l0 x15_1).f0), .int .i64 ((rd_T36 l0 x15_1).f1.f0), .slice A60003_2 ((rd_T36 l0 x15_1).f1.f1).length c60003_2] 36 (0, 0)) (fb_ BK60004.out)) : gb60004 ≠ gb60007)); have n13_ := Aside0.mk ((by rw [hg]; exact Nat.ne_of_gt (blk_lt (g := gb60004) (o := .cells #[.int .i64 ((rd_T36 l0 x15_1).f0), .int .i64 ((rd_T36 l0 x15_1).f1.f0), .slice A60003_2 ((rd_T36 l0 x15_1).f1.f1).length c60003_2] 36 (0, 0)) (fb_ BK60004.out)) : gb60007 ≠ gb60004)); clear HO_5 HO_13 HL60003_2 BK60001 HR60003_2 BK60004 HB; have HO_5 := n0_; have HO_13 := n1_; have HL60003_2 := n2_; have BK60001 := n3_; have HR60003_2 := n4_; have BK60004 := n5_; have HB := n6_; have BK60007 := n7_; have GW60007 := n8_; have GE60007 := n9_; have NB60001_60007 := n10_; have NB60007_60001 := n11_; have NB60004_60007 := n12_; have NB60007_60004 := n13_; clear n0_ n1_ n2_ n3_ n4_ n5_ n6_ n7_ n8_ n9_ n10_ n11_ n12_ n13_ hb hbox hg; have hnb19 := NB60007_60001.out; have hnc19 := NB60001_60007.out; have hnb20 := NB60007_60004.out; have hnc20 := NB60004_60007.out; have hcz21_0 : w18.cell? ⟨gb60007, 0, none⟩ = some (.int .i64 0) := (blk_cell BK60007.out 0).trans rfl; have hcz21_1 : w18.cell? ⟨gb60007, 1, none⟩ = some (.int .i64 0) := (blk_cell BK60007.out 1).trans rfl; have hfz21_0 := blk_frozen BK60007.out 0; have hfz21_1 := blk_frozen BK60007.out 1) | ((with_reducible refine gate_store (t := 49) (p := 9) rfl ?_); refine store_event (t := 49) (p := 9) (v := ?vo_w22) (w1 := ((w18.setCell ⟨gb60007, 0, none⟩ (.int .i64 t60005)).setCell ⟨gb60007, 1, none⟩ (.int .i64 t60006))) ?hg ?ho ?hn ?hr ?_; (case ho => rfl); (case hg => rfl); (case hn => rfl); (case hr => first | (go_simp; done) | (go_simp; rfl)); intro w22 hw; have n0_ : Aside0 (Kd.N k72 72 w22 w.heap.size (fun k_ => (P0_ k_ ∨ w.heap.size ≤ k_) ∧ k_ ≠ gb60001 ∧ k_ ≠ gb60004 ∧ k_ ≠ gb60007) u5 x5_1) := ⟨(by rw [hw]; exact (by (with_reducible repeat (first | apply Kd.N_alloc | apply Kd.N_drewN | apply Kd.N_drew)); exact Kd.N_mono (Kd.N_far (p := ⟨gb60007, 1, none⟩) (Kd.N_far (p := ⟨gb60007, 0, none⟩) (Kd.N_mono HO_5.out (fun k_ hk => (⟨hk, hk.2⟩ : _ ∧ k_ ≠ gb60007))) (fun _ hk => hk.2) (.int .i64 t60005)) (fun _ hk => hk.2) (.int .i64 t60006)) (fun _ hk => ⟨hk.1.1.1.1, ⟨hk.1.1.1.2, ⟨hk.1.1.2, hk.1.2⟩⟩⟩)))⟩; have n1_ : Aside0 (Kd.V k36 36 w22 w.heap.size (fun k_ => (P0_ k_ ∨ w.heap.size ≤ k_) ∧ some k_ ≠ (u5 : Value).ownBlock ∧ k_ ≠ gb60001 ∧ k_ ≠ gb60004 ∧ k_ ≠ gb60007) (.slice (some ad60003) l0.length c0) l0) := ⟨(by rw [hw]; exact (by (with_reducible repeat (first | apply Kd.V_alloc | apply Kd.V_drewN | apply Kd.V_drew)); exact Kd.V_mono (Kd.V_far (p := ⟨gb60007, 1, none⟩) (Kd.V_far (p := ⟨gb60007, 0, none⟩) (Kd.V_mono HO_13.out (fun k_ hk => (⟨hk, hk.2⟩ : _ ∧ k_ ≠ gb60007))) (fun _ hk => hk.2) (.int .i64 t60005)) (fun _ hk => hk.2) (.int .i64 t60006)) (fun _ hk => ⟨hk.1.1.1.1, ⟨hk.1.1.1.2.1, ⟨hk.1.1.1.2.2, ⟨hk.1.1.2, hk.1.2⟩⟩⟩⟩)))⟩; have n2_ : Aside0 (Kd.V k49 49 w22 w.heap.size (fun k_ => (P0_ k_ ∨ w.heap.size ≤ k_) ∧ some k_ ≠ (u5 : Value).ownBlock ∧ k_ ≠ gb60001 ∧ k_ ≠ gb60004 ∧ k_ ≠ gb60007) (.slice A60003_2 ((rd_T36 l0 x15_1).f1.f1).length c60003_2) ((rd_T36 l0 x15_1).f1.f1)) := ⟨(by rw [hw]; exact (by (with_reducible repeat (first | apply Kd.V_alloc | apply Kd.V_drewN | apply Kd.V_drew)); exact Kd.V_mono (Kd.V_far (p := ⟨gb60007, 1, none⟩) (Kd.V_far (p := ⟨gb60007, 0, none⟩) (Kd.V_mono HL60003_2.out (fun k_ hk => (⟨hk, hk.2⟩ : _ ∧ k_ ≠ gb60007))) (fun _ hk => hk.2) (.int .i64 t60005)) (fun _ hk => hk.2) (.int .i64 t60006)) (fun _ hk => ⟨hk.1.1.1.1, ⟨hk.1.1.1.2.1, ⟨hk.1.1.1.2.2, ⟨hk.1.1.2, hk.1.2⟩⟩⟩⟩)))⟩; have n3_ : Aside0 (w22.heap[gb60001]? = some (.cells #[.int .i64 a1_0, .int .i64 a1_1] 49 (0, 0))) := ⟨(by rw [hw]; exact (by (with_reducible repeat (first | refine blk_drewN ?_ _ | refine blk_drew ?_ | refine blk_alloc ?_ _)); refine blk_far ?_ NB60001_60007.out _; (with_reducible repeat (first | refine blk_drewN ?_ _ | refine blk_drew ?_ | refine blk_alloc ?_ _)); refine blk_far ?_ NB60001_60007.out _; (with_reducible repeat (first | refine blk_drewN ?_ _ | refine blk_drew ?_ | refine blk_alloc ?_ _)); exact BK60001.out))⟩; have n4_ : Aside0 (w22.heap[gb60004]? = some (.cells #[.int .i64 ((rd_T36 l0 x15_1).f0), .int .i64 ((rd_T36 l0 x15_1).f1.f0), .slice A60003_2 ((rd_T36 l0 x15_1).f1.f1).length c60003_2] 36 (0, 0))) := ⟨(by rw [hw]; exact (by (with_reducible repeat (first | refine blk_drewN ?_ _ | refine blk_drew ?_ | refine blk_alloc ?_ _)); refine blk_far ?_ NB60004_60007.out _; (with_reducible repeat (first | refine blk_drewN ?_ _ | refine blk_drew ?_ | refine blk_alloc ?_ _)); refine blk_far ?_ NB60004_60007.out _; (with_reducible repeat (first | refine blk_drewN ?_ _ | refine blk_drew ?_ | refine blk_alloc ?_ _)); exact BK60004.out))⟩; have n5_ : Aside0 (w22.heap[gb60007]? = some (.cells #[.int .i64 t60005, .int .i64 t60006] 49 (0, 0))) := ⟨(by rw [hw]; exact (by (with_reducible repeat (first | refine blk_drewN ?_ _ | refine blk_drew ?_ | refine blk_alloc ?_ _)); refine blk_put (cs := #[.int .i64 t60005, .int .i64 0]) ?_ 1 _ rfl; (with_reducible repeat (first | refine blk_drewN ?_ _ | refine blk_drew ?_ | refine blk_alloc ?_ _)); refine blk_put (cs := #[.int .i64 0, .int .i64 0]) ?_ 0 _ rfl; (with_reducible repeat (first | refine blk_drewN ?_ _ | refine blk_drew ?_ | refine blk_alloc ?_ _)); exact BK60007.out))⟩; have n6_ : Aside0 (Below w.heap.size w w22) := ⟨(by rw [hw]; exact be_)⟩; clear hw HO_5 HO_13 HL60003_2 BK60001 BK60004 BK60007 HB; have HO_5 := n0_; have HO_13 := n1_; have HL60003_2 := n2_; have BK60001 := n3_; have BK60004 := n4_; have BK60007 := n5_; have HB := n6_; clear n0_ n1_ n2_ n3_ n4_ n5_ n6_; have hcz23_0 : w22.cell? ⟨gb60007, 0, none⟩ = some (.int .i64 t60005) := (blk_cell BK60007.out 0).trans rfl; have hcz23_1 : w22.cell? ⟨gb60007, 1, none⟩ = some (.int .i64 t60006) := (blk_cell BK60007.out 1).trans rfl; have hfz23_0 := blk_frozen BK60007.out 0; have hfz23_1 := blk_frozen BK60007.out 1; have hcz24_0 : w22.cell? ⟨gb60004, 0, none⟩ = some (.int .i64 ((rd_T36 l0 x15_1).f0)) := (blk_cell BK60004.out 0).trans rfl; have hcz24_1 : w22.cell? ⟨gb60004, 1, none⟩ = some (.int .i64 ((rd_T36 l0 x15_1).f1.f0)) := (blk_cell BK60004.out 1).trans rfl; have hcz24_2 : w22.cell? ⟨gb60004, 2, none⟩ = some (.slice A60003_2 ((rd_T36 l0 x15_1).f1.f1).length c60003_2) := (blk_cell BK60004.out 2).trans rfl; have hfz24_0 := blk_frozen BK60004.out 0; have hfz24_1 := blk_frozen BK60004.out 1; have hfz24_2 := blk_frozen BK60004.out 2) | ((with_reducible refine gate_builtin (b := .append) (xs := #[.tmp 32, .tmp 37]) rfl ?_); at_builtin; refine Kd.N_append k72 (w0 := w) w.heap.size rfl (.tmp 32) (.tmp 37) 69 72 (.agg #[(.int .i64 0), (.int .i64 0), (.int .i64 0), (.slice none 0 0)]) 48 rfl Try.underlying69 info72 rfl (by decide) (by omega) u5 x5_1 (⟨(⟨t60005, t60006⟩ : S49), (⟨(rd_T36 l0 x15_1).f1.f0, (rd_T36 l0 x15_1).f1.f1⟩ : S24)⟩ : S72) [.int .i64 t60005, .int .i64 t60006, .int .i64 ((rd_T36 l0 x15_1).f1.f0), .slice A60003_2 ((rd_T36 l0 x15_1).f1.f1).length c60003_2] (fun k_ => (P0_ k_ ∨ w.heap.size ≤ k_) ∧ k_ ≠ gb60001 ∧ k_ ≠ gb60004 ∧ k_ ≠ gb60007) (fun k_ => ((fun k_ => (P0_ k_ ∨ w.heap.size ≤ k_) ∧ k_ ≠ gb60001 ∧ k_ ≠ gb60004 ∧ k_ ≠ gb60007)) k_ ∧ some k_ ≠ (u5 : Value).ownBlock) rfl rfl ?aP (fun _ hk => hk) ?aF ?aO ?aB ?aS ?aL ?_; (case aP => exact (k72_mkF _ _ (⟨(⟨t60005, t60006⟩ : S49), (⟨(rd_T36 l0 x15_1).f1.f0, (rd_T36 l0 x15_1).f1.f1⟩ : S24)⟩ : S72) (Kd.V_reads' (Kd.V_mono (ok' := (fun k_ => ((fun k_ => (P0_ k_ ∨ w.heap.size ≤ k_) ∧ k_ ≠ gb60001 ∧ k_ ≠ gb60004 ∧ k_ ≠ gb60007)) k_ ∧ some k_ ≠ (u5 : Value).ownBlock)) (HL60003_2.out) (fun k_ hk => ⟨⟨hk.1, ⟨hk.2.2.1, ⟨hk.2.2.2.1, hk.2.2.2.2⟩⟩⟩, hk.2.1⟩))).2.1 (Kd.V_F (Kd.V_mono (ok' := (fun k_ => ((fun k_ => (P0_ k_ ∨ w.heap.size ≤ k_) ∧ k_ ≠ gb60001 ∧ k_ ≠ gb60004 ∧ k_ ≠ gb60007)) k_ ∧ some k_ ≠ (u5 : Value).ownBlock)) (HL60003_2.out) (fun k_ hk => ⟨⟨hk.1, ⟨hk.2.2.1, ⟨hk.2.2.2.1, hk.2.2.2.2⟩⟩⟩, hk.2.1⟩))))); (case aB => exact be_); (case aF => exact (fun k_ hk => ⟨(.inr (Nat.le_trans bz_ hk)), Kd.freshB (g := gb60001) (o := .cells #[.int .i64 a1_0, .int .i64 a1_1] 49 (0, 0)) (fb_ BK60001.out) k_ hk, Kd.freshB (g := gb60004) (o := .cells #[.int .i64 ((rd_T36 l0 x15_1).f0), .int .i64 ((rd_T36 l0 x15_1).f1.f0), .slice A60003_2 ((rd_T36 l0 x15_1).f1.f1).length c60003_2] 36 (0, 0)) (fb_ BK60004.out) k_ hk, Kd.freshB (g := gb60007) (o := .cells #[.int .i64 t60005, .int .i64 t60006] 49 (0, 0)) (fb_ BK60007.out) k_ hk⟩)); (case aO => exact (fN_ HO_5.out)); (case aS => exact bz_); (case aL => have := LMc12.out; omega); intro v60009 w25 ho hb hg hat; rw [← Ny60008.out] at ho; have n0_ := Aside0.mk (Kd.V_afterv (ok := (fun k_ => (P0_ k_ ∨ w.heap.size ≤ k_) ∧ k_ ≠ gb60001 ∧ k_ ≠ gb60004 ∧ k_ ≠ gb60007)) (by (with_reducible repeat (first | apply Kd.V_alloc | apply Kd.V_drewN | apply Kd.V_drew)); exact Kd.V_mono HO_13.out (fun _ hk => ⟨⟨hk.1, ⟨hk.2.2.1, ⟨hk.2.2.2.1, hk.2.2.2.2⟩⟩⟩, hk.2.1⟩)) hg hat); have n1_ := Aside0.mk (blk_grown (g := gb60001) (o := .cells #[.int .i64 a1_0, .int .i64 a1_1] 49 (0, 0)) (fb_ BK60001.out) hg (Kd.N_ne HO_5.out BK60001.out (by decide))); have n2_ := Aside0.mk (Kd.V_afterv (ok := (fun k_ => (P0_ k_ ∨ w.heap.size ≤ k_) ∧ k_ ≠ gb60001 ∧ k_ ≠ gb60004 ∧ k_ ≠ gb60007)) (by (with_reducible repeat (first | apply Kd.V_alloc | apply Kd.V_drewN | apply Kd.V_drew)); exact Kd.V_mono HL60003_2.out (fun _ hk => ⟨⟨hk.1, ⟨hk.2.2.1, ⟨hk.2.2.2.1, hk.2.2.2.2⟩⟩⟩, hk.2.1⟩)) hg hat); have n3_ := Aside0.mk (blk_grown (g := gb60004) (o := .cells #[.int .i64 ((rd_T36 l0 x15_1).f0), .int .i64 ((rd_T36 l0 x15_1).f1.f0), .slice A60003_2 ((rd_T36 l0 x15_1).f1.f1).length c60003_2] 36 (0, 0)) (fb_ BK60004.out) hg (Kd.N_ne HO_5.out BK60004.out (by decide))); have n4_ := Aside0.mk (blk_grown (g := gb60007) (o := .cells #[.int .i64 t60005, .int .i64 t60006] 49 (0, 0)) (fb_ BK60007.out) hg (Kd.N_ne HO_5.out BK60007.out (by decide))); have n5_ := Aside0.mk (hb); have n6_ := Aside0.mk (ho); clear HO_13 BK60001 HL60003_2 BK60004 BK60007 HB HO_5; have HO_13 := n0_; have BK60001 := n1_; have HL60003_2 := n2_; have BK60004 := n3_; have BK60007 := n4_; have HB := n5_; have HO60010 := n6_; clear n0_ n1_ n2_ n3_ n4_ n5_ n6_ ho hb hg hat; have hcz26_0 : w25.cell? ⟨gb60004, 0, none⟩ = some (.int .i64 ((rd_T36 l0 x15_1).f0)) := (blk_cell BK60004.out 0).trans rfl; have hcz26_1 : w25.cell? ⟨gb60004, 1, none⟩ = some (.int .i64 ((rd_T36 l0 x15_1).f1.f0)) := (blk_cell BK60004.out 1).trans rfl; have hcz26_2 : w25.cell? ⟨gb60004, 2, none⟩ = some (.slice A60003_2 ((rd_T36 l0 x15_1).f1.f1).length c60003_2) := (blk_cell BK60004.out 2).trans rfl; have hfz26_0 := blk_frozen BK60004.out 0; have hfz26_1 := blk_frozen BK60004.out 1; have hfz26_2 := blk_frozen BK60004.out 2))
         go_roundg k1
         case measure => have := HK1.out; omega
         case rel => exact ⟨(y60008), (wrap64 (x6_1 + ((rd_T36 l0 x15_1).f0))), (wrap64 (x15_1 + 1)), (by first | rfl | (simp; done) | (simp [*]; done)), (by first | rfl | (simp; done) | (simp [*]; done)), H', ⟨by have := HK1.out; omega⟩, ⟨by (with_reducible repeat (first | apply Kd.N_alloc | apply Kd.N_drewN | apply Kd.N_drew)); exact Kd.N_mono HO60010.out (fun _ hk => ⟨hk.1, hk.2.1⟩)⟩, ⟨by (with_reducible repeat (first | apply Kd.V_alloc | apply Kd.V_drewN | apply Kd.V_drew)); exact Kd.V_mono HO_13.out (fun _ hk => ⟨hk.1.1, ⟨hk.2, hk.1.2.1⟩⟩)⟩, ⟨fb_ BK60001.out⟩, ⟨be_⟩⟩
        ·rw [if_neg c12] at H
         exact absurd H (by simp)
       ·rw [if_neg c11] at H
        have c11b0 : decide (t60005 < t60006) = false := decide_eq_false c11
        clear c11
        have H' := Aside0.mk H
        clear H
        have p60003 : 0 ≤ (x15_1 : Int) := of_decide_eq_true (by first | (with_reducible assumption) | assumption)
        have q60003 : x15_1 < (l0.length : Int) := of_decide_eq_true (by first | (with_reducible assumption) | assumption)
        obtain ⟨ad60003, A60003_2, c60003_2, e60003, hx60003_0, hx60003_1, hx60003_2, hl60003_2, hi60003_2⟩ := at_T36 (Kd.V_reads' HO_13.out).2.2 x15_1 p60003 q60003
        cases e60003
        obtain ⟨ce60003, hce60003, hMe60003, hcc60003⟩ := Kd.V_get HO_13.out z36 x15_1 p60003 (by first | exact q60003 | exact of_decide_eq_true (by first | (with_reducible assumption) | assumption) | (have e_ := (Kd.V_reads' HO_13.out).1; omega))
        obtain ⟨ua60003_2, uc60003_2, rfl, ul60003_2, ge60003_2⟩ := k36_openF hMe60003
        have hv60003_2 := hcc60003 2 _ rfl
        rw [add_field _ _ 2 (by omega)] at hv60003_2
        replace hv60003_2 := Option.some.inj (hv60003_2.symm.trans hx60003_2)
        injection hv60003_2 with hva_ hvn_ hvc_
        rw [hva_] at ge60003_2
        rw [hvc_] at ul60003_2
        have HL60003_2 := Aside0.mk (show Kd.V k49 49 _ w.heap.size _ _ ((rd_T36 l0 x15_1).f1.f1) from Kd.V_mk ul60003_2 ge60003_2)
        clear hva_ hvn_ hvc_ ge60003_2 ul60003_2 hcc60003 hce60003
        have HR60003_2 := Aside0.mk hi60003_2
        have HC60003_2 := Aside0.mk hl60003_2
        clear hi60003_2 hl60003_2
        replace p60003 := eq_true p60003
        replace q60003 := eq_true q60003
        go_wp2_with (first | ((with_reducible refine gate_dst (N := 8) rfl ?_); refine box_event ?hg (N := 8) ?hd (cs := #[.int .i64 0, .int .i64 0, .slice none 0 0]) (t := 36) ?hr ?_; (case hd => rfl); (case hg => rfl); (case hr => first | (go_simp; done) | (go_simp; rfl)); intro gb60004 hg w27 hbox hb; have n0_ := Aside0.mk (Kd.N_below (Kd.N_elderB (fN_ HO_5.out) gb60004 (Nat.le_of_eq hg.symm)) hb); have n1_ := Aside0.mk (Kd.V_below (Kd.V_elderB (fV_ HO_13.out) gb60004 (Nat.le_of_eq hg.symm)) hb); have n2_ := Aside0.mk (Kd.V_below (Kd.V_elderB (fV_ HL60003_2.out) gb60004 (Nat.le_of_eq hg.symm)) hb); have n3_ := Aside0.mk (blk_below (g := gb60001) (o := .cells #[.int .i64 a1_0, .int .i64 a1_1] 49 (0, 0)) (fb_ BK60001.out) hb); have n4_ := Aside0.mk (Kd.C_below (by repeat (first | (with_reducible exact HR60003_2.out) | (with_reducible refine Kd.C_alloc ?_ _) | (with_reducible refine Kd.C_drewN ?_ _) | (with_reducible refine Kd.C_drew ?_) | exact HR60003_2.out)) hb); have n5_ := Aside0.mk (bs_ hb); have n6_ := Aside0.mk (hbox); have n7_ := Aside0.mk ((by rw [hg]; exact bz_ : w.heap.size ≤ gb60004)); have n8_ := Aside0.mk ((by rw [hg]; exact bz_ : w.heap.size ≤ gb60004)); have n9_ := Aside0.mk ((by rw [hg]; exact Nat.ne_of_lt (blk_lt (g := gb60001) (o := .cells #[.int .i64 a1_0, .int .i64 a1_1] 49 (0, 0)) (fb_ BK60001.out)) : gb60001 ≠ gb60004)); have n10_ := Aside0.mk ((by rw [hg]; exact Nat.ne_of_gt (blk_lt (g := gb60001) (o := .cells #[.int .i64 a1_0, .int .i64 a1_1] 49 (0, 0)) (fb_ BK60001.out)) : gb60004 ≠ gb60001)); clear HO_5 HO_13 HL60003_2 BK60001 HR60003_2 HB; have HO_5 := n0_; have HO_13 := n1_; have HL60003_2 := n2_; have BK60001 := n3_; have HR60003_2 := n4_; have HB := n5_; have BK60004 := n6_; have GW60004 := n7_; have GE60004 := n8_; have NB60001_60004 := n9_; have NB60004_60001 := n10_; clear n0_ n1_ n2_ n3_ n4_ n5_ n6_ n7_ n8_ n9_ n10_ hb hbox hg; have hnb28 := NB60004_60001.out; have hnc28 := NB60001_60004.out; have hcz29_0 : w27.cell? ⟨gb60004, 0, none⟩ = some (.int .i64 0) := (blk_cell BK60004.out 0).trans rfl; have hcz29_1 : w27.cell? ⟨gb60004, 1, none⟩ = some (.int .i64 0) := (blk_cell BK60004.out 1).trans rfl; have hcz29_2 : w27.cell? ⟨gb60004, 2, none⟩ = some (.slice none 0 0) := (blk_cell BK60004.out 2).trans rfl; have hfz29_0 := blk_frozen BK60004.out 0; have hfz29_1 := blk_frozen BK60004.out 1; have hfz29_2 := blk_frozen BK60004.out 2; have hcz30_0 : w27.cell? ⟨gb60001, 0, none⟩ = some (.int .i64 a1_0) := (blk_cell BK60001.out 0).trans rfl; have hcz30_1 : w27.cell? ⟨gb60001, 1, none⟩ = some (.int .i64 a1_1) := (blk_cell BK60001.out 1).trans rfl; have hfz30_0 := blk_frozen BK60001.out 0; have hfz30_1 := blk_frozen BK60001.out 1) | ((with_reducible refine gate_callee (f := 53) rfl ?_); refine goesL_ (some 26) rfl rfl Try.func53 (by kernel_rfl) rfl #[.agg #[.int .i64 x6_1, .int .i64 (wrap64 (x6_1 + ((rd_T36 l0 x15_1).f0)))], .agg #[.int .i64 a1_0, .int .i64 a1_1]] rfl la_ ?_; (with_reducible refine (span_Meet.calls x6_1 (wrap64 (x6_1 + ((rd_T36 l0 x15_1).f0))) a1_0 a1_1 t60005 t60006 _ A10.out).mono ?_); rintro e w31 ⟨rfl, hb⟩; refine ⟨_, rfl, ?_⟩; have n0_ := Aside0.mk (Kd.N_below (by (with_reducible repeat (first | apply Kd.N_alloc | apply Kd.N_drewN | apply Kd.N_drew)); exact (Kd.N_mono (Kd.N_far (p := ⟨gb60004, 2, none⟩) (Kd.N_far (p := ⟨gb60004, 1, none⟩) (Kd.N_far (p := ⟨gb60004, 0, none⟩) (Kd.N_mono HO_5.out (fun k_ hk => (⟨hk, hk.2⟩ : _ ∧ k_ ≠ gb60004))) (fun _ hk => hk.2) (.int .i64 ((rd_T36 l0 x15_1).f0))) (fun _ hk => hk.2) (.int .i64 ((rd_T36 l0 x15_1).f1.f0))) (fun _ hk => hk.2) (.slice A60003_2 ((rd_T36 l0 x15_1).f1.f1).length c60003_2)) (fun _ h_ => h_.1))) hb); have n1_ := Aside0.mk (Kd.V_below (by (with_reducible repeat (first | apply Kd.V_alloc | apply Kd.V_drewN | apply Kd.V_drew)); exact (Kd.V_mono (Kd.V_far (p := ⟨gb60004, 2, none⟩) (Kd.V_far (p := ⟨gb60004, 1, none⟩) (Kd.V_far (p := ⟨gb60004, 0, none⟩) (Kd.V_mono HO_13.out (fun k_ hk => (⟨hk, hk.2⟩ : _ ∧ k_ ≠ gb60004))) (fun _ hk => hk.2) (.int .i64 ((rd_T36 l0 x15_1).f0))) (fun _ hk => hk.2) (.int .i64 ((rd_T36 l0 x15_1).f1.f0))) (fun _ hk => hk.2) (.slice A60003_2 ((rd_T36 l0 x15_1).f1.f1).length c60003_2)) (fun _ h_ => h_.1))) hb); have n2_ := Aside0.mk (Kd.V_below (by (with_reducible repeat (first | apply Kd.V_alloc | apply Kd.V_drewN | apply Kd.V_drew)); exact (Kd.V_mono (Kd.V_far (p := ⟨gb60004, 2, none⟩) (Kd.V_far (p := ⟨gb60004, 1, none⟩) (Kd.V_far (p := ⟨gb60004, 0, none⟩) (Kd.V_mono HL60003_2.out (fun k_ hk => (⟨hk, hk.2⟩ : _ ∧ k_ ≠ gb60004))) (fun _ hk => hk.2) (.int .i64 ((rd_T36 l0 x15_1).f0))) (fun _ hk => hk.2) (.int .i64 ((rd_T36 l0 x15_1).f1.f0))) (fun _ hk => hk.2) (.slice A60003_2 ((rd_T36 l0 x15_1).f1.f1).length c60003_2)) (fun _ h_ => h_.1))) hb); have n3_ := Aside0.mk (blk_below (g := gb60001) (o := .cells #[.int .i64 a1_0, .int .i64 a1_1] 49 (0, 0)) (by (with_reducible repeat (first | refine blk_drewN ?_ _ | refine blk_drew ?_ | refine blk_alloc ?_ _)); refine blk_far ?_ NB60001_60004.out _; (with_reducible repeat (first | refine blk_drewN ?_ _ | refine blk_drew ?_ | refine blk_alloc ?_ _)); refine blk_far ?_ NB60001_60004.out _; (with_reducible repeat (first | refine blk_drewN ?_ _ | refine blk_drew ?_ | refine blk_alloc ?_ _)); refine blk_far ?_ NB60001_60004.out _; (with_reducible repeat (first | refine blk_drewN ?_ _ | refine blk_drew ?_ | refine blk_alloc ?_ _)); exact BK60001.out) hb); have n4_ := Aside0.mk (Kd.C_below ((Kd.V_reads' (by (with_reducible repeat (first | apply Kd.V_alloc | apply Kd.V_drewN | apply Kd.V_drew)); exact (Kd.V_mono (Kd.V_far (p := ⟨gb60004, 2, none⟩) (Kd.V_far (p := ⟨gb60004, 1, none⟩) (Kd.V_far (p := ⟨gb60004, 0, none⟩) (Kd.V_mono HL60003_2.out (fun k_ hk => (⟨hk, hk.2⟩ : _ ∧ k_ ≠ gb60004))) (fun _ hk => hk.2) (.int .i64 ((rd_T36 l0 x15_1).f0))) (fun _ hk => hk.2) (.int .i64 ((rd_T36 l0 x15_1).f1.f0))) (fun _ hk => hk.2) (.slice A60003_2 ((rd_T36 l0 x15_1).f1.f1).length c60003_2)) (fun _ h_ => h_.1)))).2.2) hb); have n5_ := Aside0.mk (blk_below (g := gb60004) (o := .cells #[.int .i64 ((rd_T36 l0 x15_1).f0), .int .i64 ((rd_T36 l0 x15_1).f1.f0), .slice A60003_2 ((rd_T36 l0 x15_1).f1.f1).length c60003_2] 36 (0, 0)) (by (with_reducible repeat (first | refine blk_drewN ?_ _ | refine blk_drew ?_ | refine blk_alloc ?_ _)); refine blk_put (cs := #[.int .i64 ((rd_T36 l0 x15_1).f0), .int .i64 ((rd_T36 l0 x15_1).f1.f0), .slice none 0 0]) ?_ 2 _ rfl; (with_reducible repeat (first | refine blk_drewN ?_ _ | refine blk_drew ?_ | refine blk_alloc ?_ _)); refine blk_put (cs := #[.int .i64 ((rd_T36 l0 x15_1).f0), .int .i64 0, .slice none 0 0]) ?_ 1 _ rfl; (with_reducible repeat (first | refine blk_drewN ?_ _ | refine blk_drew ?_ | refine blk_alloc ?_ _)); refine blk_put (cs := #[.int .i64 0, .int .i64 0, .slice none 0 0]) ?_ 0 _ rfl; (with_reducible repeat (first | refine blk_drewN ?_ _ | refine blk_drew ?_ | refine blk_alloc ?_ _)); exact BK60004.out) hb); have n6_ := Aside0.mk (bs_ hb); clear HO_5 HO_13 HL60003_2 BK60001 HR60003_2 BK60004 HB; have HO_5 := n0_; have HO_13 := n1_; have HL60003_2 := n2_; have BK60001 := n3_; have HR60003_2 := n4_; have BK60004 := n5_; have HB := n6_; clear n0_ n1_ n2_ n3_ n4_ n5_ n6_; (try clear hb); (try clear hb2); (try clear hk); (try clear hi)) | ((with_reducible refine gate_dst (N := 9) rfl ?_); refine box_event ?hg (N := 9) ?hd (cs := #[.int .i64 0, .int .i64 0]) (t := 49) ?hr ?_; (case hd => rfl); (case hg => rfl); (case hr => first | (go_simp; done) | (go_simp; rfl)); intro gb60007 hg w32 hbox hb; have n0_ := Aside0.mk (Kd.N_below (Kd.N_elderB (fN_ HO_5.out) gb60007 (Nat.le_of_eq hg.symm)) hb); have n1_ := Aside0.mk (Kd.V_below (Kd.V_elderB (fV_ HO_13.out) gb60007 (Nat.le_of_eq hg.symm)) hb); have n2_ := Aside0.mk (Kd.V_below (Kd.V_elderB (fV_ HL60003_2.out) gb60007 (Nat.le_of_eq hg.symm)) hb); have n3_ := Aside0.mk (blk_below (g := gb60001) (o := .cells #[.int .i64 a1_0, .int .i64 a1_1] 49 (0, 0)) (fb_ BK60001.out) hb); have n4_ := Aside0.mk (Kd.C_below (by repeat (first | (with_reducible exact HR60003_2.out) | (with_reducible refine Kd.C_alloc ?_ _) | (with_reducible refine Kd.C_drewN ?_ _) | (with_reducible refine Kd.C_drew ?_) | exact HR60003_2.out)) hb); have n5_ := Aside0.mk (blk_below (g := gb60004) (o := .cells #[.int .i64 ((rd_T36 l0 x15_1).f0), .int .i64 ((rd_T36 l0 x15_1).f1.f0), .slice A60003_2 ((rd_T36 l0 x15_1).f1.f1).length c60003_2] 36 (0, 0)) (fb_ BK60004.out) hb); have n6_ := Aside0.mk (bs_ hb); have n7_ := Aside0.mk (hbox); have n8_ := Aside0.mk ((by rw [hg]; exact bz_ : w.heap.size ≤ gb60007)); have n9_ := Aside0.mk ((by rw [hg]; exact bz_ : w.heap.size ≤ gb60007)); have n10_ := Aside0.mk ((by rw [hg]; exact Nat.ne_of_lt (blk_lt (g := gb60001) (o := .cells #[.int .i64 a1_0, .int .i64 a1_1] 49 (0, 0)) (fb_ BK60001.out)) : gb60001 ≠ gb60007)); have n11_ := Aside0.mk ((by rw [hg]; exact Nat.ne_of_gt (blk_lt (g := gb60001) (o := .cells #[.int .i64 a1_0, .int .i64 a1_1] 49 (0, 0)) (fb_ BK60001.out)) : gb60007 ≠ gb60001)); have n12_ := Aside0.mk ((by rw [hg]; exact Nat.ne_of_lt (blk_lt (g := gb60004) (o := .cells #[.int .i64 ((rd_T36 l0 x15_1).f0), .int .i64 ((rd_T36 l0 x15_1).f1.f0), .slice A60003_2 ((rd_T36 l0 x15_1).f1.f1).length c60003_2] 36 (0, 0)) (fb_ BK60004.out)) : gb60004 ≠ gb60007)); have n13_ := Aside0.mk ((by rw [hg]; exact Nat.ne_of_gt (blk_lt (g := gb60004) (o := .cells #[.int .i64 ((rd_T36 l0 x15_1).f0), .int .i64 ((rd_T36 l0 x15_1).f1.f0), .slice A60003_2 ((rd_T36 l0 x15_1).f1.f1).length c60003_2] 36 (0, 0)) (fb_ BK60004.out)) : gb60007 ≠ gb60004)); clear HO_5 HO_13 HL60003_2 BK60001 HR60003_2 BK60004 HB; have HO_5 := n0_; have HO_13 := n1_; have HL60003_2 := n2_; have BK60001 := n3_; have HR60003_2 := n4_; have BK60004 := n5_; have HB := n6_; have BK60007 := n7_; have GW60007 := n8_; have GE60007 := n9_; have NB60001_60007 := n10_; have NB60007_60001 := n11_; have NB60004_60007 := n12_; have NB60007_60004 := n13_; clear n0_ n1_ n2_ n3_ n4_ n5_ n6_ n7_ n8_ n9_ n10_ n11_ n12_ n13_ hb hbox hg; have hnb33 := NB60007_60001.out; have hnc33 := NB60001_60007.out; have hnb34 := NB60007_60004.out; have hnc34 := NB60004_60007.out; have hcz35_0 : w32.cell? ⟨gb60007, 0, none⟩ = some (.int .i64 0) := (blk_cell BK60007.out 0).trans rfl; have hcz35_1 : w32.cell? ⟨gb60007, 1, none⟩ = some (.int .i64 0) := (blk_cell BK60007.out 1).trans rfl; have hfz35_0 := blk_frozen BK60007.out 0; have hfz35_1 := blk_frozen BK60007.out 1; have hcz36_0 : w32.cell? ⟨gb60004, 0, none⟩ = some (.int .i64 ((rd_T36 l0 x15_1).f0)) := (blk_cell BK60004.out 0).trans rfl; have hcz36_1 : w32.cell? ⟨gb60004, 1, none⟩ = some (.int .i64 ((rd_T36 l0 x15_1).f1.f0)) := (blk_cell BK60004.out 1).trans rfl; have hcz36_2 : w32.cell? ⟨gb60004, 2, none⟩ = some (.slice A60003_2 ((rd_T36 l0 x15_1).f1.f1).length c60003_2) := (blk_cell BK60004.out 2).trans rfl; have hfz36_0 := blk_frozen BK60004.out 0; have hfz36_1 := blk_frozen BK60004.out 1; have hfz36_2 := blk_frozen BK60004.out 2))
        go_roundg k1
        case measure => have := HK1.out; omega
        case rel => exact ⟨(x5_1), (wrap64 (x6_1 + ((rd_T36 l0 x15_1).f0))), (wrap64 (x15_1 + 1)), (by first | rfl | (simp; done) | (simp [*]; done)), (by first | rfl | (simp; done) | (simp [*]; done)), H', ⟨by have := HK1.out; omega⟩, ⟨by (with_reducible repeat (first | apply Kd.N_alloc | apply Kd.N_drewN | apply Kd.N_drew)); exact Kd.N_mono (Kd.N_far (p := ⟨gb60007, 1, none⟩) (Kd.N_far (p := ⟨gb60007, 0, none⟩) (Kd.N_mono HO_5.out (fun k_ hk => (⟨hk, hk.2⟩ : _ ∧ k_ ≠ gb60007))) (fun _ hk => hk.2) (.int .i64 t60005)) (fun _ hk => hk.2) (.int .i64 t60006)) (fun _ hk => ⟨hk.1.1.1.1, hk.1.1.1.2⟩)⟩, ⟨by (with_reducible repeat (first | apply Kd.V_alloc | apply Kd.V_drewN | apply Kd.V_drew)); exact Kd.V_mono (Kd.V_far (p := ⟨gb60007, 1, none⟩) (Kd.V_far (p := ⟨gb60007, 0, none⟩) (Kd.V_mono HO_13.out (fun k_ hk => (⟨hk, hk.2⟩ : _ ∧ k_ ≠ gb60007))) (fun _ hk => hk.2) (.int .i64 t60005)) (fun _ hk => hk.2) (.int .i64 t60006)) (fun _ hk => ⟨hk.1.1.1.1, ⟨hk.1.1.1.2.1, hk.1.1.1.2.2⟩⟩)⟩, ⟨by (with_reducible repeat (first | refine blk_drewN ?_ _ | refine blk_drew ?_ | refine blk_alloc ?_ _)); refine blk_far ?_ NB60001_60007.out _; (with_reducible repeat (first | refine blk_drewN ?_ _ | refine blk_drew ?_ | refine blk_alloc ?_ _)); refine blk_far ?_ NB60001_60007.out _; (with_reducible repeat (first | refine blk_drewN ?_ _ | refine blk_drew ?_ | refine blk_alloc ?_ _)); exact BK60001.out⟩, ⟨be_⟩⟩
      ·rw [if_neg c9] at H
       exact absurd H (by simp)
     ·rw [if_neg c8] at H
      exact absurd H (by simp)
    ·rw [if_neg c7] at H
     have c7b0 : decide (x15_1 < (l0.length : Int)) = false := decide_eq_false c7
     clear c7
     obtain rfl := Option.some.inj H
     go_wp2
     go_ret
     exact ⟨_, er_, by (with_reducible repeat (first | apply Kd.N_alloc | apply Kd.N_drewN | apply Kd.N_drew)); exact Kd.N_mono HO_5.out (fun _ hk => hk.1), be_⟩
 ·rw [if_neg c4] at H
  have c4b0 : (t60002 == 0) = false := beq_eq_false_iff_ne.mpr c4
  have c4b1 : (t60002 != 0) = true := bne_iff_ne.mpr c4
  obtain rfl := Option.some.inj H
  go_enter Try.func60, Try.ntmps60
  go_wp2_with (first | ((with_reducible refine gate_dst (N := 3) rfl ?_); refine box_event ?hg (N := 3) ?hd (cs := #[.int .i64 a1_0, .int .i64 a1_1]) (t := 49) ?hr ?_; (case hd => rfl); (case hg => rfl); (case hr => first | (go_simp; done) | (go_simp; rfl)); intro gb60001 hg w37 hbox hb; have n0_ := Aside0.mk (Kd.V_below (Kd.V_elderB (fV_ HO0.out) gb60001 (Nat.le_of_eq hg.symm)) hb); have n1_ := Aside0.mk (bs_ hb); have n2_ := Aside0.mk (hbox); have n3_ := Aside0.mk ((by rw [hg]; exact bz_ : w.heap.size ≤ gb60001)); have n4_ := Aside0.mk ((by rw [hg]; exact bz_ : w.heap.size ≤ gb60001)); clear HO0 HB; have HO0 := n0_; have HB := n1_; have BK60001 := n2_; have GW60001 := n3_; have GE60001 := n4_; clear n0_ n1_ n2_ n3_ n4_; clear hb hbox hg) | ((with_reducible refine gate_callee (f := 25) rfl ?_); refine goesL_ (some 11) rfl rfl Try.func25 (by kernel_rfl) rfl #[.slice A0 l0.length c0] rfl la_ ?_; (with_reducible refine (solid_Check.calls k _ _ l0 t60002 _ ?side1 ?side2 A3.out).mono ?_); (case side1 => repeat (first | exact (Kd.V_reads' HO0.out).2.2 | (with_reducible refine Kd.C_alloc ?_ _) | (with_reducible refine Kd.C_drewN ?_ _) | (with_reducible refine Kd.C_drew ?_))); (case side2 => exact (Kd.V_reads' HO0.out).2.1); rintro e w38 ⟨rfl, hb⟩; refine ⟨_, rfl, ?_⟩; have n0_ := Aside0.mk (Kd.V_below (fV_ HO0.out) hb); have n1_ := Aside0.mk (blk_below (g := gb60001) (o := .cells #[.int .i64 a1_0, .int .i64 a1_1] 49 (0, 0)) (fb_ BK60001.out) hb); have n2_ := Aside0.mk (bs_ hb); clear HO0 BK60001 HB; have HO0 := n0_; have BK60001 := n1_; have HB := n2_; clear n0_ n1_ n2_; (try clear hb); (try clear hb2); (try clear hk); (try clear hi)))
  go_ret
  exact ⟨_, er_, by first | exact Kd.S_nil _ _ _ _ _ | exact Kd.N_nil _ _ _ _ _ | exact Kd.V_nil _ _ _ _ _ | exact Kd.Q_nil _ _ _ _ _ | exact Kd.R_nil _ _ _ _ _, be_⟩

end Go.Proofs.Ytdbjoopkliafeaa.P

end
section
namespace Go.Proofs.Ytdbjoopkliafeaa.P
open Go Go.RowKit Go.Proofs.YtdbjoopkliafeaaW.PrintWords Go.Proofs.YtdbjoopkliafeaaW.PrintLast Go.Proofs.YtdbjoopkliafeaaW.PrintMore
attribute [local go_sem] max2_int min2_int max_two min_two max_three min_three max_four min_four max_five min_eight max_eight   -- for this text's walks alone
set_option linter.unusedVariables false
set_option linter.unusedSimpArgs false

def solid_Length.f (k : Nat) (l0 : List (S36)) : Option (Int) := (solid_whole.f).bind fun bt33001 => ((solid_parts.f k l0 bt33001.1 bt33001.2).bind fun t33003 => (if (t33003.length : Int) = 0 then (some 0) else (if 0 ≤ (wrap64 ((t33003.length : Int) - 1)) then (if (wrap64 ((t33003.length : Int) - 1)) < (t33003.length : Int) then (some ((rd_T72 t33003 (wrap64 ((t33003.length : Int) - 1))).f0.f1)) else (none)) else (none))))
theorem solid_Length.mono : ∀ a0 k, LeO (solid_Length.f k a0) (solid_Length.f (k + 1) a0) := by
 intro a0 k
 unfold solid_Length.f
 repeat' first
   | (with_reducible exact solid_parts.mono _ _ _ _)
   | (with_reducible exact LeO.refl _)
   | (with_reducible exact LeO.none _)
   | (with_reducible refine LeO.ite ?_ ?_)
   | (with_reducible refine LeO.bind ?_ (fun _ => ?_))
   | exact solid_parts.mono _ _ _ _
   | exact LeO.none _
   | refine LeO.ite ?_ ?_
   | refine LeO.bind ?_ (fun _ => ?_)
set_option maxHeartbeats 8000000 in
set_option maxRecDepth 100000 in
theorem solid_Length.calls (k : Nat) (A0 : Option Addr) (c0 : Nat) (l0 : List (S36)) (r : Int) (w : World) (hr0 : Kd.C k36 w A0 l0.length l0) (hc0 : l0.length ≤ c0) (h : solid_Length.f k l0 = some r) :
  Calls Try.prog 33 #[.slice A0 l0.length c0] w fun e w' => e = .returned (.int .i64 r) ∧ Below w.heap.size w w' := by
 have HR0 := Aside0.mk hr0
 have HC0 := Aside0.mk hc0
 clear hr0 hc0
 have HB := Aside0.mk (Below.refl w.heap.size w)
 have H : ((solid_whole.f).bind fun bt33001 => ((solid_parts.f k l0 bt33001.1 bt33001.2).bind fun t33003 => (if (t33003.length : Int) = 0 then (some 0) else (if 0 ≤ (wrap64 ((t33003.length : Int) - 1)) then (if (wrap64 ((t33003.length : Int) - 1)) < (t33003.length : Int) then (some ((rd_T72 t33003 (wrap64 ((t33003.length : Int) - 1))).f0.f1)) else (none)) else (none))))) = some r := h
 clear h
 replace H := Option.bind_eq_some_iff.mp H
 obtain ⟨⟨t33001, t33002⟩, A20, H⟩ := H
 replace H : ((solid_parts.f k l0 t33001 t33002).bind fun t33003 => (if (t33003.length : Int) = 0 then (some 0) else (if 0 ≤ (wrap64 ((t33003.length : Int) - 1)) then (if (wrap64 ((t33003.length : Int) - 1)) < (t33003.length : Int) then (some ((rd_T72 t33003 (wrap64 ((t33003.length : Int) - 1))).f0.f1)) else (none)) else (none)))) = some r := H
 have A2 := Aside0.mk A20
 clear A20
 replace H := Option.bind_eq_some_iff.mp H
 obtain ⟨t33003, A30, H⟩ := H
 replace H : (if (t33003.length : Int) = 0 then (some 0) else (if 0 ≤ (wrap64 ((t33003.length : Int) - 1)) then (if (wrap64 ((t33003.length : Int) - 1)) < (t33003.length : Int) then (some ((rd_T72 t33003 (wrap64 ((t33003.length : Int) - 1))).f0.f1)) else (none)) else (none))) = some r := H
 have A3 := Aside0.mk A30
 clear A30
 by_cases c4 : (t33003.length : Int) = 0
 ·rw [if_pos c4] at H
  have c4b0 : ((t33003.length : Int) == 0) = true := beq_iff_eq.mpr c4
  have c4b1 : ((t33003.length : Int) != 0) = false := bne_eq_false_iff_eq.mpr c4
  clear c4
  obtain rfl := Option.some.inj H
  go_enter Try.func33, Try.ntmps33
  go_wp2_with (first | ((with_reducible refine gate_callee (f := 47) rfl ?_); refine goesL_ (some 5) rfl rfl Try.func47 (by kernel_rfl) rfl #[] rfl la_ ?_; (with_reducible refine (solid_whole.calls  t33001 t33002 _ A2.out).mono ?_); rintro e w5 ⟨rfl, hb⟩; refine ⟨_, rfl, ?_⟩; have n0_ := Aside0.mk (bs_ hb); clear HB; have HB := n0_; clear n0_; (try clear hb); (try clear hb2); (try clear hk); (try clear hi)) | ((with_reducible refine gate_callee (f := 60) rfl ?_); refine goesL_ (some 6) rfl rfl Try.func60 (by kernel_rfl) rfl #[.slice A0 l0.length c0, .agg #[.int .i64 t33001, .int .i64 t33002]] rfl la_ ?_; (with_reducible refine (solid_parts.calls k (fun k_ => k_ < w.heap.size) _ _ l0 t33001 t33002 t33003 _ ?side1 A3.out).mono ?_); (case side1 => exact Kd.V_mk HC0.out (Kd.F_below (Kd.C_F k36_heap HR0.out) be_)); rintro e w6 ⟨v33004, rfl, ho0, hb⟩; refine ⟨_, rfl, ?_⟩; have n0_ := Aside0.mk (Kd.N_lower (Kd.N_mono (ok' := fun k_ => True) ho0 (fun k_ hk_ => trivial)) bz_); have n1_ := Aside0.mk (bs_ hb); clear HB; have HO33005 := n0_; have HB := n1_; clear n0_ n1_; (try clear hb); (try clear hb2); (try clear hk); (try clear hi); (try clear ho0); obtain ⟨Ao7, co7, eo7⟩ := Kd.N_slice HO33005.out; subst eo7))
  go_ret
  exact ⟨er_, be_⟩
 ·rw [if_neg c4] at H
  have c4b0 : ((t33003.length : Int) == 0) = false := beq_eq_false_iff_ne.mpr c4
  have c4b1 : ((t33003.length : Int) != 0) = true := bne_iff_ne.mpr c4
  have c4b2 : ¬ (t33003 = []) := fun h_ => c4 (by rw [h_]; rfl)
  obtain ⟨ji8, hji8⟩ : ∃ j_ : Int, (wrap64 ((t33003.length : Int) - 1)) = j_ := ⟨_, rfl⟩
  replace H : (if 0 ≤ (ji8) then (if (ji8) < (t33003.length : Int) then (some ((rd_T72 t33003 (ji8)).f0.f1)) else (none)) else (none)) = some r := by first | (rw [hji8] at H; exact H) | (simp only [hji8] at H ⊢; exact H)
  (try rw [hji8] at A2)
  (try rw [hji8] at A3)
  have hji8w : (IntKind.i64.wrap ((t33003.length : Int) - 1)) = ji8 := (i64_w _).trans hji8
  by_cases c9 : 0 ≤ (ji8)
  ·rw [if_pos c9] at H
   have c9b0 : decide (0 ≤ (ji8)) = true := decide_eq_true c9
   clear c9
   by_cases c10 : (ji8) < (t33003.length : Int)
   ·rw [if_pos c10] at H
    have c10b0 : decide ((ji8) < (t33003.length : Int)) = true := decide_eq_true c10
    clear c10
    obtain rfl := Option.some.inj H
    go_enter Try.func33, Try.ntmps33
    go_wp2_with (first | ((with_reducible refine gate_callee (f := 47) rfl ?_); refine goesL_ (some 5) rfl rfl Try.func47 (by kernel_rfl) rfl #[] rfl la_ ?_; (with_reducible refine (solid_whole.calls  t33001 t33002 _ A2.out).mono ?_); rintro e w11 ⟨rfl, hb⟩; refine ⟨_, rfl, ?_⟩; have n0_ := Aside0.mk (bs_ hb); clear HB; have HB := n0_; clear n0_; (try clear hb); (try clear hb2); (try clear hk); (try clear hi)) | ((with_reducible refine gate_callee (f := 60) rfl ?_); refine goesL_ (some 6) rfl rfl Try.func60 (by kernel_rfl) rfl #[.slice A0 l0.length c0, .agg #[.int .i64 t33001, .int .i64 t33002]] rfl la_ ?_; (with_reducible refine (solid_parts.calls k (fun k_ => k_ < w.heap.size) _ _ l0 t33001 t33002 t33003 _ ?side1 A3.out).mono ?_); (case side1 => exact Kd.V_mk HC0.out (Kd.F_below (Kd.C_F k36_heap HR0.out) be_)); rintro e w12 ⟨v33004, rfl, ho0, hb⟩; refine ⟨_, rfl, ?_⟩; have n0_ := Aside0.mk (Kd.N_lower (Kd.N_mono (ok' := fun k_ => True) ho0 (fun k_ hk_ => trivial)) bz_); have n1_ := Aside0.mk (bs_ hb); clear HB; have HO33005 := n0_; have HB := n1_; clear n0_ n1_; (try clear hb); (try clear hb2); (try clear hk); (try clear hi); (try clear ho0); obtain ⟨Ao13, co13, eo13⟩ := Kd.N_slice HO33005.out; subst eo13; have p33006 : 0 ≤ ((ji8) : Int) := of_decide_eq_true (by first | (with_reducible assumption) | assumption); have q33006 : (ji8) < (t33003.length : Int) := of_decide_eq_true (by first | (with_reducible assumption) | assumption); obtain ⟨ad33006, A33006_3, c33006_3, e33006, hx33006_0, hx33006_1, hx33006_2, hx33006_3, hl33006_3, hi33006_3⟩ := at_T72 (Kd.N_reads' HO33005.out).2.2 (ji8) p33006 q33006; cases e33006; obtain ⟨ce33006, hce33006, hMe33006, hcc33006⟩ := Kd.N_get HO33005.out z72 (ji8) p33006 (by first | exact q33006 | exact of_decide_eq_true (by first | (with_reducible assumption) | assumption) | (have e_ := (Kd.N_reads' HO33005.out).1; omega)); obtain ⟨ua33006_3, uc33006_3, rfl, ul33006_3, ge33006_3⟩ := k72_openF hMe33006; have hv33006_3 := hcc33006 3 _ rfl; rw [add_field _ _ 3 (by omega)] at hv33006_3; replace hv33006_3 := Option.some.inj (hv33006_3.symm.trans hx33006_3); injection hv33006_3 with hva_ hvn_ hvc_; rw [hva_] at ge33006_3; rw [hvc_] at ul33006_3; have HL33006_3 := Aside0.mk (show Kd.V k49 49 _ w.heap.size _ _ ((rd_T72 t33003 (ji8)).f1.f1) from Kd.V_mk ul33006_3 ge33006_3); clear hva_ hvn_ hvc_ ge33006_3 ul33006_3 hcc33006 hce33006; have HR33006_3 := Aside0.mk hi33006_3; have HC33006_3 := Aside0.mk hl33006_3; clear hi33006_3 hl33006_3; replace p33006 := eq_true p33006; replace q33006 := eq_true q33006))
    go_ret
    exact ⟨by first | rfl | (simp [errW_none, errW_some] <;> rfl) | (simp only [← hji8]; first | rfl | (simp [errW_none, errW_some] <;> rfl)) | (simp [*, errW_none, errW_some] <;> rfl), be_⟩
   ·rw [if_neg c10] at H
    exact absurd H (by simp)
  ·rw [if_neg c9] at H
   exact absurd H (by simp)

end Go.Proofs.Ytdbjoopkliafeaa.P

end
section
namespace Go.Proofs.Ytdbjoopkliafeaa.P
open Go Go.RowKit Go.Proofs.YtdbjoopkliafeaaW.PrintWords Go.Proofs.YtdbjoopkliafeaaW.PrintLast Go.Proofs.YtdbjoopkliafeaaW.PrintMore
attribute [local go_sem] max2_int min2_int max_two min_two max_three min_three max_four min_four max_five min_eight max_eight   -- for this text's walks alone
set_option linter.unusedVariables false
set_option linter.unusedSimpArgs false

def shape_Taper.f (k : Nat) (l0 : List (S36)) : Option (Int) := (solid_Check.f k l0).bind fun t21001 => (if t21001 = 0 then (if 0 < (l0.length : Int) then ((shape_Diameter.f k ((rd_T36 l0 0).f1.f0) ((rd_T36 l0 0).f1.f1)).bind fun t21003 => ((shape_Top.f k l0).bind fun t21004 => ((solid_Length.f k l0).bind fun t21005 => (if t21005 = 0 then (none) else (some (wrap64 (Int.tdiv (wrap64 ((mx 0 (wrap64 (t21003 - t21004))) * 10000)) t21005))))))) else (none)) else (some 0))
theorem shape_Taper.mono : ∀ a0 k, LeO (shape_Taper.f k a0) (shape_Taper.f (k + 1) a0) := by
 intro a0 k
 unfold shape_Taper.f
 repeat' first
   | (with_reducible exact shape_Diameter.mono _ _ _)
   | (with_reducible exact shape_Top.mono _ _)
   | (with_reducible exact solid_Check.mono _ _)
   | (with_reducible exact solid_Length.mono _ _)
   | (with_reducible exact LeO.refl _)
   | (with_reducible exact LeO.none _)
   | (with_reducible refine LeO.ite ?_ ?_)
   | (with_reducible refine LeO.bind ?_ (fun _ => ?_))
   | exact shape_Diameter.mono _ _ _
   | exact shape_Top.mono _ _
   | exact solid_Check.mono _ _
   | exact solid_Length.mono _ _
   | exact LeO.none _
   | refine LeO.ite ?_ ?_
   | refine LeO.bind ?_ (fun _ => ?_)
set_option maxHeartbeats 8000000 in
set_option maxRecDepth 100000 in
theorem shape_Taper.calls (k : Nat) (A0 : Option Addr) (c0 : Nat) (l0 : List (S36)) (r : Int) (w : World) (hr0 : Kd.C k36 w A0 l0.length l0) (hc0 : l0.length ≤ c0) (h : shape_Taper.f k l0 = some r) :
  Calls Try.prog 21 #[.slice A0 l0.length c0] w fun e w' => e = .returned (.int .i64 r) ∧ Below w.heap.size w w' := by
 have hu24 := Try.underlying24
 have HR0 := Aside0.mk hr0
 have HC0 := Aside0.mk hc0
 clear hr0 hc0
 have HB := Aside0.mk (Below.refl w.heap.size w)
 have H : ((solid_Check.f k l0).bind fun t21001 => (if t21001 = 0 then (if 0 < (l0.length : Int) then ((shape_Diameter.f k ((rd_T36 l0 0).f1.f0) ((rd_T36 l0 0).f1.f1)).bind fun t21003 => ((shape_Top.f k l0).bind fun t21004 => ((solid_Length.f k l0).bind fun t21005 => (if t21005 = 0 then (none) else (some (wrap64 (Int.tdiv (wrap64 ((mx 0 (wrap64 (t21003 - t21004))) * 10000)) t21005))))))) else (none)) else (some 0))) = some r := h
 clear h
 replace H := Option.bind_eq_some_iff.mp H
 obtain ⟨t21001, A20, H⟩ := H
 replace H : (if t21001 = 0 then (if 0 < (l0.length : Int) then ((shape_Diameter.f k ((rd_T36 l0 0).f1.f0) ((rd_T36 l0 0).f1.f1)).bind fun t21003 => ((shape_Top.f k l0).bind fun t21004 => ((solid_Length.f k l0).bind fun t21005 => (if t21005 = 0 then (none) else (some (wrap64 (Int.tdiv (wrap64 ((mx 0 (wrap64 (t21003 - t21004))) * 10000)) t21005))))))) else (none)) else (some 0)) = some r := H
 have A2 := Aside0.mk A20
 clear A20
 by_cases c3 : t21001 = 0
 ·rw [if_pos c3] at H
  have c3b0 : (t21001 == 0) = true := beq_iff_eq.mpr c3
  have c3b1 : (t21001 != 0) = false := bne_eq_false_iff_eq.mpr c3
  clear c3
  by_cases c4 : 0 < (l0.length : Int)
  ·rw [if_pos c4] at H
   have c4b0 : decide (0 < (l0.length : Int)) = true := decide_eq_true c4
   have c4b1 : decide (0 < l0.length) = true := decide_eq_true (by omega)
   clear c4
   replace H := Option.bind_eq_some_iff.mp H
   obtain ⟨t21003, A50, H⟩ := H
   replace H : ((shape_Top.f k l0).bind fun t21004 => ((solid_Length.f k l0).bind fun t21005 => (if t21005 = 0 then (none) else (some (wrap64 (Int.tdiv (wrap64 ((mx 0 (wrap64 (t21003 - t21004))) * 10000)) t21005)))))) = some r := H
   have A5 := Aside0.mk A50
   clear A50
   replace H := Option.bind_eq_some_iff.mp H
   obtain ⟨t21004, A60, H⟩ := H
   replace H : ((solid_Length.f k l0).bind fun t21005 => (if t21005 = 0 then (none) else (some (wrap64 (Int.tdiv (wrap64 ((mx 0 (wrap64 (t21003 - t21004))) * 10000)) t21005))))) = some r := H
   have A6 := Aside0.mk A60
   clear A60
   obtain ⟨ji7, hji7⟩ : ∃ j_ : Int, (mx 0 (wrap64 (t21003 - t21004))) = j_ := ⟨_, rfl⟩
   replace H : ((solid_Length.f k l0).bind fun t21005 => (if t21005 = 0 then (none) else (some (wrap64 (Int.tdiv (wrap64 ((ji7) * 10000)) t21005))))) = some r := by first | (rw [hji7] at H; exact H) | (simp only [hji7] at H ⊢; exact H)
   (try rw [hji7] at A2)
   (try rw [hji7] at A5)
   (try rw [hji7] at A6)
   (try (have hji7l : 0 ≤ ji7 := by (rw [← hji7]; unfold mx; (repeat' split) <;> omega)))
   (try (have hji7m : 0 ≤ ji7 := by omega))
   have hji7_ : (if 0 < (wrap64 (t21003 - t21004)) then (wrap64 (t21003 - t21004)) else 0) = ji7 := hji7
   replace H := Option.bind_eq_some_iff.mp H
   obtain ⟨t21005, A80, H⟩ := H
   replace H : (if t21005 = 0 then (none) else (some (wrap64 (Int.tdiv (wrap64 ((ji7) * 10000)) t21005)))) = some r := H
   have A8 := Aside0.mk A80
   clear A80
   by_cases c9 : t21005 = 0
   ·rw [if_pos c9] at H
    exact absurd H (by simp)
   ·rw [if_neg c9] at H
    have c9b0 : (t21005 == 0) = false := beq_eq_false_iff_ne.mpr c9
    have c9b1 : (t21005 != 0) = true := bne_iff_ne.mpr c9
    obtain rfl := Option.some.inj H
    go_enter Try.func21, Try.ntmps21
    go_wp2_with (first | ((with_reducible refine gate_callee (f := 25) rfl ?_); refine goesL_ (some 4) rfl rfl Try.func25 (by kernel_rfl) rfl #[.slice A0 l0.length c0] rfl la_ ?_; (with_reducible refine (solid_Check.calls k _ _ l0 t21001 _ ?side1 ?side2 A2.out).mono ?_); (case side1 => repeat (first | exact HR0.out | (with_reducible refine Kd.C_alloc ?_ _) | (with_reducible refine Kd.C_drewN ?_ _) | (with_reducible refine Kd.C_drew ?_))); (case side2 => exact HC0.out); rintro e w10 ⟨rfl, hb⟩; refine ⟨_, rfl, ?_⟩; have n0_ := Aside0.mk (bs_ hb); clear HB; have HB := n0_; clear n0_; (try clear hb); (try clear hb2); (try clear hk); (try clear hi); have p21002 : 0 ≤ (0 : Int) := (by omega); have q21002 : 0 < (l0.length : Int) := of_decide_eq_true (by first | (with_reducible assumption) | assumption); obtain ⟨ad21002, A21002_2, c21002_2, e21002, hx21002_0, hx21002_1, hx21002_2, hl21002_2, hi21002_2⟩ := at_T36 HR0.out 0 p21002 q21002; cases e21002; have qi21002 : (0 < l0.length) = True := eq_true (by omega); (try rw [show ((0 : Int)).toNat = 0 from rfl] at hx21002_0); (try rw [show 0 * 3 = 0 from rfl] at hx21002_0); (try rw [Addr.add_zero'] at hx21002_0); (try rw [show ((0 : Int)).toNat = 0 from rfl] at hx21002_1); (try rw [show 0 * 3 = 0 from rfl] at hx21002_1); (try rw [Addr.add_zero'] at hx21002_1); (try rw [show ((0 : Int)).toNat = 0 from rfl] at hx21002_2); (try rw [show 0 * 3 = 0 from rfl] at hx21002_2); (try rw [Addr.add_zero'] at hx21002_2); replace hx21002_0 := (HB.out.cell (World.block_lt_of_cell? w _ hx21002_0)).trans hx21002_0; replace hx21002_1 := (HB.out.cell (World.block_lt_of_cell? w _ hx21002_1)).trans hx21002_1; replace hx21002_2 := (HB.out.cell (World.block_lt_of_cell? w _ hx21002_2)).trans hx21002_2; have HR21002_2 := Aside0.mk hi21002_2; have HC21002_2 := Aside0.mk hl21002_2; clear hi21002_2 hl21002_2; replace p21002 := eq_true p21002; replace q21002 := eq_true q21002) | ((with_reducible refine gate_callee (f := 12) rfl ?_); refine goesL_ (some 10) rfl rfl Try.func12 (by kernel_rfl) rfl #[.agg #[.int .i64 ((rd_T36 l0 0).f1.f0), .slice A21002_2 ((rd_T36 l0 0).f1.f1).length c21002_2]] rfl la_ ?_; (with_reducible refine (shape_Diameter.calls k ((rd_T36 l0 0).f1.f0) _ _ ((rd_T36 l0 0).f1.f1) t21003 _ ?side1 ?side2 A5.out).mono ?_); (case side1 => repeat (first | exact (Kd.C_below HR21002_2.out HB.out) | (with_reducible refine Kd.C_alloc ?_ _) | (with_reducible refine Kd.C_drewN ?_ _) | (with_reducible refine Kd.C_drew ?_))); (case side2 => exact HC21002_2.out); rintro e w11 ⟨rfl, hb⟩; refine ⟨_, rfl, ?_⟩; have n0_ := Aside0.mk (bs_ hb); clear HB; have HB := n0_; clear n0_; (try clear hb); (try clear hb2); (try clear hk); (try clear hi)) | ((with_reducible refine gate_callee (f := 19) rfl ?_); refine goesL_ (some 12) rfl rfl Try.func19 (by kernel_rfl) rfl #[.slice (some ad21002) l0.length c0] rfl la_ ?_; (with_reducible refine (shape_Top.calls k _ _ l0 t21004 _ ?side1 ?side2 A6.out).mono ?_); (case side1 => repeat (first | exact (Kd.C_below HR0.out HB.out) | (with_reducible refine Kd.C_alloc ?_ _) | (with_reducible refine Kd.C_drewN ?_ _) | (with_reducible refine Kd.C_drew ?_))); (case side2 => exact HC0.out); rintro e w12 ⟨rfl, hb⟩; refine ⟨_, rfl, ?_⟩; have n0_ := Aside0.mk (bs_ hb); clear HB; have HB := n0_; clear n0_; (try clear hb); (try clear hb2); (try clear hk); (try clear hi)) | ((with_reducible refine gate_callee (f := 33) rfl ?_); refine goesL_ (some 17) rfl rfl Try.func33 (by kernel_rfl) rfl #[.slice (some ad21002) l0.length c0] rfl la_ ?_; (with_reducible refine (solid_Length.calls k _ _ l0 t21005 _ ?side1 ?side2 A8.out).mono ?_); (case side1 => repeat (first | exact (Kd.C_below HR0.out HB.out) | (with_reducible refine Kd.C_alloc ?_ _) | (with_reducible refine Kd.C_drewN ?_ _) | (with_reducible refine Kd.C_drew ?_))); (case side2 => exact HC0.out); rintro e w13 ⟨rfl, hb⟩; refine ⟨_, rfl, ?_⟩; have n0_ := Aside0.mk (bs_ hb); clear HB; have HB := n0_; clear n0_; (try clear hb); (try clear hb2); (try clear hk); (try clear hi)))
    go_ret
    exact ⟨by first | rfl | (simp [errW_none, errW_some] <;> rfl) | (simp only [← hji7]; first | rfl | (simp [errW_none, errW_some] <;> rfl)) | (simp [*, errW_none, errW_some] <;> rfl), be_⟩
  ·rw [if_neg c4] at H
   exact absurd H (by simp)
 ·rw [if_neg c3] at H
  have c3b0 : (t21001 == 0) = false := beq_eq_false_iff_ne.mpr c3
  have c3b1 : (t21001 != 0) = true := bne_iff_ne.mpr c3
  obtain rfl := Option.some.inj H
  go_enter Try.func21, Try.ntmps21
  go_wp2_with (first | ((with_reducible refine gate_callee (f := 25) rfl ?_); refine goesL_ (some 4) rfl rfl Try.func25 (by kernel_rfl) rfl #[.slice A0 l0.length c0] rfl la_ ?_; (with_reducible refine (solid_Check.calls k _ _ l0 t21001 _ ?side1 ?side2 A2.out).mono ?_); (case side1 => repeat (first | exact HR0.out | (with_reducible refine Kd.C_alloc ?_ _) | (with_reducible refine Kd.C_drewN ?_ _) | (with_reducible refine Kd.C_drew ?_))); (case side2 => exact HC0.out); rintro e w14 ⟨rfl, hb⟩; refine ⟨_, rfl, ?_⟩; have n0_ := Aside0.mk (bs_ hb); clear HB; have HB := n0_; clear n0_; (try clear hb); (try clear hb2); (try clear hk); (try clear hi)))
  go_ret
  exact ⟨er_, be_⟩

end Go.Proofs.Ytdbjoopkliafeaa.P

end
section
namespace Go.Proofs.Ytdbjoopkliafeaa.P
open Go Go.RowKit Go.Proofs.YtdbjoopkliafeaaW.PrintWords Go.Proofs.YtdbjoopkliafeaaW.PrintLast Go.Proofs.YtdbjoopkliafeaaW.PrintMore
attribute [local go_sem] max2_int min2_int max_two min_two max_three min_three max_four min_four max_five min_eight max_eight   -- for this text's walks alone
set_option linter.unusedVariables false
set_option linter.unusedSimpArgs false

def units_Floor_1.f (a0 : Int) (a1 : Int) : Option (Bool) := some false
set_option maxHeartbeats 8000000 in
set_option maxRecDepth 100000 in
theorem units_Floor_1.calls (a0 : Int) (a1 : Int) (r : Bool) (w : World) (h : units_Floor_1.f a0 a1 = some r) :
  Calls Try.prog 67 #[.int .i64 a0, .int .i64 a1] w fun e w' => e = .returned (.bool r) ∧ Drawn0 w w' := by
 have H : (some false) = some r := h
 clear h
 obtain rfl := Option.some.inj H
 go_enter Try.func67, Try.ntmps67
 go_wp2
 go_ret
 exact ⟨by first | rfl | (simp; done) | (simp [*]; done), by repeat (first | exact Drawn0.refl _ | apply Drawn0.step)⟩

end Go.Proofs.Ytdbjoopkliafeaa.P

end
section
namespace Go.Proofs.Ytdbjoopkliafeaa.P
open Go Go.RowKit Go.Proofs.YtdbjoopkliafeaaW.PrintWords Go.Proofs.YtdbjoopkliafeaaW.PrintLast Go.Proofs.YtdbjoopkliafeaaW.PrintMore
attribute [local go_sem] max2_int min2_int max_two min_two max_three min_three max_four min_four max_five min_eight max_eight   -- for this text's walks alone
set_option linter.unusedVariables false
set_option linter.unusedSimpArgs false

mutual
def units_division_of.j0 : Nat → Int → Int → Bool → Option (Int × Bool)
 | 0, _, _, _ => none
 | k + 1, x1, x2, x19 => if x19 = true then (some (0, false)) else (if x2 = 0 then (none) else (if (Int.tmod x1 x2) = 0 then (units_division_of.j1 k x2 (wrap64 (Int.tdiv x1 x2)) (Int.tmod x1 x2) false) else (units_division_of.j1 k x2 (wrap64 (Int.tdiv x1 x2)) (Int.tmod x1 x2) ((decide ((Int.tmod x1 x2) < 0)) != (decide (x2 < 0))))))
def units_division_of.j1 : Nat → Int → Int → Int → Bool → Option (Int × Bool)
 | 0, _, _, _, _ => none
 | k + 1, x2, x8, x9, x34 => if x34 = true then ((units_Floor_1.f (wrap64 (x9 + x2)) x2).bind fun t68002 => (if t68002 = true then (some (wrap64 ((wrap64 (x8 - 1)) + 1), true)) else (some (wrap64 (x8 - 1), true)))) else ((units_Floor_1.f x9 x2).bind fun t68003 => (if t68003 = true then (some (wrap64 (x8 + 1), true)) else (some (x8, true))))
end
def units_division_of.f (k : Nat) (a0_0 : Unit) (a1 : Int) (a2 : Int) : Option (Int × Bool) := if a2 = 0 then (units_division_of.j0 k a1 a2 true) else (if a1 = (-9223372036854775808) then (units_division_of.j0 k a1 a2 (a2 == (-1))) else (units_division_of.j0 k a1 a2 false))
theorem units_division_of.mono_l : ∀ k, (∀ y0 y1 y2, LeO (units_division_of.j0 k y0 y1 y2) (units_division_of.j0 (k + 1) y0 y1 y2)) ∧ (∀ y0 y1 y2 y3, LeO (units_division_of.j1 k y0 y1 y2 y3) (units_division_of.j1 (k + 1) y0 y1 y2 y3))
 | 0 => ⟨fun _ _ _ r h => by simp [units_division_of.j0] at h, fun _ _ _ _ r h => by simp [units_division_of.j1] at h⟩
 | k + 1 => by
  obtain ⟨ih0, ih1⟩ := units_division_of.mono_l k
  refine ⟨?_, ?_⟩
  ·intro y0 y1 y2
   unfold units_division_of.j0
   repeat' first
   | (with_reducible exact ih0 _ _ _)
   | (with_reducible exact ih1 _ _ _ _)
   | (with_reducible exact LeO.refl _)
   | (with_reducible exact LeO.none _)
   | (with_reducible refine LeO.ite ?_ ?_)
   | (with_reducible refine LeO.bind ?_ (fun _ => ?_))
   | exact ih0 _ _ _
   | exact ih1 _ _ _ _
   | exact LeO.none _
   | refine LeO.ite ?_ ?_
   | refine LeO.bind ?_ (fun _ => ?_)
  ·intro y0 y1 y2 y3
   unfold units_division_of.j1
   repeat' first
   | (with_reducible exact ih0 _ _ _)
   | (with_reducible exact ih1 _ _ _ _)
   | (with_reducible exact LeO.refl _)
   | (with_reducible exact LeO.none _)
   | (with_reducible refine LeO.ite ?_ ?_)
   | (with_reducible refine LeO.bind ?_ (fun _ => ?_))
   | exact ih0 _ _ _
   | exact ih1 _ _ _ _
   | exact LeO.none _
   | refine LeO.ite ?_ ?_
   | refine LeO.bind ?_ (fun _ => ?_)
theorem units_division_of.mono : ∀ a0 a1 a2 k, LeO (units_division_of.f k a0 a1 a2) (units_division_of.f (k + 1) a0 a1 a2) := by
 intro a0 a1 a2 k
 obtain ⟨ih0, ih1⟩ := units_division_of.mono_l k
 unfold units_division_of.f
 repeat' first
   | (with_reducible exact ih0 _ _ _)
   | (with_reducible exact ih1 _ _ _ _)
   | (with_reducible exact LeO.refl _)
   | (with_reducible exact LeO.none _)
   | (with_reducible refine LeO.ite ?_ ?_)
   | (with_reducible refine LeO.bind ?_ (fun _ => ?_))
   | exact ih0 _ _ _
   | exact ih1 _ _ _ _
   | exact LeO.none _
   | refine LeO.ite ?_ ?_
   | refine LeO.bind ?_ (fun _ => ?_)
set_option maxHeartbeats 8000000 in
set_option maxRecDepth 100000 in
theorem units_division_of.calls (k : Nat) (a0_0 : Unit) (a1 : Int) (a2 : Int) (r1 : Int) (r2 : Bool) (w : World) (h : units_division_of.f k a0_0 a1 a2 = some (r1, r2)) :
  Calls Try.prog 68 #[.agg #[(.func (.func 67) #[] #[])], .int .i64 a1, .int .i64 a2] w fun e w' => e = .returned (.tuple #[.int .i64 r1, .bool r2]) ∧ Below w.heap.size w w' := by
 have hu76 := Try.underlying76
 have HB := Aside0.mk (Below.refl w.heap.size w)
 have H : (if a2 = 0 then (units_division_of.j0 k a1 a2 true) else (if a1 = (-9223372036854775808) then (units_division_of.j0 k a1 a2 (a2 == (-1))) else (units_division_of.j0 k a1 a2 false))) = some (r1, r2) := h
 clear h
 have HC4 := Aside0.mk H
 clear H
 go_enter Try.func68, Try.ntmps68
 go_upto_region 1 with (first | ((with_reducible refine gate_dst (N := 3) rfl ?_); refine box_event ?hg (N := 3) ?hd (cs := #[(.func (.func 67) #[] #[])]) (t := 76) ?hr ?_; (case hd => rfl); (case hg => rfl); (case hr => first | (go_simp; done) | (go_simp; rfl)); intro gb68001 hg w5 hbox hb; have n0_ := Aside0.mk (bs_ hb); have n1_ := Aside0.mk (hbox); have n2_ := Aside0.mk ((by rw [hg]; exact bz_ : w.heap.size ≤ gb68001)); have n3_ := Aside0.mk ((by rw [hg]; exact bz_ : w.heap.size ≤ gb68001)); clear HB; have HB := n0_; have BK68001 := n1_; have GW68001 := n2_; have GE68001 := n3_; clear n0_ n1_ n2_ n3_; clear hb hbox hg))
 repeat (go_quiet (first | ((with_reducible refine gate_dst (N := 3) rfl ?_); refine box_event ?hg (N := 3) ?hd (cs := #[(.func (.func 67) #[] #[])]) (t := 76) ?hr ?_; (case hd => rfl); (case hg => rfl); (case hr => first | (go_simp; done) | (go_simp; rfl)); intro gb68001 hg w5 hbox hb; have n0_ := Aside0.mk (bs_ hb); have n1_ := Aside0.mk (hbox); have n2_ := Aside0.mk ((by rw [hg]; exact bz_ : w.heap.size ≤ gb68001)); have n3_ := Aside0.mk ((by rw [hg]; exact bz_ : w.heap.size ≤ gb68001)); clear HB; have HB := n0_; have BK68001 := n1_; have GW68001 := n2_; have GE68001 := n3_; clear n0_ n1_ n2_ n3_; clear hb hbox hg)); go_upto_region 1 with (first | ((with_reducible refine gate_dst (N := 3) rfl ?_); refine box_event ?hg (N := 3) ?hd (cs := #[(.func (.func 67) #[] #[])]) (t := 76) ?hr ?_; (case hd => rfl); (case hg => rfl); (case hr => first | (go_simp; done) | (go_simp; rfl)); intro gb68001 hg w5 hbox hb; have n0_ := Aside0.mk (bs_ hb); have n1_ := Aside0.mk (hbox); have n2_ := Aside0.mk ((by rw [hg]; exact bz_ : w.heap.size ≤ gb68001)); have n3_ := Aside0.mk ((by rw [hg]; exact bz_ : w.heap.size ≤ gb68001)); clear HB; have HB := n0_; have BK68001 := n1_; have GW68001 := n2_; have GE68001 := n3_; clear n0_ n1_ n2_ n3_; clear hb hbox hg)))
 (try simp only [Act.put, List.setIfInBounds_toArray, List.set_cons_zero, List.set_cons_succ])
 go_cut [19] (fun v19 wc => ∃ (kq : Nat) (x19_3 : Bool), v19 = .bool x19_3 ∧ Aside0 (units_division_of.j0 kq a1 a2 x19_3 = some (r1, r2)) ∧ Aside0 (kq ≤ k) ∧ Aside0 (wc.heap[gb68001]? = some (.cells #[(.func (.func 67) #[] #[])] 76 (0, 0))) ∧ Aside0 (Below w.heap.size w wc))
 case first =>
  have H := HC4.out
  clear HC4
  by_cases c6 : a2 = 0
  ·rw [if_pos c6] at H
   have c6b0 : (a2 == 0) = true := beq_iff_eq.mpr c6
   have c6b1 : (a2 != 0) = false := bne_eq_false_iff_eq.mpr c6
   clear c6
   (first | rw [c6b0] | (simp only [i64_w, i32_w]; rw [c6b0]) | skip)
   have H' := Aside0.mk H
   clear H
   go_wp2
   repeat (go_quiet (fail); try go_wp2)
   go_meet
   case rel => exact ⟨_, (true), (by first | rfl | (simp; done) | (simp [*]; done)), H', ⟨by first | omega | exact Nat.le_refl _⟩, ⟨fb_ BK68001.out⟩, ⟨be_⟩⟩
  ·rw [if_neg c6] at H
   have c6b0 : (a2 == 0) = false := beq_eq_false_iff_ne.mpr c6
   have c6b1 : (a2 != 0) = true := bne_iff_ne.mpr c6
   (first | rw [c6b0] | (simp only [i64_w, i32_w]; rw [c6b0]) | skip)
   by_cases c7 : a1 = (-9223372036854775808)
   ·rw [if_pos c7] at H
    have c7b0 : (a1 == (-9223372036854775808)) = true := beq_iff_eq.mpr c7
    have c7b1 : (a1 != (-9223372036854775808)) = false := bne_eq_false_iff_eq.mpr c7
    clear c7
    have H' := Aside0.mk H
    clear H
    go_wp2
    repeat (go_quiet (fail); try go_wp2)
    go_meet
    case rel => exact ⟨_, ((a2 == (-1))), (by first | rfl | (simp; done) | (simp [*]; done)), H', ⟨by first | omega | exact Nat.le_refl _⟩, ⟨fb_ BK68001.out⟩, ⟨be_⟩⟩
   ·rw [if_neg c7] at H
    have c7b0 : (a1 == (-9223372036854775808)) = false := beq_eq_false_iff_ne.mpr c7
    have c7b1 : (a1 != (-9223372036854775808)) = true := bne_iff_ne.mpr c7
    have H' := Aside0.mk H
    clear H
    go_wp2
    repeat (go_quiet (fail); try go_wp2)
    go_meet
    case rel => exact ⟨_, (false), (by first | rfl | (simp; done) | (simp [*]; done)), H', ⟨by first | omega | exact Nat.le_refl _⟩, ⟨fb_ BK68001.out⟩, ⟨be_⟩⟩
 case rest =>
  clear HC4
  try clear p2
  try clear c6
  try clear c6b0
  try clear c6b1
  try clear c7
  try clear c7b0
  try clear c7b1
  obtain ⟨kq, x19_3, rfl, HA, HJ3, BK68001, HB⟩ := hcut
  cases kq with
  | zero => exact absurd HA.out (by simp [units_division_of.j0])
  | succ kj3 =>
   have H := HA.out
   clear HA
   simp only [units_division_of.j0] at H
   by_cases c8 : x19_3 = true
   ·subst c8
    have H1 : (some (0, false)) = some (r1, r2) := by rw [if_pos rfl] at H; exact H
    clear H
    have H := H1
    clear H1
    simp only [Option.some.injEq, Prod.mk.injEq] at H
    obtain ⟨rfl, rfl⟩ := H
    go_wp2
    repeat (go_quiet (fail); try go_wp2)
    go_ret2
    exact ⟨er_, be_⟩
   ·replace c8 := Bool.eq_false_iff.mpr c8
    subst c8
    have H1 : (if a2 = 0 then (none) else (if (Int.tmod a1 a2) = 0 then (units_division_of.j1 kj3 a2 (wrap64 (Int.tdiv a1 a2)) (Int.tmod a1 a2) false) else (units_division_of.j1 kj3 a2 (wrap64 (Int.tdiv a1 a2)) (Int.tmod a1 a2) ((decide ((Int.tmod a1 a2) < 0)) != (decide (a2 < 0)))))) = some (r1, r2) := by rw [if_neg (show ¬ (false = true) by decide)] at H; exact H
    clear H
    have H := H1
    clear H1
    by_cases c9 : a2 = 0
    ·rw [if_pos c9] at H
     exact absurd H (by simp)
    ·rw [if_neg c9] at H
     have c9b0 : (a2 == 0) = false := beq_eq_false_iff_ne.mpr c9
     have c9b1 : (a2 != 0) = true := bne_iff_ne.mpr c9
     have HC10 := Aside0.mk H
     clear H
     go_upto_region 4 with (fail)
     repeat (go_quiet (fail); go_upto_region 4 with (fail))
     go_cut [34] (fun v34 wc => ∃ (kq : Nat) (x34_9 : Bool), v34 = .bool x34_9 ∧ Aside0 (units_division_of.j1 kq a2 (wrap64 (Int.tdiv a1 a2)) (Int.tmod a1 a2) x34_9 = some (r1, r2)) ∧ Aside0 (kq ≤ kj3) ∧ Aside0 (wc.heap[gb68001]? = some (.cells #[(.func (.func 67) #[] #[])] 76 (0, 0))) ∧ Aside0 (Below w.heap.size w wc))
     case first =>
      have H := HC10.out
      clear HC10
      by_cases c11 : (Int.tmod a1 a2) = 0
      ·rw [if_pos c11] at H
       have c11b0 : ((Int.tmod a1 a2) == 0) = true := beq_iff_eq.mpr c11
       have c11b1 : ((Int.tmod a1 a2) != 0) = false := bne_eq_false_iff_eq.mpr c11
       clear c11
       (first | rw [c11b0] | (simp only [i64_w, i32_w]; rw [c11b0]) | skip)
       have H' := Aside0.mk H
       clear H
       go_wp2
       repeat (go_quiet (fail); try go_wp2)
       go_meet
       case rel => exact ⟨_, (false), (by first | rfl | (simp; done) | (simp [*]; done)), H', ⟨by have := HJ3.out; first | omega | exact Nat.le_refl _⟩, ⟨fb_ BK68001.out⟩, ⟨be_⟩⟩
      ·rw [if_neg c11] at H
       have c11b0 : ((Int.tmod a1 a2) == 0) = false := beq_eq_false_iff_ne.mpr c11
       have c11b1 : ((Int.tmod a1 a2) != 0) = true := bne_iff_ne.mpr c11
       (first | rw [c11b0] | (simp only [i64_w, i32_w]; rw [c11b0]) | skip)
       have H' := Aside0.mk H
       clear H
       go_wp2
       repeat (go_quiet (fail); try go_wp2)
       go_meet
       case rel => exact ⟨_, (((decide ((Int.tmod a1 a2) < 0)) != (decide (a2 < 0)))), (by first | rfl | (simp; done) | (simp [*]; done)), H', ⟨by have := HJ3.out; first | omega | exact Nat.le_refl _⟩, ⟨fb_ BK68001.out⟩, ⟨be_⟩⟩
     case rest =>
      clear HC10
      try clear c1
      try clear p2
      try clear c6
      try clear c6b0
      try clear c6b1
      try clear p6
      try clear c7
      try clear c7b0
      try clear c7b1
      try clear c8
      try clear c9
      try clear c9b0
      try clear c9b1
      try clear c11
      try clear c11b0
      try clear c11b1
      try clear p2
      obtain ⟨kq, x34_9, rfl, HA, HJ9, BK68001, HB⟩ := hcut
      cases kq with
      | zero => exact absurd HA.out (by simp [units_division_of.j1])
      | succ kj9 =>
       have H := HA.out
       clear HA
       simp only [units_division_of.j1] at H
       by_cases c12 : x34_9 = true
       ·subst c12
        have H1 : ((units_Floor_1.f (wrap64 ((Int.tmod a1 a2) + a2)) a2).bind fun t68002 => (if t68002 = true then (some (wrap64 ((wrap64 ((wrap64 (Int.tdiv a1 a2)) - 1)) + 1), true)) else (some (wrap64 ((wrap64 (Int.tdiv a1 a2)) - 1), true)))) = some (r1, r2) := by rw [if_pos rfl] at H; exact H
        clear H
        have H := H1
        clear H1
        replace H := Option.bind_eq_some_iff.mp H
        obtain ⟨t68002, A130, H⟩ := H
        replace H : (if t68002 = true then (some (wrap64 ((wrap64 ((wrap64 (Int.tdiv a1 a2)) - 1)) + 1), true)) else (some (wrap64 ((wrap64 (Int.tdiv a1 a2)) - 1), true))) = some (r1, r2) := H
        have A13 := Aside0.mk A130
        clear A130
        by_cases c14 : t68002 = true
        ·subst c14
         have H1 : (some (wrap64 ((wrap64 ((wrap64 (Int.tdiv a1 a2)) - 1)) + 1), true)) = some (r1, r2) := by rw [if_pos rfl] at H; exact H
         clear H
         have H := H1
         clear H1
         simp only [Option.some.injEq, Prod.mk.injEq] at H
         obtain ⟨rfl, rfl⟩ := H
         have hcz15_0 : wc.cell? ⟨gb68001, 0, none⟩ = some ((.func (.func 67) #[] #[])) := (blk_cell BK68001.out 0).trans rfl
         have hfz15_0 := blk_frozen BK68001.out 0
         go_wp2_with (first | (go_at_call 67; (with_reducible refine (units_Floor_1.calls (wrap64 ((Int.tmod a1 a2) + a2)) a2 true _ A13.out).mono ?_); rintro e w' ⟨rfl, ⟨nd, rfl⟩⟩; (try first | exact ⟨rfl, _, World.drewN_drewN _ _ _⟩ | exact ⟨rfl, _, Eq.trans (World.drewN_drewN _ _ _) (congrArg (World.drewN _) (Nat.add_assoc _ _ _))⟩)))
         repeat (go_quiet (first | (go_at_call 67; (with_reducible refine (units_Floor_1.calls (wrap64 ((Int.tmod a1 a2) + a2)) a2 true _ A13.out).mono ?_); rintro e w' ⟨rfl, ⟨nd, rfl⟩⟩; (try first | exact ⟨rfl, _, World.drewN_drewN _ _ _⟩ | exact ⟨rfl, _, Eq.trans (World.drewN_drewN _ _ _) (congrArg (World.drewN _) (Nat.add_assoc _ _ _))⟩))); try go_wp2_with (first | (go_at_call 67; (with_reducible refine (units_Floor_1.calls (wrap64 ((Int.tmod a1 a2) + a2)) a2 true _ A13.out).mono ?_); rintro e w' ⟨rfl, ⟨nd, rfl⟩⟩; (try first | exact ⟨rfl, _, World.drewN_drewN _ _ _⟩ | exact ⟨rfl, _, Eq.trans (World.drewN_drewN _ _ _) (congrArg (World.drewN _) (Nat.add_assoc _ _ _))⟩))))
         go_ret2
         exact ⟨er_, be_⟩
        ·replace c14 := Bool.eq_false_iff.mpr c14
         subst c14
         have H1 : (some (wrap64 ((wrap64 (Int.tdiv a1 a2)) - 1), true)) = some (r1, r2) := by rw [if_neg (show ¬ (false = true) by decide)] at H; exact H
         clear H
         have H := H1
         clear H1
         simp only [Option.some.injEq, Prod.mk.injEq] at H
         obtain ⟨rfl, rfl⟩ := H
         have hcz16_0 : wc.cell? ⟨gb68001, 0, none⟩ = some ((.func (.func 67) #[] #[])) := (blk_cell BK68001.out 0).trans rfl
         have hfz16_0 := blk_frozen BK68001.out 0
         go_wp2_with (first | (go_at_call 67; (with_reducible refine (units_Floor_1.calls (wrap64 ((Int.tmod a1 a2) + a2)) a2 false _ A13.out).mono ?_); rintro e w' ⟨rfl, ⟨nd, rfl⟩⟩; (try first | exact ⟨rfl, _, World.drewN_drewN _ _ _⟩ | exact ⟨rfl, _, Eq.trans (World.drewN_drewN _ _ _) (congrArg (World.drewN _) (Nat.add_assoc _ _ _))⟩)))
         repeat (go_quiet (first | (go_at_call 67; (with_reducible refine (units_Floor_1.calls (wrap64 ((Int.tmod a1 a2) + a2)) a2 false _ A13.out).mono ?_); rintro e w' ⟨rfl, ⟨nd, rfl⟩⟩; (try first | exact ⟨rfl, _, World.drewN_drewN _ _ _⟩ | exact ⟨rfl, _, Eq.trans (World.drewN_drewN _ _ _) (congrArg (World.drewN _) (Nat.add_assoc _ _ _))⟩))); try go_wp2_with (first | (go_at_call 67; (with_reducible refine (units_Floor_1.calls (wrap64 ((Int.tmod a1 a2) + a2)) a2 false _ A13.out).mono ?_); rintro e w' ⟨rfl, ⟨nd, rfl⟩⟩; (try first | exact ⟨rfl, _, World.drewN_drewN _ _ _⟩ | exact ⟨rfl, _, Eq.trans (World.drewN_drewN _ _ _) (congrArg (World.drewN _) (Nat.add_assoc _ _ _))⟩))))
         go_ret2
         exact ⟨er_, be_⟩
       ·replace c12 := Bool.eq_false_iff.mpr c12
        subst c12
        have H1 : ((units_Floor_1.f (Int.tmod a1 a2) a2).bind fun t68003 => (if t68003 = true then (some (wrap64 ((wrap64 (Int.tdiv a1 a2)) + 1), true)) else (some ((wrap64 (Int.tdiv a1 a2)), true)))) = some (r1, r2) := by rw [if_neg (show ¬ (false = true) by decide)] at H; exact H
        clear H
        have H := H1
        clear H1
        replace H := Option.bind_eq_some_iff.mp H
        obtain ⟨t68003, A170, H⟩ := H
        replace H : (if t68003 = true then (some (wrap64 ((wrap64 (Int.tdiv a1 a2)) + 1), true)) else (some ((wrap64 (Int.tdiv a1 a2)), true))) = some (r1, r2) := H
        have A17 := Aside0.mk A170
        clear A170
        by_cases c18 : t68003 = true
        ·subst c18
         have H1 : (some (wrap64 ((wrap64 (Int.tdiv a1 a2)) + 1), true)) = some (r1, r2) := by rw [if_pos rfl] at H; exact H
         clear H
         have H := H1
         clear H1
         simp only [Option.some.injEq, Prod.mk.injEq] at H
         obtain ⟨rfl, rfl⟩ := H
         have hcz19_0 : wc.cell? ⟨gb68001, 0, none⟩ = some ((.func (.func 67) #[] #[])) := (blk_cell BK68001.out 0).trans rfl
         have hfz19_0 := blk_frozen BK68001.out 0
         go_wp2_with (first | (go_at_call 67; (with_reducible refine (units_Floor_1.calls (Int.tmod a1 a2) a2 true _ A17.out).mono ?_); rintro e w' ⟨rfl, ⟨nd, rfl⟩⟩; (try first | exact ⟨rfl, _, World.drewN_drewN _ _ _⟩ | exact ⟨rfl, _, Eq.trans (World.drewN_drewN _ _ _) (congrArg (World.drewN _) (Nat.add_assoc _ _ _))⟩)))
         repeat (go_quiet (first | (go_at_call 67; (with_reducible refine (units_Floor_1.calls (Int.tmod a1 a2) a2 true _ A17.out).mono ?_); rintro e w' ⟨rfl, ⟨nd, rfl⟩⟩; (try first | exact ⟨rfl, _, World.drewN_drewN _ _ _⟩ | exact ⟨rfl, _, Eq.trans (World.drewN_drewN _ _ _) (congrArg (World.drewN _) (Nat.add_assoc _ _ _))⟩))); try go_wp2_with (first | (go_at_call 67; (with_reducible refine (units_Floor_1.calls (Int.tmod a1 a2) a2 true _ A17.out).mono ?_); rintro e w' ⟨rfl, ⟨nd, rfl⟩⟩; (try first | exact ⟨rfl, _, World.drewN_drewN _ _ _⟩ | exact ⟨rfl, _, Eq.trans (World.drewN_drewN _ _ _) (congrArg (World.drewN _) (Nat.add_assoc _ _ _))⟩))))
         go_ret2
         exact ⟨er_, be_⟩
        ·replace c18 := Bool.eq_false_iff.mpr c18
         subst c18
         have H1 : (some ((wrap64 (Int.tdiv a1 a2)), true)) = some (r1, r2) := by rw [if_neg (show ¬ (false = true) by decide)] at H; exact H
         clear H
         have H := H1
         clear H1
         simp only [Option.some.injEq, Prod.mk.injEq] at H
         obtain ⟨rfl, rfl⟩ := H
         have hcz20_0 : wc.cell? ⟨gb68001, 0, none⟩ = some ((.func (.func 67) #[] #[])) := (blk_cell BK68001.out 0).trans rfl
         have hfz20_0 := blk_frozen BK68001.out 0
         go_wp2_with (first | (go_at_call 67; (with_reducible refine (units_Floor_1.calls (Int.tmod a1 a2) a2 false _ A17.out).mono ?_); rintro e w' ⟨rfl, ⟨nd, rfl⟩⟩; (try first | exact ⟨rfl, _, World.drewN_drewN _ _ _⟩ | exact ⟨rfl, _, Eq.trans (World.drewN_drewN _ _ _) (congrArg (World.drewN _) (Nat.add_assoc _ _ _))⟩)))
         repeat (go_quiet (first | (go_at_call 67; (with_reducible refine (units_Floor_1.calls (Int.tmod a1 a2) a2 false _ A17.out).mono ?_); rintro e w' ⟨rfl, ⟨nd, rfl⟩⟩; (try first | exact ⟨rfl, _, World.drewN_drewN _ _ _⟩ | exact ⟨rfl, _, Eq.trans (World.drewN_drewN _ _ _) (congrArg (World.drewN _) (Nat.add_assoc _ _ _))⟩))); try go_wp2_with (first | (go_at_call 67; (with_reducible refine (units_Floor_1.calls (Int.tmod a1 a2) a2 false _ A17.out).mono ?_); rintro e w' ⟨rfl, ⟨nd, rfl⟩⟩; (try first | exact ⟨rfl, _, World.drewN_drewN _ _ _⟩ | exact ⟨rfl, _, Eq.trans (World.drewN_drewN _ _ _) (congrArg (World.drewN _) (Nat.add_assoc _ _ _))⟩))))
         go_ret2
         exact ⟨er_, be_⟩

end Go.Proofs.Ytdbjoopkliafeaa.P

end
section
namespace Go.Proofs.Ytdbjoopkliafeaa.P
open Go Go.RowKit Go.Proofs.YtdbjoopkliafeaaW.PrintWords Go.Proofs.YtdbjoopkliafeaaW.PrintLast Go.Proofs.YtdbjoopkliafeaaW.PrintMore
attribute [local go_sem] max2_int min2_int max_two min_two max_three min_three max_four min_four max_five min_eight max_eight   -- for this text's walks alone
set_option linter.unusedVariables false
set_option linter.unusedSimpArgs false

def units_Floor.f (k : Nat) (a0 : Int) (a1 : Int) : Option (Int × Bool) := (units_division_of.f k fnc67 a0 a1).bind fun bt44001 => (some (bt44001.1, bt44001.2))
theorem units_Floor.mono : ∀ a0 a1 k, LeO (units_Floor.f k a0 a1) (units_Floor.f (k + 1) a0 a1) := by
 intro a0 a1 k
 unfold units_Floor.f
 repeat' first
   | (with_reducible exact units_division_of.mono _ _ _ _)
   | (with_reducible exact LeO.refl _)
   | (with_reducible exact LeO.none _)
   | (with_reducible refine LeO.ite ?_ ?_)
   | (with_reducible refine LeO.bind ?_ (fun _ => ?_))
   | exact units_division_of.mono _ _ _ _
   | exact LeO.none _
   | refine LeO.ite ?_ ?_
   | refine LeO.bind ?_ (fun _ => ?_)
set_option maxHeartbeats 8000000 in
set_option maxRecDepth 100000 in
theorem units_Floor.calls (k : Nat) (a0 : Int) (a1 : Int) (r1 : Int) (r2 : Bool) (w : World) (h : units_Floor.f k a0 a1 = some (r1, r2)) :
  Calls Try.prog 44 #[.int .i64 a0, .int .i64 a1] w fun e w' => e = .returned (.tuple #[.int .i64 r1, .bool r2]) ∧ Below w.heap.size w w' := by
 have hu76 := Try.underlying76
 have HB := Aside0.mk (Below.refl w.heap.size w)
 have H : ((units_division_of.f k fnc67 a0 a1).bind fun bt44001 => (some (bt44001.1, bt44001.2))) = some (r1, r2) := h
 clear h
 replace H := Option.bind_eq_some_iff.mp H
 obtain ⟨⟨t44001, t44002⟩, A30, H⟩ := H
 replace H : (some (t44001, t44002)) = some (r1, r2) := H
 have A3 := Aside0.mk A30
 clear A30
 simp only [Option.some.injEq, Prod.mk.injEq] at H
 obtain ⟨rfl, rfl⟩ := H
 go_enter Try.func44, Try.ntmps44
 go_wp2_with (first | ((with_reducible refine gate_callee (f := 68) rfl ?_); refine goesL_ (some 9) rfl rfl Try.func68 (by kernel_rfl) rfl #[.agg #[(.func (.func 67) #[] #[])], .int .i64 a0, .int .i64 a1] rfl la_ ?_; (with_reducible refine (units_division_of.calls k fnc67 a0 a1 t44001 t44002 _ A3.out).mono ?_); rintro e w4 ⟨rfl, hb⟩; refine ⟨_, rfl, ?_⟩; have n0_ := Aside0.mk (bs_ hb); clear HB; have HB := n0_; clear n0_; (try clear hb); (try clear hb2); (try clear hk); (try clear hi)))
 go_ret2
 exact ⟨er_, be_⟩

end Go.Proofs.Ytdbjoopkliafeaa.P

end
