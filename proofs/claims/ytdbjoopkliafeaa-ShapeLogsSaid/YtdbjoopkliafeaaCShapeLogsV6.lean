/- Functions of the program: what each computes, and that the call computes it; conditions: the fuel that the plain function asks for. -/
import Derived.Test.YtdbjoopkliafeaaCShapeLogsV5
import Derived.ChangeSlices
import Derived.ChangeSame
section
namespace Go.Proofs.Ytdbjoopkliafeaa.P
open Go Go.RowKit Go.Proofs.YtdbjoopkliafeaaW.PrintWords Go.Proofs.YtdbjoopkliafeaaW.PrintLast Go.Proofs.YtdbjoopkliafeaaW.PrintMore
attribute [local go_sem] max2_int min2_int max_two min_two max_three min_three max_four min_four max_five min_eight max_eight   -- for this text's walks alone
set_option linter.unusedVariables false
set_option linter.unusedSimpArgs false

attribute [local go_sem high] eqA49
mutual
def sawmillref10_Check.j0 : Nat → Int → Bool → Int → List (S49) → Option (Int)
 | 0, _, _, _, _ => none
 | k + 1, x3, x20, x37002000, x37002001 => if x20 = true then (some 9) else (sawmillref10_Check.l0 k x3 0 x37002000 x37002001)
def sawmillref10_Check.l0 : Nat → Int → Int → Int → List (S49) → Option (Int)
 | 0, _, _, _, _ => none
 | k + 1, x3, x4, x37002000, x37002001 => if x4 < x3 then (if 0 ≤ x4 then (if x4 < (x37002001.length : Int) then ((sawmillref10_beyond.f ((rd_T49 x37002001 x4).f0)).bind fun t37003 => (if t37003 = true then (some 9) else ((sawmillref10_beyond.f ((rd_T49 x37002001 x4).f1)).bind fun t37005 => (if t37005 = true then (some 9) else (sawmillref10_Check.l0 k x3 (wrap64 (x4 + 1)) x37002000 x37002001))))) else (none)) else (none)) else (if x3 = 0 then (if x37002000 = 0 then (some 0) else (some 19)) else (if 0 < (x37002001.length : Int) then ((sawmillref10_empty.f ((rd_T49 x37002001 0).f0) ((rd_T49 x37002001 0).f1)).bind fun t37007 => (if t37007 = true then (sawmillref10_Check.j2 k x3 true x37002000 x37002001) else (if 0 ≤ (wrap64 (x3 - 1)) then (if (wrap64 (x3 - 1)) < (x37002001.length : Int) then ((sawmillref10_empty.f ((rd_T49 x37002001 (wrap64 (x3 - 1))).f0) ((rd_T49 x37002001 (wrap64 (x3 - 1))).f1)).bind fun t37009 => (sawmillref10_Check.j2 k x3 t37009 x37002000 x37002001)) else (none)) else (none)))) else (none)))
def sawmillref10_Check.j2 : Nat → Int → Bool → Int → List (S49) → Option (Int)
 | 0, _, _, _, _ => none
 | k + 1, x3, x60, x37002000, x37002001 => if x60 = true then (some 19) else (sawmillref10_Check.l1 k x3 0 x37002000 x37002001)
def sawmillref10_Check.l1 : Nat → Int → Int → Int → List (S49) → Option (Int)
 | 0, _, _, _, _ => none
 | k + 1, x3, x5, x37002000, x37002001 => if x5 < x3 then (if 0 ≤ x5 then (if x5 < (x37002001.length : Int) then ((sawmillref10_empty.f ((rd_T49 x37002001 x5).f0) ((rd_T49 x37002001 x5).f1)).bind fun t37011 => (if t37011 = true then (if (!(((rd_T49 x37002001 x5).f0) == 0) || (!(((rd_T49 x37002001 x5).f1) == 0))) = true then (some 19) else (sawmillref10_Check.l1 k x3 (wrap64 (x5 + 1)) x37002000 x37002001)) else (sawmillref10_Check.l1 k x3 (wrap64 (x5 + 1)) x37002000 x37002001))) else (none)) else (none)) else (some 0)
end
def sawmillref10_Check.f (k : Nat) (a0_0 : Int) (l0_1 : List (S49)) : Option (Int) := if (l0_1.length : Int) > 120 then (some 4) else (if a0_0 < (-60) then (sawmillref10_Check.j0 k (l0_1.length : Int) true a0_0 l0_1) else (sawmillref10_Check.j0 k (l0_1.length : Int) (decide (a0_0 > (wrap64 (60 - (l0_1.length : Int))))) a0_0 l0_1))
theorem sawmillref10_Check.mono_l : ∀ k, (∀ y0 y1 y2 y3, LeO (sawmillref10_Check.j0 k y0 y1 y2 y3) (sawmillref10_Check.j0 (k + 1) y0 y1 y2 y3)) ∧ (∀ y0 y1 y2 y3, LeO (sawmillref10_Check.l0 k y0 y1 y2 y3) (sawmillref10_Check.l0 (k + 1) y0 y1 y2 y3)) ∧ (∀ y0 y1 y2 y3, LeO (sawmillref10_Check.j2 k y0 y1 y2 y3) (sawmillref10_Check.j2 (k + 1) y0 y1 y2 y3)) ∧ (∀ y0 y1 y2 y3, LeO (sawmillref10_Check.l1 k y0 y1 y2 y3) (sawmillref10_Check.l1 (k + 1) y0 y1 y2 y3))
 | 0 => ⟨fun _ _ _ _ r h => by simp [sawmillref10_Check.j0] at h, fun _ _ _ _ r h => by simp [sawmillref10_Check.l0] at h, fun _ _ _ _ r h => by simp [sawmillref10_Check.j2] at h, fun _ _ _ _ r h => by simp [sawmillref10_Check.l1] at h⟩
 | k + 1 => by
  obtain ⟨ih0, ih1, ih2, ih3⟩ := sawmillref10_Check.mono_l k
  refine ⟨?_, ?_, ?_, ?_⟩
  ·intro y0 y1 y2 y3
   unfold sawmillref10_Check.j0
   repeat' first
   | (with_reducible exact ih0 _ _ _ _)
   | (with_reducible exact ih1 _ _ _ _)
   | (with_reducible exact ih2 _ _ _ _)
   | (with_reducible exact ih3 _ _ _ _)
   | (with_reducible exact LeO.refl _)
   | (with_reducible exact LeO.none _)
   | (with_reducible refine LeO.ite ?_ ?_)
   | (with_reducible refine LeO.bind ?_ (fun _ => ?_))
   | exact ih0 _ _ _ _
   | exact ih1 _ _ _ _
   | exact ih2 _ _ _ _
   | exact ih3 _ _ _ _
   | exact LeO.none _
   | refine LeO.ite ?_ ?_
   | refine LeO.bind ?_ (fun _ => ?_)
  ·intro y0 y1 y2 y3
   unfold sawmillref10_Check.l0
   repeat' first
   | (with_reducible exact ih0 _ _ _ _)
   | (with_reducible exact ih1 _ _ _ _)
   | (with_reducible exact ih2 _ _ _ _)
   | (with_reducible exact ih3 _ _ _ _)
   | (with_reducible exact LeO.refl _)
   | (with_reducible exact LeO.none _)
   | (with_reducible refine LeO.ite ?_ ?_)
   | (with_reducible refine LeO.bind ?_ (fun _ => ?_))
   | exact ih0 _ _ _ _
   | exact ih1 _ _ _ _
   | exact ih2 _ _ _ _
   | exact ih3 _ _ _ _
   | exact LeO.none _
   | refine LeO.ite ?_ ?_
   | refine LeO.bind ?_ (fun _ => ?_)
  ·intro y0 y1 y2 y3
   unfold sawmillref10_Check.j2
   repeat' first
   | (with_reducible exact ih0 _ _ _ _)
   | (with_reducible exact ih1 _ _ _ _)
   | (with_reducible exact ih2 _ _ _ _)
   | (with_reducible exact ih3 _ _ _ _)
   | (with_reducible exact LeO.refl _)
   | (with_reducible exact LeO.none _)
   | (with_reducible refine LeO.ite ?_ ?_)
   | (with_reducible refine LeO.bind ?_ (fun _ => ?_))
   | exact ih0 _ _ _ _
   | exact ih1 _ _ _ _
   | exact ih2 _ _ _ _
   | exact ih3 _ _ _ _
   | exact LeO.none _
   | refine LeO.ite ?_ ?_
   | refine LeO.bind ?_ (fun _ => ?_)
  ·intro y0 y1 y2 y3
   unfold sawmillref10_Check.l1
   repeat' first
   | (with_reducible exact ih0 _ _ _ _)
   | (with_reducible exact ih1 _ _ _ _)
   | (with_reducible exact ih2 _ _ _ _)
   | (with_reducible exact ih3 _ _ _ _)
   | (with_reducible exact LeO.refl _)
   | (with_reducible exact LeO.none _)
   | (with_reducible refine LeO.ite ?_ ?_)
   | (with_reducible refine LeO.bind ?_ (fun _ => ?_))
   | exact ih0 _ _ _ _
   | exact ih1 _ _ _ _
   | exact ih2 _ _ _ _
   | exact ih3 _ _ _ _
   | exact LeO.none _
   | refine LeO.ite ?_ ?_
   | refine LeO.bind ?_ (fun _ => ?_)
theorem sawmillref10_Check.mono : ∀ a0 a1 k, LeO (sawmillref10_Check.f k a0 a1) (sawmillref10_Check.f (k + 1) a0 a1) := by
 intro a0 a1 k
 obtain ⟨ih0, ih1, ih2, ih3⟩ := sawmillref10_Check.mono_l k
 unfold sawmillref10_Check.f
 repeat' first
   | (with_reducible exact ih0 _ _ _ _)
   | (with_reducible exact ih1 _ _ _ _)
   | (with_reducible exact ih2 _ _ _ _)
   | (with_reducible exact ih3 _ _ _ _)
   | (with_reducible exact LeO.refl _)
   | (with_reducible exact LeO.none _)
   | (with_reducible refine LeO.ite ?_ ?_)
   | (with_reducible refine LeO.bind ?_ (fun _ => ?_))
   | exact ih0 _ _ _ _
   | exact ih1 _ _ _ _
   | exact ih2 _ _ _ _
   | exact ih3 _ _ _ _
   | exact LeO.none _
   | refine LeO.ite ?_ ?_
   | refine LeO.bind ?_ (fun _ => ?_)
set_option maxHeartbeats 8000000 in
set_option maxRecDepth 100000 in
theorem sawmillref10_Check.calls (k : Nat) (a0_0 : Int) (A0_1 : Option Addr) (c0_1 : Nat) (l0_1 : List (S49)) (r : Int) (w : World) (hr0_1 : Kd.C k49 w A0_1 l0_1.length l0_1) (hc0_1 : l0_1.length ≤ c0_1) (h : sawmillref10_Check.f k a0_0 l0_1 = some r) :
  Calls Try.prog 37 #[.agg #[.int .i64 a0_0, .slice A0_1 l0_1.length c0_1]] w fun e w' => e = .returned (.int .i64 r) ∧ Below w.heap.size w w' := by
 have hu24 := Try.underlying24
 have hu49 := Try.underlying49
 have HR0_1 := Aside0.mk hr0_1
 have HC0_1 := Aside0.mk hc0_1
 clear hr0_1 hc0_1
 have HB := Aside0.mk (Below.refl w.heap.size w)
 have H : (if (l0_1.length : Int) > 120 then (some 4) else (if a0_0 < (-60) then (sawmillref10_Check.j0 k (l0_1.length : Int) true a0_0 l0_1) else (sawmillref10_Check.j0 k (l0_1.length : Int) (decide (a0_0 > (wrap64 (60 - (l0_1.length : Int))))) a0_0 l0_1))) = some r := h
 clear h
 by_cases c2 : (l0_1.length : Int) > 120
 ·rw [if_pos c2] at H
  have c2b0 : decide (120 < (l0_1.length : Int)) = true := decide_eq_true c2
  have c2b1 : decide (120 < l0_1.length) = true := decide_eq_true (by omega)
  clear c2
  obtain rfl := Option.some.inj H
  go_enter Try.func37, Try.ntmps37
  go_wp2_with (first | ((with_reducible refine gate_dst (N := 1) rfl ?_); refine box_event ?hg (N := 1) ?hd (cs := #[.int .i64 a0_0, .slice A0_1 l0_1.length c0_1]) (t := 24) ?hr ?_; (case hd => rfl); (case hg => rfl); (case hr => first | (go_simp; done) | (go_simp; rfl)); intro gb37001 hg w3 hbox hb; have n0_ := Aside0.mk (bs_ hb); have n1_ := Aside0.mk (hbox); have n2_ := Aside0.mk ((by rw [hg]; exact bz_ : w.heap.size ≤ gb37001)); have n3_ := Aside0.mk ((by rw [hg]; exact bz_ : w.heap.size ≤ gb37001)); clear HB; have HB := n0_; have BK37001 := n1_; have GW37001 := n2_; have GE37001 := n3_; clear n0_ n1_ n2_ n3_ hb hbox hg; have hcz4_0 : w3.cell? ⟨gb37001, 0, none⟩ = some (.int .i64 a0_0) := (blk_cell BK37001.out 0).trans rfl; have hcz4_1 : w3.cell? ⟨gb37001, 1, none⟩ = some (.slice A0_1 l0_1.length c0_1) := (blk_cell BK37001.out 1).trans rfl; have hfz4_0 := blk_frozen BK37001.out 0; have hfz4_1 := blk_frozen BK37001.out 1))
  go_ret
  exact ⟨er_, be_⟩
 ·rw [if_neg c2] at H
  have c2b0 : decide (120 < (l0_1.length : Int)) = false := decide_eq_false c2
  have c2b1 : decide (120 < l0_1.length) = false := decide_eq_false (by omega)
  clear c2
  have HC5 := Aside0.mk H
  clear H
  go_enter Try.func37, Try.ntmps37
  go_upto_region 4 with (first | ((with_reducible refine gate_dst (N := 1) rfl ?_); refine box_event ?hg (N := 1) ?hd (cs := #[.int .i64 a0_0, .slice A0_1 l0_1.length c0_1]) (t := 24) ?hr ?_; (case hd => rfl); (case hg => rfl); (case hr => first | (go_simp; done) | (go_simp; rfl)); intro gb37001 hg w6 hbox hb; have n0_ := Aside0.mk (bs_ hb); have n1_ := Aside0.mk (hbox); have n2_ := Aside0.mk ((by rw [hg]; exact bz_ : w.heap.size ≤ gb37001)); have n3_ := Aside0.mk ((by rw [hg]; exact bz_ : w.heap.size ≤ gb37001)); clear HB; have HB := n0_; have BK37001 := n1_; have GW37001 := n2_; have GE37001 := n3_; clear n0_ n1_ n2_ n3_ hb hbox hg; have hcz7_0 : w6.cell? ⟨gb37001, 0, none⟩ = some (.int .i64 a0_0) := (blk_cell BK37001.out 0).trans rfl; have hcz7_1 : w6.cell? ⟨gb37001, 1, none⟩ = some (.slice A0_1 l0_1.length c0_1) := (blk_cell BK37001.out 1).trans rfl; have hfz7_0 := blk_frozen BK37001.out 0; have hfz7_1 := blk_frozen BK37001.out 1))
  (try simp only [Act.put, List.setIfInBounds_toArray, List.set_cons_zero, List.set_cons_succ])
  go_cut [20] (fun v20 wc => ∃ (kq : Nat) (x20_4 : Bool), v20 = .bool x20_4 ∧ Aside0 (sawmillref10_Check.j0 kq (l0_1.length : Int) x20_4 a0_0 l0_1 = some r) ∧ Aside0 (kq ≤ k) ∧ Aside0 (wc.heap[gb37001]? = some (.cells #[.int .i64 a0_0, (.slice A0_1 l0_1.length c0_1)] 24 (0, 0))) ∧ Aside0 (Below w.heap.size w wc))
  case first =>
   have H := HC5.out
   clear HC5
   by_cases c8 : a0_0 < (-60)
   ·rw [if_pos c8] at H
    have c8b0 : decide (a0_0 < (-60)) = true := decide_eq_true c8
    clear c8
    (first | rw [c8b0] | (simp only [i64_w, i32_w]; rw [c8b0]) | skip)
    have H' := Aside0.mk H
    clear H
    have hcz9_0 : w6.cell? ⟨gb37001, 0, none⟩ = some (.int .i64 a0_0) := (blk_cell BK37001.out 0).trans rfl
    have hcz9_1 : w6.cell? ⟨gb37001, 1, none⟩ = some (.slice A0_1 l0_1.length c0_1) := (blk_cell BK37001.out 1).trans rfl
    have hfz9_0 := blk_frozen BK37001.out 0
    have hfz9_1 := blk_frozen BK37001.out 1
    go_wp2
    go_meet
    case rel => exact ⟨_, (true), (by first | rfl | (simp; done) | (simp [*]; done)), H', ⟨by first | omega | exact Nat.le_refl _⟩, ⟨fb_ BK37001.out⟩, ⟨be_⟩⟩
   ·rw [if_neg c8] at H
    have c8b0 : decide (a0_0 < (-60)) = false := decide_eq_false c8
    clear c8
    (first | rw [c8b0] | (simp only [i64_w, i32_w]; rw [c8b0]) | skip)
    have H' := Aside0.mk H
    clear H
    have hcz10_0 : w6.cell? ⟨gb37001, 0, none⟩ = some (.int .i64 a0_0) := (blk_cell BK37001.out 0).trans rfl
    have hcz10_1 : w6.cell? ⟨gb37001, 1, none⟩ = some (.slice A0_1 l0_1.length c0_1) := (blk_cell BK37001.out 1).trans rfl
    have hfz10_0 := blk_frozen BK37001.out 0
    have hfz10_1 := blk_frozen BK37001.out 1
    go_wp2
    go_meet
    case rel => exact ⟨_, (decide (a0_0 > (wrap64 (60 - (l0_1.length : Int))))), (by first | rfl | (simp; done) | (simp [*]; done)), H', ⟨by first | omega | exact Nat.le_refl _⟩, ⟨fb_ BK37001.out⟩, ⟨be_⟩⟩
  case rest =>
   clear HC5
   try clear c2
   try clear c2b0
   try clear c2b1
   try clear p2
   try clear c3
   try clear p6
   try clear c8
   try clear c8b0
   try clear hcz10_0
   try clear hcz10_1
   try clear hcz4_0
   try clear hcz4_1
   try clear hcz7_0
   try clear hcz7_1
   try clear hcz9_0
   try clear hcz9_1
   try clear hfz10_0
   try clear hfz10_1
   try clear hfz4_0
   try clear hfz4_1
   try clear hfz7_0
   try clear hfz7_1
   try clear hfz9_0
   try clear hfz9_1
   obtain ⟨kq, x20_4, rfl, HA, HJ4, BK37001, HB⟩ := hcut
   cases kq with
   | zero => exact absurd HA.out (by simp [sawmillref10_Check.j0])
   | succ kj4 =>
    have H := HA.out
    clear HA
    simp only [sawmillref10_Check.j0] at H
    by_cases c11 : x20_4 = true
    ·subst c11
     have H1 : (some 9) = some r := by rw [if_pos rfl] at H; exact H
     clear H
     have H := H1
     clear H1
     obtain rfl := Option.some.inj H
     go_wp2
     go_ret
     exact ⟨er_, be_⟩
    ·replace c11 := Bool.eq_false_iff.mpr c11
     subst c11
     have H1 : (sawmillref10_Check.l0 kj4 (l0_1.length : Int) 0 a0_0 l0_1) = some r := by rw [if_neg (show ¬ (false = true) by decide)] at H; exact H
     clear H
     have H := H1
     clear H1
     have H' := Aside0.mk H
     clear H
     go_wp2
     go_loopg [4] kj4 (fun kq v4 w' => ∃ (x4_2 : Int), v4 = .int .i64 x4_2 ∧ Aside0 (sawmillref10_Check.l0 kq (l0_1.length : Int) x4_2 a0_0 l0_1 = some r) ∧ Aside0 (kq ≤ kj4) ∧ Aside0 (w'.heap[gb37001]? = some (.cells #[.int .i64 a0_0, (.slice A0_1 l0_1.length c0_1)] 24 (0, 0))) ∧ Aside0 (Below w.heap.size w w'))
     case atStart => exact ⟨(0), (by first | rfl | (simp; done) | (simp [*]; done)), H', ⟨Nat.le_refl _⟩, ⟨fb_ BK37001.out⟩, ⟨be_⟩⟩
     case round =>
      clear H'
      try clear c1
      try clear c2
      try clear c2b0
      try clear c2b1
      try clear p2
      try clear c3
      try clear p6
      try clear c8
      try clear c8b0
      try clear c11
      try clear hcz10_0
      try clear hcz10_1
      try clear hcz4_0
      try clear hcz4_1
      try clear hcz7_0
      try clear hcz7_1
      try clear hcz9_0
      try clear hcz9_1
      try clear hfz10_0
      try clear hfz10_1
      try clear hfz4_0
      try clear hfz4_1
      try clear hfz7_0
      try clear hfz7_1
      try clear hfz9_0
      try clear hfz9_1
      try clear p2
      try clear p6
      obtain ⟨x4_2, rfl, HA, HK2, BK37001, HB⟩ := hrel
      cases gk with
      | zero => exact absurd HA.out (by simp [sawmillref10_Check.l0])
      | succ k2 =>
       have H := HA.out
       clear HA
       simp only [sawmillref10_Check.l0] at H
       by_cases c12 : x4_2 < (l0_1.length : Int)
       ·rw [if_pos c12] at H
        have c12b0 : decide (x4_2 < (l0_1.length : Int)) = true := decide_eq_true c12
        clear c12
        by_cases c13 : 0 ≤ x4_2
        ·rw [if_pos c13] at H
         have c13b0 : decide (0 ≤ x4_2) = true := decide_eq_true c13
         clear c13
         by_cases c14 : x4_2 < (l0_1.length : Int)
         ·rw [if_pos c14] at H
          have c14b0 : decide (x4_2 < (l0_1.length : Int)) = true := decide_eq_true c14
          clear c14
          replace H := Option.bind_eq_some_iff.mp H
          obtain ⟨t37003, A150, H⟩ := H
          replace H : (if t37003 = true then (some 9) else ((sawmillref10_beyond.f ((rd_T49 l0_1 x4_2).f1)).bind fun t37005 => (if t37005 = true then (some 9) else (sawmillref10_Check.l0 k2 (l0_1.length : Int) (wrap64 (x4_2 + 1)) a0_0 l0_1)))) = some r := H
          have A15 := Aside0.mk A150
          clear A150
          by_cases c16 : t37003 = true
          ·subst c16
           have H1 : (some 9) = some r := by rw [if_pos rfl] at H; exact H
           clear H
           have H := H1
           clear H1
           obtain rfl := Option.some.inj H
           have hcz17_0 : wr.cell? ⟨gb37001, 0, none⟩ = some (.int .i64 a0_0) := (blk_cell BK37001.out 0).trans rfl
           have hcz17_1 : wr.cell? ⟨gb37001, 1, none⟩ = some (.slice A0_1 l0_1.length c0_1) := (blk_cell BK37001.out 1).trans rfl
           have hfz17_0 := blk_frozen BK37001.out 0
           have hfz17_1 := blk_frozen BK37001.out 1
           have p37002 : 0 ≤ (x4_2 : Int) := of_decide_eq_true (by first | (with_reducible assumption) | assumption)
           have q37002 : x4_2 < (l0_1.length : Int) := of_decide_eq_true (by first | (with_reducible assumption) | assumption)
           obtain ⟨ad37002, e37002, hx37002_0, hx37002_1⟩ := at_T49 HR0_1.out x4_2 p37002 q37002
           cases e37002
           replace hx37002_0 := (HB.out.cell (World.block_lt_of_cell? w _ hx37002_0)).trans hx37002_0
           replace hx37002_1 := (HB.out.cell (World.block_lt_of_cell? w _ hx37002_1)).trans hx37002_1
           replace p37002 := eq_true p37002
           replace q37002 := eq_true q37002
           go_wp2_with (first | ((with_reducible refine gate_callee (f := 62) rfl ?_); refine goesL_ (some 32) rfl rfl Try.func62 (by kernel_rfl) rfl #[.int .i64 ((rd_T49 l0_1 x4_2).f0)] rfl la_ ?_; (with_reducible refine (sawmillref10_beyond.calls ((rd_T49 l0_1 x4_2).f0) true _ A15.out).mono ?_); rintro e w' ⟨rfl, ⟨nd, rfl⟩⟩; refine ⟨_, rfl, ?_⟩))
           go_ret
           exact ⟨er_, be_⟩
          ·replace c16 := Bool.eq_false_iff.mpr c16
           subst c16
           have H1 : ((sawmillref10_beyond.f ((rd_T49 l0_1 x4_2).f1)).bind fun t37005 => (if t37005 = true then (some 9) else (sawmillref10_Check.l0 k2 (l0_1.length : Int) (wrap64 (x4_2 + 1)) a0_0 l0_1))) = some r := by rw [if_neg (show ¬ (false = true) by decide)] at H; exact H
           clear H
           have H := H1
           clear H1
           replace H := Option.bind_eq_some_iff.mp H
           obtain ⟨t37005, A180, H⟩ := H
           replace H : (if t37005 = true then (some 9) else (sawmillref10_Check.l0 k2 (l0_1.length : Int) (wrap64 (x4_2 + 1)) a0_0 l0_1)) = some r := H
           have A18 := Aside0.mk A180
           clear A180
           by_cases c19 : t37005 = true
           ·subst c19
            have H1 : (some 9) = some r := by rw [if_pos rfl] at H; exact H
            clear H
            have H := H1
            clear H1
            obtain rfl := Option.some.inj H
            have hcz20_0 : wr.cell? ⟨gb37001, 0, none⟩ = some (.int .i64 a0_0) := (blk_cell BK37001.out 0).trans rfl
            have hcz20_1 : wr.cell? ⟨gb37001, 1, none⟩ = some (.slice A0_1 l0_1.length c0_1) := (blk_cell BK37001.out 1).trans rfl
            have hfz20_0 := blk_frozen BK37001.out 0
            have hfz20_1 := blk_frozen BK37001.out 1
            have p37002 : 0 ≤ (x4_2 : Int) := of_decide_eq_true (by first | (with_reducible assumption) | assumption)
            have q37002 : x4_2 < (l0_1.length : Int) := of_decide_eq_true (by first | (with_reducible assumption) | assumption)
            obtain ⟨ad37002, e37002, hx37002_0, hx37002_1⟩ := at_T49 HR0_1.out x4_2 p37002 q37002
            cases e37002
            replace hx37002_0 := (HB.out.cell (World.block_lt_of_cell? w _ hx37002_0)).trans hx37002_0
            replace hx37002_1 := (HB.out.cell (World.block_lt_of_cell? w _ hx37002_1)).trans hx37002_1
            replace p37002 := eq_true p37002
            replace q37002 := eq_true q37002
            go_wp2_with (first | ((with_reducible refine gate_callee (f := 62) rfl ?_); refine goesL_ (some 32) rfl rfl Try.func62 (by kernel_rfl) rfl #[.int .i64 ((rd_T49 l0_1 x4_2).f0)] rfl la_ ?_; (with_reducible refine (sawmillref10_beyond.calls ((rd_T49 l0_1 x4_2).f0) false _ A15.out).mono ?_); rintro e w' ⟨rfl, ⟨nd, rfl⟩⟩; refine ⟨_, rfl, ?_⟩; have p37004 : 0 ≤ (x4_2 : Int) := of_decide_eq_true (by first | (with_reducible assumption) | assumption); have q37004 : x4_2 < (l0_1.length : Int) := of_decide_eq_true (by first | (with_reducible assumption) | assumption); obtain ⟨ad37004, e37004, hx37004_0, hx37004_1⟩ := at_T49 HR0_1.out x4_2 p37004 q37004; obtain rfl : ad37002 = ad37004 := (by injection e37004); replace hx37004_0 := (HB.out.cell (World.block_lt_of_cell? w _ hx37004_0)).trans hx37004_0; replace hx37004_1 := (HB.out.cell (World.block_lt_of_cell? w _ hx37004_1)).trans hx37004_1; replace p37004 := eq_true p37004; replace q37004 := eq_true q37004) | (go_at_call 62; (with_reducible refine (sawmillref10_beyond.calls ((rd_T49 l0_1 x4_2).f1) true _ A18.out).mono ?_); rintro e w' ⟨rfl, ⟨nd, rfl⟩⟩))
            go_ret
            exact ⟨er_, be_⟩
           ·replace c19 := Bool.eq_false_iff.mpr c19
            subst c19
            have H1 : (sawmillref10_Check.l0 k2 (l0_1.length : Int) (wrap64 (x4_2 + 1)) a0_0 l0_1) = some r := by rw [if_neg (show ¬ (false = true) by decide)] at H; exact H
            clear H
            have H := H1
            clear H1
            have H' := Aside0.mk H
            clear H
            have hcz21_0 : wr.cell? ⟨gb37001, 0, none⟩ = some (.int .i64 a0_0) := (blk_cell BK37001.out 0).trans rfl
            have hcz21_1 : wr.cell? ⟨gb37001, 1, none⟩ = some (.slice A0_1 l0_1.length c0_1) := (blk_cell BK37001.out 1).trans rfl
            have hfz21_0 := blk_frozen BK37001.out 0
            have hfz21_1 := blk_frozen BK37001.out 1
            have p37002 : 0 ≤ (x4_2 : Int) := of_decide_eq_true (by first | (with_reducible assumption) | assumption)
            have q37002 : x4_2 < (l0_1.length : Int) := of_decide_eq_true (by first | (with_reducible assumption) | assumption)
            obtain ⟨ad37002, e37002, hx37002_0, hx37002_1⟩ := at_T49 HR0_1.out x4_2 p37002 q37002
            cases e37002
            replace hx37002_0 := (HB.out.cell (World.block_lt_of_cell? w _ hx37002_0)).trans hx37002_0
            replace hx37002_1 := (HB.out.cell (World.block_lt_of_cell? w _ hx37002_1)).trans hx37002_1
            replace p37002 := eq_true p37002
            replace q37002 := eq_true q37002
            go_wp2_with (first | ((with_reducible refine gate_callee (f := 62) rfl ?_); refine goesL_ (some 32) rfl rfl Try.func62 (by kernel_rfl) rfl #[.int .i64 ((rd_T49 l0_1 x4_2).f0)] rfl la_ ?_; (with_reducible refine (sawmillref10_beyond.calls ((rd_T49 l0_1 x4_2).f0) false _ A15.out).mono ?_); rintro e w' ⟨rfl, ⟨nd, rfl⟩⟩; refine ⟨_, rfl, ?_⟩; have p37004 : 0 ≤ (x4_2 : Int) := of_decide_eq_true (by first | (with_reducible assumption) | assumption); have q37004 : x4_2 < (l0_1.length : Int) := of_decide_eq_true (by first | (with_reducible assumption) | assumption); obtain ⟨ad37004, e37004, hx37004_0, hx37004_1⟩ := at_T49 HR0_1.out x4_2 p37004 q37004; obtain rfl : ad37002 = ad37004 := (by injection e37004); replace hx37004_0 := (HB.out.cell (World.block_lt_of_cell? w _ hx37004_0)).trans hx37004_0; replace hx37004_1 := (HB.out.cell (World.block_lt_of_cell? w _ hx37004_1)).trans hx37004_1; replace p37004 := eq_true p37004; replace q37004 := eq_true q37004) | (go_at_call 62; (with_reducible refine (sawmillref10_beyond.calls ((rd_T49 l0_1 x4_2).f1) false _ A18.out).mono ?_); rintro e w' ⟨rfl, ⟨nd, rfl⟩⟩))
            go_roundg k2
            case measure => have := HJ4.out; have := HK2.out; omega
            case rel => exact ⟨(wrap64 (x4_2 + 1)), (by first | rfl | (simp; done) | (simp [*]; done)), H', ⟨by have := HJ4.out; have := HK2.out; omega⟩, ⟨fb_ BK37001.out⟩, ⟨be_⟩⟩
         ·rw [if_neg c14] at H
          exact absurd H (by simp)
        ·rw [if_neg c13] at H
         exact absurd H (by simp)
       ·rw [if_neg c12] at H
        have c12b0 : decide (x4_2 < (l0_1.length : Int)) = false := decide_eq_false c12
        clear c12
        by_cases c22 : (l0_1.length : Int) = 0
        ·rw [if_pos c22] at H
         have c22b0 : ((l0_1.length : Int) == 0) = true := beq_iff_eq.mpr c22
         have c22b1 : ((l0_1.length : Int) != 0) = false := bne_eq_false_iff_eq.mpr c22
         clear c22
         by_cases c23 : a0_0 = 0
         ·rw [if_pos c23] at H
          have c23b0 : (a0_0 == 0) = true := beq_iff_eq.mpr c23
          have c23b1 : (a0_0 != 0) = false := bne_eq_false_iff_eq.mpr c23
          clear c23
          obtain rfl := Option.some.inj H
          have hcz24_0 : wr.cell? ⟨gb37001, 0, none⟩ = some (.int .i64 a0_0) := (blk_cell BK37001.out 0).trans rfl
          have hcz24_1 : wr.cell? ⟨gb37001, 1, none⟩ = some (.slice A0_1 l0_1.length c0_1) := (blk_cell BK37001.out 1).trans rfl
          have hfz24_0 := blk_frozen BK37001.out 0
          have hfz24_1 := blk_frozen BK37001.out 1
          go_wp2
          go_ret
          exact ⟨er_, be_⟩
         ·rw [if_neg c23] at H
          have c23b0 : (a0_0 == 0) = false := beq_eq_false_iff_ne.mpr c23
          have c23b1 : (a0_0 != 0) = true := bne_iff_ne.mpr c23
          obtain rfl := Option.some.inj H
          have hcz25_0 : wr.cell? ⟨gb37001, 0, none⟩ = some (.int .i64 a0_0) := (blk_cell BK37001.out 0).trans rfl
          have hcz25_1 : wr.cell? ⟨gb37001, 1, none⟩ = some (.slice A0_1 l0_1.length c0_1) := (blk_cell BK37001.out 1).trans rfl
          have hfz25_0 := blk_frozen BK37001.out 0
          have hfz25_1 := blk_frozen BK37001.out 1
          go_wp2
          go_ret
          exact ⟨er_, be_⟩
        ·rw [if_neg c22] at H
         have c22b0 : ((l0_1.length : Int) == 0) = false := beq_eq_false_iff_ne.mpr c22
         have c22b1 : ((l0_1.length : Int) != 0) = true := bne_iff_ne.mpr c22
         have c22b2 : ¬ (l0_1 = []) := fun h_ => c22 (by rw [h_]; rfl)
         have HC26 := Aside0.mk H
         clear H
         go_upto_region 15 with (fail)
         go_cut [60] (fun v60 wc => ∃ (kq : Nat) (x60_25 : Bool), v60 = .bool x60_25 ∧ Aside0 (sawmillref10_Check.j2 kq (l0_1.length : Int) x60_25 a0_0 l0_1 = some r) ∧ Aside0 (kq ≤ k2) ∧ Aside0 (wc.heap[gb37001]? = some (.cells #[.int .i64 a0_0, (.slice A0_1 l0_1.length c0_1)] 24 (0, 0))) ∧ Aside0 (Below w.heap.size w wc))
         case first =>
          have H := HC26.out
          clear HC26
          by_cases c27 : 0 < (l0_1.length : Int)
          ·rw [if_pos c27] at H
           have c27b0 : decide (0 < (l0_1.length : Int)) = true := decide_eq_true c27
           have c27b1 : decide (0 < l0_1.length) = true := decide_eq_true (by omega)
           clear c27
           (first | rw [c27b0] | (simp only [i64_w, i32_w]; rw [c27b0]) | skip)
           replace H := Option.bind_eq_some_iff.mp H
           obtain ⟨t37007, A280, H⟩ := H
           replace H : (if t37007 = true then (sawmillref10_Check.j2 k2 (l0_1.length : Int) true a0_0 l0_1) else (if 0 ≤ (wrap64 ((l0_1.length : Int) - 1)) then (if (wrap64 ((l0_1.length : Int) - 1)) < (l0_1.length : Int) then ((sawmillref10_empty.f ((rd_T49 l0_1 (wrap64 ((l0_1.length : Int) - 1))).f0) ((rd_T49 l0_1 (wrap64 ((l0_1.length : Int) - 1))).f1)).bind fun t37009 => (sawmillref10_Check.j2 k2 (l0_1.length : Int) t37009 a0_0 l0_1)) else (none)) else (none))) = some r := H
           have A28 := Aside0.mk A280
           clear A280
           by_cases c29 : t37007 = true
           ·subst c29
            have H1 : (sawmillref10_Check.j2 k2 (l0_1.length : Int) true a0_0 l0_1) = some r := by rw [if_pos rfl] at H; exact H
            clear H
            have H := H1
            clear H1
            have H' := Aside0.mk H
            clear H
            have hcz30_0 : wr.cell? ⟨gb37001, 0, none⟩ = some (.int .i64 a0_0) := (blk_cell BK37001.out 0).trans rfl
            have hcz30_1 : wr.cell? ⟨gb37001, 1, none⟩ = some (.slice A0_1 l0_1.length c0_1) := (blk_cell BK37001.out 1).trans rfl
            have hfz30_0 := blk_frozen BK37001.out 0
            have hfz30_1 := blk_frozen BK37001.out 1
            have p37006 : 0 ≤ (0 : Int) := (by omega)
            have q37006 : 0 < (l0_1.length : Int) := of_decide_eq_true (by first | (with_reducible assumption) | assumption)
            obtain ⟨ad37006, e37006, hx37006_0, hx37006_1⟩ := at_T49 HR0_1.out 0 p37006 q37006
            cases e37006
            have qi37006 : (0 < l0_1.length) = True := eq_true (by omega)
            (try rw [show ((0 : Int)).toNat = 0 from rfl] at hx37006_0)
            (try rw [show 0 * 2 = 0 from rfl] at hx37006_0)
            (try rw [Addr.add_zero'] at hx37006_0)
            (try rw [show ((0 : Int)).toNat = 0 from rfl] at hx37006_1)
            (try rw [show 0 * 2 = 0 from rfl] at hx37006_1)
            (try rw [Addr.add_zero'] at hx37006_1)
            replace hx37006_0 := (HB.out.cell (World.block_lt_of_cell? w _ hx37006_0)).trans hx37006_0
            replace hx37006_1 := (HB.out.cell (World.block_lt_of_cell? w _ hx37006_1)).trans hx37006_1
            replace p37006 := eq_true p37006
            replace q37006 := eq_true q37006
            go_wp2_with (first | ((with_reducible refine gate_callee (f := 63) rfl ?_); refine goesL_ (some 51) rfl rfl Try.func63 (by kernel_rfl) rfl #[.agg #[.int .i64 ((rd_T49 l0_1 0).f0), .int .i64 ((rd_T49 l0_1 0).f1)]] rfl la_ ?_; (with_reducible refine (sawmillref10_empty.calls ((rd_T49 l0_1 0).f0) ((rd_T49 l0_1 0).f1) true _ A28.out).mono ?_); rintro e w31 ⟨rfl, hb⟩; refine ⟨_, rfl, ?_⟩; have n0_ := Aside0.mk (blk_below (g := gb37001) (o := .cells #[.int .i64 a0_0, .slice (some ad37006) l0_1.length c0_1] 24 (0, 0)) (fb_ BK37001.out) hb); have n1_ := Aside0.mk (bs_ hb); clear BK37001 HB; have BK37001 := n0_; have HB := n1_; clear n0_ n1_; (try clear hb); (try clear hb2); (try clear hk); (try clear hi)))
            go_meet
            case rel => exact ⟨_, (true), (by first | rfl | (simp; done) | (simp [*]; done)), H', ⟨by have := HJ4.out; have := HK2.out; first | omega | exact Nat.le_refl _⟩, ⟨fb_ BK37001.out⟩, ⟨be_⟩⟩
           ·replace c29 := Bool.eq_false_iff.mpr c29
            subst c29
            have H1 : (if 0 ≤ (wrap64 ((l0_1.length : Int) - 1)) then (if (wrap64 ((l0_1.length : Int) - 1)) < (l0_1.length : Int) then ((sawmillref10_empty.f ((rd_T49 l0_1 (wrap64 ((l0_1.length : Int) - 1))).f0) ((rd_T49 l0_1 (wrap64 ((l0_1.length : Int) - 1))).f1)).bind fun t37009 => (sawmillref10_Check.j2 k2 (l0_1.length : Int) t37009 a0_0 l0_1)) else (none)) else (none)) = some r := by rw [if_neg (show ¬ (false = true) by decide)] at H; exact H
            clear H
            have H := H1
            clear H1
            obtain ⟨ji32, hji32⟩ : ∃ j_ : Int, (wrap64 ((l0_1.length : Int) - 1)) = j_ := ⟨_, rfl⟩
            replace H : (if 0 ≤ (ji32) then (if (ji32) < (l0_1.length : Int) then ((sawmillref10_empty.f ((rd_T49 l0_1 (ji32)).f0) ((rd_T49 l0_1 (ji32)).f1)).bind fun t37009 => (sawmillref10_Check.j2 k2 (l0_1.length : Int) t37009 a0_0 l0_1)) else (none)) else (none)) = some r := by first | (rw [hji32] at H; exact H) | (simp only [hji32] at H ⊢; exact H)
            (try rw [hji32] at A28)
            have hji32w : (IntKind.i64.wrap ((l0_1.length : Int) - 1)) = ji32 := (i64_w _).trans hji32
            by_cases c33 : 0 ≤ (ji32)
            ·rw [if_pos c33] at H
             have c33b0 : decide (0 ≤ (ji32)) = true := decide_eq_true c33
             clear c33
             by_cases c34 : (ji32) < (l0_1.length : Int)
             ·rw [if_pos c34] at H
              have c34b0 : decide ((ji32) < (l0_1.length : Int)) = true := decide_eq_true c34
              clear c34
              replace H := Option.bind_eq_some_iff.mp H
              obtain ⟨t37009, A350, H⟩ := H
              replace H : (sawmillref10_Check.j2 k2 (l0_1.length : Int) t37009 a0_0 l0_1) = some r := H
              have A35 := Aside0.mk A350
              clear A350
              have H' := Aside0.mk H
              clear H
              have hcz36_0 : wr.cell? ⟨gb37001, 0, none⟩ = some (.int .i64 a0_0) := (blk_cell BK37001.out 0).trans rfl
              have hcz36_1 : wr.cell? ⟨gb37001, 1, none⟩ = some (.slice A0_1 l0_1.length c0_1) := (blk_cell BK37001.out 1).trans rfl
              have hfz36_0 := blk_frozen BK37001.out 0
              have hfz36_1 := blk_frozen BK37001.out 1
              have p37006 : 0 ≤ (0 : Int) := (by omega)
              have q37006 : 0 < (l0_1.length : Int) := of_decide_eq_true (by first | (with_reducible assumption) | assumption)
              obtain ⟨ad37006, e37006, hx37006_0, hx37006_1⟩ := at_T49 HR0_1.out 0 p37006 q37006
              cases e37006
              have qi37006 : (0 < l0_1.length) = True := eq_true (by omega)
              (try rw [show ((0 : Int)).toNat = 0 from rfl] at hx37006_0)
              (try rw [show 0 * 2 = 0 from rfl] at hx37006_0)
              (try rw [Addr.add_zero'] at hx37006_0)
              (try rw [show ((0 : Int)).toNat = 0 from rfl] at hx37006_1)
              (try rw [show 0 * 2 = 0 from rfl] at hx37006_1)
              (try rw [Addr.add_zero'] at hx37006_1)
              replace hx37006_0 := (HB.out.cell (World.block_lt_of_cell? w _ hx37006_0)).trans hx37006_0
              replace hx37006_1 := (HB.out.cell (World.block_lt_of_cell? w _ hx37006_1)).trans hx37006_1
              replace p37006 := eq_true p37006
              replace q37006 := eq_true q37006
              go_wp2_with (first | ((with_reducible refine gate_callee (f := 63) rfl ?_); refine goesL_ (some 51) rfl rfl Try.func63 (by kernel_rfl) rfl #[.agg #[.int .i64 ((rd_T49 l0_1 0).f0), .int .i64 ((rd_T49 l0_1 0).f1)]] rfl la_ ?_; (with_reducible refine (sawmillref10_empty.calls ((rd_T49 l0_1 0).f0) ((rd_T49 l0_1 0).f1) false _ A28.out).mono ?_); rintro e w37 ⟨rfl, hb⟩; refine ⟨_, rfl, ?_⟩; have n0_ := Aside0.mk (blk_below (g := gb37001) (o := .cells #[.int .i64 a0_0, .slice (some ad37006) l0_1.length c0_1] 24 (0, 0)) (fb_ BK37001.out) hb); have n1_ := Aside0.mk (bs_ hb); clear BK37001 HB; have BK37001 := n0_; have HB := n1_; clear n0_ n1_; (try clear hb); (try clear hb2); (try clear hk); (try clear hi); have hcz38_0 : w37.cell? ⟨gb37001, 0, none⟩ = some (.int .i64 a0_0) := (blk_cell BK37001.out 0).trans rfl; have hcz38_1 : w37.cell? ⟨gb37001, 1, none⟩ = some (.slice (some ad37006) l0_1.length c0_1) := (blk_cell BK37001.out 1).trans rfl; have hfz38_0 := blk_frozen BK37001.out 0; have hfz38_1 := blk_frozen BK37001.out 1; have p37008 : 0 ≤ ((ji32) : Int) := of_decide_eq_true (by first | (with_reducible assumption) | assumption); have q37008 : (ji32) < (l0_1.length : Int) := of_decide_eq_true (by first | (with_reducible assumption) | assumption); obtain ⟨ad37008, e37008, hx37008_0, hx37008_1⟩ := at_T49 HR0_1.out (ji32) p37008 q37008; obtain rfl : ad37006 = ad37008 := (by injection e37008); replace hx37008_0 := (HB.out.cell (World.block_lt_of_cell? w _ hx37008_0)).trans hx37008_0; replace hx37008_1 := (HB.out.cell (World.block_lt_of_cell? w _ hx37008_1)).trans hx37008_1; replace p37008 := eq_true p37008; replace q37008 := eq_true q37008) | (go_at_call 63; (with_reducible refine (sawmillref10_empty.calls ((rd_T49 l0_1 (ji32)).f0) ((rd_T49 l0_1 (ji32)).f1) t37009 _ A35.out).mono ?_); rintro e w39 ⟨rfl, hb⟩; have n0_ := Aside0.mk (blk_below (g := gb37001) (o := .cells #[.int .i64 a0_0, .slice (some ad37006) l0_1.length c0_1] 24 (0, 0)) (fb_ BK37001.out) hb); have n1_ := Aside0.mk (bs_ hb); clear BK37001 HB; have BK37001 := n0_; have HB := n1_; clear n0_ n1_; (try clear hb); (try clear hb2); (try clear hk); (try clear hi)))
              go_meet
              case rel => exact ⟨_, (t37009), (by first | rfl | (simp; done) | (simp [*]; done)), H', ⟨by have := HJ4.out; have := HK2.out; first | omega | exact Nat.le_refl _⟩, ⟨fb_ BK37001.out⟩, ⟨be_⟩⟩
             ·rw [if_neg c34] at H
              exact absurd H (by simp)
            ·rw [if_neg c33] at H
             exact absurd H (by simp)
          ·rw [if_neg c27] at H
           exact absurd H (by simp)
         case rest =>
          clear HC26
          try clear c1
          try clear c2
          try clear c2b0
          try clear c2b1
          try clear p2
          try clear c3
          try clear p3
          try clear q3
          try clear hx3
          try clear qi3
          try clear c6
          try clear p6
          try clear c8
          try clear c8b0
          try clear c11
          try clear c12
          try clear c12b0
          try clear c13
          try clear c13b0
          try clear c14
          try clear c14b0
          try clear c16
          try clear c19
          try clear c22
          try clear c22b0
          try clear c22b1
          try clear c22b2
          try clear c23
          try clear c23b0
          try clear c23b1
          try clear c27
          try clear c27b0
          try clear c27b1
          try clear c29
          try clear c33
          try clear c33b0
          try clear c34
          try clear c34b0
          try clear c37
          try clear p37
          try clear q37
          try clear hx37
          try clear qi37
          try clear hcz10_0
          try clear hcz10_1
          try clear hcz17_0
          try clear hcz17_1
          try clear hcz20_0
          try clear hcz20_1
          try clear hcz21_0
          try clear hcz21_1
          try clear hcz24_0
          try clear hcz24_1
          try clear hcz25_0
          try clear hcz25_1
          try clear hcz30_0
          try clear hcz30_1
          try clear hcz36_0
          try clear hcz36_1
          try clear hcz38_0
          try clear hcz38_1
          try clear hcz4_0
          try clear hcz4_1
          try clear hcz7_0
          try clear hcz7_1
          try clear hcz9_0
          try clear hcz9_1
          try clear hfz10_0
          try clear hfz10_1
          try clear hfz17_0
          try clear hfz17_1
          try clear hfz20_0
          try clear hfz20_1
          try clear hfz21_0
          try clear hfz21_1
          try clear hfz24_0
          try clear hfz24_1
          try clear hfz25_0
          try clear hfz25_1
          try clear hfz30_0
          try clear hfz30_1
          try clear hfz36_0
          try clear hfz36_1
          try clear hfz38_0
          try clear hfz38_1
          try clear hfz4_0
          try clear hfz4_1
          try clear hfz7_0
          try clear hfz7_1
          try clear hfz9_0
          try clear hfz9_1
          try clear hx37002_0
          try clear hx37002_1
          try clear hx37004_0
          try clear hx37004_1
          try clear hx37006_0
          try clear hx37006_1
          try clear hx37008_0
          try clear hx37008_1
          try clear p2
          try clear p37002
          try clear p37004
          try clear p37006
          try clear p37008
          try clear p6
          try clear q37002
          try clear q37004
          try clear q37006
          try clear q37008
          obtain ⟨kq, x60_25, rfl, HA, HJ25, BK37001, HB⟩ := hcut
          cases kq with
          | zero => exact absurd HA.out (by simp [sawmillref10_Check.j2])
          | succ kj25 =>
           have H := HA.out
           clear HA
           simp only [sawmillref10_Check.j2] at H
           by_cases c40 : x60_25 = true
           ·subst c40
            have H1 : (some 19) = some r := by rw [if_pos rfl] at H; exact H
            clear H
            have H := H1
            clear H1
            obtain rfl := Option.some.inj H
            go_wp2
            go_ret
            exact ⟨er_, be_⟩
           ·replace c40 := Bool.eq_false_iff.mpr c40
            subst c40
            have H1 : (sawmillref10_Check.l1 kj25 (l0_1.length : Int) 0 a0_0 l0_1) = some r := by rw [if_neg (show ¬ (false = true) by decide)] at H; exact H
            clear H
            have H := H1
            clear H1
            have H' := Aside0.mk H
            clear H
            go_wp2
            go_loopg [5] kj25 (fun kq v5 w' => ∃ (x5_4 : Int), v5 = .int .i64 x5_4 ∧ Aside0 (sawmillref10_Check.l1 kq (l0_1.length : Int) x5_4 a0_0 l0_1 = some r) ∧ Aside0 (kq ≤ kj25) ∧ Aside0 (w'.heap[gb37001]? = some (.cells #[.int .i64 a0_0, (.slice A0_1 l0_1.length c0_1)] 24 (0, 0))) ∧ Aside0 (Below w.heap.size w w'))
            case atStart => exact ⟨(0), (by first | rfl | (simp; done) | (simp [*]; done)), H', ⟨Nat.le_refl _⟩, ⟨fb_ BK37001.out⟩, ⟨be_⟩⟩
            case round =>
             clear H'
             try clear c1
             try clear c2
             try clear c2b0
             try clear c2b1
             try clear p2
             try clear c3
             try clear p3
             try clear q3
             try clear hx3
             try clear qi3
             try clear c4
             try clear c6
             try clear p6
             try clear c8
             try clear c8b0
             try clear c11
             try clear c12
             try clear c12b0
             try clear c13
             try clear c13b0
             try clear c14
             try clear c14b0
             try clear c16
             try clear c19
             try clear c22
             try clear c22b0
             try clear c22b1
             try clear c22b2
             try clear c23
             try clear c23b0
             try clear c23b1
             try clear c27
             try clear c27b0
             try clear c27b1
             try clear c29
             try clear c33
             try clear c33b0
             try clear c34
             try clear c34b0
             try clear c37
             try clear p37
             try clear q37
             try clear hx37
             try clear qi37
             try clear c40
             try clear hcz10_0
             try clear hcz10_1
             try clear hcz17_0
             try clear hcz17_1
             try clear hcz20_0
             try clear hcz20_1
             try clear hcz21_0
             try clear hcz21_1
             try clear hcz24_0
             try clear hcz24_1
             try clear hcz25_0
             try clear hcz25_1
             try clear hcz30_0
             try clear hcz30_1
             try clear hcz36_0
             try clear hcz36_1
             try clear hcz38_0
             try clear hcz38_1
             try clear hcz4_0
             try clear hcz4_1
             try clear hcz7_0
             try clear hcz7_1
             try clear hcz9_0
             try clear hcz9_1
             try clear hfz10_0
             try clear hfz10_1
             try clear hfz17_0
             try clear hfz17_1
             try clear hfz20_0
             try clear hfz20_1
             try clear hfz21_0
             try clear hfz21_1
             try clear hfz24_0
             try clear hfz24_1
             try clear hfz25_0
             try clear hfz25_1
             try clear hfz30_0
             try clear hfz30_1
             try clear hfz36_0
             try clear hfz36_1
             try clear hfz38_0
             try clear hfz38_1
             try clear hfz4_0
             try clear hfz4_1
             try clear hfz7_0
             try clear hfz7_1
             try clear hfz9_0
             try clear hfz9_1
             try clear hx37002_0
             try clear hx37002_1
             try clear hx37004_0
             try clear hx37004_1
             try clear hx37006_0
             try clear hx37006_1
             try clear hx37008_0
             try clear hx37008_1
             try clear p2
             try clear p3
             try clear p37
             try clear p37002
             try clear p37004
             try clear p37006
             try clear p37008
             try clear p6
             try clear q3
             try clear q37
             try clear q37002
             try clear q37004
             try clear q37006
             try clear q37008
             obtain ⟨x5_4, rfl, HA, HK4, BK37001, HB⟩ := hrel
             cases gk with
             | zero => exact absurd HA.out (by simp [sawmillref10_Check.l1])
             | succ k4 =>
              have H := HA.out
              clear HA
              simp only [sawmillref10_Check.l1] at H
              by_cases c41 : x5_4 < (l0_1.length : Int)
              ·rw [if_pos c41] at H
               have c41b0 : decide (x5_4 < (l0_1.length : Int)) = true := decide_eq_true c41
               clear c41
               by_cases c42 : 0 ≤ x5_4
               ·rw [if_pos c42] at H
                have c42b0 : decide (0 ≤ x5_4) = true := decide_eq_true c42
                clear c42
                by_cases c43 : x5_4 < (l0_1.length : Int)
                ·rw [if_pos c43] at H
                 have c43b0 : decide (x5_4 < (l0_1.length : Int)) = true := decide_eq_true c43
                 clear c43
                 replace H := Option.bind_eq_some_iff.mp H
                 obtain ⟨t37011, A440, H⟩ := H
                 replace H : (if t37011 = true then (if (!(((rd_T49 l0_1 x5_4).f0) == 0) || (!(((rd_T49 l0_1 x5_4).f1) == 0))) = true then (some 19) else (sawmillref10_Check.l1 k4 (l0_1.length : Int) (wrap64 (x5_4 + 1)) a0_0 l0_1)) else (sawmillref10_Check.l1 k4 (l0_1.length : Int) (wrap64 (x5_4 + 1)) a0_0 l0_1)) = some r := H
                 have A44 := Aside0.mk A440
                 clear A440
                 by_cases c45 : t37011 = true
                 ·subst c45
                  have H1 : (if (!(((rd_T49 l0_1 x5_4).f0) == 0) || (!(((rd_T49 l0_1 x5_4).f1) == 0))) = true then (some 19) else (sawmillref10_Check.l1 k4 (l0_1.length : Int) (wrap64 (x5_4 + 1)) a0_0 l0_1)) = some r := by rw [if_pos rfl] at H; exact H
                  clear H
                  have H := H1
                  clear H1
                  by_cases c46 : (!(((rd_T49 l0_1 x5_4).f0) == 0) || (!(((rd_T49 l0_1 x5_4).f1) == 0))) = true
                  ·rw [if_pos c46] at H
                   have c46b0 : (!(((rd_T49 l0_1 x5_4).f0) == 0) || (!(((rd_T49 l0_1 x5_4).f1) == 0))) = true := c46
                   clear c46
                   obtain rfl := Option.some.inj H
                   have hcz47_0 : wr.cell? ⟨gb37001, 0, none⟩ = some (.int .i64 a0_0) := (blk_cell BK37001.out 0).trans rfl
                   have hcz47_1 : wr.cell? ⟨gb37001, 1, none⟩ = some (.slice A0_1 l0_1.length c0_1) := (blk_cell BK37001.out 1).trans rfl
                   have hfz47_0 := blk_frozen BK37001.out 0
                   have hfz47_1 := blk_frozen BK37001.out 1
                   have p37010 : 0 ≤ (x5_4 : Int) := of_decide_eq_true (by first | (with_reducible assumption) | assumption)
                   have q37010 : x5_4 < (l0_1.length : Int) := of_decide_eq_true (by first | (with_reducible assumption) | assumption)
                   obtain ⟨ad37010, e37010, hx37010_0, hx37010_1⟩ := at_T49 HR0_1.out x5_4 p37010 q37010
                   cases e37010
                   replace hx37010_0 := (HB.out.cell (World.block_lt_of_cell? w _ hx37010_0)).trans hx37010_0
                   replace hx37010_1 := (HB.out.cell (World.block_lt_of_cell? w _ hx37010_1)).trans hx37010_1
                   replace p37010 := eq_true p37010
                   replace q37010 := eq_true q37010
                   go_wp2_with (first | ((with_reducible refine gate_callee (f := 63) rfl ?_); refine goesL_ (some 71) rfl rfl Try.func63 (by kernel_rfl) rfl #[.agg #[.int .i64 ((rd_T49 l0_1 x5_4).f0), .int .i64 ((rd_T49 l0_1 x5_4).f1)]] rfl la_ ?_; (with_reducible refine (sawmillref10_empty.calls ((rd_T49 l0_1 x5_4).f0) ((rd_T49 l0_1 x5_4).f1) true _ A44.out).mono ?_); rintro e w48 ⟨rfl, hb⟩; refine ⟨_, rfl, ?_⟩; have n0_ := Aside0.mk (blk_below (g := gb37001) (o := .cells #[.int .i64 a0_0, .slice (some ad37010) l0_1.length c0_1] 24 (0, 0)) (fb_ BK37001.out) hb); have n1_ := Aside0.mk (bs_ hb); clear BK37001 HB; have BK37001 := n0_; have HB := n1_; clear n0_ n1_; (try clear hb); (try clear hb2); (try clear hk); (try clear hi); have hcz49_0 : w48.cell? ⟨gb37001, 0, none⟩ = some (.int .i64 a0_0) := (blk_cell BK37001.out 0).trans rfl; have hcz49_1 : w48.cell? ⟨gb37001, 1, none⟩ = some (.slice (some ad37010) l0_1.length c0_1) := (blk_cell BK37001.out 1).trans rfl; have hfz49_0 := blk_frozen BK37001.out 0; have hfz49_1 := blk_frozen BK37001.out 1; have p37012 : 0 ≤ (x5_4 : Int) := of_decide_eq_true (by first | (with_reducible assumption) | assumption); have q37012 : x5_4 < (l0_1.length : Int) := of_decide_eq_true (by first | (with_reducible assumption) | assumption); obtain ⟨ad37012, e37012, hx37012_0, hx37012_1⟩ := at_T49 HR0_1.out x5_4 p37012 q37012; obtain rfl : ad37010 = ad37012 := (by injection e37012); replace hx37012_0 := (HB.out.cell (World.block_lt_of_cell? w _ hx37012_0)).trans hx37012_0; replace hx37012_1 := (HB.out.cell (World.block_lt_of_cell? w _ hx37012_1)).trans hx37012_1; replace p37012 := eq_true p37012; replace q37012 := eq_true q37012))
                   go_ret
                   exact ⟨er_, be_⟩
                  ·rw [if_neg c46] at H
                   have c46b0 : (!(((rd_T49 l0_1 x5_4).f0) == 0) || (!(((rd_T49 l0_1 x5_4).f1) == 0))) = false := by simpa using c46
                   clear c46
                   have H' := Aside0.mk H
                   clear H
                   have hcz50_0 : wr.cell? ⟨gb37001, 0, none⟩ = some (.int .i64 a0_0) := (blk_cell BK37001.out 0).trans rfl
                   have hcz50_1 : wr.cell? ⟨gb37001, 1, none⟩ = some (.slice A0_1 l0_1.length c0_1) := (blk_cell BK37001.out 1).trans rfl
                   have hfz50_0 := blk_frozen BK37001.out 0
                   have hfz50_1 := blk_frozen BK37001.out 1
                   have p37010 : 0 ≤ (x5_4 : Int) := of_decide_eq_true (by first | (with_reducible assumption) | assumption)
                   have q37010 : x5_4 < (l0_1.length : Int) := of_decide_eq_true (by first | (with_reducible assumption) | assumption)
                   obtain ⟨ad37010, e37010, hx37010_0, hx37010_1⟩ := at_T49 HR0_1.out x5_4 p37010 q37010
                   cases e37010
                   replace hx37010_0 := (HB.out.cell (World.block_lt_of_cell? w _ hx37010_0)).trans hx37010_0
                   replace hx37010_1 := (HB.out.cell (World.block_lt_of_cell? w _ hx37010_1)).trans hx37010_1
                   replace p37010 := eq_true p37010
                   replace q37010 := eq_true q37010
                   go_wp2_with (first | ((with_reducible refine gate_callee (f := 63) rfl ?_); refine goesL_ (some 71) rfl rfl Try.func63 (by kernel_rfl) rfl #[.agg #[.int .i64 ((rd_T49 l0_1 x5_4).f0), .int .i64 ((rd_T49 l0_1 x5_4).f1)]] rfl la_ ?_; (with_reducible refine (sawmillref10_empty.calls ((rd_T49 l0_1 x5_4).f0) ((rd_T49 l0_1 x5_4).f1) true _ A44.out).mono ?_); rintro e w51 ⟨rfl, hb⟩; refine ⟨_, rfl, ?_⟩; have n0_ := Aside0.mk (blk_below (g := gb37001) (o := .cells #[.int .i64 a0_0, .slice (some ad37010) l0_1.length c0_1] 24 (0, 0)) (fb_ BK37001.out) hb); have n1_ := Aside0.mk (bs_ hb); clear BK37001 HB; have BK37001 := n0_; have HB := n1_; clear n0_ n1_; (try clear hb); (try clear hb2); (try clear hk); (try clear hi); have hcz52_0 : w51.cell? ⟨gb37001, 0, none⟩ = some (.int .i64 a0_0) := (blk_cell BK37001.out 0).trans rfl; have hcz52_1 : w51.cell? ⟨gb37001, 1, none⟩ = some (.slice (some ad37010) l0_1.length c0_1) := (blk_cell BK37001.out 1).trans rfl; have hfz52_0 := blk_frozen BK37001.out 0; have hfz52_1 := blk_frozen BK37001.out 1; have p37012 : 0 ≤ (x5_4 : Int) := of_decide_eq_true (by first | (with_reducible assumption) | assumption); have q37012 : x5_4 < (l0_1.length : Int) := of_decide_eq_true (by first | (with_reducible assumption) | assumption); obtain ⟨ad37012, e37012, hx37012_0, hx37012_1⟩ := at_T49 HR0_1.out x5_4 p37012 q37012; obtain rfl : ad37010 = ad37012 := (by injection e37012); replace hx37012_0 := (HB.out.cell (World.block_lt_of_cell? w _ hx37012_0)).trans hx37012_0; replace hx37012_1 := (HB.out.cell (World.block_lt_of_cell? w _ hx37012_1)).trans hx37012_1; replace p37012 := eq_true p37012; replace q37012 := eq_true q37012))
                   go_roundg k4
                   case measure => have := HJ4.out; have := HK2.out; have := HJ25.out; have := HK4.out; omega
                   case rel => exact ⟨(wrap64 (x5_4 + 1)), (by first | rfl | (simp; done) | (simp [*]; done)), H', ⟨by have := HJ4.out; have := HK2.out; have := HJ25.out; have := HK4.out; omega⟩, ⟨fb_ BK37001.out⟩, ⟨be_⟩⟩
                 ·replace c45 := Bool.eq_false_iff.mpr c45
                  subst c45
                  have H1 : (sawmillref10_Check.l1 k4 (l0_1.length : Int) (wrap64 (x5_4 + 1)) a0_0 l0_1) = some r := by rw [if_neg (show ¬ (false = true) by decide)] at H; exact H
                  clear H
                  have H := H1
                  clear H1
                  have H' := Aside0.mk H
                  clear H
                  have hcz53_0 : wr.cell? ⟨gb37001, 0, none⟩ = some (.int .i64 a0_0) := (blk_cell BK37001.out 0).trans rfl
                  have hcz53_1 : wr.cell? ⟨gb37001, 1, none⟩ = some (.slice A0_1 l0_1.length c0_1) := (blk_cell BK37001.out 1).trans rfl
                  have hfz53_0 := blk_frozen BK37001.out 0
                  have hfz53_1 := blk_frozen BK37001.out 1
                  have p37010 : 0 ≤ (x5_4 : Int) := of_decide_eq_true (by first | (with_reducible assumption) | assumption)
                  have q37010 : x5_4 < (l0_1.length : Int) := of_decide_eq_true (by first | (with_reducible assumption) | assumption)
                  obtain ⟨ad37010, e37010, hx37010_0, hx37010_1⟩ := at_T49 HR0_1.out x5_4 p37010 q37010
                  cases e37010
                  replace hx37010_0 := (HB.out.cell (World.block_lt_of_cell? w _ hx37010_0)).trans hx37010_0
                  replace hx37010_1 := (HB.out.cell (World.block_lt_of_cell? w _ hx37010_1)).trans hx37010_1
                  replace p37010 := eq_true p37010
                  replace q37010 := eq_true q37010
                  go_wp2_with (first | ((with_reducible refine gate_callee (f := 63) rfl ?_); refine goesL_ (some 71) rfl rfl Try.func63 (by kernel_rfl) rfl #[.agg #[.int .i64 ((rd_T49 l0_1 x5_4).f0), .int .i64 ((rd_T49 l0_1 x5_4).f1)]] rfl la_ ?_; (with_reducible refine (sawmillref10_empty.calls ((rd_T49 l0_1 x5_4).f0) ((rd_T49 l0_1 x5_4).f1) false _ A44.out).mono ?_); rintro e w54 ⟨rfl, hb⟩; refine ⟨_, rfl, ?_⟩; have n0_ := Aside0.mk (blk_below (g := gb37001) (o := .cells #[.int .i64 a0_0, .slice (some ad37010) l0_1.length c0_1] 24 (0, 0)) (fb_ BK37001.out) hb); have n1_ := Aside0.mk (bs_ hb); clear BK37001 HB; have BK37001 := n0_; have HB := n1_; clear n0_ n1_; (try clear hb); (try clear hb2); (try clear hk); (try clear hi)))
                  go_roundg k4
                  case measure => have := HJ4.out; have := HK2.out; have := HJ25.out; have := HK4.out; omega
                  case rel => exact ⟨(wrap64 (x5_4 + 1)), (by first | rfl | (simp; done) | (simp [*]; done)), H', ⟨by have := HJ4.out; have := HK2.out; have := HJ25.out; have := HK4.out; omega⟩, ⟨fb_ BK37001.out⟩, ⟨be_⟩⟩
                ·rw [if_neg c43] at H
                 exact absurd H (by simp)
               ·rw [if_neg c42] at H
                exact absurd H (by simp)
              ·rw [if_neg c41] at H
               have c41b0 : decide (x5_4 < (l0_1.length : Int)) = false := decide_eq_false c41
               clear c41
               obtain rfl := Option.some.inj H
               go_wp2
               go_ret
               exact ⟨er_, be_⟩

end Go.Proofs.Ytdbjoopkliafeaa.P

end
section
namespace Go.Proofs.Ytdbjoopkliafeaa.P
open Go Go.RowKit Go.Proofs.YtdbjoopkliafeaaW.PrintWords Go.Proofs.YtdbjoopkliafeaaW.PrintLast Go.Proofs.YtdbjoopkliafeaaW.PrintMore
attribute [local go_sem] max2_int min2_int max_two min_two max_three min_three max_four min_four max_five min_eight max_eight   -- for this text's walks alone
set_option linter.unusedVariables false
set_option linter.unusedSimpArgs false

def sawmillref10_Valid.f (k : Nat) (a0_0 : Int) (l0_1 : List (S49)) : Option (Int × (List (S49))) := (sawmillref10_Check.f k a0_0 l0_1).bind fun t64003 => (if t64003 = 0 then (some (a0_0, l0_1)) else (some (0, ([] : List (S49)))))
theorem sawmillref10_Valid.mono : ∀ a0 a1 k, LeO (sawmillref10_Valid.f k a0 a1) (sawmillref10_Valid.f (k + 1) a0 a1) := by
 intro a0 a1 k
 unfold sawmillref10_Valid.f
 repeat' first
   | (with_reducible exact sawmillref10_Check.mono _ _ _)
   | (with_reducible exact LeO.refl _)
   | (with_reducible exact LeO.none _)
   | (with_reducible refine LeO.ite ?_ ?_)
   | (with_reducible refine LeO.bind ?_ (fun _ => ?_))
   | exact sawmillref10_Check.mono _ _ _
   | exact LeO.none _
   | refine LeO.ite ?_ ?_
   | refine LeO.bind ?_ (fun _ => ?_)
set_option maxHeartbeats 8000000 in
set_option maxRecDepth 100000 in
theorem sawmillref10_Valid.calls (k : Nat) (a0_0 : Int) (P0_1_ : Nat → Prop) (A0_1 : Option Addr) (c0_1 : Nat) (l0_1 : List (S49)) (r1 : Int) (r2 : List (S49)) (w : World) (hs0_1 : Kd.V k49 49 w w.heap.size (fun k_ => P0_1_ k_) (.slice A0_1 l0_1.length c0_1) l0_1) (h : sawmillref10_Valid.f k a0_0 l0_1 = some (r1, r2)) :
  Calls Try.prog 64 #[.agg #[.int .i64 a0_0, .slice A0_1 l0_1.length c0_1]] w fun e w' => ∃ v1_ : Value, e = .returned (.agg #[.int .i64 r1, v1_]) ∧ Kd.V k49 49 w' w.heap.size (fun k_ => (P0_1_ k_ ∨ w.heap.size ≤ k_)) v1_ r2 ∧ Below w.heap.size w w' := by
 have hu24 := Try.underlying24
 have HO0_1 := Aside0.mk (show Kd.V k49 49 w w.heap.size (fun k_ => (P0_1_ k_ ∨ w.heap.size ≤ k_)) (.slice A0_1 l0_1.length c0_1) l0_1 from Kd.V_mono hs0_1 (fun k_ hk => .inl hk))
 have HB := Aside0.mk (Below.refl w.heap.size w)
 have H : ((sawmillref10_Check.f k a0_0 l0_1).bind fun t64003 => (if t64003 = 0 then (some (a0_0, l0_1)) else (some (0, ([] : List (S49)))))) = some (r1, r2) := h
 clear h
 replace H := Option.bind_eq_some_iff.mp H
 obtain ⟨t64003, A20, H⟩ := H
 replace H : (if t64003 = 0 then (some (a0_0, l0_1)) else (some (0, ([] : List (S49))))) = some (r1, r2) := H
 have A2 := Aside0.mk A20
 clear A20
 by_cases c3 : t64003 = 0
 ·rw [if_pos c3] at H
  have c3b0 : (t64003 == 0) = true := beq_iff_eq.mpr c3
  have c3b1 : (t64003 != 0) = false := bne_eq_false_iff_eq.mpr c3
  clear c3
  simp only [Option.some.injEq, Prod.mk.injEq] at H
  obtain ⟨rfl, rfl⟩ := H
  go_enter Try.func64, Try.ntmps64
  go_wp2_with (first | ((with_reducible refine gate_dst (N := 1) rfl ?_); refine box_event ?hg (N := 1) ?hd (cs := #[.int .i64 a0_0, .slice A0_1 l0_1.length c0_1]) (t := 24) ?hr ?_; (case hd => rfl); (case hg => rfl); (case hr => first | (go_simp; done) | (go_simp; rfl)); intro gb64001 hg w4 hbox hb; have n0_ := Aside0.mk (Kd.V_below (Kd.V_elderB (fV_ HO0_1.out) gb64001 (Nat.le_of_eq hg.symm)) hb); have n1_ := Aside0.mk (bs_ hb); have n2_ := Aside0.mk (hbox); have n3_ := Aside0.mk ((by rw [hg]; exact bz_ : w.heap.size ≤ gb64001)); have n4_ := Aside0.mk ((by rw [hg]; exact bz_ : w.heap.size ≤ gb64001)); clear HO0_1 HB; have HO0_1 := n0_; have HB := n1_; have BK64001 := n2_; have GW64001 := n3_; have GE64001 := n4_; clear n0_ n1_ n2_ n3_ n4_; clear hb hbox hg) | ((with_reducible refine gate_dst (N := 2) rfl ?_); refine box_event ?hg (N := 2) ?hd (cs := #[.int .i64 0, .slice none 0 0]) (t := 24) ?hr ?_; (case hd => rfl); (case hg => rfl); (case hr => first | (go_simp; done) | (go_simp; rfl)); intro gb64002 hg w5 hbox hb; have n0_ := Aside0.mk (Kd.V_below (Kd.V_elderB (fV_ HO0_1.out) gb64002 (Nat.le_of_eq hg.symm)) hb); have n1_ := Aside0.mk (blk_below (g := gb64001) (o := .cells #[.int .i64 a0_0, .slice A0_1 l0_1.length c0_1] 24 (0, 0)) (fb_ BK64001.out) hb); have n2_ := Aside0.mk (bs_ hb); have n3_ := Aside0.mk (hbox); have n4_ := Aside0.mk ((by rw [hg]; exact bz_ : w.heap.size ≤ gb64002)); have n5_ := Aside0.mk ((by rw [hg]; exact bz_ : w.heap.size ≤ gb64002)); have n6_ := Aside0.mk ((by rw [hg]; exact Nat.ne_of_lt (blk_lt (g := gb64001) (o := .cells #[.int .i64 a0_0, .slice A0_1 l0_1.length c0_1] 24 (0, 0)) (fb_ BK64001.out)) : gb64001 ≠ gb64002)); have n7_ := Aside0.mk ((by rw [hg]; exact Nat.ne_of_gt (blk_lt (g := gb64001) (o := .cells #[.int .i64 a0_0, .slice A0_1 l0_1.length c0_1] 24 (0, 0)) (fb_ BK64001.out)) : gb64002 ≠ gb64001)); clear HO0_1 BK64001 HB; have HO0_1 := n0_; have BK64001 := n1_; have HB := n2_; have BK64002 := n3_; have GW64002 := n4_; have GE64002 := n5_; have NB64001_64002 := n6_; have NB64002_64001 := n7_; clear n0_ n1_ n2_ n3_ n4_ n5_ n6_ n7_ hb hbox hg; have hnb6 := NB64001_64002.out; have hnc6 := NB64002_64001.out; have hcz7_0 : w5.cell? ⟨gb64001, 0, none⟩ = some (.int .i64 a0_0) := (blk_cell BK64001.out 0).trans rfl; have hcz7_1 : w5.cell? ⟨gb64001, 1, none⟩ = some (.slice A0_1 l0_1.length c0_1) := (blk_cell BK64001.out 1).trans rfl; have hfz7_0 := blk_frozen BK64001.out 0; have hfz7_1 := blk_frozen BK64001.out 1) | ((with_reducible refine gate_callee (f := 37) rfl ?_); refine goesL_ (some 4) rfl rfl Try.func37 (by kernel_rfl) rfl #[.agg #[.int .i64 a0_0, .slice A0_1 l0_1.length c0_1]] rfl la_ ?_; (with_reducible refine (sawmillref10_Check.calls k a0_0 _ _ l0_1 t64003 _ ?side1 ?side2 A2.out).mono ?_); (case side1 => repeat (first | exact (Kd.V_reads' HO0_1.out).2.2 | (with_reducible refine Kd.C_alloc ?_ _) | (with_reducible refine Kd.C_drewN ?_ _) | (with_reducible refine Kd.C_drew ?_))); (case side2 => exact (Kd.V_reads' HO0_1.out).2.1); rintro e w8 ⟨rfl, hb⟩; refine ⟨_, rfl, ?_⟩; have n0_ := Aside0.mk (Kd.V_below (fV_ HO0_1.out) hb); have n1_ := Aside0.mk (blk_below (g := gb64001) (o := .cells #[.int .i64 a0_0, .slice A0_1 l0_1.length c0_1] 24 (0, 0)) (fb_ BK64001.out) hb); have n2_ := Aside0.mk (blk_below (g := gb64002) (o := .cells #[.int .i64 0, .slice none 0 0] 24 (0, 0)) (fb_ BK64002.out) hb); have n3_ := Aside0.mk (bs_ hb); clear HO0_1 BK64001 BK64002 HB; have HO0_1 := n0_; have BK64001 := n1_; have BK64002 := n2_; have HB := n3_; clear n0_ n1_ n2_ n3_; (try clear hb); (try clear hb2); (try clear hk); (try clear hi); have hcz9_0 : w8.cell? ⟨gb64001, 0, none⟩ = some (.int .i64 a0_0) := (blk_cell BK64001.out 0).trans rfl; have hcz9_1 : w8.cell? ⟨gb64001, 1, none⟩ = some (.slice A0_1 l0_1.length c0_1) := (blk_cell BK64001.out 1).trans rfl; have hfz9_0 := blk_frozen BK64001.out 0; have hfz9_1 := blk_frozen BK64001.out 1; have hcz10_0 : w8.cell? ⟨gb64002, 0, none⟩ = some (.int .i64 0) := (blk_cell BK64002.out 0).trans rfl; have hcz10_1 : w8.cell? ⟨gb64002, 1, none⟩ = some (.slice none 0 0) := (blk_cell BK64002.out 1).trans rfl; have hfz10_0 := blk_frozen BK64002.out 0; have hfz10_1 := blk_frozen BK64002.out 1))
  refine bodyPost_ret (results_cell_row rfl _ _ gb64002 24 #[.int .i64 a0_0, .slice A0_1 l0_1.length c0_1] (0, 0) _ rfl (by (with_reducible repeat (first | refine blk_drewN ?_ _ | refine blk_drew ?_ | refine blk_alloc ?_ _)); refine blk_put (cs := #[.int .i64 a0_0, .slice none 0 0]) ?_ 1 _ rfl; (with_reducible repeat (first | refine blk_drewN ?_ _ | refine blk_drew ?_ | refine blk_alloc ?_ _)); refine blk_put (cs := #[.int .i64 0, .slice none 0 0]) ?_ 0 _ rfl; (with_reducible repeat (first | refine blk_drewN ?_ _ | refine blk_drew ?_ | refine blk_alloc ?_ _)); exact BK64002.out) Try.underlying24 rfl (by kernel_rfl)) rfl ?_
  exact ⟨_, er_, by (with_reducible repeat (first | apply Kd.V_alloc | apply Kd.V_drewN | apply Kd.V_drew)); exact Kd.V_mono (Kd.V_far (p := ⟨gb64002, 1, none⟩) (Kd.V_far (p := ⟨gb64002, 0, none⟩) (Kd.V_mono HO0_1.out (fun k_ hk => (⟨hk, hk.2⟩ : _ ∧ k_ ≠ gb64002))) (fun _ hk => hk.2) (.int .i64 a0_0)) (fun _ hk => hk.2) (.slice A0_1 l0_1.length c0_1)) (fun _ hk => hk.1.1.1), be_⟩
 ·rw [if_neg c3] at H
  have c3b0 : (t64003 == 0) = false := beq_eq_false_iff_ne.mpr c3
  have c3b1 : (t64003 != 0) = true := bne_iff_ne.mpr c3
  simp only [Option.some.injEq, Prod.mk.injEq] at H
  obtain ⟨rfl, rfl⟩ := H
  go_enter Try.func64, Try.ntmps64
  go_wp2_with (first | ((with_reducible refine gate_dst (N := 1) rfl ?_); refine box_event ?hg (N := 1) ?hd (cs := #[.int .i64 a0_0, .slice A0_1 l0_1.length c0_1]) (t := 24) ?hr ?_; (case hd => rfl); (case hg => rfl); (case hr => first | (go_simp; done) | (go_simp; rfl)); intro gb64001 hg w11 hbox hb; have n0_ := Aside0.mk (Kd.V_below (Kd.V_elderB (fV_ HO0_1.out) gb64001 (Nat.le_of_eq hg.symm)) hb); have n1_ := Aside0.mk (bs_ hb); have n2_ := Aside0.mk (hbox); have n3_ := Aside0.mk ((by rw [hg]; exact bz_ : w.heap.size ≤ gb64001)); have n4_ := Aside0.mk ((by rw [hg]; exact bz_ : w.heap.size ≤ gb64001)); clear HO0_1 HB; have HO0_1 := n0_; have HB := n1_; have BK64001 := n2_; have GW64001 := n3_; have GE64001 := n4_; clear n0_ n1_ n2_ n3_ n4_; clear hb hbox hg) | ((with_reducible refine gate_dst (N := 2) rfl ?_); refine box_event ?hg (N := 2) ?hd (cs := #[.int .i64 0, .slice none 0 0]) (t := 24) ?hr ?_; (case hd => rfl); (case hg => rfl); (case hr => first | (go_simp; done) | (go_simp; rfl)); intro gb64002 hg w12 hbox hb; have n0_ := Aside0.mk (Kd.V_below (Kd.V_elderB (fV_ HO0_1.out) gb64002 (Nat.le_of_eq hg.symm)) hb); have n1_ := Aside0.mk (blk_below (g := gb64001) (o := .cells #[.int .i64 a0_0, .slice A0_1 l0_1.length c0_1] 24 (0, 0)) (fb_ BK64001.out) hb); have n2_ := Aside0.mk (bs_ hb); have n3_ := Aside0.mk (hbox); have n4_ := Aside0.mk ((by rw [hg]; exact bz_ : w.heap.size ≤ gb64002)); have n5_ := Aside0.mk ((by rw [hg]; exact bz_ : w.heap.size ≤ gb64002)); have n6_ := Aside0.mk ((by rw [hg]; exact Nat.ne_of_lt (blk_lt (g := gb64001) (o := .cells #[.int .i64 a0_0, .slice A0_1 l0_1.length c0_1] 24 (0, 0)) (fb_ BK64001.out)) : gb64001 ≠ gb64002)); have n7_ := Aside0.mk ((by rw [hg]; exact Nat.ne_of_gt (blk_lt (g := gb64001) (o := .cells #[.int .i64 a0_0, .slice A0_1 l0_1.length c0_1] 24 (0, 0)) (fb_ BK64001.out)) : gb64002 ≠ gb64001)); clear HO0_1 BK64001 HB; have HO0_1 := n0_; have BK64001 := n1_; have HB := n2_; have BK64002 := n3_; have GW64002 := n4_; have GE64002 := n5_; have NB64001_64002 := n6_; have NB64002_64001 := n7_; clear n0_ n1_ n2_ n3_ n4_ n5_ n6_ n7_ hb hbox hg; have hnb13 := NB64001_64002.out; have hnc13 := NB64002_64001.out; have hcz14_0 : w12.cell? ⟨gb64001, 0, none⟩ = some (.int .i64 a0_0) := (blk_cell BK64001.out 0).trans rfl; have hcz14_1 : w12.cell? ⟨gb64001, 1, none⟩ = some (.slice A0_1 l0_1.length c0_1) := (blk_cell BK64001.out 1).trans rfl; have hfz14_0 := blk_frozen BK64001.out 0; have hfz14_1 := blk_frozen BK64001.out 1) | ((with_reducible refine gate_callee (f := 37) rfl ?_); refine goesL_ (some 4) rfl rfl Try.func37 (by kernel_rfl) rfl #[.agg #[.int .i64 a0_0, .slice A0_1 l0_1.length c0_1]] rfl la_ ?_; (with_reducible refine (sawmillref10_Check.calls k a0_0 _ _ l0_1 t64003 _ ?side1 ?side2 A2.out).mono ?_); (case side1 => repeat (first | exact (Kd.V_reads' HO0_1.out).2.2 | (with_reducible refine Kd.C_alloc ?_ _) | (with_reducible refine Kd.C_drewN ?_ _) | (with_reducible refine Kd.C_drew ?_))); (case side2 => exact (Kd.V_reads' HO0_1.out).2.1); rintro e w15 ⟨rfl, hb⟩; refine ⟨_, rfl, ?_⟩; have n0_ := Aside0.mk (Kd.V_below (fV_ HO0_1.out) hb); have n1_ := Aside0.mk (blk_below (g := gb64001) (o := .cells #[.int .i64 a0_0, .slice A0_1 l0_1.length c0_1] 24 (0, 0)) (fb_ BK64001.out) hb); have n2_ := Aside0.mk (blk_below (g := gb64002) (o := .cells #[.int .i64 0, .slice none 0 0] 24 (0, 0)) (fb_ BK64002.out) hb); have n3_ := Aside0.mk (bs_ hb); clear HO0_1 BK64001 BK64002 HB; have HO0_1 := n0_; have BK64001 := n1_; have BK64002 := n2_; have HB := n3_; clear n0_ n1_ n2_ n3_; (try clear hb); (try clear hb2); (try clear hk); (try clear hi); have hcz16_0 : w15.cell? ⟨gb64002, 0, none⟩ = some (.int .i64 0) := (blk_cell BK64002.out 0).trans rfl; have hcz16_1 : w15.cell? ⟨gb64002, 1, none⟩ = some (.slice none 0 0) := (blk_cell BK64002.out 1).trans rfl; have hfz16_0 := blk_frozen BK64002.out 0; have hfz16_1 := blk_frozen BK64002.out 1))
  refine bodyPost_ret (results_cell_row rfl _ _ gb64002 24 #[.int .i64 0, .slice none 0 0] (0, 0) _ rfl (by (with_reducible repeat (first | refine blk_drewN ?_ _ | refine blk_drew ?_ | refine blk_alloc ?_ _)); refine blk_put (cs := #[.int .i64 0, .slice none 0 0]) ?_ 1 _ rfl; (with_reducible repeat (first | refine blk_drewN ?_ _ | refine blk_drew ?_ | refine blk_alloc ?_ _)); refine blk_put (cs := #[.int .i64 0, .slice none 0 0]) ?_ 0 _ rfl; (with_reducible repeat (first | refine blk_drewN ?_ _ | refine blk_drew ?_ | refine blk_alloc ?_ _)); exact BK64002.out) Try.underlying24 rfl (by kernel_rfl)) rfl ?_
  exact ⟨_, er_, Kd.V_nil _ _ _ _ _, be_⟩

end Go.Proofs.Ytdbjoopkliafeaa.P

end
section
namespace Go.Proofs.Ytdbjoopkliafeaa.P
open Go Go.RowKit Go.Proofs.YtdbjoopkliafeaaW.PrintWords Go.Proofs.YtdbjoopkliafeaaW.PrintLast Go.Proofs.YtdbjoopkliafeaaW.PrintMore
attribute [local go_sem] max2_int min2_int max_two min_two max_three min_three max_four min_four max_five min_eight max_eight   -- for this text's walks alone
set_option linter.unusedVariables false
set_option linter.unusedSimpArgs false

def sawmillref10_Area.l0 : Nat → Int → Int → Int → List (S49) → Option (Int)
 | 0, _, _, _, _ => none
 | k + 1, x3, x4, x38002000, x38002001 => if x4 < (x38002001.length : Int) then (if 0 ≤ x4 then (sawmillref10_Area.l0 k (wrap64 (x3 + (wrap64 (10 * (wrap64 (((rd_T49 x38002001 x4).f1) - ((rd_T49 x38002001 x4).f0))))))) (wrap64 (x4 + 1)) x38002000 x38002001) else (none)) else (some x3)
def sawmillref10_Area.f (k : Nat) (a0_0 : Int) (l0_1 : List (S49)) : Option (Int) := (sawmillref10_Valid.f k a0_0 l0_1).bind fun bt38002 => (sawmillref10_Area.l0 k 0 0 bt38002.1 bt38002.2)
theorem sawmillref10_Area.mono_l : ∀ k, (∀ y0 y1 y2 y3, LeO (sawmillref10_Area.l0 k y0 y1 y2 y3) (sawmillref10_Area.l0 (k + 1) y0 y1 y2 y3))
 | 0 => fun _ _ _ _ r h => by simp [sawmillref10_Area.l0] at h
 | k + 1 => by
  have ih0 := sawmillref10_Area.mono_l k
  ·intro y0 y1 y2 y3
   unfold sawmillref10_Area.l0
   repeat' first
   | (with_reducible exact ih0 _ _ _ _)
   | (with_reducible exact sawmillref10_Valid.mono _ _ _)
   | (with_reducible exact LeO.refl _)
   | (with_reducible exact LeO.none _)
   | (with_reducible refine LeO.ite ?_ ?_)
   | (with_reducible refine LeO.bind ?_ (fun _ => ?_))
   | exact ih0 _ _ _ _
   | exact sawmillref10_Valid.mono _ _ _
   | exact LeO.none _
   | refine LeO.ite ?_ ?_
   | refine LeO.bind ?_ (fun _ => ?_)
theorem sawmillref10_Area.mono : ∀ a0 a1 k, LeO (sawmillref10_Area.f k a0 a1) (sawmillref10_Area.f (k + 1) a0 a1) := by
 intro a0 a1 k
 have ih0 := sawmillref10_Area.mono_l k
 unfold sawmillref10_Area.f
 repeat' first
   | (with_reducible exact ih0 _ _ _ _)
   | (with_reducible exact sawmillref10_Valid.mono _ _ _)
   | (with_reducible exact LeO.refl _)
   | (with_reducible exact LeO.none _)
   | (with_reducible refine LeO.ite ?_ ?_)
   | (with_reducible refine LeO.bind ?_ (fun _ => ?_))
   | exact ih0 _ _ _ _
   | exact sawmillref10_Valid.mono _ _ _
   | exact LeO.none _
   | refine LeO.ite ?_ ?_
   | refine LeO.bind ?_ (fun _ => ?_)
set_option maxHeartbeats 8000000 in
set_option maxRecDepth 100000 in
theorem sawmillref10_Area.calls (k : Nat) (a0_0 : Int) (A0_1 : Option Addr) (c0_1 : Nat) (l0_1 : List (S49)) (r : Int) (w : World) (hr0_1 : Kd.C k49 w A0_1 l0_1.length l0_1) (hc0_1 : l0_1.length ≤ c0_1) (h : sawmillref10_Area.f k a0_0 l0_1 = some r) :
  Calls Try.prog 38 #[.agg #[.int .i64 a0_0, .slice A0_1 l0_1.length c0_1]] w fun e w' => e = .returned (.int .i64 r) ∧ Below w.heap.size w w' := by
 have hu24 := Try.underlying24
 have HR0_1 := Aside0.mk hr0_1
 have HC0_1 := Aside0.mk hc0_1
 clear hr0_1 hc0_1
 have HB := Aside0.mk (Below.refl w.heap.size w)
 have H : ((sawmillref10_Valid.f k a0_0 l0_1).bind fun bt38002 => (sawmillref10_Area.l0 k 0 0 bt38002.1 bt38002.2)) = some r := h
 clear h
 replace H := Option.bind_eq_some_iff.mp H
 obtain ⟨⟨t38002, t38003⟩, A20, H⟩ := H
 replace H : (sawmillref10_Area.l0 k 0 0 t38002 t38003) = some r := H
 have A2 := Aside0.mk A20
 clear A20
 have H' := Aside0.mk H
 clear H
 go_enter Try.func38, Try.ntmps38
 go_wp2_with (first | ((with_reducible refine gate_dst (N := 1) rfl ?_); refine box_event ?hg (N := 1) ?hd (cs := #[.int .i64 a0_0, .slice A0_1 l0_1.length c0_1]) (t := 24) ?hr ?_; (case hd => rfl); (case hg => rfl); (case hr => first | (go_simp; done) | (go_simp; rfl)); intro gb38001 hg w3 hbox hb; have n0_ := Aside0.mk (bs_ hb); have n1_ := Aside0.mk (hbox); have n2_ := Aside0.mk ((by rw [hg]; exact bz_ : w.heap.size ≤ gb38001)); have n3_ := Aside0.mk ((by rw [hg]; exact bz_ : w.heap.size ≤ gb38001)); clear HB; have HB := n0_; have BK38001 := n1_; have GW38001 := n2_; have GE38001 := n3_; clear n0_ n1_ n2_ n3_ hb hbox hg; have hcz4_0 : w3.cell? ⟨gb38001, 0, none⟩ = some (.int .i64 a0_0) := (blk_cell BK38001.out 0).trans rfl; have hcz4_1 : w3.cell? ⟨gb38001, 1, none⟩ = some (.slice A0_1 l0_1.length c0_1) := (blk_cell BK38001.out 1).trans rfl; have hfz4_0 := blk_frozen BK38001.out 0; have hfz4_1 := blk_frozen BK38001.out 1) | (go_at_call 64; (with_reducible refine (sawmillref10_Valid.calls k a0_0 (fun k_ => k_ < w.heap.size) _ _ l0_1 t38002 t38003 _ ?side1 A2.out).mono ?_); (case side1 => exact Kd.V_mk HC0_1.out (Kd.F_below (Kd.C_F k49_heap HR0_1.out) be_)); rintro e w5 ⟨v38004, rfl, ho0, hb⟩; have n0_ := Aside0.mk (Kd.V_lower (Kd.V_mono (ok' := fun k_ => k_ ≠ gb38001) ho0 (fun k_ hk_ => Or.elim hk_ (fun hs_ => fun e_ => Nat.not_le.2 hs_ (by rw [e_]; exact GW38001.out)) (fun hn_ => (Kd.freshB (g := gb38001) (o := .cells #[.int .i64 a0_0, .slice A0_1 l0_1.length c0_1] 24 (0, 0)) (fb_ BK38001.out) k_ hn_)))) bz_); have n1_ := Aside0.mk (blk_below (g := gb38001) (o := .cells #[.int .i64 a0_0, .slice A0_1 l0_1.length c0_1] 24 (0, 0)) (fb_ BK38001.out) hb); have n2_ := Aside0.mk (bs_ hb); clear BK38001 HB; have HO38005 := n0_; have BK38001 := n1_; have HB := n2_; clear n0_ n1_ n2_; (try clear hb); (try clear hb2); (try clear hk); (try clear hi); (try clear ho0); have hcz6_0 : w5.cell? ⟨gb38001, 0, none⟩ = some (.int .i64 a0_0) := (blk_cell BK38001.out 0).trans rfl; have hcz6_1 : w5.cell? ⟨gb38001, 1, none⟩ = some (.slice A0_1 l0_1.length c0_1) := (blk_cell BK38001.out 1).trans rfl; have hfz6_0 := blk_frozen BK38001.out 0; have hfz6_1 := blk_frozen BK38001.out 1; obtain ⟨Ao7, co7, eo7⟩ := Kd.V_slice HO38005.out; subst eo7))
 repeat (go_quiet (first | ((with_reducible refine gate_dst (N := 1) rfl ?_); refine box_event ?hg (N := 1) ?hd (cs := #[.int .i64 a0_0, .slice A0_1 l0_1.length c0_1]) (t := 24) ?hr ?_; (case hd => rfl); (case hg => rfl); (case hr => first | (go_simp; done) | (go_simp; rfl)); intro gb38001 hg w3 hbox hb; have n0_ := Aside0.mk (bs_ hb); have n1_ := Aside0.mk (hbox); have n2_ := Aside0.mk ((by rw [hg]; exact bz_ : w.heap.size ≤ gb38001)); have n3_ := Aside0.mk ((by rw [hg]; exact bz_ : w.heap.size ≤ gb38001)); clear HB; have HB := n0_; have BK38001 := n1_; have GW38001 := n2_; have GE38001 := n3_; clear n0_ n1_ n2_ n3_ hb hbox hg; have hcz4_0 : w3.cell? ⟨gb38001, 0, none⟩ = some (.int .i64 a0_0) := (blk_cell BK38001.out 0).trans rfl; have hcz4_1 : w3.cell? ⟨gb38001, 1, none⟩ = some (.slice A0_1 l0_1.length c0_1) := (blk_cell BK38001.out 1).trans rfl; have hfz4_0 := blk_frozen BK38001.out 0; have hfz4_1 := blk_frozen BK38001.out 1) | (go_at_call 64; (with_reducible refine (sawmillref10_Valid.calls k a0_0 (fun k_ => k_ < w.heap.size) _ _ l0_1 t38002 t38003 _ ?side1 A2.out).mono ?_); (case side1 => exact Kd.V_mk HC0_1.out (Kd.F_below (Kd.C_F k49_heap HR0_1.out) be_)); rintro e w5 ⟨v38004, rfl, ho0, hb⟩; have n0_ := Aside0.mk (Kd.V_lower (Kd.V_mono (ok' := fun k_ => k_ ≠ gb38001) ho0 (fun k_ hk_ => Or.elim hk_ (fun hs_ => fun e_ => Nat.not_le.2 hs_ (by rw [e_]; exact GW38001.out)) (fun hn_ => (Kd.freshB (g := gb38001) (o := .cells #[.int .i64 a0_0, .slice A0_1 l0_1.length c0_1] 24 (0, 0)) (fb_ BK38001.out) k_ hn_)))) bz_); have n1_ := Aside0.mk (blk_below (g := gb38001) (o := .cells #[.int .i64 a0_0, .slice A0_1 l0_1.length c0_1] 24 (0, 0)) (fb_ BK38001.out) hb); have n2_ := Aside0.mk (bs_ hb); clear BK38001 HB; have HO38005 := n0_; have BK38001 := n1_; have HB := n2_; clear n0_ n1_ n2_; (try clear hb); (try clear hb2); (try clear hk); (try clear hi); (try clear ho0); have hcz6_0 : w5.cell? ⟨gb38001, 0, none⟩ = some (.int .i64 a0_0) := (blk_cell BK38001.out 0).trans rfl; have hcz6_1 : w5.cell? ⟨gb38001, 1, none⟩ = some (.slice A0_1 l0_1.length c0_1) := (blk_cell BK38001.out 1).trans rfl; have hfz6_0 := blk_frozen BK38001.out 0; have hfz6_1 := blk_frozen BK38001.out 1; obtain ⟨Ao7, co7, eo7⟩ := Kd.V_slice HO38005.out; subst eo7)); try go_wp2_with (first | ((with_reducible refine gate_dst (N := 1) rfl ?_); refine box_event ?hg (N := 1) ?hd (cs := #[.int .i64 a0_0, .slice A0_1 l0_1.length c0_1]) (t := 24) ?hr ?_; (case hd => rfl); (case hg => rfl); (case hr => first | (go_simp; done) | (go_simp; rfl)); intro gb38001 hg w3 hbox hb; have n0_ := Aside0.mk (bs_ hb); have n1_ := Aside0.mk (hbox); have n2_ := Aside0.mk ((by rw [hg]; exact bz_ : w.heap.size ≤ gb38001)); have n3_ := Aside0.mk ((by rw [hg]; exact bz_ : w.heap.size ≤ gb38001)); clear HB; have HB := n0_; have BK38001 := n1_; have GW38001 := n2_; have GE38001 := n3_; clear n0_ n1_ n2_ n3_ hb hbox hg; have hcz4_0 : w3.cell? ⟨gb38001, 0, none⟩ = some (.int .i64 a0_0) := (blk_cell BK38001.out 0).trans rfl; have hcz4_1 : w3.cell? ⟨gb38001, 1, none⟩ = some (.slice A0_1 l0_1.length c0_1) := (blk_cell BK38001.out 1).trans rfl; have hfz4_0 := blk_frozen BK38001.out 0; have hfz4_1 := blk_frozen BK38001.out 1) | (go_at_call 64; (with_reducible refine (sawmillref10_Valid.calls k a0_0 (fun k_ => k_ < w.heap.size) _ _ l0_1 t38002 t38003 _ ?side1 A2.out).mono ?_); (case side1 => exact Kd.V_mk HC0_1.out (Kd.F_below (Kd.C_F k49_heap HR0_1.out) be_)); rintro e w5 ⟨v38004, rfl, ho0, hb⟩; have n0_ := Aside0.mk (Kd.V_lower (Kd.V_mono (ok' := fun k_ => k_ ≠ gb38001) ho0 (fun k_ hk_ => Or.elim hk_ (fun hs_ => fun e_ => Nat.not_le.2 hs_ (by rw [e_]; exact GW38001.out)) (fun hn_ => (Kd.freshB (g := gb38001) (o := .cells #[.int .i64 a0_0, .slice A0_1 l0_1.length c0_1] 24 (0, 0)) (fb_ BK38001.out) k_ hn_)))) bz_); have n1_ := Aside0.mk (blk_below (g := gb38001) (o := .cells #[.int .i64 a0_0, .slice A0_1 l0_1.length c0_1] 24 (0, 0)) (fb_ BK38001.out) hb); have n2_ := Aside0.mk (bs_ hb); clear BK38001 HB; have HO38005 := n0_; have BK38001 := n1_; have HB := n2_; clear n0_ n1_ n2_; (try clear hb); (try clear hb2); (try clear hk); (try clear hi); (try clear ho0); have hcz6_0 : w5.cell? ⟨gb38001, 0, none⟩ = some (.int .i64 a0_0) := (blk_cell BK38001.out 0).trans rfl; have hcz6_1 : w5.cell? ⟨gb38001, 1, none⟩ = some (.slice A0_1 l0_1.length c0_1) := (blk_cell BK38001.out 1).trans rfl; have hfz6_0 := blk_frozen BK38001.out 0; have hfz6_1 := blk_frozen BK38001.out 1; obtain ⟨Ao7, co7, eo7⟩ := Kd.V_slice HO38005.out; subst eo7)))
 go_loopg [3, 4] k (fun kq v3 v4 w' => ∃ (x3_1 : Int) (x4_1 : Int), v3 = .int .i64 x3_1 ∧ v4 = .int .i64 x4_1 ∧ Aside0 (sawmillref10_Area.l0 kq x3_1 x4_1 t38002 t38003 = some r) ∧ Aside0 (kq ≤ k) ∧ Aside0 (Kd.V k49 49 w' w.heap.size (fun k_ => k_ ≠ gb38001) (.slice Ao7 t38003.length co7) t38003) ∧ Aside0 (w'.heap[gb38001]? = some (.cells #[.int .i64 t38002, (.slice Ao7 t38003.length co7)] 24 (0, 0))) ∧ Aside0 (Below w.heap.size w w'))
 case atStart => exact ⟨(0), (0), (by first | rfl | (simp; done) | (simp [*]; done)), (by first | rfl | (simp; done) | (simp [*]; done)), H', ⟨Nat.le_refl _⟩, ⟨by (with_reducible repeat (first | apply Kd.V_alloc | apply Kd.V_drewN | apply Kd.V_drew)); exact Kd.V_mono (Kd.V_far (p := ⟨gb38001, 1, none⟩) (Kd.V_far (p := ⟨gb38001, 0, none⟩) (Kd.V_mono HO38005.out (fun k_ hk => (⟨hk, hk⟩ : _ ∧ k_ ≠ gb38001))) (fun _ hk => hk.2) (.int .i64 t38002)) (fun _ hk => hk.2) (.slice Ao7 t38003.length co7)) (fun _ hk => hk.1)⟩, ⟨by (with_reducible repeat (first | refine blk_drewN ?_ _ | refine blk_drew ?_ | refine blk_alloc ?_ _)); refine blk_put (cs := #[.int .i64 t38002, .slice A0_1 l0_1.length c0_1]) ?_ 1 _ rfl; (with_reducible repeat (first | refine blk_drewN ?_ _ | refine blk_drew ?_ | refine blk_alloc ?_ _)); refine blk_put (cs := #[.int .i64 a0_0, .slice A0_1 l0_1.length c0_1]) ?_ 0 _ rfl; (with_reducible repeat (first | refine blk_drewN ?_ _ | refine blk_drew ?_ | refine blk_alloc ?_ _)); exact BK38001.out⟩, ⟨be_⟩⟩
 case round =>
  clear H'
  try clear p2
  try clear c3
  try clear hcz4_0
  try clear hcz4_1
  try clear hcz6_0
  try clear hcz6_1
  try clear hfz4_0
  try clear hfz4_1
  try clear hfz6_0
  try clear hfz6_1
  obtain ⟨x3_1, x4_1, rfl, rfl, HA, HK1, HO_38002001, BK38001, HB⟩ := hrel
  cases gk with
  | zero => exact absurd HA.out (by simp [sawmillref10_Area.l0])
  | succ k1 =>
   have H := HA.out
   clear HA
   simp only [sawmillref10_Area.l0] at H
   by_cases c8 : x4_1 < (t38003.length : Int)
   ·rw [if_pos c8] at H
    have c8b0 : decide (x4_1 < (t38003.length : Int)) = true := decide_eq_true c8
    clear c8
    by_cases c9 : 0 ≤ x4_1
    ·rw [if_pos c9] at H
     have c9b0 : decide (0 ≤ x4_1) = true := decide_eq_true c9
     clear c9
     have H' := Aside0.mk H
     clear H
     have hcz10_0 : wr.cell? ⟨gb38001, 0, none⟩ = some (.int .i64 t38002) := (blk_cell BK38001.out 0).trans rfl
     have hcz10_1 : wr.cell? ⟨gb38001, 1, none⟩ = some (.slice Ao7 t38003.length co7) := (blk_cell BK38001.out 1).trans rfl
     have hfz10_0 := blk_frozen BK38001.out 0
     have hfz10_1 := blk_frozen BK38001.out 1
     have p38006 : 0 ≤ (x4_1 : Int) := of_decide_eq_true (by first | (with_reducible assumption) | assumption)
     have q38006 : x4_1 < (t38003.length : Int) := of_decide_eq_true (by first | (with_reducible assumption) | assumption)
     obtain ⟨ad38006, e38006, hx38006_0, hx38006_1⟩ := at_T49 (Kd.V_reads' HO_38002001.out).2.2 x4_1 p38006 q38006
     cases e38006
     replace p38006 := eq_true p38006
     replace q38006 := eq_true q38006
     have p38007 : 0 ≤ (x4_1 : Int) := of_decide_eq_true (by first | (with_reducible assumption) | assumption)
     have q38007 : x4_1 < (t38003.length : Int) := of_decide_eq_true (by first | (with_reducible assumption) | assumption)
     obtain ⟨ad38007, e38007, hx38007_0, hx38007_1⟩ := at_T49 (Kd.V_reads' HO_38002001.out).2.2 x4_1 p38007 q38007
     obtain rfl : ad38006 = ad38007 := (by injection e38007)
     replace p38007 := eq_true p38007
     replace q38007 := eq_true q38007
     go_wp2
     repeat (go_quiet (fail); try go_wp2)
     go_roundg k1
     case measure => have := HK1.out; omega
     case rel => exact ⟨(wrap64 (x3_1 + (wrap64 (10 * (wrap64 (((rd_T49 t38003 x4_1).f1) - ((rd_T49 t38003 x4_1).f0))))))), (wrap64 (x4_1 + 1)), (by first | rfl | (simp; done) | (simp [*]; done)), (by first | rfl | (simp; done) | (simp [*]; done)), H', ⟨by have := HK1.out; omega⟩, ⟨fV_ HO_38002001.out⟩, ⟨fb_ BK38001.out⟩, ⟨be_⟩⟩
    ·rw [if_neg c9] at H
     exact absurd H (by simp)
   ·rw [if_neg c8] at H
    have c8b0 : decide (x4_1 < (t38003.length : Int)) = false := decide_eq_false c8
    clear c8
    obtain rfl := Option.some.inj H
    have hcz11_0 : wr.cell? ⟨gb38001, 0, none⟩ = some (.int .i64 t38002) := (blk_cell BK38001.out 0).trans rfl
    have hcz11_1 : wr.cell? ⟨gb38001, 1, none⟩ = some (.slice Ao7 t38003.length co7) := (blk_cell BK38001.out 1).trans rfl
    have hfz11_0 := blk_frozen BK38001.out 0
    have hfz11_1 := blk_frozen BK38001.out 1
    go_wp2
    repeat (go_quiet (fail); try go_wp2)
    go_ret
    exact ⟨er_, be_⟩

end Go.Proofs.Ytdbjoopkliafeaa.P

end
section
namespace Go.Proofs.Ytdbjoopkliafeaa.P
open Go Go.RowKit Go.Proofs.YtdbjoopkliafeaaW.PrintWords Go.Proofs.YtdbjoopkliafeaaW.PrintLast Go.Proofs.YtdbjoopkliafeaaW.PrintMore
attribute [local go_sem] max2_int min2_int max_two min_two max_three min_three max_four min_four max_five min_eight max_eight   -- for this text's walks alone
set_option linter.unusedVariables false
set_option linter.unusedSimpArgs false

mutual
def sawmillref14_Diameter.j0 : Nat → Int → Option (Int)
 | 0, _ => none
 | k + 1, x3 => sawmillref14_Diameter.l0 k x3 0
def sawmillref14_Diameter.l0 : Nat → Int → Int → Option (Int)
 | 0, _, _ => none
 | k + 1, x3, x4 => if (wrap64 ((wrap64 (x4 + 1)) * (wrap64 (x4 + 1)))) ≤ x3 then (sawmillref14_Diameter.l0 k x3 (wrap64 (x4 + 1))) else (some x4)
end
def sawmillref14_Diameter.f (k : Nat) (a0_0 : Int) (l0_1 : List (S49)) : Option (Int) := (sawmillref10_Check.f k a0_0 l0_1).bind fun t13002 => (if t13002 = 0 then ((sawmillref10_Area.f k a0_0 l0_1).bind fun t13003 => (sawmillref14_Diameter.j0 k (wrap64 (Int.tdiv (wrap64 (452 * t13003)) 355)))) else (sawmillref14_Diameter.j0 k 0))
theorem sawmillref14_Diameter.mono_l : ∀ k, (∀ y0, LeO (sawmillref14_Diameter.j0 k y0) (sawmillref14_Diameter.j0 (k + 1) y0)) ∧ (∀ y0 y1, LeO (sawmillref14_Diameter.l0 k y0 y1) (sawmillref14_Diameter.l0 (k + 1) y0 y1))
 | 0 => ⟨fun _ r h => by simp [sawmillref14_Diameter.j0] at h, fun _ _ r h => by simp [sawmillref14_Diameter.l0] at h⟩
 | k + 1 => by
  obtain ⟨ih0, ih1⟩ := sawmillref14_Diameter.mono_l k
  refine ⟨?_, ?_⟩
  ·intro y0
   unfold sawmillref14_Diameter.j0
   repeat' first
   | (with_reducible exact ih0 _)
   | (with_reducible exact ih1 _ _)
   | (with_reducible exact sawmillref10_Area.mono _ _ _)
   | (with_reducible exact sawmillref10_Check.mono _ _ _)
   | (with_reducible exact LeO.refl _)
   | (with_reducible exact LeO.none _)
   | (with_reducible refine LeO.ite ?_ ?_)
   | (with_reducible refine LeO.bind ?_ (fun _ => ?_))
   | exact ih0 _
   | exact ih1 _ _
   | exact sawmillref10_Area.mono _ _ _
   | exact sawmillref10_Check.mono _ _ _
   | exact LeO.none _
   | refine LeO.ite ?_ ?_
   | refine LeO.bind ?_ (fun _ => ?_)
  ·intro y0 y1
   unfold sawmillref14_Diameter.l0
   repeat' first
   | (with_reducible exact ih0 _)
   | (with_reducible exact ih1 _ _)
   | (with_reducible exact sawmillref10_Area.mono _ _ _)
   | (with_reducible exact sawmillref10_Check.mono _ _ _)
   | (with_reducible exact LeO.refl _)
   | (with_reducible exact LeO.none _)
   | (with_reducible refine LeO.ite ?_ ?_)
   | (with_reducible refine LeO.bind ?_ (fun _ => ?_))
   | exact ih0 _
   | exact ih1 _ _
   | exact sawmillref10_Area.mono _ _ _
   | exact sawmillref10_Check.mono _ _ _
   | exact LeO.none _
   | refine LeO.ite ?_ ?_
   | refine LeO.bind ?_ (fun _ => ?_)
theorem sawmillref14_Diameter.mono : ∀ a0 a1 k, LeO (sawmillref14_Diameter.f k a0 a1) (sawmillref14_Diameter.f (k + 1) a0 a1) := by
 intro a0 a1 k
 obtain ⟨ih0, ih1⟩ := sawmillref14_Diameter.mono_l k
 unfold sawmillref14_Diameter.f
 repeat' first
   | (with_reducible exact ih0 _)
   | (with_reducible exact ih1 _ _)
   | (with_reducible exact sawmillref10_Area.mono _ _ _)
   | (with_reducible exact sawmillref10_Check.mono _ _ _)
   | (with_reducible exact LeO.refl _)
   | (with_reducible exact LeO.none _)
   | (with_reducible refine LeO.ite ?_ ?_)
   | (with_reducible refine LeO.bind ?_ (fun _ => ?_))
   | exact ih0 _
   | exact ih1 _ _
   | exact sawmillref10_Area.mono _ _ _
   | exact sawmillref10_Check.mono _ _ _
   | exact LeO.none _
   | refine LeO.ite ?_ ?_
   | refine LeO.bind ?_ (fun _ => ?_)
set_option maxHeartbeats 8000000 in
set_option maxRecDepth 100000 in
theorem sawmillref14_Diameter.calls (k : Nat) (a0_0 : Int) (A0_1 : Option Addr) (c0_1 : Nat) (l0_1 : List (S49)) (r : Int) (w : World) (hr0_1 : Kd.C k49 w A0_1 l0_1.length l0_1) (hc0_1 : l0_1.length ≤ c0_1) (h : sawmillref14_Diameter.f k a0_0 l0_1 = some r) :
  Calls Try.prog 13 #[.agg #[.int .i64 a0_0, .slice A0_1 l0_1.length c0_1]] w fun e w' => e = .returned (.int .i64 r) ∧ Below w.heap.size w w' := by
 have hu24 := Try.underlying24
 have HR0_1 := Aside0.mk hr0_1
 have HC0_1 := Aside0.mk hc0_1
 clear hr0_1 hc0_1
 have HB := Aside0.mk (Below.refl w.heap.size w)
 have H : ((sawmillref10_Check.f k a0_0 l0_1).bind fun t13002 => (if t13002 = 0 then ((sawmillref10_Area.f k a0_0 l0_1).bind fun t13003 => (sawmillref14_Diameter.j0 k (wrap64 (Int.tdiv (wrap64 (452 * t13003)) 355)))) else (sawmillref14_Diameter.j0 k 0))) = some r := h
 clear h
 replace H := Option.bind_eq_some_iff.mp H
 obtain ⟨t13002, A20, H⟩ := H
 replace H : (if t13002 = 0 then ((sawmillref10_Area.f k a0_0 l0_1).bind fun t13003 => (sawmillref14_Diameter.j0 k (wrap64 (Int.tdiv (wrap64 (452 * t13003)) 355)))) else (sawmillref14_Diameter.j0 k 0)) = some r := H
 have A2 := Aside0.mk A20
 clear A20
 have HC3 := Aside0.mk H
 clear H
 go_enter Try.func13, Try.ntmps13
 go_upto_if 7 with (first | ((with_reducible refine gate_dst (N := 1) rfl ?_); refine box_event ?hg (N := 1) ?hd (cs := #[.int .i64 a0_0, .slice A0_1 l0_1.length c0_1]) (t := 24) ?hr ?_; (case hd => rfl); (case hg => rfl); (case hr => first | (go_simp; done) | (go_simp; rfl)); intro gb13001 hg w4 hbox hb; have n0_ := Aside0.mk (bs_ hb); have n1_ := Aside0.mk (hbox); have n2_ := Aside0.mk ((by rw [hg]; exact bz_ : w.heap.size ≤ gb13001)); have n3_ := Aside0.mk ((by rw [hg]; exact bz_ : w.heap.size ≤ gb13001)); clear HB; have HB := n0_; have BK13001 := n1_; have GW13001 := n2_; have GE13001 := n3_; clear n0_ n1_ n2_ n3_ hb hbox hg; have hcz5_0 : w4.cell? ⟨gb13001, 0, none⟩ = some (.int .i64 a0_0) := (blk_cell BK13001.out 0).trans rfl; have hcz5_1 : w4.cell? ⟨gb13001, 1, none⟩ = some (.slice A0_1 l0_1.length c0_1) := (blk_cell BK13001.out 1).trans rfl; have hfz5_0 := blk_frozen BK13001.out 0; have hfz5_1 := blk_frozen BK13001.out 1) | ((with_reducible refine gate_callee (f := 37) rfl ?_); refine goesL_ (some 6) rfl rfl Try.func37 (by kernel_rfl) rfl #[.agg #[.int .i64 a0_0, .slice A0_1 l0_1.length c0_1]] rfl la_ ?_; (with_reducible refine (sawmillref10_Check.calls k a0_0 _ _ l0_1 t13002 _ ?side1 ?side2 A2.out).mono ?_); (case side1 => repeat (first | exact (Kd.C_below HR0_1.out HB.out) | (with_reducible refine Kd.C_alloc ?_ _) | (with_reducible refine Kd.C_drewN ?_ _) | (with_reducible refine Kd.C_drew ?_))); (case side2 => exact HC0_1.out); rintro e w6 ⟨rfl, hb⟩; refine ⟨_, rfl, ?_⟩; have n0_ := Aside0.mk (blk_below (g := gb13001) (o := .cells #[.int .i64 a0_0, .slice A0_1 l0_1.length c0_1] 24 (0, 0)) (fb_ BK13001.out) hb); have n1_ := Aside0.mk (bs_ hb); clear BK13001 HB; have BK13001 := n0_; have HB := n1_; clear n0_ n1_; (try clear hb); (try clear hb2); (try clear hk); (try clear hi)))
 (try simp only [Act.put, List.setIfInBounds_toArray, List.set_cons_zero, List.set_cons_succ])
 go_cut [3] (fun v3 wc => ∃ (kq : Nat) (x3_2 : Int), v3 = .int .i64 x3_2 ∧ Aside0 (sawmillref14_Diameter.j0 kq x3_2 = some r) ∧ Aside0 (kq ≤ k) ∧ Aside0 (wc.heap[gb13001]? = some (.cells #[.int .i64 a0_0, (.slice A0_1 l0_1.length c0_1)] 24 (0, 0))) ∧ Aside0 (Below w.heap.size w wc))
 case first =>
  have H := HC3.out
  clear HC3
  by_cases c7 : t13002 = 0
  ·rw [if_pos c7] at H
   have c7b0 : (t13002 == 0) = true := beq_iff_eq.mpr c7
   have c7b1 : (t13002 != 0) = false := bne_eq_false_iff_eq.mpr c7
   clear c7
   (first | rw [c7b0] | (simp only [i64_w, i32_w]; rw [c7b0]) | skip)
   replace H := Option.bind_eq_some_iff.mp H
   obtain ⟨t13003, A80, H⟩ := H
   replace H : (sawmillref14_Diameter.j0 k (wrap64 (Int.tdiv (wrap64 (452 * t13003)) 355))) = some r := H
   have A8 := Aside0.mk A80
   clear A80
   have H' := Aside0.mk H
   clear H
   have hcz9_0 : w6.cell? ⟨gb13001, 0, none⟩ = some (.int .i64 a0_0) := (blk_cell BK13001.out 0).trans rfl
   have hcz9_1 : w6.cell? ⟨gb13001, 1, none⟩ = some (.slice A0_1 l0_1.length c0_1) := (blk_cell BK13001.out 1).trans rfl
   have hfz9_0 := blk_frozen BK13001.out 0
   have hfz9_1 := blk_frozen BK13001.out 1
   go_wp2_with (first | ((with_reducible refine gate_callee (f := 38) rfl ?_); refine goesL_ (some 9) rfl rfl Try.func38 (by kernel_rfl) rfl #[.agg #[.int .i64 a0_0, .slice A0_1 l0_1.length c0_1]] rfl la_ ?_; (with_reducible refine (sawmillref10_Area.calls k a0_0 _ _ l0_1 t13003 _ ?side1 ?side2 A8.out).mono ?_); (case side1 => repeat (first | exact (Kd.C_below HR0_1.out HB.out) | (with_reducible refine Kd.C_alloc ?_ _) | (with_reducible refine Kd.C_drewN ?_ _) | (with_reducible refine Kd.C_drew ?_))); (case side2 => exact HC0_1.out); rintro e w10 ⟨rfl, hb⟩; refine ⟨_, rfl, ?_⟩; have n0_ := Aside0.mk (blk_below (g := gb13001) (o := .cells #[.int .i64 a0_0, .slice A0_1 l0_1.length c0_1] 24 (0, 0)) (fb_ BK13001.out) hb); have n1_ := Aside0.mk (bs_ hb); clear BK13001 HB; have BK13001 := n0_; have HB := n1_; clear n0_ n1_; (try clear hb); (try clear hb2); (try clear hk); (try clear hi)))
   go_meet
   case rel => exact ⟨_, (wrap64 (Int.tdiv (wrap64 (452 * t13003)) 355)), (by first | rfl | (simp; done) | (simp [*]; done)), H', ⟨by first | omega | exact Nat.le_refl _⟩, ⟨fb_ BK13001.out⟩, ⟨be_⟩⟩
  ·rw [if_neg c7] at H
   have c7b0 : (t13002 == 0) = false := beq_eq_false_iff_ne.mpr c7
   have c7b1 : (t13002 != 0) = true := bne_iff_ne.mpr c7
   (first | rw [c7b0] | (simp only [i64_w, i32_w]; rw [c7b0]) | skip)
   have H' := Aside0.mk H
   clear H
   go_wp2
   go_meet
   case rel => exact ⟨_, (0), (by first | rfl | (simp; done) | (simp [*]; done)), H', ⟨by first | omega | exact Nat.le_refl _⟩, ⟨fb_ BK13001.out⟩, ⟨be_⟩⟩
 case rest =>
  clear HC3
  try clear c1
  try clear p2
  try clear c3
  try clear p6
  try clear c7
  try clear c7b0
  try clear c7b1
  try clear hcz5_0
  try clear hcz5_1
  try clear hcz9_0
  try clear hcz9_1
  try clear hfz5_0
  try clear hfz5_1
  try clear hfz9_0
  try clear hfz9_1
  obtain ⟨kq, x3_2, rfl, HA, HJ2, BK13001, HB⟩ := hcut
  cases kq with
  | zero => exact absurd HA.out (by simp [sawmillref14_Diameter.j0])
  | succ kj2 =>
   have H := HA.out
   clear HA
   simp only [sawmillref14_Diameter.j0] at H
   have H' := Aside0.mk H
   clear H
   go_wp2
   go_loopg [4] kj2 (fun kq v4 w' => ∃ (x4_2 : Int), v4 = .int .i64 x4_2 ∧ Aside0 (sawmillref14_Diameter.l0 kq x3_2 x4_2 = some r) ∧ Aside0 (kq ≤ kj2) ∧ Aside0 (w'.heap[gb13001]? = some (.cells #[.int .i64 a0_0, (.slice A0_1 l0_1.length c0_1)] 24 (0, 0))) ∧ Aside0 (Below w.heap.size w w'))
   case atStart => exact ⟨(0), (by first | rfl | (simp; done) | (simp [*]; done)), H', ⟨Nat.le_refl _⟩, ⟨fb_ BK13001.out⟩, ⟨be_⟩⟩
   case round =>
    clear H'
    try clear c1
    try clear p2
    try clear c3
    try clear p6
    try clear c7
    try clear c7b0
    try clear c7b1
    try clear hcz5_0
    try clear hcz5_1
    try clear hcz9_0
    try clear hcz9_1
    try clear hfz5_0
    try clear hfz5_1
    try clear hfz9_0
    try clear hfz9_1
    try clear p2
    try clear p6
    obtain ⟨x4_2, rfl, HA, HK2, BK13001, HB⟩ := hrel
    cases gk with
    | zero => exact absurd HA.out (by simp [sawmillref14_Diameter.l0])
    | succ k2 =>
     have H := HA.out
     clear HA
     simp only [sawmillref14_Diameter.l0] at H
     by_cases c11 : (wrap64 ((wrap64 (x4_2 + 1)) * (wrap64 (x4_2 + 1)))) ≤ x3_2
     ·rw [if_pos c11] at H
      have c11b0 : decide ((wrap64 ((wrap64 (x4_2 + 1)) * (wrap64 (x4_2 + 1)))) ≤ x3_2) = true := decide_eq_true c11
      clear c11
      have H' := Aside0.mk H
      clear H
      go_wp2
      go_roundg k2
      case measure => have := HJ2.out; have := HK2.out; omega
      case rel => exact ⟨(wrap64 (x4_2 + 1)), (by first | rfl | (simp; done) | (simp [*]; done)), H', ⟨by have := HJ2.out; have := HK2.out; omega⟩, ⟨fb_ BK13001.out⟩, ⟨be_⟩⟩
     ·rw [if_neg c11] at H
      have c11b0 : decide ((wrap64 ((wrap64 (x4_2 + 1)) * (wrap64 (x4_2 + 1)))) ≤ x3_2) = false := decide_eq_false c11
      clear c11
      obtain rfl := Option.some.inj H
      go_wp2
      go_ret
      exact ⟨er_, be_⟩

end Go.Proofs.Ytdbjoopkliafeaa.P

end
section
namespace Go.Proofs.Ytdbjoopkliafeaa.P
open Go Go.RowKit Go.Proofs.YtdbjoopkliafeaaW.PrintWords Go.Proofs.YtdbjoopkliafeaaW.PrintLast Go.Proofs.YtdbjoopkliafeaaW.PrintMore
attribute [local go_sem] max2_int min2_int max_two min_two max_three min_three max_four min_four max_five min_eight max_eight   -- for this text's walks alone
set_option linter.unusedVariables false
set_option linter.unusedSimpArgs false

def sawmillref11_Check.l0 : Nat → List (S36) → Int → Int → Option (Int)
 | 0, _, _, _ => none
 | k + 1, x0, x3, x4 => if x4 < (x0.length : Int) then (if 0 ≤ x4 then ((sawmillref10_Check.f k ((rd_T36 x0 x4).f1.f0) ((rd_T36 x0 x4).f1.f1)).bind fun t41002 => (if t41002 = 0 then (if (((rd_T36 x0 x4).f1.f1).length : Int) = 0 then (some 18) else (if ((rd_T36 x0 x4).f0) < 1 then (some 9) else (if ((rd_T36 x0 x4).f0) > (wrap64 (20000 - x3)) then (some 9) else (sawmillref11_Check.l0 k x0 (wrap64 (x3 + ((rd_T36 x0 x4).f0))) (wrap64 (x4 + 1)))))) else (some t41002))) else (none)) else (some 0)
def sawmillref11_Check.f (k : Nat) (l0 : List (S36)) : Option (Int) := if (l0.length : Int) = 0 then (some 3) else (if (l0.length : Int) > 24 then (some 4) else (sawmillref11_Check.l0 k l0 0 0))
theorem sawmillref11_Check.mono_l : ∀ k, (∀ y0 y1 y2, LeO (sawmillref11_Check.l0 k y0 y1 y2) (sawmillref11_Check.l0 (k + 1) y0 y1 y2))
 | 0 => fun _ _ _ r h => by simp [sawmillref11_Check.l0] at h
 | k + 1 => by
  have ih0 := sawmillref11_Check.mono_l k
  ·intro y0 y1 y2
   unfold sawmillref11_Check.l0
   repeat' first
   | (with_reducible exact ih0 _ _ _)
   | (with_reducible exact sawmillref10_Check.mono _ _ _)
   | (with_reducible exact LeO.refl _)
   | (with_reducible exact LeO.none _)
   | (with_reducible refine LeO.ite ?_ ?_)
   | (with_reducible refine LeO.bind ?_ (fun _ => ?_))
   | exact ih0 _ _ _
   | exact sawmillref10_Check.mono _ _ _
   | exact LeO.none _
   | refine LeO.ite ?_ ?_
   | refine LeO.bind ?_ (fun _ => ?_)
theorem sawmillref11_Check.mono : ∀ a0 k, LeO (sawmillref11_Check.f k a0) (sawmillref11_Check.f (k + 1) a0) := by
 intro a0 k
 have ih0 := sawmillref11_Check.mono_l k
 unfold sawmillref11_Check.f
 repeat' first
   | (with_reducible exact ih0 _ _ _)
   | (with_reducible exact sawmillref10_Check.mono _ _ _)
   | (with_reducible exact LeO.refl _)
   | (with_reducible exact LeO.none _)
   | (with_reducible refine LeO.ite ?_ ?_)
   | (with_reducible refine LeO.bind ?_ (fun _ => ?_))
   | exact ih0 _ _ _
   | exact sawmillref10_Check.mono _ _ _
   | exact LeO.none _
   | refine LeO.ite ?_ ?_
   | refine LeO.bind ?_ (fun _ => ?_)
set_option maxHeartbeats 8000000 in
set_option maxRecDepth 100000 in
theorem sawmillref11_Check.calls (k : Nat) (A0 : Option Addr) (c0 : Nat) (l0 : List (S36)) (r : Int) (w : World) (hr0 : Kd.C k36 w A0 l0.length l0) (hc0 : l0.length ≤ c0) (h : sawmillref11_Check.f k l0 = some r) :
  Calls Try.prog 41 #[.slice A0 l0.length c0] w fun e w' => e = .returned (.int .i64 r) ∧ Below w.heap.size w w' := by
 have hu24 := Try.underlying24
 have HR0 := Aside0.mk hr0
 have HC0 := Aside0.mk hc0
 clear hr0 hc0
 have HB := Aside0.mk (Below.refl w.heap.size w)
 have H : (if (l0.length : Int) = 0 then (some 3) else (if (l0.length : Int) > 24 then (some 4) else (sawmillref11_Check.l0 k l0 0 0))) = some r := h
 clear h
 by_cases c2 : (l0.length : Int) = 0
 ·rw [if_pos c2] at H
  have c2b0 : ((l0.length : Int) == 0) = true := beq_iff_eq.mpr c2
  have c2b1 : ((l0.length : Int) != 0) = false := bne_eq_false_iff_eq.mpr c2
  clear c2
  obtain rfl := Option.some.inj H
  go_enter Try.func41, Try.ntmps41
  go_wp2
  go_ret
  exact ⟨er_, be_⟩
 ·rw [if_neg c2] at H
  have c2b0 : ((l0.length : Int) == 0) = false := beq_eq_false_iff_ne.mpr c2
  have c2b1 : ((l0.length : Int) != 0) = true := bne_iff_ne.mpr c2
  have c2b2 : ¬ (l0 = []) := fun h_ => c2 (by rw [h_]; rfl)
  by_cases c3 : (l0.length : Int) > 24
  ·rw [if_pos c3] at H
   have c3b0 : decide (24 < (l0.length : Int)) = true := decide_eq_true c3
   have c3b1 : decide (24 < l0.length) = true := decide_eq_true (by omega)
   clear c3
   obtain rfl := Option.some.inj H
   go_enter Try.func41, Try.ntmps41
   go_wp2
   go_ret
   exact ⟨er_, be_⟩
  ·rw [if_neg c3] at H
   have c3b0 : decide (24 < (l0.length : Int)) = false := decide_eq_false c3
   have c3b1 : decide (24 < l0.length) = false := decide_eq_false (by omega)
   clear c3
   have H' := Aside0.mk H
   clear H
   go_enter Try.func41, Try.ntmps41
   go_wp2
   go_loopg [3, 4] k (fun kq v3 v4 w' => ∃ (x3_1 : Int) (x4_1 : Int), v3 = .int .i64 x3_1 ∧ v4 = .int .i64 x4_1 ∧ Aside0 (sawmillref11_Check.l0 kq l0 x3_1 x4_1 = some r) ∧ Aside0 (kq ≤ k) ∧ Aside0 (Below w.heap.size w w'))
   case atStart => exact ⟨(0), (0), (by first | rfl | (simp; done) | (simp [*]; done)), (by first | rfl | (simp; done) | (simp [*]; done)), H', ⟨Nat.le_refl _⟩, ⟨be_⟩⟩
   case round =>
    clear H'
    try clear c2
    try clear c2b0
    try clear c2b1
    try clear c2b2
    try clear p2
    try clear c3
    try clear c3b0
    try clear c3b1
    obtain ⟨x3_1, x4_1, rfl, rfl, HA, HK1, HB⟩ := hrel
    cases gk with
    | zero => exact absurd HA.out (by simp [sawmillref11_Check.l0])
    | succ k1 =>
     have H := HA.out
     clear HA
     simp only [sawmillref11_Check.l0] at H
     by_cases c4 : x4_1 < (l0.length : Int)
     ·rw [if_pos c4] at H
      have c4b0 : decide (x4_1 < (l0.length : Int)) = true := decide_eq_true c4
      clear c4
      by_cases c5 : 0 ≤ x4_1
      ·rw [if_pos c5] at H
       have c5b0 : decide (0 ≤ x4_1) = true := decide_eq_true c5
       clear c5
       replace H := Option.bind_eq_some_iff.mp H
       obtain ⟨t41002, A60, H⟩ := H
       replace H : (if t41002 = 0 then (if (((rd_T36 l0 x4_1).f1.f1).length : Int) = 0 then (some 18) else (if ((rd_T36 l0 x4_1).f0) < 1 then (some 9) else (if ((rd_T36 l0 x4_1).f0) > (wrap64 (20000 - x3_1)) then (some 9) else (sawmillref11_Check.l0 k1 l0 (wrap64 (x3_1 + ((rd_T36 l0 x4_1).f0))) (wrap64 (x4_1 + 1)))))) else (some t41002)) = some r := H
       have A6 := Aside0.mk A60
       clear A60
       by_cases c7 : t41002 = 0
       ·rw [if_pos c7] at H
        have c7b0 : (t41002 == 0) = true := beq_iff_eq.mpr c7
        have c7b1 : (t41002 != 0) = false := bne_eq_false_iff_eq.mpr c7
        clear c7
        by_cases c8 : (((rd_T36 l0 x4_1).f1.f1).length : Int) = 0
        ·rw [if_pos c8] at H
         have c8b0 : ((((rd_T36 l0 x4_1).f1.f1).length : Int) == 0) = true := beq_iff_eq.mpr c8
         have c8b1 : ((((rd_T36 l0 x4_1).f1.f1).length : Int) != 0) = false := bne_eq_false_iff_eq.mpr c8
         clear c8
         obtain rfl := Option.some.inj H
         have p41001 : 0 ≤ (x4_1 : Int) := of_decide_eq_true (by first | (with_reducible assumption) | assumption)
         have q41001 : x4_1 < (l0.length : Int) := of_decide_eq_true (by first | (with_reducible assumption) | assumption)
         obtain ⟨ad41001, A41001_2, c41001_2, e41001, hx41001_0, hx41001_1, hx41001_2, hl41001_2, hi41001_2⟩ := at_T36 HR0.out x4_1 p41001 q41001
         cases e41001
         replace hx41001_0 := (HB.out.cell (World.block_lt_of_cell? w _ hx41001_0)).trans hx41001_0
         replace hx41001_1 := (HB.out.cell (World.block_lt_of_cell? w _ hx41001_1)).trans hx41001_1
         replace hx41001_2 := (HB.out.cell (World.block_lt_of_cell? w _ hx41001_2)).trans hx41001_2
         have HR41001_2 := Aside0.mk hi41001_2
         have HC41001_2 := Aside0.mk hl41001_2
         clear hi41001_2 hl41001_2
         replace p41001 := eq_true p41001
         replace q41001 := eq_true q41001
         go_wp2_with (first | ((with_reducible refine gate_callee (f := 37) rfl ?_); refine goesL_ (some 23) rfl rfl Try.func37 (by kernel_rfl) rfl #[.agg #[.int .i64 ((rd_T36 l0 x4_1).f1.f0), .slice A41001_2 ((rd_T36 l0 x4_1).f1.f1).length c41001_2]] rfl la_ ?_; (with_reducible refine (sawmillref10_Check.calls k1 ((rd_T36 l0 x4_1).f1.f0) _ _ ((rd_T36 l0 x4_1).f1.f1) t41002 _ ?side1 ?side2 A6.out).mono ?_); (case side1 => repeat (first | exact (Kd.C_below HR41001_2.out HB.out) | (with_reducible refine Kd.C_alloc ?_ _) | (with_reducible refine Kd.C_drewN ?_ _) | (with_reducible refine Kd.C_drew ?_))); (case side2 => exact HC41001_2.out); rintro e w9 ⟨rfl, hb⟩; refine ⟨_, rfl, ?_⟩; have n0_ := Aside0.mk (bs_ hb); clear HB; have HB := n0_; clear n0_; (try clear hb); (try clear hb2); (try clear hk); (try clear hi); have p41003 : 0 ≤ (x4_1 : Int) := of_decide_eq_true (by first | (with_reducible assumption) | assumption); have q41003 : x4_1 < (l0.length : Int) := of_decide_eq_true (by first | (with_reducible assumption) | assumption); obtain ⟨ad41003, A41003_2, c41003_2, e41003, hx41003_0, hx41003_1, hx41003_2, hl41003_2, hi41003_2⟩ := at_T36 HR0.out x4_1 p41003 q41003; obtain rfl : ad41001 = ad41003 := (by injection e41003); replace hx41003_0 := (HB.out.cell (World.block_lt_of_cell? w _ hx41003_0)).trans hx41003_0; replace hx41003_1 := (HB.out.cell (World.block_lt_of_cell? w _ hx41003_1)).trans hx41003_1; replace hx41003_2 := (HB.out.cell (World.block_lt_of_cell? w _ hx41003_2)).trans hx41003_2; have HR41003_2 := Aside0.mk hi41003_2; have HC41003_2 := Aside0.mk hl41003_2; clear hi41003_2 hl41003_2; replace p41003 := eq_true p41003; replace q41003 := eq_true q41003))
         go_ret
         exact ⟨er_, be_⟩
        ·rw [if_neg c8] at H
         have c8b0 : ((((rd_T36 l0 x4_1).f1.f1).length : Int) == 0) = false := beq_eq_false_iff_ne.mpr c8
         have c8b1 : ((((rd_T36 l0 x4_1).f1.f1).length : Int) != 0) = true := bne_iff_ne.mpr c8
         have c8b2 : ¬ (((rd_T36 l0 x4_1).f1.f1) = []) := fun h_ => c8 (by rw [h_]; rfl)
         by_cases c10 : ((rd_T36 l0 x4_1).f0) < 1
         ·rw [if_pos c10] at H
          have c10b0 : decide (((rd_T36 l0 x4_1).f0) < 1) = true := decide_eq_true c10
          clear c10
          obtain rfl := Option.some.inj H
          have p41001 : 0 ≤ (x4_1 : Int) := of_decide_eq_true (by first | (with_reducible assumption) | assumption)
          have q41001 : x4_1 < (l0.length : Int) := of_decide_eq_true (by first | (with_reducible assumption) | assumption)
          obtain ⟨ad41001, A41001_2, c41001_2, e41001, hx41001_0, hx41001_1, hx41001_2, hl41001_2, hi41001_2⟩ := at_T36 HR0.out x4_1 p41001 q41001
          cases e41001
          replace hx41001_0 := (HB.out.cell (World.block_lt_of_cell? w _ hx41001_0)).trans hx41001_0
          replace hx41001_1 := (HB.out.cell (World.block_lt_of_cell? w _ hx41001_1)).trans hx41001_1
          replace hx41001_2 := (HB.out.cell (World.block_lt_of_cell? w _ hx41001_2)).trans hx41001_2
          have HR41001_2 := Aside0.mk hi41001_2
          have HC41001_2 := Aside0.mk hl41001_2
          clear hi41001_2 hl41001_2
          replace p41001 := eq_true p41001
          replace q41001 := eq_true q41001
          go_wp2_with (first | ((with_reducible refine gate_callee (f := 37) rfl ?_); refine goesL_ (some 23) rfl rfl Try.func37 (by kernel_rfl) rfl #[.agg #[.int .i64 ((rd_T36 l0 x4_1).f1.f0), .slice A41001_2 ((rd_T36 l0 x4_1).f1.f1).length c41001_2]] rfl la_ ?_; (with_reducible refine (sawmillref10_Check.calls k1 ((rd_T36 l0 x4_1).f1.f0) _ _ ((rd_T36 l0 x4_1).f1.f1) t41002 _ ?side1 ?side2 A6.out).mono ?_); (case side1 => repeat (first | exact (Kd.C_below HR41001_2.out HB.out) | (with_reducible refine Kd.C_alloc ?_ _) | (with_reducible refine Kd.C_drewN ?_ _) | (with_reducible refine Kd.C_drew ?_))); (case side2 => exact HC41001_2.out); rintro e w11 ⟨rfl, hb⟩; refine ⟨_, rfl, ?_⟩; have n0_ := Aside0.mk (bs_ hb); clear HB; have HB := n0_; clear n0_; (try clear hb); (try clear hb2); (try clear hk); (try clear hi); have p41003 : 0 ≤ (x4_1 : Int) := of_decide_eq_true (by first | (with_reducible assumption) | assumption); have q41003 : x4_1 < (l0.length : Int) := of_decide_eq_true (by first | (with_reducible assumption) | assumption); obtain ⟨ad41003, A41003_2, c41003_2, e41003, hx41003_0, hx41003_1, hx41003_2, hl41003_2, hi41003_2⟩ := at_T36 HR0.out x4_1 p41003 q41003; obtain rfl : ad41001 = ad41003 := (by injection e41003); replace hx41003_0 := (HB.out.cell (World.block_lt_of_cell? w _ hx41003_0)).trans hx41003_0; replace hx41003_1 := (HB.out.cell (World.block_lt_of_cell? w _ hx41003_1)).trans hx41003_1; replace hx41003_2 := (HB.out.cell (World.block_lt_of_cell? w _ hx41003_2)).trans hx41003_2; have HR41003_2 := Aside0.mk hi41003_2; have HC41003_2 := Aside0.mk hl41003_2; clear hi41003_2 hl41003_2; replace p41003 := eq_true p41003; replace q41003 := eq_true q41003; have p41004 : 0 ≤ (x4_1 : Int) := of_decide_eq_true (by first | (with_reducible assumption) | assumption); have q41004 : x4_1 < (l0.length : Int) := of_decide_eq_true (by first | (with_reducible assumption) | assumption); obtain ⟨ad41004, A41004_2, c41004_2, e41004, hx41004_0, hx41004_1, hx41004_2, hl41004_2, hi41004_2⟩ := at_T36 HR0.out x4_1 p41004 q41004; obtain rfl : ad41001 = ad41004 := (by injection e41004); replace hx41004_0 := (HB.out.cell (World.block_lt_of_cell? w _ hx41004_0)).trans hx41004_0; replace hx41004_1 := (HB.out.cell (World.block_lt_of_cell? w _ hx41004_1)).trans hx41004_1; replace hx41004_2 := (HB.out.cell (World.block_lt_of_cell? w _ hx41004_2)).trans hx41004_2; have HR41004_2 := Aside0.mk hi41004_2; have HC41004_2 := Aside0.mk hl41004_2; clear hi41004_2 hl41004_2; replace p41004 := eq_true p41004; replace q41004 := eq_true q41004; have ea_ := Option.some.inj (hx41003_2.symm.trans hx41004_2); injection ea_ with ea_ en_ ec_; subst ea_; subst ec_; clear en_))
          go_ret
          exact ⟨er_, be_⟩
         ·rw [if_neg c10] at H
          have c10b0 : decide (((rd_T36 l0 x4_1).f0) < 1) = false := decide_eq_false c10
          clear c10
          by_cases c12 : ((rd_T36 l0 x4_1).f0) > (wrap64 (20000 - x3_1))
          ·rw [if_pos c12] at H
           have c12b0 : decide ((wrap64 (20000 - x3_1)) < ((rd_T36 l0 x4_1).f0)) = true := decide_eq_true c12
           clear c12
           obtain rfl := Option.some.inj H
           have p41001 : 0 ≤ (x4_1 : Int) := of_decide_eq_true (by first | (with_reducible assumption) | assumption)
           have q41001 : x4_1 < (l0.length : Int) := of_decide_eq_true (by first | (with_reducible assumption) | assumption)
           obtain ⟨ad41001, A41001_2, c41001_2, e41001, hx41001_0, hx41001_1, hx41001_2, hl41001_2, hi41001_2⟩ := at_T36 HR0.out x4_1 p41001 q41001
           cases e41001
           replace hx41001_0 := (HB.out.cell (World.block_lt_of_cell? w _ hx41001_0)).trans hx41001_0
           replace hx41001_1 := (HB.out.cell (World.block_lt_of_cell? w _ hx41001_1)).trans hx41001_1
           replace hx41001_2 := (HB.out.cell (World.block_lt_of_cell? w _ hx41001_2)).trans hx41001_2
           have HR41001_2 := Aside0.mk hi41001_2
           have HC41001_2 := Aside0.mk hl41001_2
           clear hi41001_2 hl41001_2
           replace p41001 := eq_true p41001
           replace q41001 := eq_true q41001
           go_wp2_with (first | ((with_reducible refine gate_callee (f := 37) rfl ?_); refine goesL_ (some 23) rfl rfl Try.func37 (by kernel_rfl) rfl #[.agg #[.int .i64 ((rd_T36 l0 x4_1).f1.f0), .slice A41001_2 ((rd_T36 l0 x4_1).f1.f1).length c41001_2]] rfl la_ ?_; (with_reducible refine (sawmillref10_Check.calls k1 ((rd_T36 l0 x4_1).f1.f0) _ _ ((rd_T36 l0 x4_1).f1.f1) t41002 _ ?side1 ?side2 A6.out).mono ?_); (case side1 => repeat (first | exact (Kd.C_below HR41001_2.out HB.out) | (with_reducible refine Kd.C_alloc ?_ _) | (with_reducible refine Kd.C_drewN ?_ _) | (with_reducible refine Kd.C_drew ?_))); (case side2 => exact HC41001_2.out); rintro e w13 ⟨rfl, hb⟩; refine ⟨_, rfl, ?_⟩; have n0_ := Aside0.mk (bs_ hb); clear HB; have HB := n0_; clear n0_; (try clear hb); (try clear hb2); (try clear hk); (try clear hi); have p41003 : 0 ≤ (x4_1 : Int) := of_decide_eq_true (by first | (with_reducible assumption) | assumption); have q41003 : x4_1 < (l0.length : Int) := of_decide_eq_true (by first | (with_reducible assumption) | assumption); obtain ⟨ad41003, A41003_2, c41003_2, e41003, hx41003_0, hx41003_1, hx41003_2, hl41003_2, hi41003_2⟩ := at_T36 HR0.out x4_1 p41003 q41003; obtain rfl : ad41001 = ad41003 := (by injection e41003); replace hx41003_0 := (HB.out.cell (World.block_lt_of_cell? w _ hx41003_0)).trans hx41003_0; replace hx41003_1 := (HB.out.cell (World.block_lt_of_cell? w _ hx41003_1)).trans hx41003_1; replace hx41003_2 := (HB.out.cell (World.block_lt_of_cell? w _ hx41003_2)).trans hx41003_2; have HR41003_2 := Aside0.mk hi41003_2; have HC41003_2 := Aside0.mk hl41003_2; clear hi41003_2 hl41003_2; replace p41003 := eq_true p41003; replace q41003 := eq_true q41003; have p41004 : 0 ≤ (x4_1 : Int) := of_decide_eq_true (by first | (with_reducible assumption) | assumption); have q41004 : x4_1 < (l0.length : Int) := of_decide_eq_true (by first | (with_reducible assumption) | assumption); obtain ⟨ad41004, A41004_2, c41004_2, e41004, hx41004_0, hx41004_1, hx41004_2, hl41004_2, hi41004_2⟩ := at_T36 HR0.out x4_1 p41004 q41004; obtain rfl : ad41001 = ad41004 := (by injection e41004); replace hx41004_0 := (HB.out.cell (World.block_lt_of_cell? w _ hx41004_0)).trans hx41004_0; replace hx41004_1 := (HB.out.cell (World.block_lt_of_cell? w _ hx41004_1)).trans hx41004_1; replace hx41004_2 := (HB.out.cell (World.block_lt_of_cell? w _ hx41004_2)).trans hx41004_2; have HR41004_2 := Aside0.mk hi41004_2; have HC41004_2 := Aside0.mk hl41004_2; clear hi41004_2 hl41004_2; replace p41004 := eq_true p41004; replace q41004 := eq_true q41004; have ea_ := Option.some.inj (hx41003_2.symm.trans hx41004_2); injection ea_ with ea_ en_ ec_; subst ea_; subst ec_; clear en_; have p41005 : 0 ≤ (x4_1 : Int) := of_decide_eq_true (by first | (with_reducible assumption) | assumption); have q41005 : x4_1 < (l0.length : Int) := of_decide_eq_true (by first | (with_reducible assumption) | assumption); obtain ⟨ad41005, A41005_2, c41005_2, e41005, hx41005_0, hx41005_1, hx41005_2, hl41005_2, hi41005_2⟩ := at_T36 HR0.out x4_1 p41005 q41005; obtain rfl : ad41001 = ad41005 := (by injection e41005); replace hx41005_0 := (HB.out.cell (World.block_lt_of_cell? w _ hx41005_0)).trans hx41005_0; replace hx41005_1 := (HB.out.cell (World.block_lt_of_cell? w _ hx41005_1)).trans hx41005_1; replace hx41005_2 := (HB.out.cell (World.block_lt_of_cell? w _ hx41005_2)).trans hx41005_2; have HR41005_2 := Aside0.mk hi41005_2; have HC41005_2 := Aside0.mk hl41005_2; clear hi41005_2 hl41005_2; replace p41005 := eq_true p41005; replace q41005 := eq_true q41005; have ea_ := Option.some.inj (hx41003_2.symm.trans hx41005_2); injection ea_ with ea_ en_ ec_; subst ea_; subst ec_; clear en_))
           go_ret
           exact ⟨er_, be_⟩
          ·rw [if_neg c12] at H
           have c12b0 : decide ((wrap64 (20000 - x3_1)) < ((rd_T36 l0 x4_1).f0)) = false := decide_eq_false c12
           clear c12
           have H' := Aside0.mk H
           clear H
           have p41001 : 0 ≤ (x4_1 : Int) := of_decide_eq_true (by first | (with_reducible assumption) | assumption)
           have q41001 : x4_1 < (l0.length : Int) := of_decide_eq_true (by first | (with_reducible assumption) | assumption)
           obtain ⟨ad41001, A41001_2, c41001_2, e41001, hx41001_0, hx41001_1, hx41001_2, hl41001_2, hi41001_2⟩ := at_T36 HR0.out x4_1 p41001 q41001
           cases e41001
           replace hx41001_0 := (HB.out.cell (World.block_lt_of_cell? w _ hx41001_0)).trans hx41001_0
           replace hx41001_1 := (HB.out.cell (World.block_lt_of_cell? w _ hx41001_1)).trans hx41001_1
           replace hx41001_2 := (HB.out.cell (World.block_lt_of_cell? w _ hx41001_2)).trans hx41001_2
           have HR41001_2 := Aside0.mk hi41001_2
           have HC41001_2 := Aside0.mk hl41001_2
           clear hi41001_2 hl41001_2
           replace p41001 := eq_true p41001
           replace q41001 := eq_true q41001
           go_wp2_with (first | ((with_reducible refine gate_callee (f := 37) rfl ?_); refine goesL_ (some 23) rfl rfl Try.func37 (by kernel_rfl) rfl #[.agg #[.int .i64 ((rd_T36 l0 x4_1).f1.f0), .slice A41001_2 ((rd_T36 l0 x4_1).f1.f1).length c41001_2]] rfl la_ ?_; (with_reducible refine (sawmillref10_Check.calls k1 ((rd_T36 l0 x4_1).f1.f0) _ _ ((rd_T36 l0 x4_1).f1.f1) t41002 _ ?side1 ?side2 A6.out).mono ?_); (case side1 => repeat (first | exact (Kd.C_below HR41001_2.out HB.out) | (with_reducible refine Kd.C_alloc ?_ _) | (with_reducible refine Kd.C_drewN ?_ _) | (with_reducible refine Kd.C_drew ?_))); (case side2 => exact HC41001_2.out); rintro e w14 ⟨rfl, hb⟩; refine ⟨_, rfl, ?_⟩; have n0_ := Aside0.mk (bs_ hb); clear HB; have HB := n0_; clear n0_; (try clear hb); (try clear hb2); (try clear hk); (try clear hi); have p41003 : 0 ≤ (x4_1 : Int) := of_decide_eq_true (by first | (with_reducible assumption) | assumption); have q41003 : x4_1 < (l0.length : Int) := of_decide_eq_true (by first | (with_reducible assumption) | assumption); obtain ⟨ad41003, A41003_2, c41003_2, e41003, hx41003_0, hx41003_1, hx41003_2, hl41003_2, hi41003_2⟩ := at_T36 HR0.out x4_1 p41003 q41003; obtain rfl : ad41001 = ad41003 := (by injection e41003); replace hx41003_0 := (HB.out.cell (World.block_lt_of_cell? w _ hx41003_0)).trans hx41003_0; replace hx41003_1 := (HB.out.cell (World.block_lt_of_cell? w _ hx41003_1)).trans hx41003_1; replace hx41003_2 := (HB.out.cell (World.block_lt_of_cell? w _ hx41003_2)).trans hx41003_2; have HR41003_2 := Aside0.mk hi41003_2; have HC41003_2 := Aside0.mk hl41003_2; clear hi41003_2 hl41003_2; replace p41003 := eq_true p41003; replace q41003 := eq_true q41003; have p41004 : 0 ≤ (x4_1 : Int) := of_decide_eq_true (by first | (with_reducible assumption) | assumption); have q41004 : x4_1 < (l0.length : Int) := of_decide_eq_true (by first | (with_reducible assumption) | assumption); obtain ⟨ad41004, A41004_2, c41004_2, e41004, hx41004_0, hx41004_1, hx41004_2, hl41004_2, hi41004_2⟩ := at_T36 HR0.out x4_1 p41004 q41004; obtain rfl : ad41001 = ad41004 := (by injection e41004); replace hx41004_0 := (HB.out.cell (World.block_lt_of_cell? w _ hx41004_0)).trans hx41004_0; replace hx41004_1 := (HB.out.cell (World.block_lt_of_cell? w _ hx41004_1)).trans hx41004_1; replace hx41004_2 := (HB.out.cell (World.block_lt_of_cell? w _ hx41004_2)).trans hx41004_2; have HR41004_2 := Aside0.mk hi41004_2; have HC41004_2 := Aside0.mk hl41004_2; clear hi41004_2 hl41004_2; replace p41004 := eq_true p41004; replace q41004 := eq_true q41004; have ea_ := Option.some.inj (hx41003_2.symm.trans hx41004_2); injection ea_ with ea_ en_ ec_; subst ea_; subst ec_; clear en_; have p41005 : 0 ≤ (x4_1 : Int) := of_decide_eq_true (by first | (with_reducible assumption) | assumption); have q41005 : x4_1 < (l0.length : Int) := of_decide_eq_true (by first | (with_reducible assumption) | assumption); obtain ⟨ad41005, A41005_2, c41005_2, e41005, hx41005_0, hx41005_1, hx41005_2, hl41005_2, hi41005_2⟩ := at_T36 HR0.out x4_1 p41005 q41005; obtain rfl : ad41001 = ad41005 := (by injection e41005); replace hx41005_0 := (HB.out.cell (World.block_lt_of_cell? w _ hx41005_0)).trans hx41005_0; replace hx41005_1 := (HB.out.cell (World.block_lt_of_cell? w _ hx41005_1)).trans hx41005_1; replace hx41005_2 := (HB.out.cell (World.block_lt_of_cell? w _ hx41005_2)).trans hx41005_2; have HR41005_2 := Aside0.mk hi41005_2; have HC41005_2 := Aside0.mk hl41005_2; clear hi41005_2 hl41005_2; replace p41005 := eq_true p41005; replace q41005 := eq_true q41005; have ea_ := Option.some.inj (hx41003_2.symm.trans hx41005_2); injection ea_ with ea_ en_ ec_; subst ea_; subst ec_; clear en_; have p41006 : 0 ≤ (x4_1 : Int) := of_decide_eq_true (by first | (with_reducible assumption) | assumption); have q41006 : x4_1 < (l0.length : Int) := of_decide_eq_true (by first | (with_reducible assumption) | assumption); obtain ⟨ad41006, A41006_2, c41006_2, e41006, hx41006_0, hx41006_1, hx41006_2, hl41006_2, hi41006_2⟩ := at_T36 HR0.out x4_1 p41006 q41006; obtain rfl : ad41001 = ad41006 := (by injection e41006); replace hx41006_0 := (HB.out.cell (World.block_lt_of_cell? w _ hx41006_0)).trans hx41006_0; replace hx41006_1 := (HB.out.cell (World.block_lt_of_cell? w _ hx41006_1)).trans hx41006_1; replace hx41006_2 := (HB.out.cell (World.block_lt_of_cell? w _ hx41006_2)).trans hx41006_2; have HR41006_2 := Aside0.mk hi41006_2; have HC41006_2 := Aside0.mk hl41006_2; clear hi41006_2 hl41006_2; replace p41006 := eq_true p41006; replace q41006 := eq_true q41006; have ea_ := Option.some.inj (hx41003_2.symm.trans hx41006_2); injection ea_ with ea_ en_ ec_; subst ea_; subst ec_; clear en_))
           go_roundg k1
           case measure => have := HK1.out; omega
           case rel => exact ⟨(wrap64 (x3_1 + ((rd_T36 l0 x4_1).f0))), (wrap64 (x4_1 + 1)), (by first | rfl | (simp; done) | (simp [*]; done)), (by first | rfl | (simp; done) | (simp [*]; done)), H', ⟨by have := HK1.out; omega⟩, ⟨be_⟩⟩
       ·rw [if_neg c7] at H
        have c7b0 : (t41002 == 0) = false := beq_eq_false_iff_ne.mpr c7
        have c7b1 : (t41002 != 0) = true := bne_iff_ne.mpr c7
        obtain rfl := Option.some.inj H
        have p41001 : 0 ≤ (x4_1 : Int) := of_decide_eq_true (by first | (with_reducible assumption) | assumption)
        have q41001 : x4_1 < (l0.length : Int) := of_decide_eq_true (by first | (with_reducible assumption) | assumption)
        obtain ⟨ad41001, A41001_2, c41001_2, e41001, hx41001_0, hx41001_1, hx41001_2, hl41001_2, hi41001_2⟩ := at_T36 HR0.out x4_1 p41001 q41001
        cases e41001
        replace hx41001_0 := (HB.out.cell (World.block_lt_of_cell? w _ hx41001_0)).trans hx41001_0
        replace hx41001_1 := (HB.out.cell (World.block_lt_of_cell? w _ hx41001_1)).trans hx41001_1
        replace hx41001_2 := (HB.out.cell (World.block_lt_of_cell? w _ hx41001_2)).trans hx41001_2
        have HR41001_2 := Aside0.mk hi41001_2
        have HC41001_2 := Aside0.mk hl41001_2
        clear hi41001_2 hl41001_2
        replace p41001 := eq_true p41001
        replace q41001 := eq_true q41001
        go_wp2_with (first | ((with_reducible refine gate_callee (f := 37) rfl ?_); refine goesL_ (some 23) rfl rfl Try.func37 (by kernel_rfl) rfl #[.agg #[.int .i64 ((rd_T36 l0 x4_1).f1.f0), .slice A41001_2 ((rd_T36 l0 x4_1).f1.f1).length c41001_2]] rfl la_ ?_; (with_reducible refine (sawmillref10_Check.calls k1 ((rd_T36 l0 x4_1).f1.f0) _ _ ((rd_T36 l0 x4_1).f1.f1) t41002 _ ?side1 ?side2 A6.out).mono ?_); (case side1 => repeat (first | exact (Kd.C_below HR41001_2.out HB.out) | (with_reducible refine Kd.C_alloc ?_ _) | (with_reducible refine Kd.C_drewN ?_ _) | (with_reducible refine Kd.C_drew ?_))); (case side2 => exact HC41001_2.out); rintro e w15 ⟨rfl, hb⟩; refine ⟨_, rfl, ?_⟩; have n0_ := Aside0.mk (bs_ hb); clear HB; have HB := n0_; clear n0_; (try clear hb); (try clear hb2); (try clear hk); (try clear hi)))
        go_ret
        exact ⟨er_, be_⟩
      ·rw [if_neg c5] at H
       exact absurd H (by simp)
     ·rw [if_neg c4] at H
      have c4b0 : decide (x4_1 < (l0.length : Int)) = false := decide_eq_false c4
      clear c4
      obtain rfl := Option.some.inj H
      go_wp2
      go_ret
      exact ⟨er_, be_⟩

end Go.Proofs.Ytdbjoopkliafeaa.P

end
section
namespace Go.Proofs.Ytdbjoopkliafeaa.P
open Go Go.RowKit Go.Proofs.YtdbjoopkliafeaaW.PrintWords Go.Proofs.YtdbjoopkliafeaaW.PrintLast Go.Proofs.YtdbjoopkliafeaaW.PrintMore
attribute [local go_sem] max2_int min2_int max_two min_two max_three min_three max_four min_four max_five min_eight max_eight   -- for this text's walks alone
set_option linter.unusedVariables false
set_option linter.unusedSimpArgs false

def sawmillref14_Top.f (k : Nat) (l0 : List (S36)) : Option (Int) := (sawmillref11_Check.f k l0).bind fun t20001 => (if t20001 = 0 then (if 0 ≤ (wrap64 ((l0.length : Int) - 1)) then (if (wrap64 ((l0.length : Int) - 1)) < (l0.length : Int) then ((sawmillref14_Diameter.f k ((rd_T36 l0 (wrap64 ((l0.length : Int) - 1))).f1.f0) ((rd_T36 l0 (wrap64 ((l0.length : Int) - 1))).f1.f1)).bind fun t20003 => (some t20003)) else (none)) else (none)) else (some 0))
theorem sawmillref14_Top.mono : ∀ a0 k, LeO (sawmillref14_Top.f k a0) (sawmillref14_Top.f (k + 1) a0) := by
 intro a0 k
 unfold sawmillref14_Top.f
 repeat' first
   | (with_reducible exact sawmillref11_Check.mono _ _)
   | (with_reducible exact sawmillref14_Diameter.mono _ _ _)
   | (with_reducible exact LeO.refl _)
   | (with_reducible exact LeO.none _)
   | (with_reducible refine LeO.ite ?_ ?_)
   | (with_reducible refine LeO.bind ?_ (fun _ => ?_))
   | exact sawmillref11_Check.mono _ _
   | exact sawmillref14_Diameter.mono _ _ _
   | exact LeO.none _
   | refine LeO.ite ?_ ?_
   | refine LeO.bind ?_ (fun _ => ?_)
set_option maxHeartbeats 8000000 in
set_option maxRecDepth 100000 in
theorem sawmillref14_Top.calls (k : Nat) (A0 : Option Addr) (c0 : Nat) (l0 : List (S36)) (r : Int) (w : World) (hr0 : Kd.C k36 w A0 l0.length l0) (hc0 : l0.length ≤ c0) (h : sawmillref14_Top.f k l0 = some r) :
  Calls Try.prog 20 #[.slice A0 l0.length c0] w fun e w' => e = .returned (.int .i64 r) ∧ Below w.heap.size w w' := by
 have hu24 := Try.underlying24
 have HR0 := Aside0.mk hr0
 have HC0 := Aside0.mk hc0
 clear hr0 hc0
 have HB := Aside0.mk (Below.refl w.heap.size w)
 have H : ((sawmillref11_Check.f k l0).bind fun t20001 => (if t20001 = 0 then (if 0 ≤ (wrap64 ((l0.length : Int) - 1)) then (if (wrap64 ((l0.length : Int) - 1)) < (l0.length : Int) then ((sawmillref14_Diameter.f k ((rd_T36 l0 (wrap64 ((l0.length : Int) - 1))).f1.f0) ((rd_T36 l0 (wrap64 ((l0.length : Int) - 1))).f1.f1)).bind fun t20003 => (some t20003)) else (none)) else (none)) else (some 0))) = some r := h
 clear h
 replace H := Option.bind_eq_some_iff.mp H
 obtain ⟨t20001, A20, H⟩ := H
 replace H : (if t20001 = 0 then (if 0 ≤ (wrap64 ((l0.length : Int) - 1)) then (if (wrap64 ((l0.length : Int) - 1)) < (l0.length : Int) then ((sawmillref14_Diameter.f k ((rd_T36 l0 (wrap64 ((l0.length : Int) - 1))).f1.f0) ((rd_T36 l0 (wrap64 ((l0.length : Int) - 1))).f1.f1)).bind fun t20003 => (some t20003)) else (none)) else (none)) else (some 0)) = some r := H
 have A2 := Aside0.mk A20
 clear A20
 by_cases c3 : t20001 = 0
 ·rw [if_pos c3] at H
  have c3b0 : (t20001 == 0) = true := beq_iff_eq.mpr c3
  have c3b1 : (t20001 != 0) = false := bne_eq_false_iff_eq.mpr c3
  clear c3
  obtain ⟨ji4, hji4⟩ : ∃ j_ : Int, (wrap64 ((l0.length : Int) - 1)) = j_ := ⟨_, rfl⟩
  replace H : (if 0 ≤ (ji4) then (if (ji4) < (l0.length : Int) then ((sawmillref14_Diameter.f k ((rd_T36 l0 (ji4)).f1.f0) ((rd_T36 l0 (ji4)).f1.f1)).bind fun t20003 => (some t20003)) else (none)) else (none)) = some r := by first | (rw [hji4] at H; exact H) | (simp only [hji4] at H ⊢; exact H)
  (try rw [hji4] at A2)
  have hji4w : (IntKind.i64.wrap ((l0.length : Int) - 1)) = ji4 := (i64_w _).trans hji4
  by_cases c5 : 0 ≤ (ji4)
  ·rw [if_pos c5] at H
   have c5b0 : decide (0 ≤ (ji4)) = true := decide_eq_true c5
   clear c5
   by_cases c6 : (ji4) < (l0.length : Int)
   ·rw [if_pos c6] at H
    have c6b0 : decide ((ji4) < (l0.length : Int)) = true := decide_eq_true c6
    clear c6
    replace H := Option.bind_eq_some_iff.mp H
    obtain ⟨t20003, A70, H⟩ := H
    replace H : (some t20003) = some r := H
    have A7 := Aside0.mk A70
    clear A70
    obtain rfl := Option.some.inj H
    go_enter Try.func20, Try.ntmps20
    go_wp2_with (first | ((with_reducible refine gate_callee (f := 41) rfl ?_); refine goesL_ (some 4) rfl rfl Try.func41 (by kernel_rfl) rfl #[.slice A0 l0.length c0] rfl la_ ?_; (with_reducible refine (sawmillref11_Check.calls k _ _ l0 t20001 _ ?side1 ?side2 A2.out).mono ?_); (case side1 => repeat (first | exact HR0.out | (with_reducible refine Kd.C_alloc ?_ _) | (with_reducible refine Kd.C_drewN ?_ _) | (with_reducible refine Kd.C_drew ?_))); (case side2 => exact HC0.out); rintro e w8 ⟨rfl, hb⟩; refine ⟨_, rfl, ?_⟩; have n0_ := Aside0.mk (bs_ hb); clear HB; have HB := n0_; clear n0_; (try clear hb); (try clear hb2); (try clear hk); (try clear hi); have p20002 : 0 ≤ ((ji4) : Int) := of_decide_eq_true (by first | (with_reducible assumption) | assumption); have q20002 : (ji4) < (l0.length : Int) := of_decide_eq_true (by first | (with_reducible assumption) | assumption); obtain ⟨ad20002, A20002_2, c20002_2, e20002, hx20002_0, hx20002_1, hx20002_2, hl20002_2, hi20002_2⟩ := at_T36 HR0.out (ji4) p20002 q20002; cases e20002; replace hx20002_0 := (HB.out.cell (World.block_lt_of_cell? w _ hx20002_0)).trans hx20002_0; replace hx20002_1 := (HB.out.cell (World.block_lt_of_cell? w _ hx20002_1)).trans hx20002_1; replace hx20002_2 := (HB.out.cell (World.block_lt_of_cell? w _ hx20002_2)).trans hx20002_2; have HR20002_2 := Aside0.mk hi20002_2; have HC20002_2 := Aside0.mk hl20002_2; clear hi20002_2 hl20002_2; replace p20002 := eq_true p20002; replace q20002 := eq_true q20002) | ((with_reducible refine gate_callee (f := 13) rfl ?_); refine goesL_ (some 13) rfl rfl Try.func13 (by kernel_rfl) rfl #[.agg #[.int .i64 ((rd_T36 l0 (ji4)).f1.f0), .slice A20002_2 ((rd_T36 l0 (ji4)).f1.f1).length c20002_2]] rfl (by (try simp only [List.map_toArray, List.map_cons, List.map_nil]); first | done | (simp only [hji4]; rfl) | rfl | (simp only [List.length_drop, List.length_take]; rfl)) ?_; (with_reducible refine (sawmillref14_Diameter.calls k ((rd_T36 l0 (ji4)).f1.f0) _ _ ((rd_T36 l0 (ji4)).f1.f1) t20003 _ ?side1 ?side2 A7.out).mono ?_); (case side1 => repeat (first | exact (Kd.C_below HR20002_2.out HB.out) | (with_reducible refine Kd.C_alloc ?_ _) | (with_reducible refine Kd.C_drewN ?_ _) | (with_reducible refine Kd.C_drew ?_))); (case side2 => exact HC20002_2.out); rintro e w9 ⟨rfl, hb⟩; refine ⟨_, rfl, ?_⟩; have n0_ := Aside0.mk (bs_ hb); clear HB; have HB := n0_; clear n0_; (try clear hb); (try clear hb2); (try clear hk); (try clear hi)))
    go_ret
    exact ⟨by first | rfl | (simp [errW_none, errW_some] <;> rfl) | (simp only [← hji4]; first | rfl | (simp [errW_none, errW_some] <;> rfl)) | (simp [*, errW_none, errW_some] <;> rfl), be_⟩
   ·rw [if_neg c6] at H
    exact absurd H (by simp)
  ·rw [if_neg c5] at H
   exact absurd H (by simp)
 ·rw [if_neg c3] at H
  have c3b0 : (t20001 == 0) = false := beq_eq_false_iff_ne.mpr c3
  have c3b1 : (t20001 != 0) = true := bne_iff_ne.mpr c3
  obtain rfl := Option.some.inj H
  go_enter Try.func20, Try.ntmps20
  go_wp2_with (first | ((with_reducible refine gate_callee (f := 41) rfl ?_); refine goesL_ (some 4) rfl rfl Try.func41 (by kernel_rfl) rfl #[.slice A0 l0.length c0] rfl la_ ?_; (with_reducible refine (sawmillref11_Check.calls k _ _ l0 t20001 _ ?side1 ?side2 A2.out).mono ?_); (case side1 => repeat (first | exact HR0.out | (with_reducible refine Kd.C_alloc ?_ _) | (with_reducible refine Kd.C_drewN ?_ _) | (with_reducible refine Kd.C_drew ?_))); (case side2 => exact HC0.out); rintro e w10 ⟨rfl, hb⟩; refine ⟨_, rfl, ?_⟩; have n0_ := Aside0.mk (bs_ hb); clear HB; have HB := n0_; clear n0_; (try clear hb); (try clear hb2); (try clear hk); (try clear hi)))
  go_ret
  exact ⟨er_, be_⟩

end Go.Proofs.Ytdbjoopkliafeaa.P

end
section
namespace Go.Proofs.Ytdbjoopkliafeaa.P
open Go Go.RowKit Go.Proofs.YtdbjoopkliafeaaW.PrintWords Go.Proofs.YtdbjoopkliafeaaW.PrintLast Go.Proofs.YtdbjoopkliafeaaW.PrintMore
attribute [local go_sem] max2_int min2_int max_two min_two max_three min_three max_four min_four max_five min_eight max_eight   -- for this text's walks alone
set_option linter.unusedVariables false
set_option linter.unusedSimpArgs false

def sawmillref14_floor.f (a0 : Int) (a1 : Int) : Option (Int) := if a1 = 0 then (none) else (if (wrap64 ((wrap64 (Int.tdiv a0 a1)) * a1)) > a0 then (some (wrap64 ((wrap64 (Int.tdiv a0 a1)) - 1))) else (some (wrap64 (Int.tdiv a0 a1))))
set_option maxHeartbeats 8000000 in
set_option maxRecDepth 100000 in
theorem sawmillref14_floor.calls (a0 : Int) (a1 : Int) (r : Int) (w : World) (h : sawmillref14_floor.f a0 a1 = some r) :
  Calls Try.prog 42 #[.int .i64 a0, .int .i64 a1] w fun e w' => e = .returned (.int .i64 r) ∧ Drawn0 w w' := by
 have H : (if a1 = 0 then (none) else (if (wrap64 ((wrap64 (Int.tdiv a0 a1)) * a1)) > a0 then (some (wrap64 ((wrap64 (Int.tdiv a0 a1)) - 1))) else (some (wrap64 (Int.tdiv a0 a1))))) = some r := h
 clear h
 by_cases c3 : a1 = 0
 ·rw [if_pos c3] at H
  exact absurd H (by simp)
 ·rw [if_neg c3] at H
  have c3b0 : (a1 == 0) = false := beq_eq_false_iff_ne.mpr c3
  have c3b1 : (a1 != 0) = true := bne_iff_ne.mpr c3
  by_cases c4 : (wrap64 ((wrap64 (Int.tdiv a0 a1)) * a1)) > a0
  ·rw [if_pos c4] at H
   have c4b0 : decide (a0 < (wrap64 ((wrap64 (Int.tdiv a0 a1)) * a1))) = true := decide_eq_true c4
   clear c4
   obtain rfl := Option.some.inj H
   go_enter Try.func42, Try.ntmps42
   go_wp2
   go_ret
   exact ⟨by first | rfl | (simp; done) | (simp [*]; done), by repeat (first | exact Drawn0.refl _ | apply Drawn0.step)⟩
  ·rw [if_neg c4] at H
   have c4b0 : decide (a0 < (wrap64 ((wrap64 (Int.tdiv a0 a1)) * a1))) = false := decide_eq_false c4
   clear c4
   obtain rfl := Option.some.inj H
   go_enter Try.func42, Try.ntmps42
   go_wp2
   go_ret
   exact ⟨by first | rfl | (simp; done) | (simp [*]; done), by repeat (first | exact Drawn0.refl _ | apply Drawn0.step)⟩

end Go.Proofs.Ytdbjoopkliafeaa.P

end
section
namespace Go.Proofs.Ytdbjoopkliafeaa.P
open Go Go.RowKit Go.Proofs.YtdbjoopkliafeaaW.PrintWords Go.Proofs.YtdbjoopkliafeaaW.PrintLast Go.Proofs.YtdbjoopkliafeaaW.PrintMore
attribute [local go_sem] max2_int min2_int max_two min_two max_three min_three max_four min_four max_five min_eight max_eight   -- for this text's walks alone
set_option linter.unusedVariables false
set_option linter.unusedSimpArgs false

def sawmillref11_Length.l0 : Nat → List (S36) → Int → Int → Option (Int)
 | 0, _, _, _ => none
 | k + 1, x0, x3, x4 => if x4 < (x0.length : Int) then (if 0 ≤ x4 then (sawmillref11_Length.l0 k x0 (wrap64 (x3 + ((rd_T36 x0 x4).f0))) (wrap64 (x4 + 1))) else (none)) else (some x3)
def sawmillref11_Length.f (k : Nat) (l0 : List (S36)) : Option (Int) := (sawmillref11_Check.f k l0).bind fun t43001 => (if t43001 = 0 then (sawmillref11_Length.l0 k l0 0 0) else (some 0))
theorem sawmillref11_Length.mono_l : ∀ k, (∀ y0 y1 y2, LeO (sawmillref11_Length.l0 k y0 y1 y2) (sawmillref11_Length.l0 (k + 1) y0 y1 y2))
 | 0 => fun _ _ _ r h => by simp [sawmillref11_Length.l0] at h
 | k + 1 => by
  have ih0 := sawmillref11_Length.mono_l k
  ·intro y0 y1 y2
   unfold sawmillref11_Length.l0
   repeat' first
   | (with_reducible exact ih0 _ _ _)
   | (with_reducible exact sawmillref11_Check.mono _ _)
   | (with_reducible exact LeO.refl _)
   | (with_reducible exact LeO.none _)
   | (with_reducible refine LeO.ite ?_ ?_)
   | (with_reducible refine LeO.bind ?_ (fun _ => ?_))
   | exact ih0 _ _ _
   | exact sawmillref11_Check.mono _ _
   | exact LeO.none _
   | refine LeO.ite ?_ ?_
   | refine LeO.bind ?_ (fun _ => ?_)
theorem sawmillref11_Length.mono : ∀ a0 k, LeO (sawmillref11_Length.f k a0) (sawmillref11_Length.f (k + 1) a0) := by
 intro a0 k
 have ih0 := sawmillref11_Length.mono_l k
 unfold sawmillref11_Length.f
 repeat' first
   | (with_reducible exact ih0 _ _ _)
   | (with_reducible exact sawmillref11_Check.mono _ _)
   | (with_reducible exact LeO.refl _)
   | (with_reducible exact LeO.none _)
   | (with_reducible refine LeO.ite ?_ ?_)
   | (with_reducible refine LeO.bind ?_ (fun _ => ?_))
   | exact ih0 _ _ _
   | exact sawmillref11_Check.mono _ _
   | exact LeO.none _
   | refine LeO.ite ?_ ?_
   | refine LeO.bind ?_ (fun _ => ?_)
set_option maxHeartbeats 8000000 in
set_option maxRecDepth 100000 in
theorem sawmillref11_Length.calls (k : Nat) (A0 : Option Addr) (c0 : Nat) (l0 : List (S36)) (r : Int) (w : World) (hr0 : Kd.C k36 w A0 l0.length l0) (hc0 : l0.length ≤ c0) (h : sawmillref11_Length.f k l0 = some r) :
  Calls Try.prog 43 #[.slice A0 l0.length c0] w fun e w' => e = .returned (.int .i64 r) ∧ Below w.heap.size w w' := by
 have HR0 := Aside0.mk hr0
 have HC0 := Aside0.mk hc0
 clear hr0 hc0
 have HB := Aside0.mk (Below.refl w.heap.size w)
 have H : ((sawmillref11_Check.f k l0).bind fun t43001 => (if t43001 = 0 then (sawmillref11_Length.l0 k l0 0 0) else (some 0))) = some r := h
 clear h
 replace H := Option.bind_eq_some_iff.mp H
 obtain ⟨t43001, A20, H⟩ := H
 replace H : (if t43001 = 0 then (sawmillref11_Length.l0 k l0 0 0) else (some 0)) = some r := H
 have A2 := Aside0.mk A20
 clear A20
 by_cases c3 : t43001 = 0
 ·rw [if_pos c3] at H
  have c3b0 : (t43001 == 0) = true := beq_iff_eq.mpr c3
  have c3b1 : (t43001 != 0) = false := bne_eq_false_iff_eq.mpr c3
  clear c3
  have H' := Aside0.mk H
  clear H
  go_enter Try.func43, Try.ntmps43
  go_wp2_with (first | ((with_reducible refine gate_callee (f := 41) rfl ?_); refine goesL_ (some 6) rfl rfl Try.func41 (by kernel_rfl) rfl #[.slice A0 l0.length c0] rfl la_ ?_; (with_reducible refine (sawmillref11_Check.calls k _ _ l0 t43001 _ ?side1 ?side2 A2.out).mono ?_); (case side1 => repeat (first | exact HR0.out | (with_reducible refine Kd.C_alloc ?_ _) | (with_reducible refine Kd.C_drewN ?_ _) | (with_reducible refine Kd.C_drew ?_))); (case side2 => exact HC0.out); rintro e w4 ⟨rfl, hb⟩; refine ⟨_, rfl, ?_⟩; have n0_ := Aside0.mk (bs_ hb); clear HB; have HB := n0_; clear n0_; (try clear hb); (try clear hb2); (try clear hk); (try clear hi)))
  go_loopg [3, 4] k (fun kq v3 v4 w' => ∃ (x3_1 : Int) (x4_1 : Int), v3 = .int .i64 x3_1 ∧ v4 = .int .i64 x4_1 ∧ Aside0 (sawmillref11_Length.l0 kq l0 x3_1 x4_1 = some r) ∧ Aside0 (kq ≤ k) ∧ Aside0 (Below w.heap.size w w'))
  case atStart => exact ⟨(0), (0), (by first | rfl | (simp; done) | (simp [*]; done)), (by first | rfl | (simp; done) | (simp [*]; done)), H', ⟨Nat.le_refl _⟩, ⟨be_⟩⟩
  case round =>
   clear H'
   try clear p2
   try clear c3
   try clear c3b0
   try clear c3b1
   try clear c4
   obtain ⟨x3_1, x4_1, rfl, rfl, HA, HK1, HB⟩ := hrel
   cases gk with
   | zero => exact absurd HA.out (by simp [sawmillref11_Length.l0])
   | succ k1 =>
    have H := HA.out
    clear HA
    simp only [sawmillref11_Length.l0] at H
    by_cases c5 : x4_1 < (l0.length : Int)
    ·rw [if_pos c5] at H
     have c5b0 : decide (x4_1 < (l0.length : Int)) = true := decide_eq_true c5
     clear c5
     by_cases c6 : 0 ≤ x4_1
     ·rw [if_pos c6] at H
      have c6b0 : decide (0 ≤ x4_1) = true := decide_eq_true c6
      clear c6
      have H' := Aside0.mk H
      clear H
      have p43002 : 0 ≤ (x4_1 : Int) := of_decide_eq_true (by first | (with_reducible assumption) | assumption)
      have q43002 : x4_1 < (l0.length : Int) := of_decide_eq_true (by first | (with_reducible assumption) | assumption)
      obtain ⟨ad43002, A43002_2, c43002_2, e43002, hx43002_0, hx43002_1, hx43002_2, hl43002_2, hi43002_2⟩ := at_T36 HR0.out x4_1 p43002 q43002
      cases e43002
      replace hx43002_0 := (HB.out.cell (World.block_lt_of_cell? w _ hx43002_0)).trans hx43002_0
      replace hx43002_1 := (HB.out.cell (World.block_lt_of_cell? w _ hx43002_1)).trans hx43002_1
      replace hx43002_2 := (HB.out.cell (World.block_lt_of_cell? w _ hx43002_2)).trans hx43002_2
      have HR43002_2 := Aside0.mk hi43002_2
      have HC43002_2 := Aside0.mk hl43002_2
      clear hi43002_2 hl43002_2
      replace p43002 := eq_true p43002
      replace q43002 := eq_true q43002
      go_wp2
      go_roundg k1
      case measure => have := HK1.out; omega
      case rel => exact ⟨(wrap64 (x3_1 + ((rd_T36 l0 x4_1).f0))), (wrap64 (x4_1 + 1)), (by first | rfl | (simp; done) | (simp [*]; done)), (by first | rfl | (simp; done) | (simp [*]; done)), H', ⟨by have := HK1.out; omega⟩, ⟨be_⟩⟩
     ·rw [if_neg c6] at H
      exact absurd H (by simp)
    ·rw [if_neg c5] at H
     have c5b0 : decide (x4_1 < (l0.length : Int)) = false := decide_eq_false c5
     clear c5
     obtain rfl := Option.some.inj H
     go_wp2
     go_ret
     exact ⟨er_, be_⟩
 ·rw [if_neg c3] at H
  have c3b0 : (t43001 == 0) = false := beq_eq_false_iff_ne.mpr c3
  have c3b1 : (t43001 != 0) = true := bne_iff_ne.mpr c3
  obtain rfl := Option.some.inj H
  go_enter Try.func43, Try.ntmps43
  go_wp2_with (first | ((with_reducible refine gate_callee (f := 41) rfl ?_); refine goesL_ (some 6) rfl rfl Try.func41 (by kernel_rfl) rfl #[.slice A0 l0.length c0] rfl la_ ?_; (with_reducible refine (sawmillref11_Check.calls k _ _ l0 t43001 _ ?side1 ?side2 A2.out).mono ?_); (case side1 => repeat (first | exact HR0.out | (with_reducible refine Kd.C_alloc ?_ _) | (with_reducible refine Kd.C_drewN ?_ _) | (with_reducible refine Kd.C_drew ?_))); (case side2 => exact HC0.out); rintro e w7 ⟨rfl, hb⟩; refine ⟨_, rfl, ?_⟩; have n0_ := Aside0.mk (bs_ hb); clear HB; have HB := n0_; clear n0_; (try clear hb); (try clear hb2); (try clear hk); (try clear hi)))
  go_ret
  exact ⟨er_, be_⟩

end Go.Proofs.Ytdbjoopkliafeaa.P

end
section
namespace Go.Proofs.Ytdbjoopkliafeaa.P
open Go Go.RowKit Go.Proofs.YtdbjoopkliafeaaW.PrintWords Go.Proofs.YtdbjoopkliafeaaW.PrintLast Go.Proofs.YtdbjoopkliafeaaW.PrintMore
attribute [local go_sem] max2_int min2_int max_two min_two max_three min_three max_four min_four max_five min_eight max_eight   -- for this text's walks alone
set_option linter.unusedVariables false
set_option linter.unusedSimpArgs false

def sawmillref14_Taper.f (k : Nat) (l0 : List (S36)) : Option (Int) := (sawmillref11_Check.f k l0).bind fun t22001 => (if t22001 = 0 then (if 0 < (l0.length : Int) then ((sawmillref14_Diameter.f k ((rd_T36 l0 0).f1.f0) ((rd_T36 l0 0).f1.f1)).bind fun t22003 => ((sawmillref14_Top.f k l0).bind fun t22004 => ((sawmillref11_Length.f k l0).bind fun t22005 => ((sawmillref14_floor.f (wrap64 ((wrap64 (t22003 - t22004)) * 10000)) t22005).bind fun t22006 => (some (mx 0 t22006)))))) else (none)) else (some 0))
theorem sawmillref14_Taper.mono : ∀ a0 k, LeO (sawmillref14_Taper.f k a0) (sawmillref14_Taper.f (k + 1) a0) := by
 intro a0 k
 unfold sawmillref14_Taper.f
 repeat' first
   | (with_reducible exact sawmillref11_Check.mono _ _)
   | (with_reducible exact sawmillref11_Length.mono _ _)
   | (with_reducible exact sawmillref14_Diameter.mono _ _ _)
   | (with_reducible exact sawmillref14_Top.mono _ _)
   | (with_reducible exact LeO.refl _)
   | (with_reducible exact LeO.none _)
   | (with_reducible refine LeO.ite ?_ ?_)
   | (with_reducible refine LeO.bind ?_ (fun _ => ?_))
   | exact sawmillref11_Check.mono _ _
   | exact sawmillref11_Length.mono _ _
   | exact sawmillref14_Diameter.mono _ _ _
   | exact sawmillref14_Top.mono _ _
   | exact LeO.none _
   | refine LeO.ite ?_ ?_
   | refine LeO.bind ?_ (fun _ => ?_)
set_option maxHeartbeats 8000000 in
set_option maxRecDepth 100000 in
theorem sawmillref14_Taper.calls (k : Nat) (A0 : Option Addr) (c0 : Nat) (l0 : List (S36)) (r : Int) (w : World) (hr0 : Kd.C k36 w A0 l0.length l0) (hc0 : l0.length ≤ c0) (h : sawmillref14_Taper.f k l0 = some r) :
  Calls Try.prog 22 #[.slice A0 l0.length c0] w fun e w' => e = .returned (.int .i64 r) ∧ Below w.heap.size w w' := by
 have hu24 := Try.underlying24
 have HR0 := Aside0.mk hr0
 have HC0 := Aside0.mk hc0
 clear hr0 hc0
 have HB := Aside0.mk (Below.refl w.heap.size w)
 have H : ((sawmillref11_Check.f k l0).bind fun t22001 => (if t22001 = 0 then (if 0 < (l0.length : Int) then ((sawmillref14_Diameter.f k ((rd_T36 l0 0).f1.f0) ((rd_T36 l0 0).f1.f1)).bind fun t22003 => ((sawmillref14_Top.f k l0).bind fun t22004 => ((sawmillref11_Length.f k l0).bind fun t22005 => ((sawmillref14_floor.f (wrap64 ((wrap64 (t22003 - t22004)) * 10000)) t22005).bind fun t22006 => (some (mx 0 t22006)))))) else (none)) else (some 0))) = some r := h
 clear h
 replace H := Option.bind_eq_some_iff.mp H
 obtain ⟨t22001, A20, H⟩ := H
 replace H : (if t22001 = 0 then (if 0 < (l0.length : Int) then ((sawmillref14_Diameter.f k ((rd_T36 l0 0).f1.f0) ((rd_T36 l0 0).f1.f1)).bind fun t22003 => ((sawmillref14_Top.f k l0).bind fun t22004 => ((sawmillref11_Length.f k l0).bind fun t22005 => ((sawmillref14_floor.f (wrap64 ((wrap64 (t22003 - t22004)) * 10000)) t22005).bind fun t22006 => (some (mx 0 t22006)))))) else (none)) else (some 0)) = some r := H
 have A2 := Aside0.mk A20
 clear A20
 by_cases c3 : t22001 = 0
 ·rw [if_pos c3] at H
  have c3b0 : (t22001 == 0) = true := beq_iff_eq.mpr c3
  have c3b1 : (t22001 != 0) = false := bne_eq_false_iff_eq.mpr c3
  clear c3
  by_cases c4 : 0 < (l0.length : Int)
  ·rw [if_pos c4] at H
   have c4b0 : decide (0 < (l0.length : Int)) = true := decide_eq_true c4
   have c4b1 : decide (0 < l0.length) = true := decide_eq_true (by omega)
   clear c4
   replace H := Option.bind_eq_some_iff.mp H
   obtain ⟨t22003, A50, H⟩ := H
   replace H : ((sawmillref14_Top.f k l0).bind fun t22004 => ((sawmillref11_Length.f k l0).bind fun t22005 => ((sawmillref14_floor.f (wrap64 ((wrap64 (t22003 - t22004)) * 10000)) t22005).bind fun t22006 => (some (mx 0 t22006))))) = some r := H
   have A5 := Aside0.mk A50
   clear A50
   replace H := Option.bind_eq_some_iff.mp H
   obtain ⟨t22004, A60, H⟩ := H
   replace H : ((sawmillref11_Length.f k l0).bind fun t22005 => ((sawmillref14_floor.f (wrap64 ((wrap64 (t22003 - t22004)) * 10000)) t22005).bind fun t22006 => (some (mx 0 t22006)))) = some r := H
   have A6 := Aside0.mk A60
   clear A60
   replace H := Option.bind_eq_some_iff.mp H
   obtain ⟨t22005, A70, H⟩ := H
   replace H : ((sawmillref14_floor.f (wrap64 ((wrap64 (t22003 - t22004)) * 10000)) t22005).bind fun t22006 => (some (mx 0 t22006))) = some r := H
   have A7 := Aside0.mk A70
   clear A70
   replace H := Option.bind_eq_some_iff.mp H
   obtain ⟨t22006, A80, H⟩ := H
   replace H : (some (mx 0 t22006)) = some r := H
   have A8 := Aside0.mk A80
   clear A80
   obtain ⟨ji9, hji9⟩ : ∃ j_ : Int, (mx 0 t22006) = j_ := ⟨_, rfl⟩
   replace H : (some ji9) = some r := by first | (rw [hji9] at H; exact H) | (simp only [hji9] at H ⊢; exact H)
   (try rw [hji9] at A2)
   (try rw [hji9] at A5)
   (try rw [hji9] at A6)
   (try rw [hji9] at A7)
   (try rw [hji9] at A8)
   (try (have hji9l : 0 ≤ ji9 := by (rw [← hji9]; unfold mx; (repeat' split) <;> omega)))
   (try (have hji9m : 0 ≤ ji9 := by omega))
   have hji9_ : (if 0 < t22006 then t22006 else 0) = ji9 := hji9
   obtain rfl := Option.some.inj H
   go_enter Try.func22, Try.ntmps22
   go_wp2_with (first | ((with_reducible refine gate_callee (f := 41) rfl ?_); refine goesL_ (some 4) rfl rfl Try.func41 (by kernel_rfl) rfl #[.slice A0 l0.length c0] rfl la_ ?_; (with_reducible refine (sawmillref11_Check.calls k _ _ l0 t22001 _ ?side1 ?side2 A2.out).mono ?_); (case side1 => repeat (first | exact HR0.out | (with_reducible refine Kd.C_alloc ?_ _) | (with_reducible refine Kd.C_drewN ?_ _) | (with_reducible refine Kd.C_drew ?_))); (case side2 => exact HC0.out); rintro e w10 ⟨rfl, hb⟩; refine ⟨_, rfl, ?_⟩; have n0_ := Aside0.mk (bs_ hb); clear HB; have HB := n0_; clear n0_; (try clear hb); (try clear hb2); (try clear hk); (try clear hi); have p22002 : 0 ≤ (0 : Int) := (by omega); have q22002 : 0 < (l0.length : Int) := of_decide_eq_true (by first | (with_reducible assumption) | assumption); obtain ⟨ad22002, A22002_2, c22002_2, e22002, hx22002_0, hx22002_1, hx22002_2, hl22002_2, hi22002_2⟩ := at_T36 HR0.out 0 p22002 q22002; cases e22002; have qi22002 : (0 < l0.length) = True := eq_true (by omega); (try rw [show ((0 : Int)).toNat = 0 from rfl] at hx22002_0); (try rw [show 0 * 3 = 0 from rfl] at hx22002_0); (try rw [Addr.add_zero'] at hx22002_0); (try rw [show ((0 : Int)).toNat = 0 from rfl] at hx22002_1); (try rw [show 0 * 3 = 0 from rfl] at hx22002_1); (try rw [Addr.add_zero'] at hx22002_1); (try rw [show ((0 : Int)).toNat = 0 from rfl] at hx22002_2); (try rw [show 0 * 3 = 0 from rfl] at hx22002_2); (try rw [Addr.add_zero'] at hx22002_2); replace hx22002_0 := (HB.out.cell (World.block_lt_of_cell? w _ hx22002_0)).trans hx22002_0; replace hx22002_1 := (HB.out.cell (World.block_lt_of_cell? w _ hx22002_1)).trans hx22002_1; replace hx22002_2 := (HB.out.cell (World.block_lt_of_cell? w _ hx22002_2)).trans hx22002_2; have HR22002_2 := Aside0.mk hi22002_2; have HC22002_2 := Aside0.mk hl22002_2; clear hi22002_2 hl22002_2; replace p22002 := eq_true p22002; replace q22002 := eq_true q22002) | ((with_reducible refine gate_callee (f := 13) rfl ?_); refine goesL_ (some 10) rfl rfl Try.func13 (by kernel_rfl) rfl #[.agg #[.int .i64 ((rd_T36 l0 0).f1.f0), .slice A22002_2 ((rd_T36 l0 0).f1.f1).length c22002_2]] rfl la_ ?_; (with_reducible refine (sawmillref14_Diameter.calls k ((rd_T36 l0 0).f1.f0) _ _ ((rd_T36 l0 0).f1.f1) t22003 _ ?side1 ?side2 A5.out).mono ?_); (case side1 => repeat (first | exact (Kd.C_below HR22002_2.out HB.out) | (with_reducible refine Kd.C_alloc ?_ _) | (with_reducible refine Kd.C_drewN ?_ _) | (with_reducible refine Kd.C_drew ?_))); (case side2 => exact HC22002_2.out); rintro e w11 ⟨rfl, hb⟩; refine ⟨_, rfl, ?_⟩; have n0_ := Aside0.mk (bs_ hb); clear HB; have HB := n0_; clear n0_; (try clear hb); (try clear hb2); (try clear hk); (try clear hi)) | ((with_reducible refine gate_callee (f := 20) rfl ?_); refine goesL_ (some 12) rfl rfl Try.func20 (by kernel_rfl) rfl #[.slice (some ad22002) l0.length c0] rfl la_ ?_; (with_reducible refine (sawmillref14_Top.calls k _ _ l0 t22004 _ ?side1 ?side2 A6.out).mono ?_); (case side1 => repeat (first | exact (Kd.C_below HR0.out HB.out) | (with_reducible refine Kd.C_alloc ?_ _) | (with_reducible refine Kd.C_drewN ?_ _) | (with_reducible refine Kd.C_drew ?_))); (case side2 => exact HC0.out); rintro e w12 ⟨rfl, hb⟩; refine ⟨_, rfl, ?_⟩; have n0_ := Aside0.mk (bs_ hb); clear HB; have HB := n0_; clear n0_; (try clear hb); (try clear hb2); (try clear hk); (try clear hi)) | ((with_reducible refine gate_callee (f := 43) rfl ?_); refine goesL_ (some 16) rfl rfl Try.func43 (by kernel_rfl) rfl #[.slice (some ad22002) l0.length c0] rfl la_ ?_; (with_reducible refine (sawmillref11_Length.calls k _ _ l0 t22005 _ ?side1 ?side2 A7.out).mono ?_); (case side1 => repeat (first | exact (Kd.C_below HR0.out HB.out) | (with_reducible refine Kd.C_alloc ?_ _) | (with_reducible refine Kd.C_drewN ?_ _) | (with_reducible refine Kd.C_drew ?_))); (case side2 => exact HC0.out); rintro e w13 ⟨rfl, hb⟩; refine ⟨_, rfl, ?_⟩; have n0_ := Aside0.mk (bs_ hb); clear HB; have HB := n0_; clear n0_; (try clear hb); (try clear hb2); (try clear hk); (try clear hi)) | ((with_reducible refine gate_callee (f := 42) rfl ?_); refine goesL_ (some 17) rfl rfl Try.func42 (by kernel_rfl) rfl #[.int .i64 (wrap64 ((wrap64 (t22003 - t22004)) * 10000)), .int .i64 t22005] rfl la_ ?_; (with_reducible refine (sawmillref14_floor.calls (wrap64 ((wrap64 (t22003 - t22004)) * 10000)) t22005 t22006 _ A8.out).mono ?_); rintro e w' ⟨rfl, ⟨nd, rfl⟩⟩; refine ⟨_, rfl, ?_⟩))
   go_ret
   exact ⟨by first | rfl | (simp [errW_none, errW_some] <;> rfl) | (simp only [← hji9]; first | rfl | (simp [errW_none, errW_some] <;> rfl)) | (simp [*, errW_none, errW_some] <;> rfl), be_⟩
  ·rw [if_neg c4] at H
   exact absurd H (by simp)
 ·rw [if_neg c3] at H
  have c3b0 : (t22001 == 0) = false := beq_eq_false_iff_ne.mpr c3
  have c3b1 : (t22001 != 0) = true := bne_iff_ne.mpr c3
  obtain rfl := Option.some.inj H
  go_enter Try.func22, Try.ntmps22
  go_wp2_with (first | ((with_reducible refine gate_callee (f := 41) rfl ?_); refine goesL_ (some 4) rfl rfl Try.func41 (by kernel_rfl) rfl #[.slice A0 l0.length c0] rfl la_ ?_; (with_reducible refine (sawmillref11_Check.calls k _ _ l0 t22001 _ ?side1 ?side2 A2.out).mono ?_); (case side1 => repeat (first | exact HR0.out | (with_reducible refine Kd.C_alloc ?_ _) | (with_reducible refine Kd.C_drewN ?_ _) | (with_reducible refine Kd.C_drew ?_))); (case side2 => exact HC0.out); rintro e w14 ⟨rfl, hb⟩; refine ⟨_, rfl, ?_⟩; have n0_ := Aside0.mk (bs_ hb); clear HB; have HB := n0_; clear n0_; (try clear hb); (try clear hb2); (try clear hk); (try clear hi)))
  go_ret
  exact ⟨er_, be_⟩

end Go.Proofs.Ytdbjoopkliafeaa.P

end
section
namespace Go.Proofs.Ytdbjoopkliafeaa.P
open Go Go.RowKit Go.Proofs.YtdbjoopkliafeaaW.PrintWords Go.Proofs.YtdbjoopkliafeaaW.PrintLast Go.Proofs.YtdbjoopkliafeaaW.PrintMore
attribute [local go_sem] max2_int min2_int max_two min_two max_three min_three max_four min_four max_five min_eight max_eight   -- for this text's walks alone
set_option linter.unusedVariables false
set_option linter.unusedSimpArgs false

def sawmilllaw14_ShapeLogs.f (k : Nat) (l0 : List (S36)) : Option (Bool) := (sawmilllaw14_small.f k l0).bind fun t4001 => (if t4001 = true then ((shape_Top.f k l0).bind fun t4003 => ((sawmillref14_Top.f k l0).bind fun t4004 => (if t4003 = t4004 then ((shape_Taper.f k l0).bind fun t4005 => ((sawmillref14_Taper.f k l0).bind fun t4006 => (if t4005 = t4006 then ((sawmilllaw14_awake.f k).bind fun t4007 => (some t4007)) else (some false)))) else (some false)))) else ((sawmilllaw14_awake.f k).bind fun t4002 => (some t4002)))
theorem sawmilllaw14_ShapeLogs.mono : ∀ a0 k, LeO (sawmilllaw14_ShapeLogs.f k a0) (sawmilllaw14_ShapeLogs.f (k + 1) a0) := by
 intro a0 k
 unfold sawmilllaw14_ShapeLogs.f
 repeat' first
   | (with_reducible exact sawmilllaw14_awake.mono _)
   | (with_reducible exact sawmilllaw14_small.mono _ _)
   | (with_reducible exact sawmillref14_Taper.mono _ _)
   | (with_reducible exact sawmillref14_Top.mono _ _)
   | (with_reducible exact shape_Taper.mono _ _)
   | (with_reducible exact shape_Top.mono _ _)
   | (with_reducible exact LeO.refl _)
   | (with_reducible exact LeO.none _)
   | (with_reducible refine LeO.ite ?_ ?_)
   | (with_reducible refine LeO.bind ?_ (fun _ => ?_))
   | exact sawmilllaw14_awake.mono _
   | exact sawmilllaw14_small.mono _ _
   | exact sawmillref14_Taper.mono _ _
   | exact sawmillref14_Top.mono _ _
   | exact shape_Taper.mono _ _
   | exact shape_Top.mono _ _
   | exact LeO.none _
   | refine LeO.ite ?_ ?_
   | refine LeO.bind ?_ (fun _ => ?_)
set_option maxHeartbeats 8000000 in
set_option maxRecDepth 100000 in
theorem sawmilllaw14_ShapeLogs.calls (k : Nat) (A0 : Option Addr) (c0 : Nat) (l0 : List (S36)) (r : Bool) (w : World) (hr0 : Kd.C k36 w A0 l0.length l0) (hc0 : l0.length ≤ c0) (h : sawmilllaw14_ShapeLogs.f k l0 = some r) :
  Calls Try.prog 4 #[.slice A0 l0.length c0] w fun e w' => e = .returned (.bool r) ∧ Below w.heap.size w w' := by
 have HR0 := Aside0.mk hr0
 have HC0 := Aside0.mk hc0
 clear hr0 hc0
 have HB := Aside0.mk (Below.refl w.heap.size w)
 have H : ((sawmilllaw14_small.f k l0).bind fun t4001 => (if t4001 = true then ((shape_Top.f k l0).bind fun t4003 => ((sawmillref14_Top.f k l0).bind fun t4004 => (if t4003 = t4004 then ((shape_Taper.f k l0).bind fun t4005 => ((sawmillref14_Taper.f k l0).bind fun t4006 => (if t4005 = t4006 then ((sawmilllaw14_awake.f k).bind fun t4007 => (some t4007)) else (some false)))) else (some false)))) else ((sawmilllaw14_awake.f k).bind fun t4002 => (some t4002)))) = some r := h
 clear h
 replace H := Option.bind_eq_some_iff.mp H
 obtain ⟨t4001, A20, H⟩ := H
 replace H : (if t4001 = true then ((shape_Top.f k l0).bind fun t4003 => ((sawmillref14_Top.f k l0).bind fun t4004 => (if t4003 = t4004 then ((shape_Taper.f k l0).bind fun t4005 => ((sawmillref14_Taper.f k l0).bind fun t4006 => (if t4005 = t4006 then ((sawmilllaw14_awake.f k).bind fun t4007 => (some t4007)) else (some false)))) else (some false)))) else ((sawmilllaw14_awake.f k).bind fun t4002 => (some t4002))) = some r := H
 have A2 := Aside0.mk A20
 clear A20
 by_cases c3 : t4001 = true
 ·subst c3
  have H1 : ((shape_Top.f k l0).bind fun t4003 => ((sawmillref14_Top.f k l0).bind fun t4004 => (if t4003 = t4004 then ((shape_Taper.f k l0).bind fun t4005 => ((sawmillref14_Taper.f k l0).bind fun t4006 => (if t4005 = t4006 then ((sawmilllaw14_awake.f k).bind fun t4007 => (some t4007)) else (some false)))) else (some false)))) = some r := by rw [if_pos rfl] at H; exact H
  clear H
  have H := H1
  clear H1
  replace H := Option.bind_eq_some_iff.mp H
  obtain ⟨t4003, A40, H⟩ := H
  replace H : ((sawmillref14_Top.f k l0).bind fun t4004 => (if t4003 = t4004 then ((shape_Taper.f k l0).bind fun t4005 => ((sawmillref14_Taper.f k l0).bind fun t4006 => (if t4005 = t4006 then ((sawmilllaw14_awake.f k).bind fun t4007 => (some t4007)) else (some false)))) else (some false))) = some r := H
  have A4 := Aside0.mk A40
  clear A40
  replace H := Option.bind_eq_some_iff.mp H
  obtain ⟨t4004, A50, H⟩ := H
  replace H : (if t4003 = t4004 then ((shape_Taper.f k l0).bind fun t4005 => ((sawmillref14_Taper.f k l0).bind fun t4006 => (if t4005 = t4006 then ((sawmilllaw14_awake.f k).bind fun t4007 => (some t4007)) else (some false)))) else (some false)) = some r := H
  have A5 := Aside0.mk A50
  clear A50
  by_cases c6 : t4003 = t4004
  ·rw [if_pos c6] at H
   have c6b0 : (t4003 == t4004) = true := beq_iff_eq.mpr c6
   have c6b1 : (t4003 != t4004) = false := bne_eq_false_iff_eq.mpr c6
   clear c6
   replace H := Option.bind_eq_some_iff.mp H
   obtain ⟨t4005, A70, H⟩ := H
   replace H : ((sawmillref14_Taper.f k l0).bind fun t4006 => (if t4005 = t4006 then ((sawmilllaw14_awake.f k).bind fun t4007 => (some t4007)) else (some false))) = some r := H
   have A7 := Aside0.mk A70
   clear A70
   replace H := Option.bind_eq_some_iff.mp H
   obtain ⟨t4006, A80, H⟩ := H
   replace H : (if t4005 = t4006 then ((sawmilllaw14_awake.f k).bind fun t4007 => (some t4007)) else (some false)) = some r := H
   have A8 := Aside0.mk A80
   clear A80
   by_cases c9 : t4005 = t4006
   ·rw [if_pos c9] at H
    have c9b0 : (t4005 == t4006) = true := beq_iff_eq.mpr c9
    have c9b1 : (t4005 != t4006) = false := bne_eq_false_iff_eq.mpr c9
    clear c9
    replace H := Option.bind_eq_some_iff.mp H
    obtain ⟨t4007, A100, H⟩ := H
    replace H : (some t4007) = some r := H
    have A10 := Aside0.mk A100
    clear A100
    obtain rfl := Option.some.inj H
    go_enter Try.func4, Try.ntmps4
    go_wp2_with (first | ((with_reducible refine gate_callee (f := 18) rfl ?_); refine goesL_ (some 4) rfl rfl Try.func18 (by kernel_rfl) rfl #[.slice A0 l0.length c0] rfl la_ ?_; (with_reducible refine (sawmilllaw14_small.calls k _ _ l0 true _ ?side1 ?side2 A2.out).mono ?_); (case side1 => repeat (first | exact HR0.out | (with_reducible refine Kd.C_alloc ?_ _) | (with_reducible refine Kd.C_drewN ?_ _) | (with_reducible refine Kd.C_drew ?_))); (case side2 => exact HC0.out); rintro e w' ⟨rfl, ⟨nd, rfl⟩⟩; refine ⟨_, rfl, ?_⟩) | ((with_reducible refine gate_callee (f := 19) rfl ?_); refine goesL_ (some 8) rfl rfl Try.func19 (by kernel_rfl) rfl #[.slice A0 l0.length c0] rfl la_ ?_; (with_reducible refine (shape_Top.calls k _ _ l0 t4003 _ ?side1 ?side2 A4.out).mono ?_); (case side1 => repeat (first | exact HR0.out | (with_reducible refine Kd.C_alloc ?_ _) | (with_reducible refine Kd.C_drewN ?_ _) | (with_reducible refine Kd.C_drew ?_))); (case side2 => exact HC0.out); rintro e w11 ⟨rfl, hb⟩; refine ⟨_, rfl, ?_⟩; have n0_ := Aside0.mk (bs_ hb); clear HB; have HB := n0_; clear n0_; (try clear hb); (try clear hb2); (try clear hk); (try clear hi)) | ((with_reducible refine gate_callee (f := 20) rfl ?_); refine goesL_ (some 10) rfl rfl Try.func20 (by kernel_rfl) rfl #[.slice A0 l0.length c0] rfl la_ ?_; (with_reducible refine (sawmillref14_Top.calls k _ _ l0 t4004 _ ?side1 ?side2 A5.out).mono ?_); (case side1 => repeat (first | exact (Kd.C_below HR0.out HB.out) | (with_reducible refine Kd.C_alloc ?_ _) | (with_reducible refine Kd.C_drewN ?_ _) | (with_reducible refine Kd.C_drew ?_))); (case side2 => exact HC0.out); rintro e w12 ⟨rfl, hb⟩; refine ⟨_, rfl, ?_⟩; have n0_ := Aside0.mk (bs_ hb); clear HB; have HB := n0_; clear n0_; (try clear hb); (try clear hb2); (try clear hk); (try clear hi)) | (go_at_call 21; (with_reducible refine (shape_Taper.calls k _ _ l0 t4005 _ ?side1 ?side2 A7.out).mono ?_); (case side1 => repeat (first | exact (Kd.C_below HR0.out HB.out) | (with_reducible refine Kd.C_alloc ?_ _) | (with_reducible refine Kd.C_drewN ?_ _) | (with_reducible refine Kd.C_drew ?_))); (case side2 => exact HC0.out); rintro e w13 ⟨rfl, hb⟩; have n0_ := Aside0.mk (bs_ hb); clear HB; have HB := n0_; clear n0_; (try clear hb); (try clear hb2); (try clear hk); (try clear hi)) | (go_at_call 22; (with_reducible refine (sawmillref14_Taper.calls k _ _ l0 t4006 _ ?side1 ?side2 A8.out).mono ?_); (case side1 => repeat (first | exact (Kd.C_below HR0.out HB.out) | (with_reducible refine Kd.C_alloc ?_ _) | (with_reducible refine Kd.C_drewN ?_ _) | (with_reducible refine Kd.C_drew ?_))); (case side2 => exact HC0.out); rintro e w14 ⟨rfl, hb⟩; have n0_ := Aside0.mk (bs_ hb); clear HB; have HB := n0_; clear n0_; (try clear hb); (try clear hb2); (try clear hk); (try clear hi)) | (go_at_call 11; (with_reducible refine (sawmilllaw14_awake.calls k  t4007 _ A10.out).mono ?_); rintro e w15 ⟨rfl, hb⟩; have n0_ := Aside0.mk (bs_ hb); clear HB; have HB := n0_; clear n0_; (try clear hb); (try clear hb2); (try clear hk); (try clear hi)))
    go_ret
    exact ⟨er_, be_⟩
   ·rw [if_neg c9] at H
    have c9b0 : (t4005 == t4006) = false := beq_eq_false_iff_ne.mpr c9
    have c9b1 : (t4005 != t4006) = true := bne_iff_ne.mpr c9
    obtain rfl := Option.some.inj H
    go_enter Try.func4, Try.ntmps4
    go_wp2_with (first | ((with_reducible refine gate_callee (f := 18) rfl ?_); refine goesL_ (some 4) rfl rfl Try.func18 (by kernel_rfl) rfl #[.slice A0 l0.length c0] rfl la_ ?_; (with_reducible refine (sawmilllaw14_small.calls k _ _ l0 true _ ?side1 ?side2 A2.out).mono ?_); (case side1 => repeat (first | exact HR0.out | (with_reducible refine Kd.C_alloc ?_ _) | (with_reducible refine Kd.C_drewN ?_ _) | (with_reducible refine Kd.C_drew ?_))); (case side2 => exact HC0.out); rintro e w' ⟨rfl, ⟨nd, rfl⟩⟩; refine ⟨_, rfl, ?_⟩) | ((with_reducible refine gate_callee (f := 19) rfl ?_); refine goesL_ (some 8) rfl rfl Try.func19 (by kernel_rfl) rfl #[.slice A0 l0.length c0] rfl la_ ?_; (with_reducible refine (shape_Top.calls k _ _ l0 t4003 _ ?side1 ?side2 A4.out).mono ?_); (case side1 => repeat (first | exact HR0.out | (with_reducible refine Kd.C_alloc ?_ _) | (with_reducible refine Kd.C_drewN ?_ _) | (with_reducible refine Kd.C_drew ?_))); (case side2 => exact HC0.out); rintro e w16 ⟨rfl, hb⟩; refine ⟨_, rfl, ?_⟩; have n0_ := Aside0.mk (bs_ hb); clear HB; have HB := n0_; clear n0_; (try clear hb); (try clear hb2); (try clear hk); (try clear hi)) | ((with_reducible refine gate_callee (f := 20) rfl ?_); refine goesL_ (some 10) rfl rfl Try.func20 (by kernel_rfl) rfl #[.slice A0 l0.length c0] rfl la_ ?_; (with_reducible refine (sawmillref14_Top.calls k _ _ l0 t4004 _ ?side1 ?side2 A5.out).mono ?_); (case side1 => repeat (first | exact (Kd.C_below HR0.out HB.out) | (with_reducible refine Kd.C_alloc ?_ _) | (with_reducible refine Kd.C_drewN ?_ _) | (with_reducible refine Kd.C_drew ?_))); (case side2 => exact HC0.out); rintro e w17 ⟨rfl, hb⟩; refine ⟨_, rfl, ?_⟩; have n0_ := Aside0.mk (bs_ hb); clear HB; have HB := n0_; clear n0_; (try clear hb); (try clear hb2); (try clear hk); (try clear hi)) | (go_at_call 21; (with_reducible refine (shape_Taper.calls k _ _ l0 t4005 _ ?side1 ?side2 A7.out).mono ?_); (case side1 => repeat (first | exact (Kd.C_below HR0.out HB.out) | (with_reducible refine Kd.C_alloc ?_ _) | (with_reducible refine Kd.C_drewN ?_ _) | (with_reducible refine Kd.C_drew ?_))); (case side2 => exact HC0.out); rintro e w18 ⟨rfl, hb⟩; have n0_ := Aside0.mk (bs_ hb); clear HB; have HB := n0_; clear n0_; (try clear hb); (try clear hb2); (try clear hk); (try clear hi)) | (go_at_call 22; (with_reducible refine (sawmillref14_Taper.calls k _ _ l0 t4006 _ ?side1 ?side2 A8.out).mono ?_); (case side1 => repeat (first | exact (Kd.C_below HR0.out HB.out) | (with_reducible refine Kd.C_alloc ?_ _) | (with_reducible refine Kd.C_drewN ?_ _) | (with_reducible refine Kd.C_drew ?_))); (case side2 => exact HC0.out); rintro e w19 ⟨rfl, hb⟩; have n0_ := Aside0.mk (bs_ hb); clear HB; have HB := n0_; clear n0_; (try clear hb); (try clear hb2); (try clear hk); (try clear hi)))
    go_ret
    exact ⟨er_, be_⟩
  ·rw [if_neg c6] at H
   have c6b0 : (t4003 == t4004) = false := beq_eq_false_iff_ne.mpr c6
   have c6b1 : (t4003 != t4004) = true := bne_iff_ne.mpr c6
   obtain rfl := Option.some.inj H
   go_enter Try.func4, Try.ntmps4
   go_wp2_with (first | ((with_reducible refine gate_callee (f := 18) rfl ?_); refine goesL_ (some 4) rfl rfl Try.func18 (by kernel_rfl) rfl #[.slice A0 l0.length c0] rfl la_ ?_; (with_reducible refine (sawmilllaw14_small.calls k _ _ l0 true _ ?side1 ?side2 A2.out).mono ?_); (case side1 => repeat (first | exact HR0.out | (with_reducible refine Kd.C_alloc ?_ _) | (with_reducible refine Kd.C_drewN ?_ _) | (with_reducible refine Kd.C_drew ?_))); (case side2 => exact HC0.out); rintro e w' ⟨rfl, ⟨nd, rfl⟩⟩; refine ⟨_, rfl, ?_⟩) | ((with_reducible refine gate_callee (f := 19) rfl ?_); refine goesL_ (some 8) rfl rfl Try.func19 (by kernel_rfl) rfl #[.slice A0 l0.length c0] rfl la_ ?_; (with_reducible refine (shape_Top.calls k _ _ l0 t4003 _ ?side1 ?side2 A4.out).mono ?_); (case side1 => repeat (first | exact HR0.out | (with_reducible refine Kd.C_alloc ?_ _) | (with_reducible refine Kd.C_drewN ?_ _) | (with_reducible refine Kd.C_drew ?_))); (case side2 => exact HC0.out); rintro e w20 ⟨rfl, hb⟩; refine ⟨_, rfl, ?_⟩; have n0_ := Aside0.mk (bs_ hb); clear HB; have HB := n0_; clear n0_; (try clear hb); (try clear hb2); (try clear hk); (try clear hi)) | ((with_reducible refine gate_callee (f := 20) rfl ?_); refine goesL_ (some 10) rfl rfl Try.func20 (by kernel_rfl) rfl #[.slice A0 l0.length c0] rfl la_ ?_; (with_reducible refine (sawmillref14_Top.calls k _ _ l0 t4004 _ ?side1 ?side2 A5.out).mono ?_); (case side1 => repeat (first | exact (Kd.C_below HR0.out HB.out) | (with_reducible refine Kd.C_alloc ?_ _) | (with_reducible refine Kd.C_drewN ?_ _) | (with_reducible refine Kd.C_drew ?_))); (case side2 => exact HC0.out); rintro e w21 ⟨rfl, hb⟩; refine ⟨_, rfl, ?_⟩; have n0_ := Aside0.mk (bs_ hb); clear HB; have HB := n0_; clear n0_; (try clear hb); (try clear hb2); (try clear hk); (try clear hi)))
   go_ret
   exact ⟨er_, be_⟩
 ·replace c3 := Bool.eq_false_iff.mpr c3
  subst c3
  have H1 : ((sawmilllaw14_awake.f k).bind fun t4002 => (some t4002)) = some r := by rw [if_neg (show ¬ (false = true) by decide)] at H; exact H
  clear H
  have H := H1
  clear H1
  replace H := Option.bind_eq_some_iff.mp H
  obtain ⟨t4002, A220, H⟩ := H
  replace H : (some t4002) = some r := H
  have A22 := Aside0.mk A220
  clear A220
  obtain rfl := Option.some.inj H
  go_enter Try.func4, Try.ntmps4
  go_wp2_with (first | ((with_reducible refine gate_callee (f := 18) rfl ?_); refine goesL_ (some 4) rfl rfl Try.func18 (by kernel_rfl) rfl #[.slice A0 l0.length c0] rfl la_ ?_; (with_reducible refine (sawmilllaw14_small.calls k _ _ l0 false _ ?side1 ?side2 A2.out).mono ?_); (case side1 => repeat (first | exact HR0.out | (with_reducible refine Kd.C_alloc ?_ _) | (with_reducible refine Kd.C_drewN ?_ _) | (with_reducible refine Kd.C_drew ?_))); (case side2 => exact HC0.out); rintro e w' ⟨rfl, ⟨nd, rfl⟩⟩; refine ⟨_, rfl, ?_⟩) | ((with_reducible refine gate_callee (f := 11) rfl ?_); refine goesL_ (some 6) rfl rfl Try.func11 (by kernel_rfl) rfl #[] rfl la_ ?_; (with_reducible refine (sawmilllaw14_awake.calls k  t4002 _ A22.out).mono ?_); rintro e w23 ⟨rfl, hb⟩; refine ⟨_, rfl, ?_⟩; have n0_ := Aside0.mk (bs_ hb); clear HB; have HB := n0_; clear n0_; (try clear hb); (try clear hb2); (try clear hk); (try clear hi)))
  go_ret
  exact ⟨er_, be_⟩

end Go.Proofs.Ytdbjoopkliafeaa.P

end
section
namespace Go.Proofs.Ytdbjoopkliafeaa.P
open Go Go.RowKit Go.Proofs.YtdbjoopkliafeaaW.PrintWords Go.Proofs.YtdbjoopkliafeaaW.PrintLast Go.Proofs.YtdbjoopkliafeaaW.PrintMore
def Opens {α : Type} (P : Program) (d : Kd α) (t : TypeId) (ok : α → Prop) : Prop :=
 ∀ (H : Type) (enc : TypeId × Value → H) (w : World) (base : Nat) (spare : Nat → Bool) (held : Bool) (fuel : Nat) (cs : List Value) (x : DataW H × List MemPlace),
  DataW.trod enc P w base spare held fuel t cs = some x → ∃ v, d.K w v cs ∧ ok v
theorem opens_int {P : Program} {t : TypeId} {k : IntKind} (ht : P.underlying t = some (.int k)) : Opens P (Kd.int k) t (fun n => (Lit.int k n).wf = true) := by
 intro H enc w base spare held fuel cs x h
 obtain ⟨n, rfl, _, hw⟩ := DataW.trod_int ht h
 exact ⟨n, rfl, hw⟩
theorem opens_string {P : Program} {t : TypeId} (ht : P.underlying t = some .string) : Opens P Kd.string t (fun s => s.size ≤ maxLen) := by
 intro H enc w base spare held fuel cs x h
 obtain ⟨n, rfl, _, hw⟩ := DataW.trod_string ht h
 exact ⟨n, rfl, hw⟩
theorem opens_slice {α : Type} {P : Program} {d : Kd α} {t e : TypeId} {ok : α → Prop} (e' : Nat) (ht : P.underlying t = some (.slice e)) (hc : P.cellsOf e = d.sz) (hd : Opens P d e ok) :
  Opens P (Kd.slice e' d) t (fun xs => (∀ x ∈ xs, ok x) ∧ xs.length ≤ maxLen) := by
 intro H enc w base spare held fuel cs x h
 rcases DataW.trod_slice ht h with ⟨rfl, _⟩ | ⟨a, len, cap, elems, rest, n, _, rfl, _, hb, hl, hm, hlen, hel, _, _⟩
 ·exact ⟨[], ⟨none, 0, rfl, Nat.le_refl _, rfl, by simp, fun h => absurd h (by simp)⟩, by simp, by simp⟩
 ·have key : ∀ m, m ≤ len → ∃ xs : List α, xs.length = m ∧ ∀ j p, xs[j]? = some p → ∃ c, w.cells? base (a.add (j * d.sz)) d.sz = some c ∧ d.K w p c ∧ ok p := by
   intro m
   induction m with
   | zero => exact fun _ => ⟨[], rfl, fun j p h => by simp at h⟩
   | succ m ih =>
    intro hm
    obtain ⟨xs, hx, hp⟩ := ih (by omega)
    have h1 := hel m (by omega)
    rw [List.getElem?_eq_getElem (by omega), hc, Option.bind_eq_some_iff] at h1
    obtain ⟨c, hcs, ht⟩ := h1
    obtain ⟨v, hk, ho⟩ := hd H enc w base spare held n c _ ht
    refine ⟨xs ++ [v], by simp [hx], fun j p h => ?_⟩
    rcases Nat.lt_or_ge j m with hj | hj
    ·rw [List.getElem?_append_left (by omega)] at h
     exact hp j p h
    ·have : j = m := by
      have := (List.getElem?_eq_some_iff.1 h).1
      simp at this
      omega
     subst this
     rw [List.getElem?_append_right (by omega), hx] at h
     simp at h
     subst h
     exact ⟨c, hcs, hk, ho⟩
  obtain ⟨xs, hx, hp⟩ := key len (Nat.le_refl _)
  have hlm : len ≤ maxLen := Nat.le_trans hl hm
  refine ⟨xs, ⟨some a, cap, by rw [hx], by omega, ?_⟩, fun x hxm => ?_, by omega⟩
  ·refine ⟨rfl, by unfold maxLen at hlm; omega, fun _ => ⟨a, rfl, fun j p h => ?_⟩⟩
   obtain ⟨c, hcs, hk, _⟩ := hp j p h
   have h3 := World.cells?_some hcs
   refine ⟨c, d.K_len hk, hk, fun i u hu => ?_⟩
   have hi := (List.getElem?_eq_some_iff.1 hu).1
   have h4 := h3.2.2 i (by have := d.K_len hk; omega)
   rw [hu] at h4
   rw [← add_add]
   exact h4
  ·obtain ⟨j, hj⟩ := List.getElem?_of_mem hxm
   exact (hp j x hj).choose_spec.2.2
theorem opens_iso {α β : Type} {P : Program} {d : Kd α} {t : TypeId} {ok : α → Prop} {f : β → α} (g : α → β) (hg : ∀ x, f (g x) = x) (hd : Opens P d t ok) : Opens P (Kd.iso d f) t (fun y => ok (f y)) := by
 intro H enc w base spare held fuel cs x h
 obtain ⟨v, hk, ho⟩ := hd H enc w base spare held fuel cs x h
 exact ⟨g v, by show d.K w (f (g v)) cs; rw [hg]; exact hk, by show ok (f (g v)); rw [hg]; exact ho⟩
def OpensF {α : Type} (P : Program) (d : Kd α) (fs : List Field) (o tot : Nat) (ok : α → Prop) : Prop :=
 ∀ (H : Type) (enc : TypeId × Value → H) (w : World) (base : Nat) (spare : Nat → Bool) (held : Bool) (n : Nat) (cs : List Value), cs.length = tot →
  (∀ f ∈ fs, ∃ y, DataW.trod enc P w base spare held n f.type ((cs.drop f.offset).take (P.cellsOf f.type)) = some y) → ∃ v, d.K w v (cs.drop o) ∧ ok v
theorem opensF_last {α : Type} {P : Program} {d : Kd α} {f : Field} {o tot k : Nat} {ok : α → Prop} (ho : f.offset = o) (hk : P.cellsOf f.type = k) (ht : tot ≤ o + k) (hd : Opens P d f.type ok) : OpensF P d [f] o tot ok := by
 intro H enc w base spare held n cs hl hf
 obtain ⟨y, hy⟩ := hf f (by simp)
 rw [ho, hk, List.take_of_length_le (by simp; omega)] at hy
 exact hd H enc w base spare held n _ _ hy
theorem opensF_cons {α β : Type} {P : Program} {d : Kd α} {d2 : Kd β} {f : Field} {fs : List Field} {o tot k : Nat} {ok : α → Prop} {ok2 : β → Prop} (ho : f.offset = o) (hk : P.cellsOf f.type = k) (hd : Opens P d f.type ok) (hr : OpensF P d2 fs (o + k) tot ok2) :
  OpensF P (Kd.pair d d2) (f :: fs) o tot (fun x => ok x.1 ∧ ok2 x.2) := by
 intro H enc w base spare held n cs hl hf
 obtain ⟨y, hy⟩ := hf f (by simp)
 rw [ho, hk] at hy
 obtain ⟨v, hv, ov⟩ := hd H enc w base spare held n _ _ hy
 obtain ⟨u, hu, ou⟩ := hr H enc w base spare held n cs hl (fun g hg => hf g (by simp [hg]))
 refine ⟨(v, u), ⟨_, _, ?_, hv, hu⟩, ov, ou⟩
 rw [← List.drop_drop, List.take_append_drop]
theorem opens_struct {α : Type} {P : Program} {d : Kd α} {t : TypeId} {fs : Array Field} {l : List Field} {tot : Nat} {ok : α → Prop} (ht : P.underlying t = some (.struct fs)) (hl : fs.toList = l) (hc : P.cellsOf t = tot) (hF : OpensF P d l 0 tot ok) : Opens P d t ok := by
 intro H enc w base spare held fuel cs x h
 obtain ⟨xs, n, _, _, hlen, hxl, hf⟩ := DataW.trod_struct ht h
 have := hF H enc w base spare held n cs (by rw [hlen, hc]) (fun f hm => by
  rw [← hl] at hm
  obtain ⟨i, hi⟩ := List.getElem?_of_mem hm
  have h1 := hf i f (by simpa using hi)
  have hi2 : i < xs.length := by
   have := (List.getElem?_eq_some_iff.1 hi).1
   simp at this
   omega
  rw [List.getElem?_eq_getElem hi2] at h1
  exact ⟨_, h1⟩)
 simpa using this
def W49 (x : S49) : Prop := ((Lit.int .i64 x.f0).wf = true) ∧ ((Lit.int .i64 x.f1).wf = true)
theorem o49 : Opens Try.prog k49 49 W49 := opens_iso (f := fun x : S49 => (x.f0, x.f1)) (fun p => ⟨p.1, p.2⟩) (fun _ => rfl) (opens_struct (tot := 2) Try.underlying49 rfl (by kernel_rfl) (opensF_cons (o := 0) (tot := 2) (k := 1) rfl (by kernel_rfl) (opens_int Try.underlying3) (opensF_last (o := 1) (tot := 2) (k := 1) rfl (by kernel_rfl) (by decide) (opens_int Try.underlying3))))
def W24 (x : S24) : Prop := ((Lit.int .i64 x.f0).wf = true) ∧ ((∀ x_ ∈ x.f1, W49 x_) ∧ x.f1.length ≤ maxLen)
theorem o24 : Opens Try.prog k24 24 W24 := opens_iso (f := fun x : S24 => (x.f0, x.f1)) (fun p => ⟨p.1, p.2⟩) (fun _ => rfl) (opens_struct (tot := 2) Try.underlying24 rfl (by kernel_rfl) (opensF_cons (o := 0) (tot := 2) (k := 1) rfl (by kernel_rfl) (opens_int Try.underlying3) (opensF_last (o := 1) (tot := 2) (k := 1) rfl (by kernel_rfl) (by decide) (opens_slice (α := S49) 49 Try.underlying22 (by kernel_rfl) o49))))
def W36 (x : S36) : Prop := ((Lit.int .i64 x.f0).wf = true) ∧ (W24 x.f1)
theorem o36 : Opens Try.prog k36 36 W36 := opens_iso (f := fun x : S36 => (x.f0, x.f1)) (fun p => ⟨p.1, p.2⟩) (fun _ => rfl) (opens_struct (tot := 3) Try.underlying36 rfl (by kernel_rfl) (opensF_cons (o := 0) (tot := 3) (k := 1) rfl (by kernel_rfl) (opens_int Try.underlying3) (opensF_last (o := 1) (tot := 3) (k := 2) rfl (by kernel_rfl) (by decide) o24)))
end Go.Proofs.Ytdbjoopkliafeaa.P

end
section
namespace Go.Proofs.Ytdbjoopkliafeaa.P
open Go Go.RowKit Go.Proofs.YtdbjoopkliafeaaW.PrintWords Go.Proofs.YtdbjoopkliafeaaW.PrintLast Go.Proofs.YtdbjoopkliafeaaW.PrintMore
attribute [local go_sem] max2_int min2_int max_two min_two max_three min_three max_four min_four max_five min_eight max_eight   -- for this text's walks alone
set_option linter.unusedVariables false
set_option linter.unusedSimpArgs false

def sawmillref10_Bounds.l0 : Nat → Int → Int → List (S49) → Int → Int → Option (Int × Int × Int × Int)
 | 0, _, _, _, _, _ => none
 | k + 1, x4, x66002000, x66002001, x66009000, x66009001 => if x4 < (x66002001.length : Int) then (if 0 ≤ x4 then ((sawmillref10_empty.f ((rd_T49 x66002001 x4).f0) ((rd_T49 x66002001 x4).f1)).bind fun t66010 => (if t66010 = true then (sawmillref10_Bounds.l0 k (wrap64 (x4 + 1)) x66002000 x66002001 x66009000 x66009001) else (sawmillref10_Bounds.l0 k (wrap64 (x4 + 1)) x66002000 x66002001 (mn x66009000 ((rd_T49 x66002001 x4).f0)) (mx x66009001 ((rd_T49 x66002001 x4).f1))))) else (none)) else (some (x66009000, x66009001, wrap64 (10 * x66002000), wrap64 (10 * (wrap64 (x66002000 + (x66002001.length : Int))))))
def sawmillref10_Bounds.f (k : Nat) (a0_0 : Int) (l0_1 : List (S49)) : Option (Int × Int × Int × Int) := (sawmillref10_Valid.f k a0_0 l0_1).bind fun bt66003 => (if (bt66003.2.length : Int) = 0 then (some (0, 0, 0, 0)) else (if 0 < (bt66003.2.length : Int) then (sawmillref10_Bounds.l0 k 0 bt66003.1 bt66003.2 ((rd_T49 bt66003.2 0).f0) ((rd_T49 bt66003.2 0).f1)) else (none)))
theorem sawmillref10_Bounds.mono_l : ∀ k, (∀ y0 y1 y2 y3 y4, LeO (sawmillref10_Bounds.l0 k y0 y1 y2 y3 y4) (sawmillref10_Bounds.l0 (k + 1) y0 y1 y2 y3 y4))
 | 0 => fun _ _ _ _ _ r h => by simp [sawmillref10_Bounds.l0] at h
 | k + 1 => by
  have ih0 := sawmillref10_Bounds.mono_l k
  ·intro y0 y1 y2 y3 y4
   unfold sawmillref10_Bounds.l0
   repeat' first
   | (with_reducible exact ih0 _ _ _ _ _)
   | (with_reducible exact sawmillref10_Valid.mono _ _ _)
   | (with_reducible exact LeO.refl _)
   | (with_reducible exact LeO.none _)
   | (with_reducible refine LeO.ite ?_ ?_)
   | (with_reducible refine LeO.bind ?_ (fun _ => ?_))
   | exact ih0 _ _ _ _ _
   | exact sawmillref10_Valid.mono _ _ _
   | exact LeO.none _
   | refine LeO.ite ?_ ?_
   | refine LeO.bind ?_ (fun _ => ?_)
theorem sawmillref10_Bounds.mono : ∀ a0 a1 k, LeO (sawmillref10_Bounds.f k a0 a1) (sawmillref10_Bounds.f (k + 1) a0 a1) := by
 intro a0 a1 k
 have ih0 := sawmillref10_Bounds.mono_l k
 unfold sawmillref10_Bounds.f
 repeat' first
   | (with_reducible exact ih0 _ _ _ _ _)
   | (with_reducible exact sawmillref10_Valid.mono _ _ _)
   | (with_reducible exact LeO.refl _)
   | (with_reducible exact LeO.none _)
   | (with_reducible refine LeO.ite ?_ ?_)
   | (with_reducible refine LeO.bind ?_ (fun _ => ?_))
   | exact ih0 _ _ _ _ _
   | exact sawmillref10_Valid.mono _ _ _
   | exact LeO.none _
   | refine LeO.ite ?_ ?_
   | refine LeO.bind ?_ (fun _ => ?_)
def sawmillref10_Bounds.T9 : Bool × List (List Nat × List Nat) := (true, [([], []), ([0], [0]), ([], []), ([2], [2]), ([], []), ([3, 4], [3, 4]), ([5], [5]), ([6], [6]), ([1, 7], [1, 7]), ([], []), ([9], [9]), ([], []), ([11], [11]), ([], []), ([12, 13], [12, 13]), ([14], [14]), ([15], [15]), ([10, 16], [10, 16]), ([8, 17], [8, 17]), ([18, 0, 1, 2, 3, 4, 5, 6, 7, 8, 9, 10, 11, 12, 13, 14, 15, 16, 17, 18], [18])])
def sawmillref10_Bounds.B9 : List Nat := [0, 1, 0, 4, 0, 28, 60, 124, 255, 0, 512, 0, 2048, 0, 14336, 30720, 63488, 130560, 262143, 524287]
theorem sawmillref10_Bounds.tab9 : rtab .any (opsOf Try.f66 9) = sawmillref10_Bounds.T9 := by kernel_rfl
theorem sawmillref10_Bounds.bits9 : waitsOk sawmillref10_Bounds.T9.2 sawmillref10_Bounds.B9 = true := by kernel_rfl
set_option maxHeartbeats 8000000 in
set_option maxRecDepth 100000 in
theorem sawmillref10_Bounds.calls (k : Nat) (a0_0 : Int) (A0_1 : Option Addr) (c0_1 : Nat) (l0_1 : List (S49)) (r1 : Int) (r2 : Int) (r3 : Int) (r4 : Int) (w : World) (hr0_1 : Kd.C k49 w A0_1 l0_1.length l0_1) (hc0_1 : l0_1.length ≤ c0_1) (h : sawmillref10_Bounds.f k a0_0 l0_1 = some (r1, r2, r3, r4)) :
  Calls Try.prog 66 #[.agg #[.int .i64 a0_0, .slice A0_1 l0_1.length c0_1]] w fun e w' => e = .returned (.agg #[.int .i64 r1, .int .i64 r2, .int .i64 r3, .int .i64 r4]) ∧ Below w.heap.size w w' := by
 have hu24 := Try.underlying24
 have hu54 := Try.underlying54
 have hu49 := Try.underlying49
 have HR0_1 := Aside0.mk hr0_1
 have HC0_1 := Aside0.mk hc0_1
 clear hr0_1 hc0_1
 have HB := Aside0.mk (Below.refl w.heap.size w)
 have H : ((sawmillref10_Valid.f k a0_0 l0_1).bind fun bt66003 => (if (bt66003.2.length : Int) = 0 then (some (0, 0, 0, 0)) else (if 0 < (bt66003.2.length : Int) then (sawmillref10_Bounds.l0 k 0 bt66003.1 bt66003.2 ((rd_T49 bt66003.2 0).f0) ((rd_T49 bt66003.2 0).f1)) else (none)))) = some (r1, r2, r3, r4) := h
 clear h
 replace H := Option.bind_eq_some_iff.mp H
 obtain ⟨⟨t66003, t66004⟩, A20, H⟩ := H
 replace H : (if (t66004.length : Int) = 0 then (some (0, 0, 0, 0)) else (if 0 < (t66004.length : Int) then (sawmillref10_Bounds.l0 k 0 t66003 t66004 ((rd_T49 t66004 0).f0) ((rd_T49 t66004 0).f1)) else (none))) = some (r1, r2, r3, r4) := H
 have A2 := Aside0.mk A20
 clear A20
 by_cases c3 : (t66004.length : Int) = 0
 ·rw [if_pos c3] at H
  have c3b0 : ((t66004.length : Int) == 0) = true := beq_iff_eq.mpr c3
  have c3b1 : ((t66004.length : Int) != 0) = false := bne_eq_false_iff_eq.mpr c3
  clear c3
  simp only [Option.some.injEq, Prod.mk.injEq] at H
  obtain ⟨rfl, rfl, rfl, rfl⟩ := H
  go_enter Try.func66, Try.ntmps66
  go_wp2_with (first | ((with_reducible refine gate_dst (N := 1) rfl ?_); refine box_event ?hg (N := 1) ?hd (cs := #[.int .i64 a0_0, .slice A0_1 l0_1.length c0_1]) (t := 24) ?hr ?_; (case hd => rfl); (case hg => rfl); (case hr => first | (go_simp; done) | (go_simp; rfl)); intro gb66001 hg w4 hbox hb; have n0_ := Aside0.mk (bs_ hb); have n1_ := Aside0.mk (hbox); have n2_ := Aside0.mk ((by rw [hg]; exact bz_ : w.heap.size ≤ gb66001)); have n3_ := Aside0.mk ((by rw [hg]; exact bz_ : w.heap.size ≤ gb66001)); clear HB; have HB := n0_; have BK66001 := n1_; have GW66001 := n2_; have GE66001 := n3_; clear n0_ n1_ n2_ n3_; clear hb hbox hg) | ((with_reducible refine gate_dst (N := 2) rfl ?_); refine box_event ?hg (N := 2) ?hd (cs := #[.int .i64 0, .int .i64 0, .int .i64 0, .int .i64 0]) (t := 54) ?hr ?_; (case hd => rfl); (case hg => rfl); (case hr => first | (go_simp; done) | (go_simp; rfl)); intro gb66002 hg w5 hbox hb; have n0_ := Aside0.mk (blk_below (g := gb66001) (o := .cells #[.int .i64 a0_0, .slice A0_1 l0_1.length c0_1] 24 (0, 0)) (fb_ BK66001.out) hb); have n1_ := Aside0.mk (bs_ hb); have n2_ := Aside0.mk (hbox); have n3_ := Aside0.mk ((by rw [hg]; exact bz_ : w.heap.size ≤ gb66002)); have n4_ := Aside0.mk ((by rw [hg]; exact bz_ : w.heap.size ≤ gb66002)); have n5_ := Aside0.mk ((by rw [hg]; exact Nat.ne_of_lt (blk_lt (g := gb66001) (o := .cells #[.int .i64 a0_0, .slice A0_1 l0_1.length c0_1] 24 (0, 0)) (fb_ BK66001.out)) : gb66001 ≠ gb66002)); have n6_ := Aside0.mk ((by rw [hg]; exact Nat.ne_of_gt (blk_lt (g := gb66001) (o := .cells #[.int .i64 a0_0, .slice A0_1 l0_1.length c0_1] 24 (0, 0)) (fb_ BK66001.out)) : gb66002 ≠ gb66001)); clear BK66001 HB; have BK66001 := n0_; have HB := n1_; have BK66002 := n2_; have GW66002 := n3_; have GE66002 := n4_; have NB66001_66002 := n5_; have NB66002_66001 := n6_; clear n0_ n1_ n2_ n3_ n4_ n5_ n6_ hb hbox hg; have hnb6 := NB66001_66002.out; have hnc6 := NB66002_66001.out; have hcz7_0 : w5.cell? ⟨gb66001, 0, none⟩ = some (.int .i64 a0_0) := (blk_cell BK66001.out 0).trans rfl; have hcz7_1 : w5.cell? ⟨gb66001, 1, none⟩ = some (.slice A0_1 l0_1.length c0_1) := (blk_cell BK66001.out 1).trans rfl; have hfz7_0 := blk_frozen BK66001.out 0; have hfz7_1 := blk_frozen BK66001.out 1) | ((with_reducible refine gate_callee (f := 64) rfl ?_); refine goesL_ (some 6) rfl rfl Try.func64 (by kernel_rfl) rfl #[.agg #[.int .i64 a0_0, .slice A0_1 l0_1.length c0_1]] rfl la_ ?_; (with_reducible refine (sawmillref10_Valid.calls k a0_0 (fun k_ => k_ < w.heap.size) _ _ l0_1 t66003 t66004 _ ?side1 A2.out).mono ?_); (case side1 => exact Kd.V_mk HC0_1.out (Kd.F_below (Kd.C_F k49_heap HR0_1.out) be_)); rintro e w8 ⟨v66005, rfl, ho0, hb⟩; refine ⟨_, rfl, ?_⟩; have n0_ := Aside0.mk (Kd.V_lower (Kd.V_mono (ok' := fun k_ => k_ ≠ gb66001 ∧ k_ ≠ gb66002) ho0 (fun k_ hk_ => ⟨Or.elim hk_ (fun hs_ => fun e_ => Nat.not_le.2 hs_ (by rw [e_]; exact GW66001.out)) (fun hn_ => (Kd.freshB (g := gb66001) (o := .cells #[.int .i64 a0_0, .slice A0_1 l0_1.length c0_1] 24 (0, 0)) (fb_ BK66001.out) k_ hn_)), Or.elim hk_ (fun hs_ => fun e_ => Nat.not_le.2 hs_ (by rw [e_]; exact GW66002.out)) (fun hn_ => (Kd.freshB (g := gb66002) (o := .cells #[.int .i64 0, .int .i64 0, .int .i64 0, .int .i64 0] 54 (0, 0)) (fb_ BK66002.out) k_ hn_))⟩)) bz_); have n1_ := Aside0.mk (blk_below (g := gb66001) (o := .cells #[.int .i64 a0_0, .slice A0_1 l0_1.length c0_1] 24 (0, 0)) (fb_ BK66001.out) hb); have n2_ := Aside0.mk (blk_below (g := gb66002) (o := .cells #[.int .i64 0, .int .i64 0, .int .i64 0, .int .i64 0] 54 (0, 0)) (fb_ BK66002.out) hb); have n3_ := Aside0.mk (bs_ hb); clear BK66001 BK66002 HB; have HO66006 := n0_; have BK66001 := n1_; have BK66002 := n2_; have HB := n3_; clear n0_ n1_ n2_ n3_; (try clear hb); (try clear hb2); (try clear hk); (try clear hi); (try clear ho0); have hcz9_0 : w8.cell? ⟨gb66001, 0, none⟩ = some (.int .i64 a0_0) := (blk_cell BK66001.out 0).trans rfl; have hcz9_1 : w8.cell? ⟨gb66001, 1, none⟩ = some (.slice A0_1 l0_1.length c0_1) := (blk_cell BK66001.out 1).trans rfl; have hfz9_0 := blk_frozen BK66001.out 0; have hfz9_1 := blk_frozen BK66001.out 1; obtain ⟨Ao10, co10, eo10⟩ := Kd.V_slice HO66006.out; subst eo10; have hcz11_0 : w8.cell? ⟨gb66002, 0, none⟩ = some (.int .i64 0) := (blk_cell BK66002.out 0).trans rfl; have hcz11_1 : w8.cell? ⟨gb66002, 1, none⟩ = some (.int .i64 0) := (blk_cell BK66002.out 1).trans rfl; have hcz11_2 : w8.cell? ⟨gb66002, 2, none⟩ = some (.int .i64 0) := (blk_cell BK66002.out 2).trans rfl; have hcz11_3 : w8.cell? ⟨gb66002, 3, none⟩ = some (.int .i64 0) := (blk_cell BK66002.out 3).trans rfl; have hfz11_0 := blk_frozen BK66002.out 0; have hfz11_1 := blk_frozen BK66002.out 1; have hfz11_2 := blk_frozen BK66002.out 2; have hfz11_3 := blk_frozen BK66002.out 3))
  refine bodyPost_ret (results_cell_row rfl _ _ gb66002 54 #[.int .i64 0, .int .i64 0, .int .i64 0, .int .i64 0] (0, 0) _ rfl (by (with_reducible repeat (first | refine blk_drewN ?_ _ | refine blk_drew ?_ | refine blk_alloc ?_ _)); refine blk_put (cs := #[.int .i64 0, .int .i64 0, .int .i64 0, .int .i64 0]) ?_ 3 _ rfl; (with_reducible repeat (first | refine blk_drewN ?_ _ | refine blk_drew ?_ | refine blk_alloc ?_ _)); refine blk_put (cs := #[.int .i64 0, .int .i64 0, .int .i64 0, .int .i64 0]) ?_ 2 _ rfl; (with_reducible repeat (first | refine blk_drewN ?_ _ | refine blk_drew ?_ | refine blk_alloc ?_ _)); refine blk_put (cs := #[.int .i64 0, .int .i64 0, .int .i64 0, .int .i64 0]) ?_ 1 _ rfl; (with_reducible repeat (first | refine blk_drewN ?_ _ | refine blk_drew ?_ | refine blk_alloc ?_ _)); refine blk_put (cs := #[.int .i64 0, .int .i64 0, .int .i64 0, .int .i64 0]) ?_ 0 _ rfl; (with_reducible repeat (first | refine blk_drewN ?_ _ | refine blk_drew ?_ | refine blk_alloc ?_ _)); refine blk_far ?_ NB66002_66001.out _; (with_reducible repeat (first | refine blk_drewN ?_ _ | refine blk_drew ?_ | refine blk_alloc ?_ _)); refine blk_far ?_ NB66002_66001.out _; (with_reducible repeat (first | refine blk_drewN ?_ _ | refine blk_drew ?_ | refine blk_alloc ?_ _)); exact BK66002.out) Try.underlying54 rfl (by kernel_rfl)) rfl ?_
  exact ⟨er_, be_⟩
 ·rw [if_neg c3] at H
  have c3b0 : ((t66004.length : Int) == 0) = false := beq_eq_false_iff_ne.mpr c3
  have c3b1 : ((t66004.length : Int) != 0) = true := bne_iff_ne.mpr c3
  have c3b2 : ¬ (t66004 = []) := fun h_ => c3 (by rw [h_]; rfl)
  by_cases c12 : 0 < (t66004.length : Int)
  ·rw [if_pos c12] at H
   have c12b0 : decide (0 < (t66004.length : Int)) = true := decide_eq_true c12
   have c12b1 : decide (0 < t66004.length) = true := decide_eq_true (by omega)
   clear c12
   have H' := Aside0.mk H
   clear H
   go_enter Try.func66, Try.ntmps66
   go_wp2_with (first | ((with_reducible refine gate_dst (N := 1) rfl ?_); refine box_event ?hg (N := 1) ?hd (cs := #[.int .i64 a0_0, .slice A0_1 l0_1.length c0_1]) (t := 24) ?hr ?_; (case hd => rfl); (case hg => rfl); (case hr => first | (go_simp; done) | (go_simp; rfl)); intro gb66001 hg w13 hbox hb; have n0_ := Aside0.mk (bs_ hb); have n1_ := Aside0.mk (hbox); have n2_ := Aside0.mk ((by rw [hg]; exact bz_ : w.heap.size ≤ gb66001)); have n3_ := Aside0.mk ((by rw [hg]; exact bz_ : w.heap.size ≤ gb66001)); clear HB; have HB := n0_; have BK66001 := n1_; have GW66001 := n2_; have GE66001 := n3_; clear n0_ n1_ n2_ n3_; clear hb hbox hg) | ((with_reducible refine gate_dst (N := 2) rfl ?_); refine box_event ?hg (N := 2) ?hd (cs := #[.int .i64 0, .int .i64 0, .int .i64 0, .int .i64 0]) (t := 54) ?hr ?_; (case hd => rfl); (case hg => rfl); (case hr => first | (go_simp; done) | (go_simp; rfl)); intro gb66002 hg w14 hbox hb; have n0_ := Aside0.mk (blk_below (g := gb66001) (o := .cells #[.int .i64 a0_0, .slice A0_1 l0_1.length c0_1] 24 (0, 0)) (fb_ BK66001.out) hb); have n1_ := Aside0.mk (bs_ hb); have n2_ := Aside0.mk (hbox); have n3_ := Aside0.mk ((by rw [hg]; exact bz_ : w.heap.size ≤ gb66002)); have n4_ := Aside0.mk ((by rw [hg]; exact bz_ : w.heap.size ≤ gb66002)); have n5_ := Aside0.mk ((by rw [hg]; exact Nat.ne_of_lt (blk_lt (g := gb66001) (o := .cells #[.int .i64 a0_0, .slice A0_1 l0_1.length c0_1] 24 (0, 0)) (fb_ BK66001.out)) : gb66001 ≠ gb66002)); have n6_ := Aside0.mk ((by rw [hg]; exact Nat.ne_of_gt (blk_lt (g := gb66001) (o := .cells #[.int .i64 a0_0, .slice A0_1 l0_1.length c0_1] 24 (0, 0)) (fb_ BK66001.out)) : gb66002 ≠ gb66001)); clear BK66001 HB; have BK66001 := n0_; have HB := n1_; have BK66002 := n2_; have GW66002 := n3_; have GE66002 := n4_; have NB66001_66002 := n5_; have NB66002_66001 := n6_; clear n0_ n1_ n2_ n3_ n4_ n5_ n6_ hb hbox hg; have hnb15 := NB66001_66002.out; have hnc15 := NB66002_66001.out; have hcz16_0 : w14.cell? ⟨gb66001, 0, none⟩ = some (.int .i64 a0_0) := (blk_cell BK66001.out 0).trans rfl; have hcz16_1 : w14.cell? ⟨gb66001, 1, none⟩ = some (.slice A0_1 l0_1.length c0_1) := (blk_cell BK66001.out 1).trans rfl; have hfz16_0 := blk_frozen BK66001.out 0; have hfz16_1 := blk_frozen BK66001.out 1) | ((with_reducible refine gate_callee (f := 64) rfl ?_); refine goesL_ (some 6) rfl rfl Try.func64 (by kernel_rfl) rfl #[.agg #[.int .i64 a0_0, .slice A0_1 l0_1.length c0_1]] rfl la_ ?_; (with_reducible refine (sawmillref10_Valid.calls k a0_0 (fun k_ => k_ < w.heap.size) _ _ l0_1 t66003 t66004 _ ?side1 A2.out).mono ?_); (case side1 => exact Kd.V_mk HC0_1.out (Kd.F_below (Kd.C_F k49_heap HR0_1.out) be_)); rintro e w17 ⟨v66005, rfl, ho0, hb⟩; refine ⟨_, rfl, ?_⟩; have n0_ := Aside0.mk (Kd.V_lower (Kd.V_mono (ok' := fun k_ => k_ ≠ gb66001 ∧ k_ ≠ gb66002) ho0 (fun k_ hk_ => ⟨Or.elim hk_ (fun hs_ => fun e_ => Nat.not_le.2 hs_ (by rw [e_]; exact GW66001.out)) (fun hn_ => (Kd.freshB (g := gb66001) (o := .cells #[.int .i64 a0_0, .slice A0_1 l0_1.length c0_1] 24 (0, 0)) (fb_ BK66001.out) k_ hn_)), Or.elim hk_ (fun hs_ => fun e_ => Nat.not_le.2 hs_ (by rw [e_]; exact GW66002.out)) (fun hn_ => (Kd.freshB (g := gb66002) (o := .cells #[.int .i64 0, .int .i64 0, .int .i64 0, .int .i64 0] 54 (0, 0)) (fb_ BK66002.out) k_ hn_))⟩)) bz_); have n1_ := Aside0.mk (blk_below (g := gb66001) (o := .cells #[.int .i64 a0_0, .slice A0_1 l0_1.length c0_1] 24 (0, 0)) (fb_ BK66001.out) hb); have n2_ := Aside0.mk (blk_below (g := gb66002) (o := .cells #[.int .i64 0, .int .i64 0, .int .i64 0, .int .i64 0] 54 (0, 0)) (fb_ BK66002.out) hb); have n3_ := Aside0.mk (bs_ hb); clear BK66001 BK66002 HB; have HO66006 := n0_; have BK66001 := n1_; have BK66002 := n2_; have HB := n3_; clear n0_ n1_ n2_ n3_; (try clear hb); (try clear hb2); (try clear hk); (try clear hi); (try clear ho0); have hcz18_0 : w17.cell? ⟨gb66001, 0, none⟩ = some (.int .i64 a0_0) := (blk_cell BK66001.out 0).trans rfl; have hcz18_1 : w17.cell? ⟨gb66001, 1, none⟩ = some (.slice A0_1 l0_1.length c0_1) := (blk_cell BK66001.out 1).trans rfl; have hfz18_0 := blk_frozen BK66001.out 0; have hfz18_1 := blk_frozen BK66001.out 1; obtain ⟨Ao19, co19, eo19⟩ := Kd.V_slice HO66006.out; subst eo19; have p66007 : 0 ≤ (0 : Int) := (by omega); have q66007 : 0 < (t66004.length : Int) := of_decide_eq_true (by first | (with_reducible assumption) | assumption); obtain ⟨ad66007, e66007, hx66007_0, hx66007_1⟩ := at_T49 (Kd.V_reads' HO66006.out).2.2 0 p66007 q66007; cases e66007; have qi66007 : (0 < t66004.length) = True := eq_true (by omega); (try rw [show ((0 : Int)).toNat = 0 from rfl] at hx66007_0); (try rw [show 0 * 2 = 0 from rfl] at hx66007_0); (try rw [Addr.add_zero'] at hx66007_0); (try rw [show ((0 : Int)).toNat = 0 from rfl] at hx66007_1); (try rw [show 0 * 2 = 0 from rfl] at hx66007_1); (try rw [Addr.add_zero'] at hx66007_1); have hn66007_0 : ad66007.block ≠ gb66001 := (by have z_ := (Kd.F_in (Kd.V_F HO66006.out) rfl (by omega) (by decide)); first | exact z_ | exact z_.1 | exact z_.2 | exact z_.1.1 | exact z_.1.2 | exact z_.2.1 | exact z_.2.2 | exact z_.1.1.1 | exact z_.1.1.2 | exact z_.2.2.1 | exact z_.2.2.2); have hn66007_1 : ad66007.block ≠ gb66001 := (by have z_ := (Kd.F_in (Kd.V_F HO66006.out) rfl (by omega) (by decide)); first | exact z_ | exact z_.1 | exact z_.2 | exact z_.1.1 | exact z_.1.2 | exact z_.2.1 | exact z_.2.2 | exact z_.1.1.1 | exact z_.1.1.2 | exact z_.2.2.1 | exact z_.2.2.2); replace hx66007_0 := (cell_far (p := ⟨gb66001, 0, none⟩) (by first | (rw [add_block]; exact hn66007_0) | (show (Addr.add _ _).block ≠ _; rw [add_block]; exact hn66007_0) | exact hn66007_0) (.int .i64 t66003)).trans hx66007_0; replace hx66007_1 := (cell_far (p := ⟨gb66001, 0, none⟩) (by first | (rw [add_block]; exact hn66007_0) | (show (Addr.add _ _).block ≠ _; rw [add_block]; exact hn66007_0) | exact hn66007_0) (.int .i64 t66003)).trans hx66007_1; replace hx66007_0 := (cell_far (p := ⟨gb66001, 1, none⟩) (by first | (rw [add_block]; exact hn66007_1) | (show (Addr.add _ _).block ≠ _; rw [add_block]; exact hn66007_1) | exact hn66007_1) (.slice (some ad66007) t66004.length co19)).trans hx66007_0; replace hx66007_1 := (cell_far (p := ⟨gb66001, 1, none⟩) (by first | (rw [add_block]; exact hn66007_1) | (show (Addr.add _ _).block ≠ _; rw [add_block]; exact hn66007_1) | exact hn66007_1) (.slice (some ad66007) t66004.length co19)).trans hx66007_1; clear hn66007_0 hn66007_1; replace p66007 := eq_true p66007; replace q66007 := eq_true q66007) | ((with_reducible refine gate_dst (N := 3) rfl ?_); refine box_event ?hg (N := 3) ?hd (cs := #[.int .i64 0, .int .i64 0]) (t := 49) ?hr ?_; (case hd => rfl); (case hg => rfl); (case hr => first | (go_simp; done) | (go_simp; rfl)); intro gb66008 hg w20 hbox hb; have n0_ := Aside0.mk (Kd.V_below (Kd.V_elderB (by (with_reducible repeat (first | apply Kd.V_alloc | apply Kd.V_drewN | apply Kd.V_drew)); exact (Kd.V_mono (Kd.V_far (p := ⟨gb66001, 1, none⟩) (Kd.V_far (p := ⟨gb66001, 0, none⟩) (Kd.V_mono HO66006.out (fun k_ hk => (⟨hk, hk.1⟩ : _ ∧ k_ ≠ gb66001))) (fun _ hk => hk.2) (.int .i64 t66003)) (fun _ hk => hk.2) (.slice (some ad66007) t66004.length co19)) (fun _ h_ => h_.1))) gb66008 (Nat.le_of_eq hg.symm)) hb); have n1_ := Aside0.mk (blk_below (g := gb66001) (o := .cells #[.int .i64 t66003, .slice (some ad66007) t66004.length co19] 24 (0, 0)) (by (with_reducible repeat (first | refine blk_drewN ?_ _ | refine blk_drew ?_ | refine blk_alloc ?_ _)); refine blk_put (cs := #[.int .i64 t66003, .slice A0_1 l0_1.length c0_1]) ?_ 1 _ rfl; (with_reducible repeat (first | refine blk_drewN ?_ _ | refine blk_drew ?_ | refine blk_alloc ?_ _)); refine blk_put (cs := #[.int .i64 a0_0, .slice A0_1 l0_1.length c0_1]) ?_ 0 _ rfl; (with_reducible repeat (first | refine blk_drewN ?_ _ | refine blk_drew ?_ | refine blk_alloc ?_ _)); exact BK66001.out) hb); have n2_ := Aside0.mk (blk_below (g := gb66002) (o := .cells #[.int .i64 0, .int .i64 0, .int .i64 0, .int .i64 0] 54 (0, 0)) (by (with_reducible repeat (first | refine blk_drewN ?_ _ | refine blk_drew ?_ | refine blk_alloc ?_ _)); refine blk_far ?_ NB66002_66001.out _; (with_reducible repeat (first | refine blk_drewN ?_ _ | refine blk_drew ?_ | refine blk_alloc ?_ _)); refine blk_far ?_ NB66002_66001.out _; (with_reducible repeat (first | refine blk_drewN ?_ _ | refine blk_drew ?_ | refine blk_alloc ?_ _)); exact BK66002.out) hb); have n3_ := Aside0.mk (bs_ hb); have n4_ := Aside0.mk (hbox); have n5_ := Aside0.mk ((by rw [hg]; exact bz_ : w.heap.size ≤ gb66008)); have n6_ := Aside0.mk ((by rw [hg]; exact bz_ : w.heap.size ≤ gb66008)); have n7_ := Aside0.mk ((by rw [hg]; exact Nat.ne_of_lt (blk_lt (g := gb66001) (o := .cells #[.int .i64 t66003, .slice (some ad66007) t66004.length co19] 24 (0, 0)) (by (with_reducible repeat (first | refine blk_drewN ?_ _ | refine blk_drew ?_ | refine blk_alloc ?_ _)); refine blk_put (cs := #[.int .i64 t66003, .slice A0_1 l0_1.length c0_1]) ?_ 1 _ rfl; (with_reducible repeat (first | refine blk_drewN ?_ _ | refine blk_drew ?_ | refine blk_alloc ?_ _)); refine blk_put (cs := #[.int .i64 a0_0, .slice A0_1 l0_1.length c0_1]) ?_ 0 _ rfl; (with_reducible repeat (first | refine blk_drewN ?_ _ | refine blk_drew ?_ | refine blk_alloc ?_ _)); exact BK66001.out)) : gb66001 ≠ gb66008)); have n8_ := Aside0.mk ((by rw [hg]; exact Nat.ne_of_gt (blk_lt (g := gb66001) (o := .cells #[.int .i64 t66003, .slice (some ad66007) t66004.length co19] 24 (0, 0)) (by (with_reducible repeat (first | refine blk_drewN ?_ _ | refine blk_drew ?_ | refine blk_alloc ?_ _)); refine blk_put (cs := #[.int .i64 t66003, .slice A0_1 l0_1.length c0_1]) ?_ 1 _ rfl; (with_reducible repeat (first | refine blk_drewN ?_ _ | refine blk_drew ?_ | refine blk_alloc ?_ _)); refine blk_put (cs := #[.int .i64 a0_0, .slice A0_1 l0_1.length c0_1]) ?_ 0 _ rfl; (with_reducible repeat (first | refine blk_drewN ?_ _ | refine blk_drew ?_ | refine blk_alloc ?_ _)); exact BK66001.out)) : gb66008 ≠ gb66001)); have n9_ := Aside0.mk ((by rw [hg]; exact Nat.ne_of_lt (blk_lt (g := gb66002) (o := .cells #[.int .i64 0, .int .i64 0, .int .i64 0, .int .i64 0] 54 (0, 0)) (by (with_reducible repeat (first | refine blk_drewN ?_ _ | refine blk_drew ?_ | refine blk_alloc ?_ _)); refine blk_far ?_ NB66002_66001.out _; (with_reducible repeat (first | refine blk_drewN ?_ _ | refine blk_drew ?_ | refine blk_alloc ?_ _)); refine blk_far ?_ NB66002_66001.out _; (with_reducible repeat (first | refine blk_drewN ?_ _ | refine blk_drew ?_ | refine blk_alloc ?_ _)); exact BK66002.out)) : gb66002 ≠ gb66008)); have n10_ := Aside0.mk ((by rw [hg]; exact Nat.ne_of_gt (blk_lt (g := gb66002) (o := .cells #[.int .i64 0, .int .i64 0, .int .i64 0, .int .i64 0] 54 (0, 0)) (by (with_reducible repeat (first | refine blk_drewN ?_ _ | refine blk_drew ?_ | refine blk_alloc ?_ _)); refine blk_far ?_ NB66002_66001.out _; (with_reducible repeat (first | refine blk_drewN ?_ _ | refine blk_drew ?_ | refine blk_alloc ?_ _)); refine blk_far ?_ NB66002_66001.out _; (with_reducible repeat (first | refine blk_drewN ?_ _ | refine blk_drew ?_ | refine blk_alloc ?_ _)); exact BK66002.out)) : gb66008 ≠ gb66002)); clear HO66006 BK66001 BK66002 HB; have HO66006 := n0_; have BK66001 := n1_; have BK66002 := n2_; have HB := n3_; have BK66008 := n4_; have GW66008 := n5_; have GE66008 := n6_; have NB66001_66008 := n7_; have NB66008_66001 := n8_; have NB66002_66008 := n9_; have NB66008_66002 := n10_; clear n0_ n1_ n2_ n3_ n4_ n5_ n6_ n7_ n8_ n9_ n10_ hb hbox hg; have hnb21 := NB66008_66001.out; have hnc21 := NB66001_66008.out; have hnb22 := NB66008_66002.out; have hnc22 := NB66002_66008.out; have hcz23_0 : w20.cell? ⟨gb66008, 0, none⟩ = some (.int .i64 0) := (blk_cell BK66008.out 0).trans rfl; have hcz23_1 : w20.cell? ⟨gb66008, 1, none⟩ = some (.int .i64 0) := (blk_cell BK66008.out 1).trans rfl; have hfz23_0 := blk_frozen BK66008.out 0; have hfz23_1 := blk_frozen BK66008.out 1))
   go_loopg [4] k (fun kq v4 w' => ∃ (x4_1 : Int) (x66009000_1 : Int) (x66009001_1 : Int), v4 = .int .i64 x4_1 ∧ Aside0 (sawmillref10_Bounds.l0 kq x4_1 t66003 t66004 x66009000_1 x66009001_1 = some (r1, r2, r3, r4)) ∧ Aside0 (kq ≤ k) ∧ Aside0 (Kd.V k49 49 w' w.heap.size (fun k_ => k_ ≠ gb66001 ∧ k_ ≠ gb66002 ∧ k_ ≠ gb66008) (.slice (some ad66007) t66004.length co19) t66004) ∧ Aside0 (w'.heap[gb66001]? = some (.cells #[.int .i64 t66003, (.slice (some ad66007) t66004.length co19)] 24 (0, 0))) ∧ Aside0 (w'.heap[gb66002]? = some (.cells #[.int .i64 0, .int .i64 0, .int .i64 0, .int .i64 0] 54 (0, 0))) ∧ Aside0 (w'.heap[gb66008]? = some (.cells #[.int .i64 x66009000_1, .int .i64 x66009001_1] 49 (0, 0))) ∧ Aside0 (Below w.heap.size w w'))
   case atStart => exact ⟨(0), ((rd_T49 t66004 0).f0), ((rd_T49 t66004 0).f1), (by first | rfl | (simp; done) | (simp [*]; done)), H', ⟨Nat.le_refl _⟩, ⟨by (with_reducible repeat (first | apply Kd.V_alloc | apply Kd.V_drewN | apply Kd.V_drew)); exact Kd.V_mono (Kd.V_far (p := ⟨gb66008, 1, none⟩) (Kd.V_far (p := ⟨gb66008, 0, none⟩) (Kd.V_mono HO66006.out (fun k_ hk => (⟨hk, hk.2⟩ : _ ∧ k_ ≠ gb66008))) (fun _ hk => hk.2) (.int .i64 ((rd_T49 t66004 0).f0))) (fun _ hk => hk.2) (.int .i64 ((rd_T49 t66004 0).f1))) (fun _ hk => ⟨hk.1.1.1, ⟨hk.1.1.2, hk.1.2⟩⟩)⟩, ⟨by (with_reducible repeat (first | refine blk_drewN ?_ _ | refine blk_drew ?_ | refine blk_alloc ?_ _)); refine blk_far ?_ NB66001_66008.out _; (with_reducible repeat (first | refine blk_drewN ?_ _ | refine blk_drew ?_ | refine blk_alloc ?_ _)); refine blk_far ?_ NB66001_66008.out _; (with_reducible repeat (first | refine blk_drewN ?_ _ | refine blk_drew ?_ | refine blk_alloc ?_ _)); exact BK66001.out⟩, ⟨by (with_reducible repeat (first | refine blk_drewN ?_ _ | refine blk_drew ?_ | refine blk_alloc ?_ _)); refine blk_far ?_ NB66002_66008.out _; (with_reducible repeat (first | refine blk_drewN ?_ _ | refine blk_drew ?_ | refine blk_alloc ?_ _)); refine blk_far ?_ NB66002_66008.out _; (with_reducible repeat (first | refine blk_drewN ?_ _ | refine blk_drew ?_ | refine blk_alloc ?_ _)); exact BK66002.out⟩, ⟨by (with_reducible repeat (first | refine blk_drewN ?_ _ | refine blk_drew ?_ | refine blk_alloc ?_ _)); refine blk_put (cs := #[.int .i64 ((rd_T49 t66004 0).f0), .int .i64 0]) ?_ 1 _ rfl; (with_reducible repeat (first | refine blk_drewN ?_ _ | refine blk_drew ?_ | refine blk_alloc ?_ _)); refine blk_put (cs := #[.int .i64 0, .int .i64 0]) ?_ 0 _ rfl; (with_reducible repeat (first | refine blk_drewN ?_ _ | refine blk_drew ?_ | refine blk_alloc ?_ _)); exact BK66008.out⟩, ⟨be_⟩⟩
   case round =>
    clear H'
    try clear c1
    try clear c2
    try clear p2
    try clear c3
    try clear c3b0
    try clear c3b1
    try clear c3b2
    try clear c6
    try clear p6
    try clear q6
    try clear hx6
    try clear qi6
    try clear c12
    try clear c12b0
    try clear c12b1
    try clear c15
    try clear c21
    try clear c22
    try clear hcz11_0
    try clear hcz11_1
    try clear hcz11_2
    try clear hcz11_3
    try clear hcz16_0
    try clear hcz16_1
    try clear hcz18_0
    try clear hcz18_1
    try clear hcz23_0
    try clear hcz23_1
    try clear hcz7_0
    try clear hcz7_1
    try clear hcz9_0
    try clear hcz9_1
    try clear hfz11_0
    try clear hfz11_1
    try clear hfz11_2
    try clear hfz11_3
    try clear hfz16_0
    try clear hfz16_1
    try clear hfz18_0
    try clear hfz18_1
    try clear hfz23_0
    try clear hfz23_1
    try clear hfz7_0
    try clear hfz7_1
    try clear hfz9_0
    try clear hfz9_1
    try clear hx66007_0
    try clear hx66007_1
    try clear p66007
    try clear q66007
    obtain ⟨x4_1, x66009000_1, x66009001_1, rfl, HA, HK1, HO_66002001, BK66001, BK66002, BK66008, HB⟩ := hrel
    cases gk with
    | zero => exact absurd HA.out (by simp [sawmillref10_Bounds.l0])
    | succ k1 =>
     have H := HA.out
     clear HA
     simp only [sawmillref10_Bounds.l0] at H
     by_cases c24 : x4_1 < (t66004.length : Int)
     ·rw [if_pos c24] at H
      have c24b0 : decide (x4_1 < (t66004.length : Int)) = true := decide_eq_true c24
      clear c24
      by_cases c25 : 0 ≤ x4_1
      ·rw [if_pos c25] at H
       have c25b0 : decide (0 ≤ x4_1) = true := decide_eq_true c25
       clear c25
       replace H := Option.bind_eq_some_iff.mp H
       obtain ⟨t66010, A260, H⟩ := H
       replace H : (if t66010 = true then (sawmillref10_Bounds.l0 k1 (wrap64 (x4_1 + 1)) t66003 t66004 x66009000_1 x66009001_1) else (sawmillref10_Bounds.l0 k1 (wrap64 (x4_1 + 1)) t66003 t66004 (mn x66009000_1 ((rd_T49 t66004 x4_1).f0)) (mx x66009001_1 ((rd_T49 t66004 x4_1).f1)))) = some (r1, r2, r3, r4) := H
       have A26 := Aside0.mk A260
       clear A260
       by_cases c27 : t66010 = true
       ·subst c27
        have H1 : (sawmillref10_Bounds.l0 k1 (wrap64 (x4_1 + 1)) t66003 t66004 x66009000_1 x66009001_1) = some (r1, r2, r3, r4) := by rw [if_pos rfl] at H; exact H
        clear H
        have H := H1
        clear H1
        have H' := Aside0.mk H
        clear H
        have hnb28 := NB66001_66002.out
        have hnc28 := NB66002_66001.out
        have hnb29 := NB66001_66008.out
        have hnc29 := NB66008_66001.out
        have hcz30_0 : wr.cell? ⟨gb66001, 0, none⟩ = some (.int .i64 t66003) := (blk_cell BK66001.out 0).trans rfl
        have hcz30_1 : wr.cell? ⟨gb66001, 1, none⟩ = some (.slice (some ad66007) t66004.length co19) := (blk_cell BK66001.out 1).trans rfl
        have hfz30_0 := blk_frozen BK66001.out 0
        have hfz30_1 := blk_frozen BK66001.out 1
        have p66009 : 0 ≤ (x4_1 : Int) := of_decide_eq_true (by first | (with_reducible assumption) | assumption)
        have q66009 : x4_1 < (t66004.length : Int) := of_decide_eq_true (by first | (with_reducible assumption) | assumption)
        obtain ⟨ad66009, e66009, hx66009_0, hx66009_1⟩ := at_T49 (Kd.V_reads' HO_66002001.out).2.2 x4_1 p66009 q66009
        obtain rfl : ad66007 = ad66009 := (by injection e66009)
        replace p66009 := eq_true p66009
        replace q66009 := eq_true q66009
        go_wp2_with (first | ((with_reducible refine gate_callee (f := 63) rfl ?_); refine goesL_ (some 28) rfl rfl Try.func63 (by kernel_rfl) rfl #[.agg #[.int .i64 ((rd_T49 t66004 x4_1).f0), .int .i64 ((rd_T49 t66004 x4_1).f1)]] rfl la_ ?_; (with_reducible refine (sawmillref10_empty.calls ((rd_T49 t66004 x4_1).f0) ((rd_T49 t66004 x4_1).f1) true _ A26.out).mono ?_); rintro e w31 ⟨rfl, hb⟩; refine ⟨_, rfl, ?_⟩; have n0_ := Aside0.mk (Kd.V_below (fV_ HO_66002001.out) hb); have n1_ := Aside0.mk (blk_below (g := gb66001) (o := .cells #[.int .i64 t66003, .slice (some ad66007) t66004.length co19] 24 (0, 0)) (fb_ BK66001.out) hb); have n2_ := Aside0.mk (blk_below (g := gb66002) (o := .cells #[.int .i64 0, .int .i64 0, .int .i64 0, .int .i64 0] 54 (0, 0)) (fb_ BK66002.out) hb); have n3_ := Aside0.mk (blk_below (g := gb66008) (o := .cells #[.int .i64 x66009000_1, .int .i64 x66009001_1] 49 (0, 0)) (fb_ BK66008.out) hb); have n4_ := Aside0.mk (bs_ hb); clear HO_66002001 BK66001 BK66002 BK66008 HB; have HO_66002001 := n0_; have BK66001 := n1_; have BK66002 := n2_; have BK66008 := n3_; have HB := n4_; clear n0_ n1_ n2_ n3_ n4_; (try clear hb); (try clear hb2); (try clear hk); (try clear hi)))
        go_roundg k1
        case measure => have := HK1.out; omega
        case rel => exact ⟨(wrap64 (x4_1 + 1)), (x66009000_1), (x66009001_1), (by first | rfl | (simp; done) | (simp [*]; done)), H', ⟨by have := HK1.out; omega⟩, ⟨fV_ HO_66002001.out⟩, ⟨fb_ BK66001.out⟩, ⟨fb_ BK66002.out⟩, ⟨fb_ BK66008.out⟩, ⟨be_⟩⟩
       ·replace c27 := Bool.eq_false_iff.mpr c27
        subst c27
        have H1 : (sawmillref10_Bounds.l0 k1 (wrap64 (x4_1 + 1)) t66003 t66004 (mn x66009000_1 ((rd_T49 t66004 x4_1).f0)) (mx x66009001_1 ((rd_T49 t66004 x4_1).f1))) = some (r1, r2, r3, r4) := by rw [if_neg (show ¬ (false = true) by decide)] at H; exact H
        clear H
        have H := H1
        clear H1
        obtain ⟨ji32, hji32⟩ : ∃ j_ : Int, (mn x66009000_1 ((rd_T49 t66004 x4_1).f0)) = j_ := ⟨_, rfl⟩
        replace H : (sawmillref10_Bounds.l0 k1 (wrap64 (x4_1 + 1)) t66003 t66004 ji32 (mx x66009001_1 ((rd_T49 t66004 x4_1).f1))) = some (r1, r2, r3, r4) := by first | (rw [hji32] at H; exact H) | (simp only [hji32] at H ⊢; exact H)
        (try rw [hji32] at A26)
        have hji32_ : (if ((rd_T49 t66004 x4_1).f0) < x66009000_1 then ((rd_T49 t66004 x4_1).f0) else x66009000_1) = ji32 := hji32
        obtain ⟨ji33, hji33⟩ : ∃ j_ : Int, (mx x66009001_1 ((rd_T49 t66004 x4_1).f1)) = j_ := ⟨_, rfl⟩
        replace H : (sawmillref10_Bounds.l0 k1 (wrap64 (x4_1 + 1)) t66003 t66004 ji32 ji33) = some (r1, r2, r3, r4) := by first | (rw [hji33] at H; exact H) | (simp only [hji33] at H ⊢; exact H)
        (try rw [hji33] at A26)
        have hji33_ : (if x66009001_1 < ((rd_T49 t66004 x4_1).f1) then ((rd_T49 t66004 x4_1).f1) else x66009001_1) = ji33 := hji33
        have H' := Aside0.mk H
        clear H
        have hnb34 := NB66001_66002.out
        have hnc34 := NB66002_66001.out
        have hnb35 := NB66001_66008.out
        have hnc35 := NB66008_66001.out
        have hcz36_0 : wr.cell? ⟨gb66001, 0, none⟩ = some (.int .i64 t66003) := (blk_cell BK66001.out 0).trans rfl
        have hcz36_1 : wr.cell? ⟨gb66001, 1, none⟩ = some (.slice (some ad66007) t66004.length co19) := (blk_cell BK66001.out 1).trans rfl
        have hfz36_0 := blk_frozen BK66001.out 0
        have hfz36_1 := blk_frozen BK66001.out 1
        have p66009 : 0 ≤ (x4_1 : Int) := of_decide_eq_true (by first | (with_reducible assumption) | assumption)
        have q66009 : x4_1 < (t66004.length : Int) := of_decide_eq_true (by first | (with_reducible assumption) | assumption)
        obtain ⟨ad66009, e66009, hx66009_0, hx66009_1⟩ := at_T49 (Kd.V_reads' HO_66002001.out).2.2 x4_1 p66009 q66009
        obtain rfl : ad66007 = ad66009 := (by injection e66009)
        replace p66009 := eq_true p66009
        replace q66009 := eq_true q66009
        try go_wp2_with (first | ((with_reducible refine gate_callee (f := 63) rfl ?_); refine goesL_ (some 28) rfl rfl Try.func63 (by kernel_rfl) rfl #[.agg #[.int .i64 ((rd_T49 t66004 x4_1).f0), .int .i64 ((rd_T49 t66004 x4_1).f1)]] rfl la_ ?_; (with_reducible refine (sawmillref10_empty.calls ((rd_T49 t66004 x4_1).f0) ((rd_T49 t66004 x4_1).f1) false _ A26.out).mono ?_); rintro e w37 ⟨rfl, hb⟩; refine ⟨_, rfl, ?_⟩; have n0_ := Aside0.mk (Kd.V_below (fV_ HO_66002001.out) hb); have n1_ := Aside0.mk (blk_below (g := gb66001) (o := .cells #[.int .i64 t66003, .slice (some ad66007) t66004.length co19] 24 (0, 0)) (fb_ BK66001.out) hb); have n2_ := Aside0.mk (blk_below (g := gb66002) (o := .cells #[.int .i64 0, .int .i64 0, .int .i64 0, .int .i64 0] 54 (0, 0)) (fb_ BK66002.out) hb); have n3_ := Aside0.mk (blk_below (g := gb66008) (o := .cells #[.int .i64 x66009000_1, .int .i64 x66009001_1] 49 (0, 0)) (fb_ BK66008.out) hb); have n4_ := Aside0.mk (bs_ hb); clear HO_66002001 BK66001 BK66002 BK66008 HB; have HO_66002001 := n0_; have BK66001 := n1_; have BK66002 := n2_; have BK66008 := n3_; have HB := n4_; clear n0_ n1_ n2_ n3_ n4_; (try clear hb); (try clear hb2); (try clear hk); (try clear hi)))
        have n0_ := Aside0.mk (Kd.V_drew HO_66002001.out)
        have n1_ := Aside0.mk (blk_drew BK66001.out)
        have n2_ := Aside0.mk (blk_drew BK66002.out)
        have n3_ := Aside0.mk (blk_drew BK66008.out)
        have n4_ := Aside0.mk (below_drew1 HB.out)
        clear HO_66002001 BK66001 BK66002 BK66008 HB
        have HO_66002001 := n0_
        have BK66001 := n1_
        have BK66002 := n2_
        have BK66008 := n3_
        have HB := n4_
        clear n0_ n1_ n2_ n3_ n4_
        have p66011 : 0 ≤ (x4_1 : Int) := of_decide_eq_true (by first | (with_reducible assumption) | assumption)
        have q66011 : x4_1 < (t66004.length : Int) := of_decide_eq_true (by first | (with_reducible assumption) | assumption)
        obtain ⟨ad66011, e66011, hx66011_0, hx66011_1⟩ := at_T49 (Kd.V_reads' HO_66002001.out).2.2 x4_1 p66011 q66011
        obtain rfl : ad66007 = ad66011 := (by injection e66011)
        replace p66011 := eq_true p66011
        replace q66011 := eq_true q66011
        have p66012 : 0 ≤ (x4_1 : Int) := of_decide_eq_true (by first | (with_reducible assumption) | assumption)
        have q66012 : x4_1 < (t66004.length : Int) := of_decide_eq_true (by first | (with_reducible assumption) | assumption)
        obtain ⟨ad66012, e66012, hx66012_0, hx66012_1⟩ := at_T49 (Kd.V_reads' HO_66002001.out).2.2 x4_1 p66012 q66012
        obtain rfl : ad66007 = ad66012 := (by injection e66012)
        replace p66012 := eq_true p66012
        replace q66012 := eq_true q66012
        refine start_ (n := 20) (S := fun w' => w'.cell? ⟨gb66008, 0, none⟩ = some (.int .i64 x66009000_1) ∧ w'.cell? ⟨gb66008, 1, none⟩ = some (.int .i64 x66009001_1) ∧ w'.cell? ⟨gb66001, 0, none⟩ = some (.int .i64 t66003) ∧ w'.cell? ⟨gb66001, 1, none⟩ = some (.slice (some ad66007) t66004.length co19) ∧ w'.cell? (ad66007.add ((x4_1).toNat * 2)) = some (.int .i64 ((rd_T49 t66004 x4_1).f0)) ∧ w'.cell? ⟨(ad66007.add ((x4_1).toNat * 2)).block, (ad66007.add ((x4_1).toNat * 2)).off + 1, none⟩ = some (.int .i64 ((rd_T49 t66004 x4_1).f1)) ∧ w'.cell? (ad66007.add ((x4_1).toNat * 2)) = some (.int .i64 ((rd_T49 t66004 x4_1).f0)) ∧ w'.cell? ⟨(ad66007.add ((x4_1).toNat * 2)).block, (ad66007.add ((x4_1).toNat * 2)).off + 1, none⟩ = some (.int .i64 ((rd_T49 t66004 x4_1).f1))) (ds := [19]) #[false, false, false, false, false, false, false, false, false, false, false, false, false, false, false, false, false, false, false, false] (by kernel_rfl) rfl rfl ⟨(blk_cell BK66008.out 0).trans rfl, (blk_cell BK66008.out 1).trans rfl, (blk_cell BK66001.out 0).trans rfl, (blk_cell BK66001.out 1).trans rfl, hx66011_0, hx66011_1, hx66012_0, hx66012_1⟩ (fun hHeld => ?_); refine with_tabW sawmillref10_Bounds.tab9 sawmillref10_Bounds.bits9 (fun HT_ HW_ => ?_)
        generalize w37.drew = w38 at HO_66002001 BK66001 BK66002 BK66008 HB hx66011_0 hx66011_1 hx66012_0 hx66012_1 hHeld ⊢
        refine pure_ (i := 0) (N := some 30) (v := ?_) (a' := ?_) #[true, false, false, false, false, false, false, false, false, false, false, false, false, false, false, false, false, false, false, false] rfl rfl (any_of HT_.out (by kernel_rfl)) (fun _ _ _ h => h) (Or.inl ⟨by rfl, ?_⟩) ?_ ?_
        rotate_left
        ·intro w'
         go_simp
         with_reducible rfl
        rotate_left
        ·simp only [Act.put, List.setIfInBounds_toArray, List.set_cons_zero, List.set_cons_succ, i64_w, i32_w]
         rfl
        refine pure_ (i := 2) (N := some 32) (v := ?_) (a' := ?_) #[true, false, true, false, false, false, false, false, false, false, false, false, false, false, false, false, false, false, false, false] rfl rfl (any_of HT_.out (by kernel_rfl)) (fun _ _ _ h => h) (Or.inl ⟨by rfl, ?_⟩) ?_ ?_
        rotate_left
        ·intro w'
         go_simp
         with_reducible rfl
        rotate_left
        ·simp only [Act.put, List.setIfInBounds_toArray, List.set_cons_zero, List.set_cons_succ, i64_w, i32_w]
         rfl
        refine pure_ (i := 4) (N := some 34) (v := ?_) (a' := ?_) #[true, false, true, false, true, false, false, false, false, false, false, false, false, false, false, false, false, false, false, false] rfl rfl (any_of HT_.out (by kernel_rfl)) (fun _ _ _ h => h) (Or.inl ⟨by rfl, ?_⟩) ?_ ?_
        rotate_left
        ·intro w'
         go_simp
         with_reducible rfl
        rotate_left
        ·simp only [Act.put, List.setIfInBounds_toArray, List.set_cons_zero, List.set_cons_succ, i64_w, i32_w]
         rfl
        refine pure_ (i := 9) (N := some 39) (v := ?_) (a' := ?_) #[true, false, true, false, true, false, false, false, false, true, false, false, false, false, false, false, false, false, false, false] rfl rfl (any_of HT_.out (by kernel_rfl)) (fun _ _ _ h => h) (Or.inl ⟨by rfl, ?_⟩) ?_ ?_
        rotate_left
        ·intro w'
         go_simp
         with_reducible rfl
        rotate_left
        ·simp only [Act.put, List.setIfInBounds_toArray, List.set_cons_zero, List.set_cons_succ, i64_w, i32_w]
         rfl
        refine pure_ (i := 11) (N := some 41) (v := ?_) (a' := ?_) #[true, false, true, false, true, false, false, false, false, true, false, true, false, false, false, false, false, false, false, false] rfl rfl (any_of HT_.out (by kernel_rfl)) (fun _ _ _ h => h) (Or.inl ⟨by rfl, ?_⟩) ?_ ?_
        rotate_left
        ·intro w'
         go_simp
         with_reducible rfl
        rotate_left
        ·simp only [Act.put, List.setIfInBounds_toArray, List.set_cons_zero, List.set_cons_succ, i64_w, i32_w]
         rfl
        refine pure_ (i := 13) (N := some 43) (v := ?_) (a' := ?_) #[true, false, true, false, true, false, false, false, false, true, false, true, false, true, false, false, false, false, false, false] rfl rfl (any_of HT_.out (by kernel_rfl)) (fun _ _ _ h => h) (Or.inl ⟨by rfl, ?_⟩) ?_ ?_
        rotate_left
        ·intro w'
         go_simp
         with_reducible rfl
        rotate_left
        ·simp only [Act.put, List.setIfInBounds_toArray, List.set_cons_zero, List.set_cons_succ, i64_w, i32_w]
         rfl
        refine take_ (i := 1) (N := some 31) (v := ?_) (a' := ?_) #[true, true, true, false, true, false, false, false, false, true, false, true, false, true, false, false, false, false, false, false] rfl rfl (take_ofW HT_.out HW_.out (by kernel_rfl)) (fun _ _ _ h => h) (Or.inl ⟨by rfl, ?_⟩) hHeld ?_ ?_
        rotate_left
        ·rintro w' ⟨s0, s1, s2, s3, s4, s5, s6, s7⟩
         go_simp
         with_reducible rfl
        rotate_left
        ·simp only [Act.put, List.setIfInBounds_toArray, List.set_cons_zero, List.set_cons_succ, i64_w, i32_w]
         rfl
        refine take_ (i := 3) (N := some 33) (v := ?_) (a' := ?_) #[true, true, true, true, true, false, false, false, false, true, false, true, false, true, false, false, false, false, false, false] rfl rfl (take_ofW HT_.out HW_.out (by kernel_rfl)) (fun _ _ _ h => h) (Or.inl ⟨by rfl, ?_⟩) hHeld ?_ ?_
        rotate_left
        ·rintro w' ⟨s0, s1, s2, s3, s4, s5, s6, s7⟩
         go_simp
         with_reducible rfl
        rotate_left
        ·simp only [Act.put, List.setIfInBounds_toArray, List.set_cons_zero, List.set_cons_succ, i64_w, i32_w]
         rfl
        refine pure_ (i := 5) (N := some 35) (v := ?_) (a' := ?_) #[true, true, true, true, true, true, false, false, false, true, false, true, false, true, false, false, false, false, false, false] rfl rfl (any_of HT_.out (by kernel_rfl)) (fun _ _ _ h => h) (Or.inl ⟨by rfl, ?_⟩) ?_ ?_
        rotate_left
        ·intro w'
         go_simp
         with_reducible rfl
        rotate_left
        ·simp only [Act.put, List.setIfInBounds_toArray, List.set_cons_zero, List.set_cons_succ, i64_w, i32_w]
         rfl
        refine pure_ (i := 6) (N := some 36) (v := ?_) (a' := ?_) #[true, true, true, true, true, true, true, false, false, true, false, true, false, true, false, false, false, false, false, false] rfl rfl (any_of HT_.out (by kernel_rfl)) (fun _ _ _ h => h) (Or.inl ⟨by rfl, ?_⟩) ?_ ?_
        rotate_left
        ·intro w'
         go_simp
         with_reducible rfl
        rotate_left
        ·simp only [Act.put, List.setIfInBounds_toArray, List.set_cons_zero, List.set_cons_succ, i64_w, i32_w]
         rfl
        refine take_ (i := 7) (N := some 37) (v := ?_) (a' := ?_) #[true, true, true, true, true, true, true, true, false, true, false, true, false, true, false, false, false, false, false, false] rfl rfl (take_ofW HT_.out HW_.out (by kernel_rfl)) (fun _ _ _ h => h) (Or.inl ⟨by rfl, ?_⟩) hHeld ?_ ?_
        rotate_left
        ·rintro w' ⟨s0, s1, s2, s3, s4, s5, s6, s7⟩
         go_simp
         with_reducible rfl
        rotate_left
        ·simp only [Act.put, List.setIfInBounds_toArray, List.set_cons_zero, List.set_cons_succ, i64_w, i32_w]
         rfl
        refine pure_ (i := 8) (N := some 38) (v := ?_) (a' := ?_) #[true, true, true, true, true, true, true, true, true, true, false, true, false, true, false, false, false, false, false, false] rfl rfl (any_of HT_.out (by kernel_rfl)) (fun _ _ _ h => h) (Or.inl ⟨by rfl, ?_⟩) ?_ ?_
        rotate_left
        ·intro w'
         go_simp
         with_reducible rfl
        rotate_left
        ·simp only [Act.put, List.setIfInBounds_toArray, List.set_cons_zero, List.set_cons_succ, i64_w, i32_w]
         rfl
        refine take_ (i := 10) (N := some 40) (v := ?_) (a' := ?_) #[true, true, true, true, true, true, true, true, true, true, true, true, false, true, false, false, false, false, false, false] rfl rfl (take_ofW HT_.out HW_.out (by kernel_rfl)) (fun _ _ _ h => h) (Or.inl ⟨by rfl, ?_⟩) hHeld ?_ ?_
        rotate_left
        ·rintro w' ⟨s0, s1, s2, s3, s4, s5, s6, s7⟩
         go_simp
         with_reducible rfl
        rotate_left
        ·simp only [Act.put, List.setIfInBounds_toArray, List.set_cons_zero, List.set_cons_succ, i64_w, i32_w]
         rfl
        refine take_ (i := 12) (N := some 42) (v := ?_) (a' := ?_) #[true, true, true, true, true, true, true, true, true, true, true, true, true, true, false, false, false, false, false, false] rfl rfl (take_ofW HT_.out HW_.out (by kernel_rfl)) (fun _ _ _ h => h) (Or.inl ⟨by rfl, ?_⟩) hHeld ?_ ?_
        rotate_left
        ·rintro w' ⟨s0, s1, s2, s3, s4, s5, s6, s7⟩
         go_simp
         with_reducible rfl
        rotate_left
        ·simp only [Act.put, List.setIfInBounds_toArray, List.set_cons_zero, List.set_cons_succ, i64_w, i32_w]
         rfl
        refine pure_ (i := 14) (N := some 44) (v := ?_) (a' := ?_) #[true, true, true, true, true, true, true, true, true, true, true, true, true, true, true, false, false, false, false, false] rfl rfl (any_of HT_.out (by kernel_rfl)) (fun _ _ _ h => h) (Or.inl ⟨by rfl, ?_⟩) ?_ ?_
        rotate_left
        ·intro w'
         go_simp
         with_reducible rfl
        rotate_left
        ·simp only [Act.put, List.setIfInBounds_toArray, List.set_cons_zero, List.set_cons_succ, i64_w, i32_w]
         rfl
        refine pure_ (i := 15) (N := some 45) (v := ?_) (a' := ?_) #[true, true, true, true, true, true, true, true, true, true, true, true, true, true, true, true, false, false, false, false] rfl rfl (any_of HT_.out (by kernel_rfl)) (fun _ _ _ h => h) (Or.inl ⟨by rfl, ?_⟩) ?_ ?_
        rotate_left
        ·intro w'
         go_simp
         with_reducible rfl
        rotate_left
        ·simp only [Act.put, List.setIfInBounds_toArray, List.set_cons_zero, List.set_cons_succ, i64_w, i32_w]
         rfl
        refine take_ (i := 16) (N := some 46) (v := ?_) (a' := ?_) #[true, true, true, true, true, true, true, true, true, true, true, true, true, true, true, true, true, false, false, false] rfl rfl (take_ofW HT_.out HW_.out (by kernel_rfl)) (fun _ _ _ h => h) (Or.inl ⟨by rfl, ?_⟩) hHeld ?_ ?_
        rotate_left
        ·rintro w' ⟨s0, s1, s2, s3, s4, s5, s6, s7⟩
         go_simp
         with_reducible rfl
        rotate_left
        ·simp only [Act.put, List.setIfInBounds_toArray, List.set_cons_zero, List.set_cons_succ, i64_w, i32_w]
         rfl
        refine pure_ (i := 17) (N := some 47) (v := ?_) (a' := ?_) #[true, true, true, true, true, true, true, true, true, true, true, true, true, true, true, true, true, true, false, false] rfl rfl (any_of HT_.out (by kernel_rfl)) (fun _ _ _ h => h) (Or.inl ⟨by rfl, ?_⟩) ?_ ?_
        rotate_left
        ·intro w'
         go_simp
         with_reducible rfl
        rotate_left
        ·simp only [Act.put, List.setIfInBounds_toArray, List.set_cons_zero, List.set_cons_succ, i64_w, i32_w]
         rfl
        refine pure_ (i := 18) (N := some 48) (v := ?_) (a' := ?_) #[true, true, true, true, true, true, true, true, true, true, true, true, true, true, true, true, true, true, true, false] rfl rfl (any_of HT_.out (by kernel_rfl)) (fun _ _ _ h => h) (Or.inl ⟨by rfl, ?_⟩) ?_ ?_
        rotate_left
        ·intro w'
         go_simp
         with_reducible rfl
        rotate_left
        ·simp only [Act.put, List.setIfInBounds_toArray, List.set_cons_zero, List.set_cons_succ, i64_w, i32_w]
         rfl
        refine last_ (i := 19) (N := none) #[true, true, true, true, true, true, true, true, true, true, true, true, true, true, true, true, true, true, true, true] rfl rfl (one_of HT_.out (by kernel_rfl)) (by decide) (fun K hK => ?_)
        have hs39 : w38.cell? ⟨gb66008, 0, none⟩ = some (.int .i64 x66009000_1) := (blk_cell BK66008.out 0).trans rfl
        have hfs39 := blk_frozen BK66008.out 0
        have hns39_0 := NB66001_66008.out
        have hns39_1 := NB66002_66008.out
        have hms39_0 := NB66008_66001.out
        have hms39_1 := NB66008_66002.out
        have hs40 : w38.cell? ⟨gb66008, 1, none⟩ = some (.int .i64 x66009001_1) := (blk_cell BK66008.out 1).trans rfl
        have hfs40 := blk_frozen BK66008.out 1
        have hns40_0 := NB66001_66008.out
        have hns40_1 := NB66002_66008.out
        have hms40_0 := NB66008_66001.out
        have hms40_1 := NB66008_66002.out
        refine skip_ (w1 := ?_) (by rfl) rfl ?_ ?_
        rotate_left
        ·go_simp
         rfl
        refine hK.out _ _ ?_
        clear hK K
        refine done_ (done_of HT_.out (by kernel_rfl)) ?_
        (try clear HS0_)
        (try clear HS1_)
        (try clear HS2_)
        (try clear HS3_)
        (try clear HS4_)
        (try clear HS5_)
        (try clear HS6_)
        (try clear HS7_)
        (try clear HS8_)
        (try clear HS9_)
        (try clear HS10_)
        (try clear HS11_)
        (try clear hHeld)
        try go_wp2
        go_roundg k1
        case measure => have := HK1.out; omega
        case rel => exact ⟨(wrap64 (x4_1 + 1)), (ji32), (ji33), (by first | rfl | (simp; done) | (simp [*]; done)), H', ⟨by have := HK1.out; omega⟩, ⟨by (with_reducible repeat (first | apply Kd.V_alloc | apply Kd.V_drewN | apply Kd.V_drew)); exact Kd.V_mono (Kd.V_far (p := ⟨gb66008, 1, none⟩) (Kd.V_far (p := ⟨gb66008, 0, none⟩) (Kd.V_mono HO_66002001.out (fun k_ hk => (⟨hk, hk.2.2⟩ : _ ∧ k_ ≠ gb66008))) (fun _ hk => hk.2) (.int .i64 ji32)) (fun _ hk => hk.2) (.int .i64 ji33)) (fun _ hk => ⟨hk.1.1, ⟨hk.1.2.1, hk.1.2.2⟩⟩)⟩, ⟨by (with_reducible repeat (first | refine blk_drewN ?_ _ | refine blk_drew ?_ | refine blk_alloc ?_ _)); refine blk_far ?_ NB66001_66008.out _; (with_reducible repeat (first | refine blk_drewN ?_ _ | refine blk_drew ?_ | refine blk_alloc ?_ _)); refine blk_far ?_ NB66001_66008.out _; (with_reducible repeat (first | refine blk_drewN ?_ _ | refine blk_drew ?_ | refine blk_alloc ?_ _)); exact BK66001.out⟩, ⟨by (with_reducible repeat (first | refine blk_drewN ?_ _ | refine blk_drew ?_ | refine blk_alloc ?_ _)); refine blk_far ?_ NB66002_66008.out _; (with_reducible repeat (first | refine blk_drewN ?_ _ | refine blk_drew ?_ | refine blk_alloc ?_ _)); refine blk_far ?_ NB66002_66008.out _; (with_reducible repeat (first | refine blk_drewN ?_ _ | refine blk_drew ?_ | refine blk_alloc ?_ _)); exact BK66002.out⟩, ⟨by (with_reducible repeat (first | refine blk_drewN ?_ _ | refine blk_drew ?_ | refine blk_alloc ?_ _)); refine blk_put (cs := #[.int .i64 ji32, .int .i64 x66009001_1]) ?_ 1 _ rfl; (with_reducible repeat (first | refine blk_drewN ?_ _ | refine blk_drew ?_ | refine blk_alloc ?_ _)); refine blk_put (cs := #[.int .i64 x66009000_1, .int .i64 x66009001_1]) ?_ 0 _ rfl; (with_reducible repeat (first | refine blk_drewN ?_ _ | refine blk_drew ?_ | refine blk_alloc ?_ _)); exact BK66008.out⟩, ⟨be_⟩⟩
      ·rw [if_neg c25] at H
       exact absurd H (by simp)
     ·rw [if_neg c24] at H
      have c24b0 : decide (x4_1 < (t66004.length : Int)) = false := decide_eq_false c24
      clear c24
      simp only [Option.some.injEq, Prod.mk.injEq] at H
      obtain ⟨rfl, rfl, rfl, rfl⟩ := H
      have hnb41 := NB66001_66002.out
      have hnc41 := NB66002_66001.out
      have hnb42 := NB66001_66008.out
      have hnc42 := NB66008_66001.out
      have hcz43_0 : wr.cell? ⟨gb66001, 0, none⟩ = some (.int .i64 t66003) := (blk_cell BK66001.out 0).trans rfl
      have hcz43_1 : wr.cell? ⟨gb66001, 1, none⟩ = some (.slice (some ad66007) t66004.length co19) := (blk_cell BK66001.out 1).trans rfl
      have hfz43_0 := blk_frozen BK66001.out 0
      have hfz43_1 := blk_frozen BK66001.out 1
      have hnb44 := NB66008_66002.out
      have hnc44 := NB66002_66008.out
      have hcz45_0 : wr.cell? ⟨gb66008, 0, none⟩ = some (.int .i64 x66009000_1) := (blk_cell BK66008.out 0).trans rfl
      have hcz45_1 : wr.cell? ⟨gb66008, 1, none⟩ = some (.int .i64 x66009001_1) := (blk_cell BK66008.out 1).trans rfl
      have hfz45_0 := blk_frozen BK66008.out 0
      have hfz45_1 := blk_frozen BK66008.out 1
      have hcz46_0 : wr.cell? ⟨gb66002, 0, none⟩ = some (.int .i64 0) := (blk_cell BK66002.out 0).trans rfl
      have hcz46_1 : wr.cell? ⟨gb66002, 1, none⟩ = some (.int .i64 0) := (blk_cell BK66002.out 1).trans rfl
      have hcz46_2 : wr.cell? ⟨gb66002, 2, none⟩ = some (.int .i64 0) := (blk_cell BK66002.out 2).trans rfl
      have hcz46_3 : wr.cell? ⟨gb66002, 3, none⟩ = some (.int .i64 0) := (blk_cell BK66002.out 3).trans rfl
      have hfz46_0 := blk_frozen BK66002.out 0
      have hfz46_1 := blk_frozen BK66002.out 1
      have hfz46_2 := blk_frozen BK66002.out 2
      have hfz46_3 := blk_frozen BK66002.out 3
      go_wp2
      refine bodyPost_ret (results_cell_row rfl _ _ gb66002 54 #[.int .i64 x66009000_1, .int .i64 x66009001_1, .int .i64 (wrap64 (10 * t66003)), .int .i64 (wrap64 (10 * (wrap64 (t66003 + (t66004.length : Int)))))] (0, 0) _ rfl (by (with_reducible repeat (first | refine blk_drewN ?_ _ | refine blk_drew ?_ | refine blk_alloc ?_ _)); refine blk_put (cs := #[.int .i64 x66009000_1, .int .i64 x66009001_1, .int .i64 (wrap64 (10 * t66003)), .int .i64 0]) ?_ 3 _ rfl; (with_reducible repeat (first | refine blk_drewN ?_ _ | refine blk_drew ?_ | refine blk_alloc ?_ _)); refine blk_put (cs := #[.int .i64 x66009000_1, .int .i64 x66009001_1, .int .i64 0, .int .i64 0]) ?_ 2 _ rfl; (with_reducible repeat (first | refine blk_drewN ?_ _ | refine blk_drew ?_ | refine blk_alloc ?_ _)); refine blk_put (cs := #[.int .i64 x66009000_1, .int .i64 0, .int .i64 0, .int .i64 0]) ?_ 1 _ rfl; (with_reducible repeat (first | refine blk_drewN ?_ _ | refine blk_drew ?_ | refine blk_alloc ?_ _)); refine blk_put (cs := #[.int .i64 0, .int .i64 0, .int .i64 0, .int .i64 0]) ?_ 0 _ rfl; (with_reducible repeat (first | refine blk_drewN ?_ _ | refine blk_drew ?_ | refine blk_alloc ?_ _)); exact BK66002.out) Try.underlying54 rfl (by kernel_rfl)) rfl ?_
      exact ⟨er_, be_⟩
  ·rw [if_neg c12] at H
   exact absurd H (by simp)

end Go.Proofs.Ytdbjoopkliafeaa.P

end
