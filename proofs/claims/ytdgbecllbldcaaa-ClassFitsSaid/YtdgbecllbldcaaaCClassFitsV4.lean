/- Functions of the program: what each computes, and that the call computes it; conditions: the fuel that the plain function asks for. -/
import Derived.Test.YtdgbecllbldcaaaCClassFitsV3
section
namespace Go.Proofs.Ytdgbecllbldcaaa.P
open Go Go.RowKit Go.Proofs.YtdgbecllbldcaaaW.PrintWords Go.Proofs.YtdgbecllbldcaaaW.PrintLast Go.Proofs.YtdgbecllbldcaaaW.PrintMore
attribute [local go_sem] max2_int min2_int max_two min_two max_three min_three max_four min_four max_five min_eight max_eight   -- for this text's walks alone
set_option linter.unusedVariables false
set_option linter.unusedSimpArgs false
-- by hand
def class_measured.f (k : Nat) (l : List S58) (d : List S48) : Option (Option (Int × Int × Int × Int × Int × Int)) :=
 (solid_Check.f k l).bind fun a => if (a != 0) = true then some none else (defect_Check.f k d).bind fun b => if (b != 0) = true then some none else
 (shape_Top.f k l).bind fun x1 => (solid_Length.f k l).bind fun x2 => (shape_Sweep.f k l).bind fun x3 => (shape_Taper.f k l).bind fun x4 =>
 (defect_Count.f d 1).bind fun n1 => (defect_Count.f d 2).bind fun n2 => (defect_Count.f d 3).bind fun n3 => some (some (x1, x2, x3, x4, wrap64 (n1 + n2), n3))
def Held (w : World) (g : Nat) (v : Int) : Prop := w.heap[g]? = some (.cells #[.int .i64 v] 3 (0, 0))
theorem Held.below {w W : World} {g B : Nat} {v : Int} (h : Held w g v) (hb : Below B w W) (hg : g < B) : Held W g v := (hb.block g hg).trans h
theorem Held.lt {w : World} {g : Nat} {v : Int} (h : Held w g v) : g < w.heap.size := blk_lt h
theorem Held.alloc {w : World} {g : Nat} {v : Int} (h : Held w g v) (o : Obj) : Held (w.alloc o) g v := (Below.heap_alloc w o g h.lt).trans h
theorem Held.new {w : World} {n : Nat} (v : Int) (h : w.heap.size = n) : Held (w.alloc (.cells #[.int .i64 v] 3)) n v := h ▸ blk_new _ _
def Boxed (w : World) (r : Option (Int × Int × Int × Int × Int × Int)) (v : Value) (w' : World) : Prop := match r with
 | none => v = .nilFunc
 | some (x1, x2, x3, x4, x5, x6) => ∃ g1 g2 g3 g4 g5 g6 : Nat, v = .func (.func 48) #[] #[.pointer (some ⟨g1, 0, none⟩), .pointer (some ⟨g2, 0, none⟩), .pointer (some ⟨g3, 0, none⟩), .pointer (some ⟨g4, 0, none⟩), .pointer (some ⟨g5, 0, none⟩), .pointer (some ⟨g6, 0, none⟩)] ∧
   Held w' g1 x1 ∧ Held w' g2 x2 ∧ Held w' g3 x3 ∧ Held w' g4 x4 ∧ Held w' g5 x5 ∧ Held w' g6 x6
set_option maxHeartbeats 4000000 in
set_option maxRecDepth 100000 in
theorem class_measured.calls (k : Nat) (A0 : Option Addr) (c0 : Nat) (l0 : List S58) (A1 : Option Addr) (c1 : Nat) (l1 : List S48) (r : Option (Int × Int × Int × Int × Int × Int)) (w : World) (hr0 : Kd.C k58 w A0 l0.length l0) (hc0 : l0.length ≤ c0) (hr1 : Kd.C k48 w A1 l1.length l1) (hc1 : l1.length ≤ c1) (h : class_measured.f k l0 l1 = some r) :
  Calls Try.prog 27 #[.slice A0 l0.length c0, .slice A1 l1.length c1] w fun e w' => ∃ v, e = .returned v ∧ Boxed w r v w' ∧ Below w.heap.size w w' := by
 have HC0 := Aside0.mk hr0;have HC1 := Aside0.mk hr1;clear hr0 hr1;unfold class_measured.f at h;obtain ⟨a, A2, h⟩ := Option.bind_eq_some_iff.mp h;have K1 := solid_Check.calls k A0 c0 l0 a w HC0.out hc0 A2
 by_cases ca : (a != 0) = true
 ·rw [if_pos ca] at h;obtain rfl := Option.some.inj h;clear h;go_enter Try.func27, Try.ntmps27;go_wp2_with fail;refine K1.mono ?_;rintro e w1 ⟨rfl, hb⟩;go_wp2;go_ret;exact ⟨_, rfl, rfl, hb⟩
 rw [if_neg ca] at h;(have ca' : (a != 0) = false := by simpa using ca);obtain ⟨b, A3, h⟩ := Option.bind_eq_some_iff.mp h
 by_cases cb : (b != 0) = true
 ·rw [if_pos cb] at h;obtain rfl := Option.some.inj h;clear h;go_enter Try.func27, Try.ntmps27;go_wp2_with fail;refine K1.mono ?_;rintro e w1 ⟨rfl, hb⟩;go_wp2_with fail;refine (defect_Check.calls k A1 c1 l1 b w1 (Kd.C_below HC1.out hb) hc1 A3).mono ?_;rintro e w2 ⟨rfl, hb2⟩;go_wp2;go_ret;exact ⟨_, rfl, rfl, hb.trans (hb2.mono hb.size)⟩
 rw [if_neg cb] at h;(have cb' : (b != 0) = false := by simpa using cb);obtain ⟨x1, B1, h⟩ := Option.bind_eq_some_iff.mp h;obtain ⟨x2, B2, h⟩ := Option.bind_eq_some_iff.mp h;obtain ⟨x3, B3, h⟩ := Option.bind_eq_some_iff.mp h;obtain ⟨x4, B4, h⟩ := Option.bind_eq_some_iff.mp h;obtain ⟨n1, B5, h⟩ := Option.bind_eq_some_iff.mp h;obtain ⟨n2, B6, h⟩ := Option.bind_eq_some_iff.mp h;obtain ⟨n3, B7, h⟩ := Option.bind_eq_some_iff.mp h;obtain rfl := Option.some.inj h;clear h;go_enter Try.func27, Try.ntmps27;go_wp2_with fail;refine K1.mono ?_;rintro e w1 ⟨rfl, hb⟩;go_wp2_with fail;refine (defect_Check.calls k A1 c1 l1 b w1 (Kd.C_below HC1.out hb) hc1 A3).mono ?_;rintro e w2 ⟨rfl, hb2⟩;replace hb := hb.trans (hb2.mono hb.size);go_wp2_with fail;refine (shape_Top.calls k A0 c0 l0 x1 w2 (Kd.C_below HC0.out hb) hc0 B1).mono ?_;rintro e w3 ⟨rfl, hb3⟩;replace hb := hb.trans (hb3.mono hb.size);go_wp2_with fail;refine (solid_Length.calls k A0 c0 l0 x2 w3 (Kd.C_below HC0.out hb) hc0 B2).mono ?_;rintro e w4 ⟨rfl, hb4⟩;replace hb := hb.trans (hb4.mono hb.size);go_wp2_with fail;refine (shape_Sweep.calls k A0 c0 l0 x3 w4 (Kd.C_below HC0.out hb) hc0 B3).mono ?_;rintro e w5 ⟨rfl, hb5⟩;replace hb := hb.trans (hb5.mono hb.size);go_wp2_with fail;refine (shape_Taper.calls k A0 c0 l0 x4 w5 (Kd.C_below HC0.out hb) hc0 B4).mono ?_;rintro e w6 ⟨rfl, hb6⟩;replace hb := hb.trans (hb6.mono hb.size);clear hb2 hb3 hb4 hb5 hb6;have G1 := (((Held.new (w := w6) x1 rfl).alloc (.cells #[.int .i64 x2] 3)).alloc (.cells #[.int .i64 x3] 3)).alloc (.cells #[.int .i64 x4] 3);have G2 := ((Held.new (w := w6.alloc (.cells #[.int .i64 x1] 3)) (n := w6.heap.size + 1) x2 (by simp)).alloc (.cells #[.int .i64 x3] 3)).alloc (.cells #[.int .i64 x4] 3);have G3 := (Held.new (w := (w6.alloc (.cells #[.int .i64 x1] 3)).alloc (.cells #[.int .i64 x2] 3)) (n := w6.heap.size + 1 + 1) x3 (by simp)).alloc (.cells #[.int .i64 x4] 3);have G4 := Held.new (w := ((w6.alloc (.cells #[.int .i64 x1] 3)).alloc (.cells #[.int .i64 x2] 3)).alloc (.cells #[.int .i64 x3] 3)) (n := w6.heap.size + 1 + 1 + 1) x4 (by simp);have hW : Below w.heap.size w ((((w6.alloc (.cells #[.int .i64 x1] 3)).alloc (.cells #[.int .i64 x2] 3)).alloc (.cells #[.int .i64 x3] 3)).alloc (.cells #[.int .i64 x4] 3)) := below_alloc (below_alloc (below_alloc (below_alloc hb _) _) _) _;have hC1 := Kd.C_below HC1.out hW;have k1 := defect_Count.calls A1 c1 l1 1 n1 _ hC1 hc1 B5;clear hC1;go_wp2_with fail;refine k1.mono ?_;rintro e w7 ⟨rfl, hb7⟩;replace G1 := G1.below hb7 G1.lt;replace G2 := G2.below hb7 G2.lt;replace G3 := G3.below hb7 G3.lt;replace G4 := G4.below hb7 G4.lt;replace hW := hW.trans (hb7.mono hW.size);clear hb7 k1;have k2 := defect_Count.calls A1 c1 l1 2 n2 _ (Kd.C_below HC1.out hW) hc1 B6;go_wp2_with fail;refine k2.mono ?_;rintro e w8 ⟨rfl, hb8⟩;replace G1 := G1.below hb8 G1.lt;replace G2 := G2.below hb8 G2.lt;replace G3 := G3.below hb8 G3.lt;replace G4 := G4.below hb8 G4.lt;replace hW := hW.trans (hb8.mono hW.size);clear hb8 k2;replace G1 := G1.alloc (.cells #[.int .i64 (wrap64 (n1 + n2))] 3);replace G2 := G2.alloc (.cells #[.int .i64 (wrap64 (n1 + n2))] 3);replace G3 := G3.alloc (.cells #[.int .i64 (wrap64 (n1 + n2))] 3);replace G4 := G4.alloc (.cells #[.int .i64 (wrap64 (n1 + n2))] 3);have G5 := Held.new (w := w8) (wrap64 (n1 + n2)) rfl;replace hW := below_alloc hW (.cells #[.int .i64 (wrap64 (n1 + n2))] 3);have k3 := defect_Count.calls A1 c1 l1 3 n3 _ (Kd.C_below HC1.out hW) hc1 B7;go_wp2_with fail;refine k3.mono ?_;rintro e w9 ⟨rfl, hb9⟩;replace G1 := G1.below hb9 G1.lt;replace G2 := G2.below hb9 G2.lt;replace G3 := G3.below hb9 G3.lt;replace G4 := G4.below hb9 G4.lt;replace G5 := G5.below hb9 G5.lt;replace hW := hW.trans (hb9.mono hW.size);clear hb9 k3;go_wp2;go_ret;exact ⟨_, rfl, ⟨_, _, _, _, _, _, rfl, G1.alloc _, G2.alloc _, G3.alloc _, G4.alloc _, G5.alloc _, Held.new _ rfl⟩, below_alloc hW _⟩
def fitB (m : Int × Int × Int × Int × Int × Int) (x : S28) : Bool := !(decide (m.1 < x.f1) || decide (m.2.1 < x.f2) || decide (m.2.1 > x.f3)) && (decide (m.2.2.1 ≤ x.f4) && decide (m.2.2.2.1 ≤ x.f5) && decide (m.2.2.2.2.1 ≤ x.f6) && decide (m.2.2.2.2.2 ≤ x.f7))
theorem class_measured_1_fit (m : Int × Int × Int × Int × Int × Int) (x : S28) : class_measured_1.f x.f0 x.f1 x.f2 x.f3 x.f4 x.f5 x.f6 x.f7 x.f8 m.1 m.2.1 m.2.2.1 m.2.2.2.1 m.2.2.2.2.1 m.2.2.2.2.2 = some (fitB m x) := by
 unfold class_measured_1.f fitB
 by_cases c1 : m.1 < x.f1 <;> by_cases c2 : m.2.1 < x.f2 <;> by_cases c3 : m.2.1 > x.f3 <;> by_cases c4 : m.2.2.1 ≤ x.f4 <;> by_cases c5 : m.2.2.2.1 ≤ x.f5 <;> by_cases c6 : m.2.2.2.2.1 ≤ x.f6 <;> simp [c1, c2, c3, c4, c5, c6]
theorem fit_calls (m : Int × Int × Int × Int × Int × Int) (x : S28) (g1 g2 g3 g4 g5 g6 : Nat) (w : World) (h1 : Held w g1 m.1) (h2 : Held w g2 m.2.1) (h3 : Held w g3 m.2.2.1) (h4 : Held w g4 m.2.2.2.1) (h5 : Held w g5 m.2.2.2.2.1) (h6 : Held w g6 m.2.2.2.2.2) :
  Calls Try.prog 48 #[.agg #[.string x.f0, .int .i64 x.f1, .int .i64 x.f2, .int .i64 x.f3, .int .i64 x.f4, .int .i64 x.f5, .int .i64 x.f6, .int .i64 x.f7, .int .i64 x.f8], .pointer (some ⟨g1, 0, none⟩), .pointer (some ⟨g2, 0, none⟩), .pointer (some ⟨g3, 0, none⟩), .pointer (some ⟨g4, 0, none⟩), .pointer (some ⟨g5, 0, none⟩), .pointer (some ⟨g6, 0, none⟩)] w fun e w' => e = .returned (.bool (fitB m x)) ∧ Below w.heap.size w w' :=
 class_measured_1.calls _ _ _ _ _ _ _ _ _ _ _ _ _ _ _ _ g1 g2 g3 g4 g5 g6 w h1 h2 h3 h4 h5 h6 (class_measured_1_fit m x)
theorem class_measured.mono : ∀ a0 a1 k, LeO (class_measured.f k a0 a1) (class_measured.f (k + 1) a0 a1) := by
 intro a0 a1 k;unfold class_measured.f
 repeat' first
   | (with_reducible exact solid_Check.mono _ _)
   | (with_reducible exact defect_Check.mono _ _)
   | (with_reducible exact shape_Top.mono _ _)
   | (with_reducible exact solid_Length.mono _ _)
   | (with_reducible exact shape_Sweep.mono _ _)
   | (with_reducible exact shape_Taper.mono _ _)
   | (with_reducible exact LeO.refl _)
   | (with_reducible exact LeO.none _)
   | (with_reducible refine LeO.ite ?_ ?_)
   | (with_reducible refine LeO.bind ?_ (fun _ => ?_))


-- by hand
def class_Fits.f (k : Nat) (a0_0 : ByteArray) (a0_1 a0_2 a0_3 a0_4 a0_5 a0_6 a0_7 a0_8 : Int) (l : List S58) (d : List S48) : Option Bool := (class_measured.f k l d).bind fun m => match m with
 | none => some false
 | some m => some (fitB m ⟨a0_0, a0_1, a0_2, a0_3, a0_4, a0_5, a0_6, a0_7, a0_8⟩)
set_option maxHeartbeats 4000000 in
set_option maxRecDepth 100000 in
theorem class_Fits.calls (k : Nat) (a0_0 : ByteArray) (a0_1 a0_2 a0_3 a0_4 a0_5 a0_6 a0_7 a0_8 : Int) (A1 : Option Addr) (c1 : Nat) (l1 : List S58) (A2 : Option Addr) (c2 : Nat) (l2 : List S48) (r : Bool) (w : World) (hr1 : Kd.C k58 w A1 l1.length l1) (hc1 : l1.length ≤ c1) (hr2 : Kd.C k48 w A2 l2.length l2) (hc2 : l2.length ≤ c2) (h : class_Fits.f k a0_0 a0_1 a0_2 a0_3 a0_4 a0_5 a0_6 a0_7 a0_8 l1 l2 = some r) :
  Calls Try.prog 15 #[.agg #[.string a0_0, .int .i64 a0_1, .int .i64 a0_2, .int .i64 a0_3, .int .i64 a0_4, .int .i64 a0_5, .int .i64 a0_6, .int .i64 a0_7, .int .i64 a0_8], .slice A1 l1.length c1, .slice A2 l2.length c2] w fun e w' => e = .returned (.bool r) ∧ Below w.heap.size w w' := by
 unfold class_Fits.f at h;obtain ⟨m, B0, h⟩ := Option.bind_eq_some_iff.mp h;have hb0 := below_alloc (Below.refl w.heap.size w) (.cells #[.string a0_0, .int .i64 a0_1, .int .i64 a0_2, .int .i64 a0_3, .int .i64 a0_4, .int .i64 a0_5, .int .i64 a0_6, .int .i64 a0_7, .int .i64 a0_8] 28);have K := class_measured.calls k A1 c1 l1 A2 c2 l2 m _ (Kd.C_below hr1 hb0) hc1 (Kd.C_below hr2 hb0) hc2 B0;clear hr1 hr2;(have q1 : ∀ w, (binOp .neq 59 .nilFunc .nilFunc).run Try.prog w = .ok (.bool false) w := fun _ => by kernel_rfl);(have q2 : ∀ fn xs ys w, (binOp .neq 59 (.func fn xs ys) .nilFunc).run Try.prog w = .ok (.bool true) w := fun _ _ _ _ => by kernel_rfl);go_enter Try.func15, Try.ntmps15;go_wp2_with fail;refine K.mono ?_;rintro e w1 ⟨v, rfl, hm, hb⟩;have e0 : w1.cell? ⟨w.heap.size, 0, none⟩ = some (.string a0_0) := (hb.cell (p := ⟨w.heap.size, 0, none⟩) (by simp)).trans (by simp);have e1 : w1.cell? ⟨w.heap.size, 1, none⟩ = some (.int .i64 a0_1) := (hb.cell (p := ⟨w.heap.size, 1, none⟩) (by simp)).trans (by simp);have e2 : w1.cell? ⟨w.heap.size, 2, none⟩ = some (.int .i64 a0_2) := (hb.cell (p := ⟨w.heap.size, 2, none⟩) (by simp)).trans (by simp);have e3 : w1.cell? ⟨w.heap.size, 3, none⟩ = some (.int .i64 a0_3) := (hb.cell (p := ⟨w.heap.size, 3, none⟩) (by simp)).trans (by simp);have e4 : w1.cell? ⟨w.heap.size, 4, none⟩ = some (.int .i64 a0_4) := (hb.cell (p := ⟨w.heap.size, 4, none⟩) (by simp)).trans (by simp);have e5 : w1.cell? ⟨w.heap.size, 5, none⟩ = some (.int .i64 a0_5) := (hb.cell (p := ⟨w.heap.size, 5, none⟩) (by simp)).trans (by simp);have e6 : w1.cell? ⟨w.heap.size, 6, none⟩ = some (.int .i64 a0_6) := (hb.cell (p := ⟨w.heap.size, 6, none⟩) (by simp)).trans (by simp);have e7 : w1.cell? ⟨w.heap.size, 7, none⟩ = some (.int .i64 a0_7) := (hb.cell (p := ⟨w.heap.size, 7, none⟩) (by simp)).trans (by simp);have e8 : w1.cell? ⟨w.heap.size, 8, none⟩ = some (.int .i64 a0_8) := (hb.cell (p := ⟨w.heap.size, 8, none⟩) (by simp)).trans (by simp);have hbb := hb0.trans (hb.mono hb0.size);clear hb hb0 K;cases m with
 | none =>
  obtain rfl : v = .nilFunc := hm;obtain rfl := Option.some.inj h;go_wp2;go_ret;exact ⟨rfl, hbb⟩
 | some m =>
  obtain rfl := Option.some.inj h;obtain ⟨g1, g2, g3, g4, g5, g6, rfl, h1, h2, h3, h4, h5, h6⟩ := hm;have F := fit_calls m ⟨a0_0, a0_1, a0_2, a0_3, a0_4, a0_5, a0_6, a0_7, a0_8⟩ g1 g2 g3 g4 g5 g6 w1 h1 h2 h3 h4 h5 h6;clear h1 h2 h3 h4 h5 h6;go_wp2_with fail;refine F.mono ?_;rintro e w2 ⟨rfl, hb2⟩;go_wp2;go_ret;exact ⟨rfl, hbb.trans (hb2.mono hbb.size)⟩
theorem class_Fits.mono : ∀ a0 a1 a2 a3 a4 a5 a6 a7 a8 a9 a10 k, LeO (class_Fits.f k a0 a1 a2 a3 a4 a5 a6 a7 a8 a9 a10) (class_Fits.f (k + 1) a0 a1 a2 a3 a4 a5 a6 a7 a8 a9 a10) := by
 intro a0 a1 a2 a3 a4 a5 a6 a7 a8 a9 a10 k;unfold class_Fits.f;exact LeO.bind (class_measured.mono _ _ _) (fun _ => LeO.refl _)


def ident_digit.f (a0 : Int) : Option (Bool) := if 48 ≤ a0 then (some (decide (a0 ≤ 57))) else (some false)
set_option maxHeartbeats 8000000 in
set_option maxRecDepth 100000 in
theorem ident_digit.calls (a0 : Int) (r : Bool) (w : World) (h : ident_digit.f a0 = some r) :
  Calls Try.prog 39 #[.int .u8 a0] w fun e w' => e = .returned (.bool r) ∧ Drawn0 w w' := by
 have H : (if 48 ≤ a0 then (some (decide (a0 ≤ 57))) else (some false)) = some r := h;clear h
 by_cases c2 : 48 ≤ a0
 ·rw [if_pos c2] at H;have c2b0 : decide (48 ≤ a0) = true := decide_eq_true c2;clear c2;obtain rfl := Option.some.inj H;go_enter Try.func39, Try.ntmps39;go_wp2;go_ret;exact ⟨by first | rfl | (simp; done) | (simp [*]; done), by repeat (first | exact Drawn0.refl _ | apply Drawn0.step)⟩
 ·rw [if_neg c2] at H;have c2b0 : decide (48 ≤ a0) = false := decide_eq_false c2;clear c2;obtain rfl := Option.some.inj H;go_enter Try.func39, Try.ntmps39;go_wp2;go_ret;exact ⟨by first | rfl | (simp; done) | (simp [*]; done), by repeat (first | exact Drawn0.refl _ | apply Drawn0.step)⟩


mutual
def ident_IsName.j0 : Nat → ByteArray → Bool → Option (Bool)
 | 0, _, _ => none
 | k + 1, x0, x21 => if x21 = true then (some false) else (ident_IsName.l0 k x0 (x0.size : Int) 0)
def ident_IsName.l0 : Nat → ByteArray → Int → Int → Option (Bool)
 | 0, _, _, _ => none
 | k + 1, x0, x23, x24 => if x24 < x23 then (if 0 ≤ x24 then (if x24 < (x0.size : Int) then ((ident_digit.f (bt x0 x24)).bind fun tq2 => (if tq2 = true then (ident_IsName.l0 k x0 x23 (wrap64 (x24 + 1))) else (if (bt x0 x24) = 95 then (ident_IsName.l0 k x0 x23 (wrap64 (x24 + 1))) else (if (bt x0 x24) < 97 then (some false) else (if (bt x0 x24) > 122 then (some false) else (ident_IsName.l0 k x0 x23 (wrap64 (x24 + 1)))))))) else (none)) else (none)) else (some true)
end
def ident_IsName.f (k : Nat) (a0 : ByteArray) : Option (Bool) := if a0.toList = ([] : List UInt8) then (ident_IsName.j0 k a0 true) else (if (a0.size : Int) > 16 then (ident_IsName.j0 k a0 true) else (if 0 < (a0.size : Int) then ((ident_digit.f (bt a0 0)).bind fun tq1 => (if tq1 = true then (ident_IsName.j0 k a0 true) else (ident_IsName.j0 k a0 ((bt a0 0) == 95)))) else (none)))
theorem ident_IsName.mono_l : ∀ k, (∀ y0 y1, LeO (ident_IsName.j0 k y0 y1) (ident_IsName.j0 (k + 1) y0 y1)) ∧ (∀ y0 y1 y2, LeO (ident_IsName.l0 k y0 y1 y2) (ident_IsName.l0 (k + 1) y0 y1 y2))
 | 0 => ⟨fun _ _ r h => by simp [ident_IsName.j0] at h, fun _ _ _ r h => by simp [ident_IsName.l0] at h⟩
 | k + 1 => by
  obtain ⟨ih0, ih1⟩ := ident_IsName.mono_l k;refine ⟨?_, ?_⟩
  ·intro y0 y1;unfold ident_IsName.j0
   repeat' first
   | (with_reducible exact ih0 _ _)
   | (with_reducible exact ih1 _ _ _)
   | (with_reducible exact LeO.refl _)
   | (with_reducible exact LeO.none _)
   | (with_reducible refine LeO.ite ?_ ?_)
   | (with_reducible refine LeO.bind ?_ (fun _ => ?_))
   | exact ih0 _ _
   | exact ih1 _ _ _
   | exact LeO.none _
   | refine LeO.ite ?_ ?_
   | refine LeO.bind ?_ (fun _ => ?_)
  ·intro y0 y1 y2;unfold ident_IsName.l0
   repeat' first
   | (with_reducible exact ih0 _ _)
   | (with_reducible exact ih1 _ _ _)
   | (with_reducible exact LeO.refl _)
   | (with_reducible exact LeO.none _)
   | (with_reducible refine LeO.ite ?_ ?_)
   | (with_reducible refine LeO.bind ?_ (fun _ => ?_))
   | exact ih0 _ _
   | exact ih1 _ _ _
   | exact LeO.none _
   | refine LeO.ite ?_ ?_
   | refine LeO.bind ?_ (fun _ => ?_)
theorem ident_IsName.mono : ∀ a0 k, LeO (ident_IsName.f k a0) (ident_IsName.f (k + 1) a0) := by
 intro a0 k;obtain ⟨ih0, ih1⟩ := ident_IsName.mono_l k;unfold ident_IsName.f
 repeat' first
   | (with_reducible exact ih0 _ _)
   | (with_reducible exact ih1 _ _ _)
   | (with_reducible exact LeO.refl _)
   | (with_reducible exact LeO.none _)
   | (with_reducible refine LeO.ite ?_ ?_)
   | (with_reducible refine LeO.bind ?_ (fun _ => ?_))
   | exact ih0 _ _
   | exact ih1 _ _ _
   | exact LeO.none _
   | refine LeO.ite ?_ ?_
   | refine LeO.bind ?_ (fun _ => ?_)
set_option maxHeartbeats 8000000 in
set_option maxRecDepth 100000 in
theorem ident_IsName.calls (k : Nat) (a0 : ByteArray) (r : Bool) (w : World) (h : ident_IsName.f k a0 = some r) :
  Calls Try.prog 23 #[.string a0] w fun e w' => e = .returned (.bool r) ∧ Drawn0 w w' := by
 have H : (if a0.toList = ([] : List UInt8) then (ident_IsName.j0 k a0 true) else (if (a0.size : Int) > 16 then (ident_IsName.j0 k a0 true) else (if 0 < (a0.size : Int) then ((ident_digit.f (bt a0 0)).bind fun tq1 => (if tq1 = true then (ident_IsName.j0 k a0 true) else (ident_IsName.j0 k a0 ((bt a0 0) == 95)))) else (none)))) = some r := h;clear h;have HC2 := Aside0.mk H;clear H;go_enter Try.func23, Try.ntmps23
 go_upto_region 1 with (fail)
 go_cut [21] (fun v21 wc => ∃ (kq : Nat) (x21_1 : Bool), v21 = .bool x21_1 ∧ Aside0 (ident_IsName.j0 kq a0 x21_1 = some r) ∧ Aside0 (kq ≤ k) ∧ Drawn0 w wc)
 case first =>
  have H := HC2.out;clear HC2
  by_cases c3 : a0.toList = ([] : List UInt8)
  ·rw [if_pos c3] at H;have c3b0 : (a0.toList == ([] : List UInt8)) = true := beq_iff_eq.mpr c3;have c3b1 : (a0.toList != ([] : List UInt8)) = false := bne_eq_false_iff_eq.mpr c3;clear c3;(first | rw [c3b0] | (simp only [i64_w, i32_w]; rw [c3b0]) | skip);have H' := Aside0.mk H;clear H;go_wp2
   go_meet
   case rel => exact ⟨_, (true), rs_, H', ⟨by first | omega | exact Nat.le_refl _⟩, by repeat (first | exact Drawn0.refl _ | apply Drawn0.step)⟩
  ·rw [if_neg c3] at H;have c3b0 : (a0.toList == ([] : List UInt8)) = false := beq_eq_false_iff_ne.mpr c3;have c3b1 : (a0.toList != ([] : List UInt8)) = true := bne_iff_ne.mpr c3;(first | rw [c3b0] | (simp only [i64_w, i32_w]; rw [c3b0]) | skip)
   by_cases c4 : (a0.size : Int) > 16
   ·rw [if_pos c4] at H;have c4b0 : decide (16 < (a0.size : Int)) = true := decide_eq_true c4;have c4b1 : decide (16 < a0.size) = true := decide_eq_true (by omega);clear c4;have H' := Aside0.mk H;clear H;go_wp2
    go_meet
    case rel => exact ⟨_, (true), rs_, H', ⟨by first | omega | exact Nat.le_refl _⟩, by repeat (first | exact Drawn0.refl _ | apply Drawn0.step)⟩
   ·rw [if_neg c4] at H;have c4b0 : decide (16 < (a0.size : Int)) = false := decide_eq_false c4;have c4b1 : decide (16 < a0.size) = false := decide_eq_false (by omega);clear c4
    by_cases c5 : 0 < (a0.size : Int)
    ·rw [if_pos c5] at H;have c5b0 : decide (0 < (a0.size : Int)) = true := decide_eq_true c5;have c5b1 : decide (0 < a0.size) = true := decide_eq_true (by omega);clear c5;replace H := Option.bind_eq_some_iff.mp H;obtain ⟨tq1, A70, H⟩ := H;replace H : (if tq1 = true then (ident_IsName.j0 k a0 true) else (ident_IsName.j0 k a0 ((bt a0 0) == 95))) = some r := H;have A7 := Aside0.mk A70;clear A70
     by_cases c8 : tq1 = true
     ·subst c8;(have H1 : (ident_IsName.j0 k a0 true) = some r := by rw [if_pos rfl] at H; exact H);clear H;have H := H1;clear H1;have H' := Aside0.mk H;clear H;have p6 : 0 ≤ (0 : Int) := (by omega);have q6 : 0 < a0.size := (by have : (0 : Int) < (a0.size : Int) := as_; omega);have hx6 : ∀ h : 0 < a0.size, ((a0[0]'h).toNat : Int) = bt a0 0 := bt_at a0 0;clear p6;have qi6 : (0 < (a0.size : Int)) = True := eq_true (as_);replace q6 := eq_true q6;go_wp2_with (first | (go_at_call 39; (with_reducible refine (ident_digit.calls (bt a0 0) true _ A7.out).mono ?_); rintro e w' ⟨rfl, ⟨nd, rfl⟩⟩))
      go_meet
      case rel => exact ⟨_, (true), rs_, H', ⟨by first | omega | exact Nat.le_refl _⟩, by repeat (first | exact Drawn0.refl _ | apply Drawn0.step)⟩
     ·replace c8 := Bool.eq_false_iff.mpr c8;subst c8;(have H1 : (ident_IsName.j0 k a0 ((bt a0 0) == 95)) = some r := by rw [if_neg (show ¬ (false = true) by decide)] at H; exact H);clear H;have H := H1;clear H1;have H' := Aside0.mk H;clear H;have p6 : 0 ≤ (0 : Int) := (by omega);have q6 : 0 < a0.size := (by have : (0 : Int) < (a0.size : Int) := as_; omega);have hx6 : ∀ h : 0 < a0.size, ((a0[0]'h).toNat : Int) = bt a0 0 := bt_at a0 0;clear p6;have qi6 : (0 < (a0.size : Int)) = True := eq_true (as_);replace q6 := eq_true q6;go_wp2_with (first | (go_at_call 39; (with_reducible refine (ident_digit.calls (bt a0 0) false _ A7.out).mono ?_); rintro e w' ⟨rfl, ⟨nd, rfl⟩⟩; have p9 : 0 ≤ (0 : Int) := (by omega); have q9 : 0 < a0.size := (by have : (0 : Int) < (a0.size : Int) := as_; omega); have hx9 : ∀ h : 0 < a0.size, ((a0[0]'h).toNat : Int) = bt a0 0 := bt_at a0 0; clear p9; have qi9 : (0 < (a0.size : Int)) = True := eq_true (as_); replace q9 := eq_true q9))
      go_meet
      case rel => exact ⟨_, (((bt a0 0) == 95)), rs_, H', ⟨by first | omega | exact Nat.le_refl _⟩, by repeat (first | exact Drawn0.refl _ | apply Drawn0.step)⟩
    ·rw [if_neg c5] at H;exact absurd H (by simp)
 case rest =>
  clear HC2;(try clear c2);(try clear p2);(try clear c3);(try clear c3b0);(try clear c3b1);(try clear c4);(try clear c4b0);(try clear c4b1);(try clear c5);(try clear c5b0);(try clear c5b1);(try clear p6);(try clear q6);(try clear hx6);(try clear qi6);(try clear c8);(try clear p9);(try clear q9);(try clear hx9);(try clear qi9);(try clear p6);(try clear p9);(try clear q6);(try clear q9);obtain ⟨kq, x21_1, rfl, HA, HJ1, ⟨mc1, rfl⟩⟩ := hcut;cases kq with
  | zero => exact absurd HA.out (by simp [ident_IsName.j0])
  | succ kj1 =>
   have H := HA.out;clear HA;simp only [ident_IsName.j0] at H
   by_cases c10 : x21_1 = true
   ·subst c10;(have H1 : (some false) = some r := by rw [if_pos rfl] at H; exact H);clear H;have H := H1;clear H1;obtain rfl := Option.some.inj H;go_wp2;go_ret;exact ⟨by first | rfl | (simp; done) | (simp [*]; done), by repeat (first | exact Drawn0.refl _ | apply Drawn0.step)⟩
   ·replace c10 := Bool.eq_false_iff.mpr c10;subst c10;(have H1 : (ident_IsName.l0 kj1 a0 (a0.size : Int) 0) = some r := by rw [if_neg (show ¬ (false = true) by decide)] at H; exact H);clear H;have H := H1;clear H1;have H' := Aside0.mk H;clear H;go_wp2
    go_loopg [24] kj1 (fun kq v24 w' => ∃ (x24_2 : Int), v24 = .int .i64 x24_2 ∧ Aside0 (ident_IsName.l0 kq a0 (a0.size : Int) x24_2 = some r) ∧ Aside0 (kq ≤ kj1) ∧ Drawn0 w w')
    case atStart => exact ⟨(0), rs_, H', ⟨Nat.le_refl _⟩, by repeat (first | exact Drawn0.refl _ | apply Drawn0.step)⟩
    case round =>
     clear H';(try clear c1);(try clear c2);(try clear p2);(try clear c3);(try clear c3b0);(try clear c3b1);(try clear c4);(try clear c4b0);(try clear c4b1);(try clear c5);(try clear c5b0);(try clear c5b1);(try clear p6);(try clear q6);(try clear hx6);(try clear qi6);(try clear c8);(try clear p9);(try clear q9);(try clear hx9);(try clear qi9);(try clear c10);(try clear p2);(try clear p6);(try clear p9);(try clear q6);(try clear q9);obtain ⟨x24_2, rfl, HA, HK2, ⟨m2, rfl⟩⟩ := hrel;cases gk with
     | zero => exact absurd HA.out (by simp [ident_IsName.l0])
     | succ k2 =>
      have H := HA.out;clear HA;simp only [ident_IsName.l0] at H
      by_cases c11 : x24_2 < (a0.size : Int)
      ·rw [if_pos c11] at H;have c11b0 : decide (x24_2 < (a0.size : Int)) = true := decide_eq_true c11;clear c11
       by_cases c12 : 0 ≤ x24_2
       ·rw [if_pos c12] at H;have c12b0 : decide (0 ≤ x24_2) = true := decide_eq_true c12;clear c12
        by_cases c13 : x24_2 < (a0.size : Int)
        ·rw [if_pos c13] at H;have c13b0 : decide (x24_2 < (a0.size : Int)) = true := decide_eq_true c13;clear c13;replace H := Option.bind_eq_some_iff.mp H;obtain ⟨tq2, A150, H⟩ := H;replace H : (if tq2 = true then (ident_IsName.l0 k2 a0 (a0.size : Int) (wrap64 (x24_2 + 1))) else (if (bt a0 x24_2) = 95 then (ident_IsName.l0 k2 a0 (a0.size : Int) (wrap64 (x24_2 + 1))) else (if (bt a0 x24_2) < 97 then (some false) else (if (bt a0 x24_2) > 122 then (some false) else (ident_IsName.l0 k2 a0 (a0.size : Int) (wrap64 (x24_2 + 1))))))) = some r := H;have A15 := Aside0.mk A150;clear A150
         by_cases c16 : tq2 = true
         ·subst c16;(have H1 : (ident_IsName.l0 k2 a0 (a0.size : Int) (wrap64 (x24_2 + 1))) = some r := by rw [if_pos rfl] at H; exact H);clear H;have H := H1;clear H1;have H' := Aside0.mk H;clear H;have p14 : 0 ≤ (x24_2 : Int) := as_;have q14 : x24_2 < (a0.size : Int) := as_;have hx14 := bt_at a0 x24_2;replace p14 := eq_true p14;replace q14 := eq_true q14;go_wp2_with (first | ((with_reducible refine gate_callee (f := 39) rfl ?_); refine goesL_ (some 31) rfl rfl Try.func39 (by kernel_rfl) rfl #[.int .u8 (bt a0 x24_2)] rfl la_ ?_; (with_reducible refine (ident_digit.calls (bt a0 x24_2) true _ A15.out).mono ?_); rintro e w' ⟨rfl, ⟨nd, rfl⟩⟩; refine ⟨_, rfl, ?_⟩))
          go_roundg k2
          case measure => have := HJ1.out; have := HK2.out; omega
          case rel => exact ⟨(wrap64 (x24_2 + 1)), rs_, H', ⟨by have := HJ1.out; have := HK2.out; omega⟩, by repeat (first | exact Drawn0.refl _ | apply Drawn0.step)⟩
         ·replace c16 := Bool.eq_false_iff.mpr c16;subst c16;(have H1 : (if (bt a0 x24_2) = 95 then (ident_IsName.l0 k2 a0 (a0.size : Int) (wrap64 (x24_2 + 1))) else (if (bt a0 x24_2) < 97 then (some false) else (if (bt a0 x24_2) > 122 then (some false) else (ident_IsName.l0 k2 a0 (a0.size : Int) (wrap64 (x24_2 + 1)))))) = some r := by rw [if_neg (show ¬ (false = true) by decide)] at H; exact H);clear H;have H := H1;clear H1
          by_cases c17 : (bt a0 x24_2) = 95
          ·rw [if_pos c17] at H;have c17b0 : ((bt a0 x24_2) == 95) = true := beq_iff_eq.mpr c17;have c17b1 : ((bt a0 x24_2) != 95) = false := bne_eq_false_iff_eq.mpr c17;clear c17;have H' := Aside0.mk H;clear H;have p14 : 0 ≤ (x24_2 : Int) := as_;have q14 : x24_2 < (a0.size : Int) := as_;have hx14 := bt_at a0 x24_2;replace p14 := eq_true p14;replace q14 := eq_true q14;go_wp2_with (first | ((with_reducible refine gate_callee (f := 39) rfl ?_); refine goesL_ (some 31) rfl rfl Try.func39 (by kernel_rfl) rfl #[.int .u8 (bt a0 x24_2)] rfl la_ ?_; (with_reducible refine (ident_digit.calls (bt a0 x24_2) false _ A15.out).mono ?_); rintro e w' ⟨rfl, ⟨nd, rfl⟩⟩; refine ⟨_, rfl, ?_⟩))
           go_roundg k2
           case measure => have := HJ1.out; have := HK2.out; omega
           case rel => exact ⟨(wrap64 (x24_2 + 1)), rs_, H', ⟨by have := HJ1.out; have := HK2.out; omega⟩, by repeat (first | exact Drawn0.refl _ | apply Drawn0.step)⟩
          ·rw [if_neg c17] at H;have c17b0 : ((bt a0 x24_2) == 95) = false := beq_eq_false_iff_ne.mpr c17;have c17b1 : ((bt a0 x24_2) != 95) = true := bne_iff_ne.mpr c17
           by_cases c18 : (bt a0 x24_2) < 97
           ·rw [if_pos c18] at H;have c18b0 : decide ((bt a0 x24_2) < 97) = true := decide_eq_true c18;clear c18;obtain rfl := Option.some.inj H;have p14 : 0 ≤ (x24_2 : Int) := as_;have q14 : x24_2 < (a0.size : Int) := as_;have hx14 := bt_at a0 x24_2;replace p14 := eq_true p14;replace q14 := eq_true q14;go_wp2_with (first | ((with_reducible refine gate_callee (f := 39) rfl ?_); refine goesL_ (some 31) rfl rfl Try.func39 (by kernel_rfl) rfl #[.int .u8 (bt a0 x24_2)] rfl la_ ?_; (with_reducible refine (ident_digit.calls (bt a0 x24_2) false _ A15.out).mono ?_); rintro e w' ⟨rfl, ⟨nd, rfl⟩⟩; refine ⟨_, rfl, ?_⟩));go_ret;exact ⟨by first | rfl | (simp; done) | (simp [*]; done), by repeat (first | exact Drawn0.refl _ | apply Drawn0.step)⟩
           ·rw [if_neg c18] at H;have c18b0 : decide ((bt a0 x24_2) < 97) = false := decide_eq_false c18;clear c18
            by_cases c19 : (bt a0 x24_2) > 122
            ·rw [if_pos c19] at H;have c19b0 : decide (122 < (bt a0 x24_2)) = true := decide_eq_true c19;clear c19;obtain rfl := Option.some.inj H;have p14 : 0 ≤ (x24_2 : Int) := as_;have q14 : x24_2 < (a0.size : Int) := as_;have hx14 := bt_at a0 x24_2;replace p14 := eq_true p14;replace q14 := eq_true q14;go_wp2_with (first | ((with_reducible refine gate_callee (f := 39) rfl ?_); refine goesL_ (some 31) rfl rfl Try.func39 (by kernel_rfl) rfl #[.int .u8 (bt a0 x24_2)] rfl la_ ?_; (with_reducible refine (ident_digit.calls (bt a0 x24_2) false _ A15.out).mono ?_); rintro e w' ⟨rfl, ⟨nd, rfl⟩⟩; refine ⟨_, rfl, ?_⟩));go_ret;exact ⟨by first | rfl | (simp; done) | (simp [*]; done), by repeat (first | exact Drawn0.refl _ | apply Drawn0.step)⟩
            ·rw [if_neg c19] at H;have c19b0 : decide (122 < (bt a0 x24_2)) = false := decide_eq_false c19;clear c19;have H' := Aside0.mk H;clear H;have p14 : 0 ≤ (x24_2 : Int) := as_;have q14 : x24_2 < (a0.size : Int) := as_;have hx14 := bt_at a0 x24_2;replace p14 := eq_true p14;replace q14 := eq_true q14;go_wp2_with (first | ((with_reducible refine gate_callee (f := 39) rfl ?_); refine goesL_ (some 31) rfl rfl Try.func39 (by kernel_rfl) rfl #[.int .u8 (bt a0 x24_2)] rfl la_ ?_; (with_reducible refine (ident_digit.calls (bt a0 x24_2) false _ A15.out).mono ?_); rintro e w' ⟨rfl, ⟨nd, rfl⟩⟩; refine ⟨_, rfl, ?_⟩))
             go_roundg k2
             case measure => have := HJ1.out; have := HK2.out; omega
             case rel => exact ⟨(wrap64 (x24_2 + 1)), rs_, H', ⟨by have := HJ1.out; have := HK2.out; omega⟩, by repeat (first | exact Drawn0.refl _ | apply Drawn0.step)⟩
        ·rw [if_neg c13] at H;exact absurd H (by simp)
       ·rw [if_neg c12] at H;exact absurd H (by simp)
      ·rw [if_neg c11] at H;have c11b0 : decide (x24_2 < (a0.size : Int)) = false := decide_eq_false c11;clear c11;obtain rfl := Option.some.inj H;go_wp2;go_ret;exact ⟨by first | rfl | (simp; done) | (simp [*]; done), by repeat (first | exact Drawn0.refl _ | apply Drawn0.step)⟩


mutual
def class_Check.l0 : Nat → List (S28) → List (S28) → Int → Int → Option (Int)
 | 0, _, _, _, _ => none
 | k + 1, x0, x12, x13, x14 => if x14 < x13 then (if 0 ≤ x14 then (if x14 < (x12.length : Int) then ((ident_IsName.f k ((rd_T28 x12 x14).f0)).bind fun tq3 => (if tq3 = true then (if x14 ≤ (x0.length : Int) then ((some (x0.take (x14 : Int).toNat : List (S28))).bind fun yq4 => (class_Check.l1 k x0 x12 x13 x14 yq4 (yq4.length : Int) 0 ((rd_T28 x12 x14).f0) ((rd_T28 x12 x14).f1) ((rd_T28 x12 x14).f2) ((rd_T28 x12 x14).f3) ((rd_T28 x12 x14).f4) ((rd_T28 x12 x14).f5) ((rd_T28 x12 x14).f6) ((rd_T28 x12 x14).f7) ((rd_T28 x12 x14).f8))) else (none)) else (some 6))) else (none)) else (none)) else (some 0)
def class_Check.l1 : Nat → List (S28) → List (S28) → Int → Int → List (S28) → Int → Int → ByteArray → Int → Int → Int → Int → Int → Int → Int → Int → Option (Int)
 | 0, _, _, _, _, _, _, _, _, _, _, _, _, _, _, _, _ => none
 | k + 1, x0, x12, x13, x14, x25, x26, x27, xq3o0, xq3o1, xq3o2, xq3o3, xq3o4, xq3o5, xq3o6, xq3o7, xq3o8 => if x27 < x26 then (if 0 ≤ x27 then (if x27 < (x25.length : Int) then (if ((rd_T28 x25 x27).f0).toList = xq3o0.toList then (some 7) else (class_Check.l1 k x0 x12 x13 x14 x25 x26 (wrap64 (x27 + 1)) xq3o0 xq3o1 xq3o2 xq3o3 xq3o4 xq3o5 xq3o6 xq3o7 xq3o8)) else (none)) else (none)) else (if (mn (mn (mn (mn (mn (mn (mn xq3o1 xq3o2) xq3o3) xq3o4) xq3o5) xq3o6) xq3o7) xq3o8) < 0 then (some 9) else (if (mx (mx (mx (mx (mx (mx (mx xq3o1 xq3o2) xq3o3) xq3o4) xq3o5) xq3o6) xq3o7) xq3o8) > 1000000 then (some 9) else (if xq3o2 > xq3o3 then (some 9) else (class_Check.l0 k x0 x12 x13 (wrap64 (x14 + 1))))))
end
def class_Check.f (k : Nat) (l0 : List (S28)) : Option (Int) := if (l0.length : Int) > 16 then (some 4) else (class_Check.l0 k l0 l0 (l0.length : Int) 0)
theorem class_Check.mono_l : ∀ k, (∀ y0 y1 y2 y3, LeO (class_Check.l0 k y0 y1 y2 y3) (class_Check.l0 (k + 1) y0 y1 y2 y3)) ∧ (∀ y0 y1 y2 y3 y4 y5 y6 y7 y8 y9 y10 y11 y12 y13 y14 y15, LeO (class_Check.l1 k y0 y1 y2 y3 y4 y5 y6 y7 y8 y9 y10 y11 y12 y13 y14 y15) (class_Check.l1 (k + 1) y0 y1 y2 y3 y4 y5 y6 y7 y8 y9 y10 y11 y12 y13 y14 y15))
 | 0 => ⟨fun _ _ _ _ r h => by simp [class_Check.l0] at h, fun _ _ _ _ _ _ _ _ _ _ _ _ _ _ _ _ r h => by simp [class_Check.l1] at h⟩
 | k + 1 => by
  obtain ⟨ih0, ih1⟩ := class_Check.mono_l k;refine ⟨?_, ?_⟩
  ·intro y0 y1 y2 y3;unfold class_Check.l0
   repeat' first
   | (with_reducible exact ih0 _ _ _ _)
   | (with_reducible exact ih1 _ _ _ _ _ _ _ _ _ _ _ _ _ _ _ _)
   | (with_reducible exact ident_IsName.mono _ _)
   | (with_reducible exact LeO.refl _)
   | (with_reducible exact LeO.none _)
   | (with_reducible refine LeO.ite ?_ ?_)
   | (with_reducible refine LeO.bind ?_ (fun _ => ?_))
   | exact ih0 _ _ _ _
   | exact ih1 _ _ _ _ _ _ _ _ _ _ _ _ _ _ _ _
   | exact ident_IsName.mono _ _
   | exact LeO.none _
   | refine LeO.ite ?_ ?_
   | refine LeO.bind ?_ (fun _ => ?_)
  ·intro y0 y1 y2 y3 y4 y5 y6 y7 y8 y9 y10 y11 y12 y13 y14 y15;unfold class_Check.l1
   repeat' first
   | (with_reducible exact ih0 _ _ _ _)
   | (with_reducible exact ih1 _ _ _ _ _ _ _ _ _ _ _ _ _ _ _ _)
   | (with_reducible exact ident_IsName.mono _ _)
   | (with_reducible exact LeO.refl _)
   | (with_reducible exact LeO.none _)
   | (with_reducible refine LeO.ite ?_ ?_)
   | (with_reducible refine LeO.bind ?_ (fun _ => ?_))
   | exact ih0 _ _ _ _
   | exact ih1 _ _ _ _ _ _ _ _ _ _ _ _ _ _ _ _
   | exact ident_IsName.mono _ _
   | exact LeO.none _
   | refine LeO.ite ?_ ?_
   | refine LeO.bind ?_ (fun _ => ?_)
theorem class_Check.mono : ∀ a0 k, LeO (class_Check.f k a0) (class_Check.f (k + 1) a0) := by
 intro a0 k;obtain ⟨ih0, ih1⟩ := class_Check.mono_l k;unfold class_Check.f
 repeat' first
   | (with_reducible exact ih0 _ _ _ _)
   | (with_reducible exact ih1 _ _ _ _ _ _ _ _ _ _ _ _ _ _ _ _)
   | (with_reducible exact ident_IsName.mono _ _)
   | (with_reducible exact LeO.refl _)
   | (with_reducible exact LeO.none _)
   | (with_reducible refine LeO.ite ?_ ?_)
   | (with_reducible refine LeO.bind ?_ (fun _ => ?_))
   | exact ih0 _ _ _ _
   | exact ih1 _ _ _ _ _ _ _ _ _ _ _ _ _ _ _ _
   | exact ident_IsName.mono _ _
   | exact LeO.none _
   | refine LeO.ite ?_ ?_
   | refine LeO.bind ?_ (fun _ => ?_)
set_option maxHeartbeats 8000000 in
set_option maxRecDepth 100000 in
theorem class_Check.calls (k : Nat) (A0 : Option Addr) (c0 : Nat) (l0 : List (S28)) (r : Int) (w : World) (hr0 : Kd.C k28 w A0 l0.length l0) (hc0 : l0.length ≤ c0) (h : class_Check.f k l0 = some r) :
  Calls Try.prog 11 #[.slice A0 l0.length c0] w fun e w' => e = .returned (.int .i64 r) ∧ Below w.heap.size w w' := by
 have hu28 := Try.underlying28;have HR0 := Aside0.mk hr0;have HC0 := Aside0.mk hc0;clear hr0 hc0;have HB := A_ (Below.refl w.heap.size w);have H : (if (l0.length : Int) > 16 then (some 4) else (class_Check.l0 k l0 l0 (l0.length : Int) 0)) = some r := h;clear h
 by_cases c2 : (l0.length : Int) > 16
 ·rw [if_pos c2] at H;have c2b0 : decide (16 < (l0.length : Int)) = true := decide_eq_true c2;have c2b1 : decide (16 < l0.length) = true := decide_eq_true (by omega);clear c2;obtain rfl := Option.some.inj H;go_enter Try.func11, Try.ntmps11;go_wp2;go_ret;exact ⟨er_, be_⟩
 ·rw [if_neg c2] at H;have c2b0 : decide (16 < (l0.length : Int)) = false := decide_eq_false c2;have c2b1 : decide (16 < l0.length) = false := decide_eq_false (by omega);clear c2;have H' := Aside0.mk H;clear H;go_enter Try.func11, Try.ntmps11;go_wp2
  go_loopg [14] k (fun kq v14 w' => ∃ (x14_1 : Int), v14 = .int .i64 x14_1 ∧ Aside0 (class_Check.l0 kq l0 l0 (l0.length : Int) x14_1 = some r) ∧ Aside0 (kq ≤ k) ∧ Aside0 (Below w.heap.size w w'))
  case atStart => exact ⟨(0), rs_, H', ⟨Nat.le_refl _⟩, ⟨be_⟩⟩
  case round =>
   clear H';(try clear c1);(try clear c2);(try clear c2b0);(try clear c2b1);(try clear p2);obtain ⟨x14_1, rfl, HA, HK1, HB⟩ := hrel;cases gk with
   | zero => exact absurd HA.out (by simp [class_Check.l0])
   | succ k1 =>
    have H := HA.out;clear HA;simp only [class_Check.l0] at H
    by_cases c3 : x14_1 < (l0.length : Int)
    ·rw [if_pos c3] at H;have c3b0 : decide (x14_1 < (l0.length : Int)) = true := decide_eq_true c3;clear c3
     by_cases c4 : 0 ≤ x14_1
     ·rw [if_pos c4] at H;have c4b0 : decide (0 ≤ x14_1) = true := decide_eq_true c4;clear c4
      by_cases c5 : x14_1 < (l0.length : Int)
      ·rw [if_pos c5] at H;have c5b0 : decide (x14_1 < (l0.length : Int)) = true := decide_eq_true c5;clear c5;replace H := Option.bind_eq_some_iff.mp H;obtain ⟨tq3, A60, H⟩ := H;replace H : (if tq3 = true then (if x14_1 ≤ (l0.length : Int) then ((some (l0.take (x14_1 : Int).toNat : List (S28))).bind fun yq4 => (class_Check.l1 k1 l0 l0 (l0.length : Int) x14_1 yq4 (yq4.length : Int) 0 ((rd_T28 l0 x14_1).f0) ((rd_T28 l0 x14_1).f1) ((rd_T28 l0 x14_1).f2) ((rd_T28 l0 x14_1).f3) ((rd_T28 l0 x14_1).f4) ((rd_T28 l0 x14_1).f5) ((rd_T28 l0 x14_1).f6) ((rd_T28 l0 x14_1).f7) ((rd_T28 l0 x14_1).f8))) else (none)) else (some 6)) = some r := H;have A6 := Aside0.mk A60;clear A60
       by_cases c7 : tq3 = true
       ·subst c7;(have H1 : (if x14_1 ≤ (l0.length : Int) then ((some (l0.take (x14_1 : Int).toNat : List (S28))).bind fun yq4 => (class_Check.l1 k1 l0 l0 (l0.length : Int) x14_1 yq4 (yq4.length : Int) 0 ((rd_T28 l0 x14_1).f0) ((rd_T28 l0 x14_1).f1) ((rd_T28 l0 x14_1).f2) ((rd_T28 l0 x14_1).f3) ((rd_T28 l0 x14_1).f4) ((rd_T28 l0 x14_1).f5) ((rd_T28 l0 x14_1).f6) ((rd_T28 l0 x14_1).f7) ((rd_T28 l0 x14_1).f8))) else (none)) = some r := by rw [if_pos rfl] at H; exact H);clear H;have H := H1;clear H1;have c8b0 := eq_true (as_ : 0 ≤ x14_1)
        by_cases c9 : x14_1 ≤ (l0.length : Int)
        ·rw [if_pos c9] at H;have c9b0 := eq_true c9;have c9b1 : decide (x14_1 ≤ (l0.length : Int)) = true := decide_eq_true c9;clear c9;obtain ⟨yq4, hyq4⟩ : ∃ y_ : List (S28), y_ = (l0.take (x14_1 : Int).toNat) := ⟨_, rfl⟩;(replace H : (class_Check.l1 k1 l0 l0 (l0.length : Int) x14_1 yq4 (yq4.length : Int) 0 ((rd_T28 l0 x14_1).f0) ((rd_T28 l0 x14_1).f1) ((rd_T28 l0 x14_1).f2) ((rd_T28 l0 x14_1).f3) ((rd_T28 l0 x14_1).f4) ((rd_T28 l0 x14_1).f5) ((rd_T28 l0 x14_1).f6) ((rd_T28 l0 x14_1).f7) ((rd_T28 l0 x14_1).f8)) = some r := by first | (rw [hyq4]; with_reducible exact H) | (have H2_ := (Option.bind_some _ _).symm.trans H; rw [hyq4]; with_reducible exact H2_) | (have H2_ := (Option.bind_some _ _).symm.trans H; with_reducible exact H2_) | with_reducible exact H | (rw [hyq4]; exact H) | exact H);have Nyq4 := Aside0.mk hyq4;clear hyq4;have H' := Aside0.mk H;clear H;have pq1 : 0 ≤ (x14_1 : Int) := as_;have qq1 : x14_1 < (l0.length : Int) := as_;obtain ⟨adq1, eq1, hxq1_0, hxq1_1, hxq1_2, hxq1_3, hxq1_4, hxq1_5, hxq1_6, hxq1_7, hxq1_8⟩ := at_T28 HR0.out x14_1 pq1 qq1;cases eq1;replace hxq1_0 := bc_ HB hxq1_0;replace hxq1_1 := bc_ HB hxq1_1;replace hxq1_2 := bc_ HB hxq1_2;replace hxq1_3 := bc_ HB hxq1_3;replace hxq1_4 := bc_ HB hxq1_4;replace hxq1_5 := bc_ HB hxq1_5;replace hxq1_6 := bc_ HB hxq1_6;replace hxq1_7 := bc_ HB hxq1_7;replace hxq1_8 := bc_ HB hxq1_8;replace pq1 := eq_true pq1;replace qq1 := eq_true qq1
         go_wp2_with (first | ((with_reducible refine gate_dst (N := 4) rfl ?_); refine bx_ 4 (cs := #[.string (⟨#[]⟩ : ByteArray), .int .i64 0, .int .i64 0, .int .i64 0, .int .i64 0, .int .i64 0, .int .i64 0, .int .i64 0, .int .i64 0]) (t := 28) ?_; intro gbq2 hg w10 hbox hb; have BKq2 := A_ hbox; have GWq2 := gz_ (w := w) hg; have GEq2 := gz_ (w := w) hg; replace HB := bA_ hb; clear hb hbox hg; have hcz11_0 := cz0_ BKq2; have hcz11_1 := cz1_ BKq2; have hcz11_2 := cz2_ BKq2; have hcz11_3 := cz3_ BKq2; have hcz11_4 : w10.cell? ⟨gbq2, 4, none⟩ = some (.int .i64 0) := cl_ BKq2 4; have hcz11_5 : w10.cell? ⟨gbq2, 5, none⟩ = some (.int .i64 0) := cl_ BKq2 5; have hcz11_6 : w10.cell? ⟨gbq2, 6, none⟩ = some (.int .i64 0) := cl_ BKq2 6; have hcz11_7 : w10.cell? ⟨gbq2, 7, none⟩ = some (.int .i64 0) := cl_ BKq2 7; have hcz11_8 : w10.cell? ⟨gbq2, 8, none⟩ = some (.int .i64 0) := cl_ BKq2 8; have hfz11_0 := fz_ BKq2 0; have hfz11_1 := fz_ BKq2 1; have hfz11_2 := fz_ BKq2 2; have hfz11_3 := fz_ BKq2 3; have hfz11_4 := fz_ BKq2 4; have hfz11_5 := fz_ BKq2 5; have hfz11_6 := fz_ BKq2 6; have hfz11_7 := fz_ BKq2 7; have hfz11_8 := fz_ BKq2 8) | ((with_reducible refine gate_store (t := 28) (p := 4) rfl ?_); refine store_event (t := 28) (p := 4) (v := ?vo_w12) (w1 := (((((((((w10.setCell ⟨gbq2, 0, none⟩ (.string ((rd_T28 l0 x14_1).f0))).setCell ⟨gbq2, 1, none⟩ (.int .i64 ((rd_T28 l0 x14_1).f1))).setCell ⟨gbq2, 2, none⟩ (.int .i64 ((rd_T28 l0 x14_1).f2))).setCell ⟨gbq2, 3, none⟩ (.int .i64 ((rd_T28 l0 x14_1).f3))).setCell ⟨gbq2, 4, none⟩ (.int .i64 ((rd_T28 l0 x14_1).f4))).setCell ⟨gbq2, 5, none⟩ (.int .i64 ((rd_T28 l0 x14_1).f5))).setCell ⟨gbq2, 6, none⟩ (.int .i64 ((rd_T28 l0 x14_1).f6))).setCell ⟨gbq2, 7, none⟩ (.int .i64 ((rd_T28 l0 x14_1).f7))).setCell ⟨gbq2, 8, none⟩ (.int .i64 ((rd_T28 l0 x14_1).f8)))) ?hg ?ho ?hn ?hr ?_; (case ho => rfl); (case hg => rfl); (case hn => rfl); (case hr => first | (go_simp; done) | (go_simp; rfl)); intro w12 hw; have n0_ : Aside0 (w12.heap[gbq2]? = some (.cells #[.string ((rd_T28 l0 x14_1).f0), .int .i64 ((rd_T28 l0 x14_1).f1), .int .i64 ((rd_T28 l0 x14_1).f2), .int .i64 ((rd_T28 l0 x14_1).f3), .int .i64 ((rd_T28 l0 x14_1).f4), .int .i64 ((rd_T28 l0 x14_1).f5), .int .i64 ((rd_T28 l0 x14_1).f6), .int .i64 ((rd_T28 l0 x14_1).f7), .int .i64 ((rd_T28 l0 x14_1).f8)] 28 (0, 0))) := ⟨(by rw [hw]; exact (ch_ BKq2))⟩; have n1_ : Aside0 (Below w.heap.size w w12) := ⟨(by rw [hw]; exact be_)⟩; clear hw BKq2 HB; have BKq2 := n0_; have HB := n1_; clear n0_ n1_; have hcz13_0 := cz0_ BKq2; have hcz13_1 := cz1_ BKq2; have hcz13_2 := cz2_ BKq2; have hcz13_3 := cz3_ BKq2; have hcz13_4 : w12.cell? ⟨gbq2, 4, none⟩ = some (.int .i64 ((rd_T28 l0 x14_1).f4)) := cl_ BKq2 4; have hcz13_5 : w12.cell? ⟨gbq2, 5, none⟩ = some (.int .i64 ((rd_T28 l0 x14_1).f5)) := cl_ BKq2 5; have hcz13_6 : w12.cell? ⟨gbq2, 6, none⟩ = some (.int .i64 ((rd_T28 l0 x14_1).f6)) := cl_ BKq2 6; have hcz13_7 : w12.cell? ⟨gbq2, 7, none⟩ = some (.int .i64 ((rd_T28 l0 x14_1).f7)) := cl_ BKq2 7; have hcz13_8 : w12.cell? ⟨gbq2, 8, none⟩ = some (.int .i64 ((rd_T28 l0 x14_1).f8)) := cl_ BKq2 8; have hfz13_0 := fz_ BKq2 0; have hfz13_1 := fz_ BKq2 1; have hfz13_2 := fz_ BKq2 2; have hfz13_3 := fz_ BKq2 3; have hfz13_4 := fz_ BKq2 4; have hfz13_5 := fz_ BKq2 5; have hfz13_6 := fz_ BKq2 6; have hfz13_7 := fz_ BKq2 7; have hfz13_8 := fz_ BKq2 8) | ((with_reducible refine gate_callee (f := 23) rfl ?_); refine goesL_ (some 21) rfl rfl Try.func23 (by kernel_rfl) rfl #[.string ((rd_T28 l0 x14_1).f0)] rfl la_ ?_; (with_reducible refine (ident_IsName.calls k1 ((rd_T28 l0 x14_1).f0) true _ A6.out).mono ?_); rintro e w' ⟨rfl, ⟨nd, rfl⟩⟩; refine ⟨_, rfl, ?_⟩; have q14 : (x14_1 : Int) ≤ ((l0.length : Int) : Int) := as_; obtain ⟨i014, hi014, _, hsz14, _⟩ := info_parts info28; have hroom14 : l0.length ≤ c0 := HC0.out; have hC14 : Kd.C k28 _ (some adq1) l0.length l0 := HR0.out; have hcut14 := cut_to (P := Try.prog) 22 28 .i64 Try.underlying22 hi014 (some adq1) l0.length c0 x14_1 (as_) q14 hroom14; have hr14 := Kd.C_take (m := (x14_1 : Int).toNat) hC14 (by omega); have hy14 : yq4.length = (x14_1 : Int).toNat := (by rw [Nyq4.out, List.length_take]; omega); rw [← Nyq4.out] at hr14; rw [← hy14] at hcut14; have HRq7 := Aside0.mk hr14; have HCq7 := A_ (show yq4.length ≤ c0 from by omega); clear hr14 hC14 hroom14 hi014 hsz14; have KY14 := Aside0.mk hy14; clear hy14; replace q14 := eq_true q14))
         go_loopg [27] k1 (fun kq v27 w' => ∃ (x27_2 : Int), v27 = .int .i64 x27_2 ∧ Aside0 (class_Check.l1 kq l0 l0 (l0.length : Int) x14_1 yq4 (yq4.length : Int) x27_2 ((rd_T28 l0 x14_1).f0) ((rd_T28 l0 x14_1).f1) ((rd_T28 l0 x14_1).f2) ((rd_T28 l0 x14_1).f3) ((rd_T28 l0 x14_1).f4) ((rd_T28 l0 x14_1).f5) ((rd_T28 l0 x14_1).f6) ((rd_T28 l0 x14_1).f7) ((rd_T28 l0 x14_1).f8) = some r) ∧ Aside0 (kq ≤ k1) ∧ Aside0 (w'.heap[gbq2]? = some (.cells #[.string ((rd_T28 l0 x14_1).f0), .int .i64 ((rd_T28 l0 x14_1).f1), .int .i64 ((rd_T28 l0 x14_1).f2), .int .i64 ((rd_T28 l0 x14_1).f3), .int .i64 ((rd_T28 l0 x14_1).f4), .int .i64 ((rd_T28 l0 x14_1).f5), .int .i64 ((rd_T28 l0 x14_1).f6), .int .i64 ((rd_T28 l0 x14_1).f7), .int .i64 ((rd_T28 l0 x14_1).f8)] 28 (0, 0))) ∧ Aside0 (Below w.heap.size w w'))
         case atStart => exact ⟨(0), rs_, H', ⟨Nat.le_refl _⟩, ⟨fb_ BKq2.out⟩, ⟨be_⟩⟩
         case round =>
          clear H';(try clear c1);(try clear p1);(try clear q1);(try clear hx1);(try clear c2);(try clear c2b0);(try clear c2b1);(try clear p2);(try clear c3);(try clear c3b0);(try clear c4);(try clear c4b0);(try clear c5);(try clear c5b0);(try clear c7);(try clear c8);(try clear c8b0);(try clear c9);(try clear c9b0);(try clear c9b1);(try clear c11);(try clear p11);(try clear q11);(try clear hx11);(try clear q14);(try clear hcz11_0);(try clear hcz11_1);(try clear hcz11_2);(try clear hcz11_3);(try clear hcz11_4);(try clear hcz11_5);(try clear hcz11_6);(try clear hcz11_7);(try clear hcz11_8);(try clear hcz13_0);(try clear hcz13_1);(try clear hcz13_2);(try clear hcz13_3);(try clear hcz13_4);(try clear hcz13_5);(try clear hcz13_6);(try clear hcz13_7);(try clear hcz13_8);(try clear hfz11_0);(try clear hfz11_1);(try clear hfz11_2);(try clear hfz11_3);(try clear hfz11_4);(try clear hfz11_5);(try clear hfz11_6);(try clear hfz11_7);(try clear hfz11_8);(try clear hfz13_0);(try clear hfz13_1);(try clear hfz13_2);(try clear hfz13_3);(try clear hfz13_4);(try clear hfz13_5);(try clear hfz13_6);(try clear hfz13_7);(try clear hfz13_8);(try clear hxq1_0);(try clear hxq1_1);(try clear hxq1_2);(try clear hxq1_3);(try clear hxq1_4);(try clear hxq1_5);(try clear hxq1_6);(try clear hxq1_7);(try clear hxq1_8);(try clear pq1);(try clear p2);(try clear qq1);(try clear q14);obtain ⟨x27_2, rfl, HA, HK2, BKq2, HB⟩ := hrel;cases gk with
          | zero => exact absurd HA.out (by simp [class_Check.l1])
          | succ k2 =>
           have H := HA.out;clear HA;simp only [class_Check.l1] at H
           by_cases c15 : x27_2 < (yq4.length : Int)
           ·rw [if_pos c15] at H;have c15b0 : decide (x27_2 < (yq4.length : Int)) = true := decide_eq_true c15;clear c15
            by_cases c16 : 0 ≤ x27_2
            ·rw [if_pos c16] at H;have c16b0 : decide (0 ≤ x27_2) = true := decide_eq_true c16;clear c16
             by_cases c17 : x27_2 < (yq4.length : Int)
             ·rw [if_pos c17] at H;have c17b0 : decide (x27_2 < (yq4.length : Int)) = true := decide_eq_true c17;clear c17
              by_cases c18 : ((rd_T28 yq4 x27_2).f0).toList = ((rd_T28 l0 x14_1).f0).toList
              ·rw [if_pos c18] at H;have c18b0 : (((rd_T28 yq4 x27_2).f0).toList == ((rd_T28 l0 x14_1).f0).toList) = true := beq_iff_eq.mpr c18;have c18b1 : (((rd_T28 yq4 x27_2).f0).toList != ((rd_T28 l0 x14_1).f0).toList) = false := bne_eq_false_iff_eq.mpr c18;clear c18;obtain rfl := Option.some.inj H;have pq8 : 0 ≤ (x27_2 : Int) := as_;have qq8 : x27_2 < (yq4.length : Int) := as_;obtain ⟨adq8, eq8, hxq8_0, hxq8_1, hxq8_2, hxq8_3, hxq8_4, hxq8_5, hxq8_6, hxq8_7, hxq8_8⟩ := at_T28 HRq7.out x27_2 pq8 qq8;obtain rfl : adq1 = adq8 := (by injection eq8);replace hxq8_0 := bc_ HB hxq8_0;replace hxq8_1 := bc_ HB hxq8_1;replace hxq8_2 := bc_ HB hxq8_2;replace hxq8_3 := bc_ HB hxq8_3;replace hxq8_4 := bc_ HB hxq8_4;replace hxq8_5 := bc_ HB hxq8_5;replace hxq8_6 := bc_ HB hxq8_6;replace hxq8_7 := bc_ HB hxq8_7;replace hxq8_8 := bc_ HB hxq8_8;replace pq8 := eq_true pq8;replace qq8 := eq_true qq8;go_wp2_with (first | ((with_reducible refine gate_dst (N := 6) rfl ?_); refine bx_ 6 (cs := #[.string (⟨#[]⟩ : ByteArray), .int .i64 0, .int .i64 0, .int .i64 0, .int .i64 0, .int .i64 0, .int .i64 0, .int .i64 0, .int .i64 0]) (t := 28) ?_; intro gbq9 hg w19 hbox hb; have BKq9 := A_ hbox; have GWq9 := gz_ (w := w) hg; have GEq9 := gz_ (w := w) hg; replace HB := bA_ hb; have NBq2_q9 := nlt_ BKq2 hg; have NBq9_q2 := ngt_ BKq2 hg; replace BKq2 := bb_ BKq2 hb; clear hb hbox hg; have hnb20 := NBq9_q2.out; have hnc20 := NBq2_q9.out; have hcz21_0 := cz0_ BKq9; have hcz21_1 := cz1_ BKq9; have hcz21_2 := cz2_ BKq9; have hcz21_3 := cz3_ BKq9; have hcz21_4 : w19.cell? ⟨gbq9, 4, none⟩ = some (.int .i64 0) := cl_ BKq9 4; have hcz21_5 : w19.cell? ⟨gbq9, 5, none⟩ = some (.int .i64 0) := cl_ BKq9 5; have hcz21_6 : w19.cell? ⟨gbq9, 6, none⟩ = some (.int .i64 0) := cl_ BKq9 6; have hcz21_7 : w19.cell? ⟨gbq9, 7, none⟩ = some (.int .i64 0) := cl_ BKq9 7; have hcz21_8 : w19.cell? ⟨gbq9, 8, none⟩ = some (.int .i64 0) := cl_ BKq9 8; have hfz21_0 := fz_ BKq9 0; have hfz21_1 := fz_ BKq9 1; have hfz21_2 := fz_ BKq9 2; have hfz21_3 := fz_ BKq9 3; have hfz21_4 := fz_ BKq9 4; have hfz21_5 := fz_ BKq9 5; have hfz21_6 := fz_ BKq9 6; have hfz21_7 := fz_ BKq9 7; have hfz21_8 := fz_ BKq9 8; have hcz22_0 := cz0_ BKq2; have hcz22_1 := cz1_ BKq2; have hcz22_2 := cz2_ BKq2; have hcz22_3 := cz3_ BKq2; have hcz22_4 : w19.cell? ⟨gbq2, 4, none⟩ = some (.int .i64 ((rd_T28 l0 x14_1).f4)) := cl_ BKq2 4; have hcz22_5 : w19.cell? ⟨gbq2, 5, none⟩ = some (.int .i64 ((rd_T28 l0 x14_1).f5)) := cl_ BKq2 5; have hcz22_6 : w19.cell? ⟨gbq2, 6, none⟩ = some (.int .i64 ((rd_T28 l0 x14_1).f6)) := cl_ BKq2 6; have hcz22_7 : w19.cell? ⟨gbq2, 7, none⟩ = some (.int .i64 ((rd_T28 l0 x14_1).f7)) := cl_ BKq2 7; have hcz22_8 : w19.cell? ⟨gbq2, 8, none⟩ = some (.int .i64 ((rd_T28 l0 x14_1).f8)) := cl_ BKq2 8; have hfz22_0 := fz_ BKq2 0; have hfz22_1 := fz_ BKq2 1; have hfz22_2 := fz_ BKq2 2; have hfz22_3 := fz_ BKq2 3; have hfz22_4 := fz_ BKq2 4; have hfz22_5 := fz_ BKq2 5; have hfz22_6 := fz_ BKq2 6; have hfz22_7 := fz_ BKq2 7; have hfz22_8 := fz_ BKq2 8));go_ret;exact ⟨er_, be_⟩
              ·rw [if_neg c18] at H;have c18b0 : (((rd_T28 yq4 x27_2).f0).toList == ((rd_T28 l0 x14_1).f0).toList) = false := beq_eq_false_iff_ne.mpr c18;have c18b1 : (((rd_T28 yq4 x27_2).f0).toList != ((rd_T28 l0 x14_1).f0).toList) = true := bne_iff_ne.mpr c18;have H' := Aside0.mk H;clear H;have pq8 : 0 ≤ (x27_2 : Int) := as_;have qq8 : x27_2 < (yq4.length : Int) := as_;obtain ⟨adq8, eq8, hxq8_0, hxq8_1, hxq8_2, hxq8_3, hxq8_4, hxq8_5, hxq8_6, hxq8_7, hxq8_8⟩ := at_T28 HRq7.out x27_2 pq8 qq8;obtain rfl : adq1 = adq8 := (by injection eq8);replace hxq8_0 := bc_ HB hxq8_0;replace hxq8_1 := bc_ HB hxq8_1;replace hxq8_2 := bc_ HB hxq8_2;replace hxq8_3 := bc_ HB hxq8_3;replace hxq8_4 := bc_ HB hxq8_4;replace hxq8_5 := bc_ HB hxq8_5;replace hxq8_6 := bc_ HB hxq8_6;replace hxq8_7 := bc_ HB hxq8_7;replace hxq8_8 := bc_ HB hxq8_8;replace pq8 := eq_true pq8;replace qq8 := eq_true qq8;go_wp2_with (first | ((with_reducible refine gate_dst (N := 6) rfl ?_); refine bx_ 6 (cs := #[.string (⟨#[]⟩ : ByteArray), .int .i64 0, .int .i64 0, .int .i64 0, .int .i64 0, .int .i64 0, .int .i64 0, .int .i64 0, .int .i64 0]) (t := 28) ?_; intro gbq9 hg w23 hbox hb; have BKq9 := A_ hbox; have GWq9 := gz_ (w := w) hg; have GEq9 := gz_ (w := w) hg; replace HB := bA_ hb; have NBq2_q9 := nlt_ BKq2 hg; have NBq9_q2 := ngt_ BKq2 hg; replace BKq2 := bb_ BKq2 hb; clear hb hbox hg; have hnb24 := NBq9_q2.out; have hnc24 := NBq2_q9.out; have hcz25_0 := cz0_ BKq9; have hcz25_1 := cz1_ BKq9; have hcz25_2 := cz2_ BKq9; have hcz25_3 := cz3_ BKq9; have hcz25_4 : w23.cell? ⟨gbq9, 4, none⟩ = some (.int .i64 0) := cl_ BKq9 4; have hcz25_5 : w23.cell? ⟨gbq9, 5, none⟩ = some (.int .i64 0) := cl_ BKq9 5; have hcz25_6 : w23.cell? ⟨gbq9, 6, none⟩ = some (.int .i64 0) := cl_ BKq9 6; have hcz25_7 : w23.cell? ⟨gbq9, 7, none⟩ = some (.int .i64 0) := cl_ BKq9 7; have hcz25_8 : w23.cell? ⟨gbq9, 8, none⟩ = some (.int .i64 0) := cl_ BKq9 8; have hfz25_0 := fz_ BKq9 0; have hfz25_1 := fz_ BKq9 1; have hfz25_2 := fz_ BKq9 2; have hfz25_3 := fz_ BKq9 3; have hfz25_4 := fz_ BKq9 4; have hfz25_5 := fz_ BKq9 5; have hfz25_6 := fz_ BKq9 6; have hfz25_7 := fz_ BKq9 7; have hfz25_8 := fz_ BKq9 8; have hcz26_0 := cz0_ BKq2; have hcz26_1 := cz1_ BKq2; have hcz26_2 := cz2_ BKq2; have hcz26_3 := cz3_ BKq2; have hcz26_4 : w23.cell? ⟨gbq2, 4, none⟩ = some (.int .i64 ((rd_T28 l0 x14_1).f4)) := cl_ BKq2 4; have hcz26_5 : w23.cell? ⟨gbq2, 5, none⟩ = some (.int .i64 ((rd_T28 l0 x14_1).f5)) := cl_ BKq2 5; have hcz26_6 : w23.cell? ⟨gbq2, 6, none⟩ = some (.int .i64 ((rd_T28 l0 x14_1).f6)) := cl_ BKq2 6; have hcz26_7 : w23.cell? ⟨gbq2, 7, none⟩ = some (.int .i64 ((rd_T28 l0 x14_1).f7)) := cl_ BKq2 7; have hcz26_8 : w23.cell? ⟨gbq2, 8, none⟩ = some (.int .i64 ((rd_T28 l0 x14_1).f8)) := cl_ BKq2 8; have hfz26_0 := fz_ BKq2 0; have hfz26_1 := fz_ BKq2 1; have hfz26_2 := fz_ BKq2 2; have hfz26_3 := fz_ BKq2 3; have hfz26_4 := fz_ BKq2 4; have hfz26_5 := fz_ BKq2 5; have hfz26_6 := fz_ BKq2 6; have hfz26_7 := fz_ BKq2 7; have hfz26_8 := fz_ BKq2 8))
               go_roundg k2
               case measure => have := HK1.out; have := HK2.out; omega
               case rel => exact ⟨(wrap64 (x27_2 + 1)), rs_, H', ⟨by have := HK1.out; have := HK2.out; omega⟩, ⟨ch_ BKq2⟩, ⟨be_⟩⟩
             ·rw [if_neg c17] at H;exact absurd H (by simp)
            ·rw [if_neg c16] at H;exact absurd H (by simp)
           ·rw [if_neg c15] at H;have c15b0 : decide (x27_2 < (yq4.length : Int)) = false := decide_eq_false c15;clear c15;obtain ⟨ji27, hji27⟩ : ∃ j_ : Int, (mn ((rd_T28 l0 x14_1).f1) ((rd_T28 l0 x14_1).f2)) = j_ := ⟨_, rfl⟩;(replace H : (if (mn (mn (mn (mn (mn (mn (ji27) ((rd_T28 l0 x14_1).f3)) ((rd_T28 l0 x14_1).f4)) ((rd_T28 l0 x14_1).f5)) ((rd_T28 l0 x14_1).f6)) ((rd_T28 l0 x14_1).f7)) ((rd_T28 l0 x14_1).f8)) < 0 then (some 9) else (if (mx (mx (mx (mx (mx (mx (mx ((rd_T28 l0 x14_1).f1) ((rd_T28 l0 x14_1).f2)) ((rd_T28 l0 x14_1).f3)) ((rd_T28 l0 x14_1).f4)) ((rd_T28 l0 x14_1).f5)) ((rd_T28 l0 x14_1).f6)) ((rd_T28 l0 x14_1).f7)) ((rd_T28 l0 x14_1).f8)) > 1000000 then (some 9) else (if ((rd_T28 l0 x14_1).f2) > ((rd_T28 l0 x14_1).f3) then (some 9) else (class_Check.l0 k2 l0 l0 (l0.length : Int) (wrap64 (x14_1 + 1)))))) = some r := by first | (rw [hji27] at H; exact H) | (simp only [hji27] at H ⊢; exact H));have hji27_ : (if ((rd_T28 l0 x14_1).f2) < ((rd_T28 l0 x14_1).f1) then ((rd_T28 l0 x14_1).f2) else ((rd_T28 l0 x14_1).f1)) = ji27 := hji27;obtain ⟨ji28, hji28⟩ : ∃ j_ : Int, (mn (ji27) ((rd_T28 l0 x14_1).f3)) = j_ := ⟨_, rfl⟩;(replace H : (if (mn (mn (mn (mn (mn (ji28) ((rd_T28 l0 x14_1).f4)) ((rd_T28 l0 x14_1).f5)) ((rd_T28 l0 x14_1).f6)) ((rd_T28 l0 x14_1).f7)) ((rd_T28 l0 x14_1).f8)) < 0 then (some 9) else (if (mx (mx (mx (mx (mx (mx (mx ((rd_T28 l0 x14_1).f1) ((rd_T28 l0 x14_1).f2)) ((rd_T28 l0 x14_1).f3)) ((rd_T28 l0 x14_1).f4)) ((rd_T28 l0 x14_1).f5)) ((rd_T28 l0 x14_1).f6)) ((rd_T28 l0 x14_1).f7)) ((rd_T28 l0 x14_1).f8)) > 1000000 then (some 9) else (if ((rd_T28 l0 x14_1).f2) > ((rd_T28 l0 x14_1).f3) then (some 9) else (class_Check.l0 k2 l0 l0 (l0.length : Int) (wrap64 (x14_1 + 1)))))) = some r := by first | (rw [hji28] at H; exact H) | (simp only [hji28] at H ⊢; exact H));have hji28_ : (if ((rd_T28 l0 x14_1).f3) < (ji27) then ((rd_T28 l0 x14_1).f3) else (ji27)) = ji28 := hji28;obtain ⟨ji29, hji29⟩ : ∃ j_ : Int, (mn (ji28) ((rd_T28 l0 x14_1).f4)) = j_ := ⟨_, rfl⟩;(replace H : (if (mn (mn (mn (mn (ji29) ((rd_T28 l0 x14_1).f5)) ((rd_T28 l0 x14_1).f6)) ((rd_T28 l0 x14_1).f7)) ((rd_T28 l0 x14_1).f8)) < 0 then (some 9) else (if (mx (mx (mx (mx (mx (mx (mx ((rd_T28 l0 x14_1).f1) ((rd_T28 l0 x14_1).f2)) ((rd_T28 l0 x14_1).f3)) ((rd_T28 l0 x14_1).f4)) ((rd_T28 l0 x14_1).f5)) ((rd_T28 l0 x14_1).f6)) ((rd_T28 l0 x14_1).f7)) ((rd_T28 l0 x14_1).f8)) > 1000000 then (some 9) else (if ((rd_T28 l0 x14_1).f2) > ((rd_T28 l0 x14_1).f3) then (some 9) else (class_Check.l0 k2 l0 l0 (l0.length : Int) (wrap64 (x14_1 + 1)))))) = some r := by first | (rw [hji29] at H; exact H) | (simp only [hji29] at H ⊢; exact H));have hji29_ : (if ((rd_T28 l0 x14_1).f4) < (ji28) then ((rd_T28 l0 x14_1).f4) else (ji28)) = ji29 := hji29;obtain ⟨ji30, hji30⟩ : ∃ j_ : Int, (mn (ji29) ((rd_T28 l0 x14_1).f5)) = j_ := ⟨_, rfl⟩;(replace H : (if (mn (mn (mn (ji30) ((rd_T28 l0 x14_1).f6)) ((rd_T28 l0 x14_1).f7)) ((rd_T28 l0 x14_1).f8)) < 0 then (some 9) else (if (mx (mx (mx (mx (mx (mx (mx ((rd_T28 l0 x14_1).f1) ((rd_T28 l0 x14_1).f2)) ((rd_T28 l0 x14_1).f3)) ((rd_T28 l0 x14_1).f4)) ((rd_T28 l0 x14_1).f5)) ((rd_T28 l0 x14_1).f6)) ((rd_T28 l0 x14_1).f7)) ((rd_T28 l0 x14_1).f8)) > 1000000 then (some 9) else (if ((rd_T28 l0 x14_1).f2) > ((rd_T28 l0 x14_1).f3) then (some 9) else (class_Check.l0 k2 l0 l0 (l0.length : Int) (wrap64 (x14_1 + 1)))))) = some r := by first | (rw [hji30] at H; exact H) | (simp only [hji30] at H ⊢; exact H));have hji30_ : (if ((rd_T28 l0 x14_1).f5) < (ji29) then ((rd_T28 l0 x14_1).f5) else (ji29)) = ji30 := hji30;obtain ⟨ji31, hji31⟩ : ∃ j_ : Int, (mn (ji30) ((rd_T28 l0 x14_1).f6)) = j_ := ⟨_, rfl⟩
            (replace H : (if (mn (mn (ji31) ((rd_T28 l0 x14_1).f7)) ((rd_T28 l0 x14_1).f8)) < 0 then (some 9) else (if (mx (mx (mx (mx (mx (mx (mx ((rd_T28 l0 x14_1).f1) ((rd_T28 l0 x14_1).f2)) ((rd_T28 l0 x14_1).f3)) ((rd_T28 l0 x14_1).f4)) ((rd_T28 l0 x14_1).f5)) ((rd_T28 l0 x14_1).f6)) ((rd_T28 l0 x14_1).f7)) ((rd_T28 l0 x14_1).f8)) > 1000000 then (some 9) else (if ((rd_T28 l0 x14_1).f2) > ((rd_T28 l0 x14_1).f3) then (some 9) else (class_Check.l0 k2 l0 l0 (l0.length : Int) (wrap64 (x14_1 + 1)))))) = some r := by first | (rw [hji31] at H; exact H) | (simp only [hji31] at H ⊢; exact H));have hji31_ : (if ((rd_T28 l0 x14_1).f6) < (ji30) then ((rd_T28 l0 x14_1).f6) else (ji30)) = ji31 := hji31;obtain ⟨ji32, hji32⟩ : ∃ j_ : Int, (mn (ji31) ((rd_T28 l0 x14_1).f7)) = j_ := ⟨_, rfl⟩;(replace H : (if (mn (ji32) ((rd_T28 l0 x14_1).f8)) < 0 then (some 9) else (if (mx (mx (mx (mx (mx (mx (mx ((rd_T28 l0 x14_1).f1) ((rd_T28 l0 x14_1).f2)) ((rd_T28 l0 x14_1).f3)) ((rd_T28 l0 x14_1).f4)) ((rd_T28 l0 x14_1).f5)) ((rd_T28 l0 x14_1).f6)) ((rd_T28 l0 x14_1).f7)) ((rd_T28 l0 x14_1).f8)) > 1000000 then (some 9) else (if ((rd_T28 l0 x14_1).f2) > ((rd_T28 l0 x14_1).f3) then (some 9) else (class_Check.l0 k2 l0 l0 (l0.length : Int) (wrap64 (x14_1 + 1)))))) = some r := by first | (rw [hji32] at H; exact H) | (simp only [hji32] at H ⊢; exact H));have hji32_ : (if ((rd_T28 l0 x14_1).f7) < (ji31) then ((rd_T28 l0 x14_1).f7) else (ji31)) = ji32 := hji32;obtain ⟨ji33, hji33⟩ : ∃ j_ : Int, (mn (ji32) ((rd_T28 l0 x14_1).f8)) = j_ := ⟨_, rfl⟩;(replace H : (if (ji33) < 0 then (some 9) else (if (mx (mx (mx (mx (mx (mx (mx ((rd_T28 l0 x14_1).f1) ((rd_T28 l0 x14_1).f2)) ((rd_T28 l0 x14_1).f3)) ((rd_T28 l0 x14_1).f4)) ((rd_T28 l0 x14_1).f5)) ((rd_T28 l0 x14_1).f6)) ((rd_T28 l0 x14_1).f7)) ((rd_T28 l0 x14_1).f8)) > 1000000 then (some 9) else (if ((rd_T28 l0 x14_1).f2) > ((rd_T28 l0 x14_1).f3) then (some 9) else (class_Check.l0 k2 l0 l0 (l0.length : Int) (wrap64 (x14_1 + 1)))))) = some r := by first | (rw [hji33] at H; exact H) | (simp only [hji33] at H ⊢; exact H));have hji33_ : (if ((rd_T28 l0 x14_1).f8) < (ji32) then ((rd_T28 l0 x14_1).f8) else (ji32)) = ji33 := hji33;obtain ⟨ji34, hji34⟩ : ∃ j_ : Int, (mx ((rd_T28 l0 x14_1).f1) ((rd_T28 l0 x14_1).f2)) = j_ := ⟨_, rfl⟩;(replace H : (if (ji33) < 0 then (some 9) else (if (mx (mx (mx (mx (mx (mx (ji34) ((rd_T28 l0 x14_1).f3)) ((rd_T28 l0 x14_1).f4)) ((rd_T28 l0 x14_1).f5)) ((rd_T28 l0 x14_1).f6)) ((rd_T28 l0 x14_1).f7)) ((rd_T28 l0 x14_1).f8)) > 1000000 then (some 9) else (if ((rd_T28 l0 x14_1).f2) > ((rd_T28 l0 x14_1).f3) then (some 9) else (class_Check.l0 k2 l0 l0 (l0.length : Int) (wrap64 (x14_1 + 1)))))) = some r := by first | (rw [hji34] at H; exact H) | (simp only [hji34] at H ⊢; exact H));have hji34_ : (if ((rd_T28 l0 x14_1).f1) < ((rd_T28 l0 x14_1).f2) then ((rd_T28 l0 x14_1).f2) else ((rd_T28 l0 x14_1).f1)) = ji34 := hji34;obtain ⟨ji35, hji35⟩ : ∃ j_ : Int, (mx (ji34) ((rd_T28 l0 x14_1).f3)) = j_ := ⟨_, rfl⟩;(replace H : (if (ji33) < 0 then (some 9) else (if (mx (mx (mx (mx (mx (ji35) ((rd_T28 l0 x14_1).f4)) ((rd_T28 l0 x14_1).f5)) ((rd_T28 l0 x14_1).f6)) ((rd_T28 l0 x14_1).f7)) ((rd_T28 l0 x14_1).f8)) > 1000000 then (some 9) else (if ((rd_T28 l0 x14_1).f2) > ((rd_T28 l0 x14_1).f3) then (some 9) else (class_Check.l0 k2 l0 l0 (l0.length : Int) (wrap64 (x14_1 + 1)))))) = some r := by first | (rw [hji35] at H; exact H) | (simp only [hji35] at H ⊢; exact H));have hji35_ : (if (ji34) < ((rd_T28 l0 x14_1).f3) then ((rd_T28 l0 x14_1).f3) else (ji34)) = ji35 := hji35;obtain ⟨ji36, hji36⟩ : ∃ j_ : Int, (mx (ji35) ((rd_T28 l0 x14_1).f4)) = j_ := ⟨_, rfl⟩
            (replace H : (if (ji33) < 0 then (some 9) else (if (mx (mx (mx (mx (ji36) ((rd_T28 l0 x14_1).f5)) ((rd_T28 l0 x14_1).f6)) ((rd_T28 l0 x14_1).f7)) ((rd_T28 l0 x14_1).f8)) > 1000000 then (some 9) else (if ((rd_T28 l0 x14_1).f2) > ((rd_T28 l0 x14_1).f3) then (some 9) else (class_Check.l0 k2 l0 l0 (l0.length : Int) (wrap64 (x14_1 + 1)))))) = some r := by first | (rw [hji36] at H; exact H) | (simp only [hji36] at H ⊢; exact H));have hji36_ : (if (ji35) < ((rd_T28 l0 x14_1).f4) then ((rd_T28 l0 x14_1).f4) else (ji35)) = ji36 := hji36;obtain ⟨ji37, hji37⟩ : ∃ j_ : Int, (mx (ji36) ((rd_T28 l0 x14_1).f5)) = j_ := ⟨_, rfl⟩;(replace H : (if (ji33) < 0 then (some 9) else (if (mx (mx (mx (ji37) ((rd_T28 l0 x14_1).f6)) ((rd_T28 l0 x14_1).f7)) ((rd_T28 l0 x14_1).f8)) > 1000000 then (some 9) else (if ((rd_T28 l0 x14_1).f2) > ((rd_T28 l0 x14_1).f3) then (some 9) else (class_Check.l0 k2 l0 l0 (l0.length : Int) (wrap64 (x14_1 + 1)))))) = some r := by first | (rw [hji37] at H; exact H) | (simp only [hji37] at H ⊢; exact H));have hji37_ : (if (ji36) < ((rd_T28 l0 x14_1).f5) then ((rd_T28 l0 x14_1).f5) else (ji36)) = ji37 := hji37;obtain ⟨ji38, hji38⟩ : ∃ j_ : Int, (mx (ji37) ((rd_T28 l0 x14_1).f6)) = j_ := ⟨_, rfl⟩;(replace H : (if (ji33) < 0 then (some 9) else (if (mx (mx (ji38) ((rd_T28 l0 x14_1).f7)) ((rd_T28 l0 x14_1).f8)) > 1000000 then (some 9) else (if ((rd_T28 l0 x14_1).f2) > ((rd_T28 l0 x14_1).f3) then (some 9) else (class_Check.l0 k2 l0 l0 (l0.length : Int) (wrap64 (x14_1 + 1)))))) = some r := by first | (rw [hji38] at H; exact H) | (simp only [hji38] at H ⊢; exact H));have hji38_ : (if (ji37) < ((rd_T28 l0 x14_1).f6) then ((rd_T28 l0 x14_1).f6) else (ji37)) = ji38 := hji38;obtain ⟨ji39, hji39⟩ : ∃ j_ : Int, (mx (ji38) ((rd_T28 l0 x14_1).f7)) = j_ := ⟨_, rfl⟩;(replace H : (if (ji33) < 0 then (some 9) else (if (mx (ji39) ((rd_T28 l0 x14_1).f8)) > 1000000 then (some 9) else (if ((rd_T28 l0 x14_1).f2) > ((rd_T28 l0 x14_1).f3) then (some 9) else (class_Check.l0 k2 l0 l0 (l0.length : Int) (wrap64 (x14_1 + 1)))))) = some r := by first | (rw [hji39] at H; exact H) | (simp only [hji39] at H ⊢; exact H));have hji39_ : (if (ji38) < ((rd_T28 l0 x14_1).f7) then ((rd_T28 l0 x14_1).f7) else (ji38)) = ji39 := hji39;obtain ⟨ji40, hji40⟩ : ∃ j_ : Int, (mx (ji39) ((rd_T28 l0 x14_1).f8)) = j_ := ⟨_, rfl⟩;(replace H : (if (ji33) < 0 then (some 9) else (if (ji40) > 1000000 then (some 9) else (if ((rd_T28 l0 x14_1).f2) > ((rd_T28 l0 x14_1).f3) then (some 9) else (class_Check.l0 k2 l0 l0 (l0.length : Int) (wrap64 (x14_1 + 1)))))) = some r := by first | (rw [hji40] at H; exact H) | (simp only [hji40] at H ⊢; exact H));have hji40_ : (if (ji39) < ((rd_T28 l0 x14_1).f8) then ((rd_T28 l0 x14_1).f8) else (ji39)) = ji40 := hji40
            by_cases c41 : (ji33) < 0
            ·rw [if_pos c41] at H;have c41b0 : decide ((ji33) < 0) = true := decide_eq_true c41;clear c41;obtain rfl := Option.some.inj H;have hcz42_0 := cz0_ BKq2;have hcz42_1 := cz1_ BKq2;have hcz42_2 := cz2_ BKq2;have hcz42_3 := cz3_ BKq2;have hcz42_4 : wr.cell? ⟨gbq2, 4, none⟩ = some (.int .i64 ((rd_T28 l0 x14_1).f4)) := cl_ BKq2 4;have hcz42_5 : wr.cell? ⟨gbq2, 5, none⟩ = some (.int .i64 ((rd_T28 l0 x14_1).f5)) := cl_ BKq2 5;have hcz42_6 : wr.cell? ⟨gbq2, 6, none⟩ = some (.int .i64 ((rd_T28 l0 x14_1).f6)) := cl_ BKq2 6;have hcz42_7 : wr.cell? ⟨gbq2, 7, none⟩ = some (.int .i64 ((rd_T28 l0 x14_1).f7)) := cl_ BKq2 7;have hcz42_8 : wr.cell? ⟨gbq2, 8, none⟩ = some (.int .i64 ((rd_T28 l0 x14_1).f8)) := cl_ BKq2 8;have hfz42_0 := fz_ BKq2 0;have hfz42_1 := fz_ BKq2 1;have hfz42_2 := fz_ BKq2 2;have hfz42_3 := fz_ BKq2 3;have hfz42_4 := fz_ BKq2 4;have hfz42_5 := fz_ BKq2 5;have hfz42_6 := fz_ BKq2 6;have hfz42_7 := fz_ BKq2 7;have hfz42_8 := fz_ BKq2 8;go_wp2;go_ret;exact ⟨by first | rfl | (simp [errW_none, errW_some] <;> rfl) | (simp only [← hji27, ← hji28, ← hji29, ← hji30, ← hji31, ← hji32, ← hji33, ← hji34, ← hji35, ← hji36, ← hji37, ← hji38, ← hji39, ← hji40]; first | rfl | (simp [errW_none, errW_some] <;> rfl)) | (simp [*, errW_none, errW_some] <;> rfl), be_⟩
            ·rw [if_neg c41] at H;have c41b0 : decide ((ji33) < 0) = false := decide_eq_false c41;clear c41
             by_cases c43 : (ji40) > 1000000
             ·rw [if_pos c43] at H;have c43b0 : decide (1000000 < (ji40)) = true := decide_eq_true c43;clear c43;obtain rfl := Option.some.inj H;have hcz44_0 := cz0_ BKq2;have hcz44_1 := cz1_ BKq2;have hcz44_2 := cz2_ BKq2;have hcz44_3 := cz3_ BKq2;have hcz44_4 : wr.cell? ⟨gbq2, 4, none⟩ = some (.int .i64 ((rd_T28 l0 x14_1).f4)) := cl_ BKq2 4;have hcz44_5 : wr.cell? ⟨gbq2, 5, none⟩ = some (.int .i64 ((rd_T28 l0 x14_1).f5)) := cl_ BKq2 5;have hcz44_6 : wr.cell? ⟨gbq2, 6, none⟩ = some (.int .i64 ((rd_T28 l0 x14_1).f6)) := cl_ BKq2 6;have hcz44_7 : wr.cell? ⟨gbq2, 7, none⟩ = some (.int .i64 ((rd_T28 l0 x14_1).f7)) := cl_ BKq2 7;have hcz44_8 : wr.cell? ⟨gbq2, 8, none⟩ = some (.int .i64 ((rd_T28 l0 x14_1).f8)) := cl_ BKq2 8;have hfz44_0 := fz_ BKq2 0;have hfz44_1 := fz_ BKq2 1;have hfz44_2 := fz_ BKq2 2;have hfz44_3 := fz_ BKq2 3;have hfz44_4 := fz_ BKq2 4;have hfz44_5 := fz_ BKq2 5;have hfz44_6 := fz_ BKq2 6;have hfz44_7 := fz_ BKq2 7;have hfz44_8 := fz_ BKq2 8;go_wp2;go_ret;exact ⟨by first | rfl | (simp [errW_none, errW_some] <;> rfl) | (simp only [← hji27, ← hji28, ← hji29, ← hji30, ← hji31, ← hji32, ← hji33, ← hji34, ← hji35, ← hji36, ← hji37, ← hji38, ← hji39, ← hji40]; first | rfl | (simp [errW_none, errW_some] <;> rfl)) | (simp [*, errW_none, errW_some] <;> rfl), be_⟩
             ·rw [if_neg c43] at H;have c43b0 : decide (1000000 < (ji40)) = false := decide_eq_false c43;clear c43
              by_cases c45 : ((rd_T28 l0 x14_1).f2) > ((rd_T28 l0 x14_1).f3)
              ·rw [if_pos c45] at H;have c45b0 : decide (((rd_T28 l0 x14_1).f3) < ((rd_T28 l0 x14_1).f2)) = true := decide_eq_true c45;clear c45;obtain rfl := Option.some.inj H;have hcz46_0 := cz0_ BKq2;have hcz46_1 := cz1_ BKq2;have hcz46_2 := cz2_ BKq2;have hcz46_3 := cz3_ BKq2;have hcz46_4 : wr.cell? ⟨gbq2, 4, none⟩ = some (.int .i64 ((rd_T28 l0 x14_1).f4)) := cl_ BKq2 4;have hcz46_5 : wr.cell? ⟨gbq2, 5, none⟩ = some (.int .i64 ((rd_T28 l0 x14_1).f5)) := cl_ BKq2 5;have hcz46_6 : wr.cell? ⟨gbq2, 6, none⟩ = some (.int .i64 ((rd_T28 l0 x14_1).f6)) := cl_ BKq2 6;have hcz46_7 : wr.cell? ⟨gbq2, 7, none⟩ = some (.int .i64 ((rd_T28 l0 x14_1).f7)) := cl_ BKq2 7;have hcz46_8 : wr.cell? ⟨gbq2, 8, none⟩ = some (.int .i64 ((rd_T28 l0 x14_1).f8)) := cl_ BKq2 8;have hfz46_0 := fz_ BKq2 0;have hfz46_1 := fz_ BKq2 1;have hfz46_2 := fz_ BKq2 2;have hfz46_3 := fz_ BKq2 3;have hfz46_4 := fz_ BKq2 4;have hfz46_5 := fz_ BKq2 5;have hfz46_6 := fz_ BKq2 6;have hfz46_7 := fz_ BKq2 7;have hfz46_8 := fz_ BKq2 8;go_wp2;go_ret;exact ⟨by first | rfl | (simp [errW_none, errW_some] <;> rfl) | (simp only [← hji27, ← hji28, ← hji29, ← hji30, ← hji31, ← hji32, ← hji33, ← hji34, ← hji35, ← hji36, ← hji37, ← hji38, ← hji39, ← hji40]; first | rfl | (simp [errW_none, errW_some] <;> rfl)) | (simp [*, errW_none, errW_some] <;> rfl), be_⟩
              ·rw [if_neg c45] at H;have c45b0 : decide (((rd_T28 l0 x14_1).f3) < ((rd_T28 l0 x14_1).f2)) = false := decide_eq_false c45;clear c45;have H' := Aside0.mk H;clear H;have hcz47_0 := cz0_ BKq2;have hcz47_1 := cz1_ BKq2;have hcz47_2 := cz2_ BKq2;have hcz47_3 := cz3_ BKq2;have hcz47_4 : wr.cell? ⟨gbq2, 4, none⟩ = some (.int .i64 ((rd_T28 l0 x14_1).f4)) := cl_ BKq2 4;have hcz47_5 : wr.cell? ⟨gbq2, 5, none⟩ = some (.int .i64 ((rd_T28 l0 x14_1).f5)) := cl_ BKq2 5;have hcz47_6 : wr.cell? ⟨gbq2, 6, none⟩ = some (.int .i64 ((rd_T28 l0 x14_1).f6)) := cl_ BKq2 6;have hcz47_7 : wr.cell? ⟨gbq2, 7, none⟩ = some (.int .i64 ((rd_T28 l0 x14_1).f7)) := cl_ BKq2 7;have hcz47_8 : wr.cell? ⟨gbq2, 8, none⟩ = some (.int .i64 ((rd_T28 l0 x14_1).f8)) := cl_ BKq2 8;have hfz47_0 := fz_ BKq2 0;have hfz47_1 := fz_ BKq2 1;have hfz47_2 := fz_ BKq2 2;have hfz47_3 := fz_ BKq2 3;have hfz47_4 := fz_ BKq2 4;have hfz47_5 := fz_ BKq2 5;have hfz47_6 := fz_ BKq2 6;have hfz47_7 := fz_ BKq2 7;have hfz47_8 := fz_ BKq2 8;go_wp2
               go_roundg k2
               case measure => have := HK1.out; have := HK2.out; omega
               case rel => exact ⟨(wrap64 (x14_1 + 1)), rs_, H', ⟨by have := HK1.out; have := HK2.out; omega⟩, ⟨be_⟩⟩
        ·rw [if_neg c9] at H;exact absurd H (by simp)
       ·replace c7 := Bool.eq_false_iff.mpr c7;subst c7;(have H1 : (some 6) = some r := by rw [if_neg (show ¬ (false = true) by decide)] at H; exact H);clear H;have H := H1;clear H1;obtain rfl := Option.some.inj H;have pq1 : 0 ≤ (x14_1 : Int) := as_;have qq1 : x14_1 < (l0.length : Int) := as_;obtain ⟨adq1, eq1, hxq1_0, hxq1_1, hxq1_2, hxq1_3, hxq1_4, hxq1_5, hxq1_6, hxq1_7, hxq1_8⟩ := at_T28 HR0.out x14_1 pq1 qq1;cases eq1;replace hxq1_0 := bc_ HB hxq1_0;replace hxq1_1 := bc_ HB hxq1_1;replace hxq1_2 := bc_ HB hxq1_2;replace hxq1_3 := bc_ HB hxq1_3;replace hxq1_4 := bc_ HB hxq1_4;replace hxq1_5 := bc_ HB hxq1_5;replace hxq1_6 := bc_ HB hxq1_6;replace hxq1_7 := bc_ HB hxq1_7;replace hxq1_8 := bc_ HB hxq1_8;replace pq1 := eq_true pq1;replace qq1 := eq_true qq1;go_wp2_with (first | ((with_reducible refine gate_dst (N := 4) rfl ?_); refine bx_ 4 (cs := #[.string (⟨#[]⟩ : ByteArray), .int .i64 0, .int .i64 0, .int .i64 0, .int .i64 0, .int .i64 0, .int .i64 0, .int .i64 0, .int .i64 0]) (t := 28) ?_; intro gbq2 hg w48 hbox hb; have BKq2 := A_ hbox; have GWq2 := gz_ (w := w) hg; have GEq2 := gz_ (w := w) hg; replace HB := bA_ hb; clear hb hbox hg; have hcz49_0 := cz0_ BKq2; have hcz49_1 := cz1_ BKq2; have hcz49_2 := cz2_ BKq2; have hcz49_3 := cz3_ BKq2; have hcz49_4 : w48.cell? ⟨gbq2, 4, none⟩ = some (.int .i64 0) := cl_ BKq2 4; have hcz49_5 : w48.cell? ⟨gbq2, 5, none⟩ = some (.int .i64 0) := cl_ BKq2 5; have hcz49_6 : w48.cell? ⟨gbq2, 6, none⟩ = some (.int .i64 0) := cl_ BKq2 6; have hcz49_7 : w48.cell? ⟨gbq2, 7, none⟩ = some (.int .i64 0) := cl_ BKq2 7; have hcz49_8 : w48.cell? ⟨gbq2, 8, none⟩ = some (.int .i64 0) := cl_ BKq2 8; have hfz49_0 := fz_ BKq2 0; have hfz49_1 := fz_ BKq2 1; have hfz49_2 := fz_ BKq2 2; have hfz49_3 := fz_ BKq2 3; have hfz49_4 := fz_ BKq2 4; have hfz49_5 := fz_ BKq2 5; have hfz49_6 := fz_ BKq2 6; have hfz49_7 := fz_ BKq2 7; have hfz49_8 := fz_ BKq2 8) | ((with_reducible refine gate_callee (f := 23) rfl ?_); refine goesL_ (some 21) rfl rfl Try.func23 (by kernel_rfl) rfl #[.string ((rd_T28 l0 x14_1).f0)] rfl la_ ?_; (with_reducible refine (ident_IsName.calls k1 ((rd_T28 l0 x14_1).f0) false _ A6.out).mono ?_); rintro e w' ⟨rfl, ⟨nd, rfl⟩⟩; refine ⟨_, rfl, ?_⟩));go_ret;exact ⟨er_, be_⟩
      ·rw [if_neg c5] at H;exact absurd H (by simp)
     ·rw [if_neg c4] at H;exact absurd H (by simp)
    ·rw [if_neg c3] at H;have c3b0 : decide (x14_1 < (l0.length : Int)) = false := decide_eq_false c3;clear c3;obtain rfl := Option.some.inj H;go_wp2;go_ret;exact ⟨er_, be_⟩


-- by hand
def firstFit (m : Int × Int × Int × Int × Int × Int) : List S28 → Int → Int × Bool
 | [], _ => (0, false)
 | x :: l, i => if fitB m x = true then (i, true) else firstFit m l (i + 1)
def class_Of.f (k : Nat) (c : List S28) (l : List S58) (d : List S48) : Option (Int × Bool) := (class_measured.f k l d).bind fun m => match m with
 | none => some (0, false)
 | some m => (class_Check.f k c).bind fun e => if (e != 0) = true then some (0, false) else if c.length < 9223372036854775807 then some (firstFit m c 0) else none
set_option maxHeartbeats 4000000 in
set_option maxRecDepth 100000 in
theorem class_Of.calls (k : Nat) (A0 : Option Addr) (c0 : Nat) (l0 : List S28) (A1 : Option Addr) (c1 : Nat) (l1 : List S58) (A2 : Option Addr) (c2 : Nat) (l2 : List S48) (r0 : Int) (r1 : Bool) (w : World) (hr0 : Kd.C k28 w A0 l0.length l0) (hc0 : l0.length ≤ c0) (hr1 : Kd.C k58 w A1 l1.length l1) (hc1 : l1.length ≤ c1) (hr2 : Kd.C k48 w A2 l2.length l2) (hc2 : l2.length ≤ c2) (h : class_Of.f k l0 l1 l2 = some (r0, r1)) :
  Calls Try.prog 17 #[.slice A0 l0.length c0, .slice A1 l1.length c1, .slice A2 l2.length c2] w fun e w' => e = .returned (.tuple #[.int .i64 r0, .bool r1]) ∧ Below w.heap.size w w' := by
 unfold class_Of.f at h;obtain ⟨m, B0, h⟩ := Option.bind_eq_some_iff.mp h;have K := class_measured.calls k A1 c1 l1 A2 c2 l2 m _ hr1 hc1 hr2 hc2 B0;have HC := Aside0.mk hr0;clear hr1 hr2 hr0;(have q1 : ∀ w, (binOp .eql 59 .nilFunc .nilFunc).run Try.prog w = .ok (.bool true) w := fun _ => by kernel_rfl);(have q2 : ∀ fn xs ys w, (binOp .eql 59 (.func fn xs ys) .nilFunc).run Try.prog w = .ok (.bool false) w := fun _ _ _ _ => by kernel_rfl);cases m with
 | none =>
  (obtain ⟨rfl, rfl⟩ : (0 : Int) = r0 ∧ false = r1 := by simpa using h);go_enter Try.func17, Try.ntmps17;go_wp2_with fail;refine K.mono ?_;rintro e w1 ⟨v, rfl, hm, hb⟩;obtain rfl : v = .nilFunc := hm;go_wp2
  go_ret2
  exact ⟨rfl, hb⟩
 | some m =>
  simp only at h;obtain ⟨ce, B1, h⟩ := Option.bind_eq_some_iff.mp h;have C1 := fun (W : World) (hb : Below w.heap.size w W) => class_Check.calls k A0 c0 l0 ce W (Kd.C_below HC.out hb) hc0 B1
  by_cases hce : (ce != 0) = true
  ·rw [if_pos hce] at h;(obtain ⟨rfl, rfl⟩ : (0 : Int) = r0 ∧ false = r1 := by simpa using h);go_enter Try.func17, Try.ntmps17;go_wp2_with fail;refine K.mono ?_;rintro e w1 ⟨v, rfl, hm, hb⟩;obtain ⟨g1, g2, g3, g4, g5, g6, rfl, h1, h2, h3, h4, h5, h6⟩ := hm;clear h1 h2 h3 h4 h5 h6;have C2 := C1 w1 hb;go_wp2_with fail;refine C2.mono ?_;rintro e w2 ⟨rfl, hb2⟩;go_wp2
   go_ret2
   exact ⟨rfl, hb.trans (hb2.mono hb.size)⟩
  rw [if_neg hce] at h;(have hce' : (ce != 0) = false := by simpa using hce);(have hlen : l0.length < 9223372036854775807 := Decidable.byContradiction fun hn => by rw [if_neg hn] at h; cases h);rw [if_pos hlen] at h;replace h : firstFit m l0 0 = (r0, r1) := Option.some.inj h;go_enter Try.func17, Try.ntmps17;go_wp2_with fail;refine K.mono ?_;rintro e w1 ⟨v, rfl, hm, hb⟩;obtain ⟨g1, g2, g3, g4, g5, g6, rfl, h1, h2, h3, h4, h5, h6⟩ := hm;have C2 := C1 w1 hb;clear C1 K;have HH := A_ (show Held w1 g1 m.1 ∧ Held w1 g2 m.2.1 ∧ Held w1 g3 m.2.2.1 ∧ Held w1 g4 m.2.2.2.1 ∧ Held w1 g5 m.2.2.2.2.1 ∧ Held w1 g6 m.2.2.2.2.2 from ⟨h1, h2, h3, h4, h5, h6⟩);clear h1 h2 h3 h4 h5 h6;go_wp2_with fail;refine C2.mono ?_;rintro e w2 ⟨rfl, hb2⟩;have hbw : Below w.heap.size w w2 := hb.trans (hb2.mono hb.size);clear C2;go_wp2
  go_loopg [23] l0.length (fun gg s23 wr => ∃ i : Nat, s23 = .int .i64 i ∧ i + gg = l0.length ∧ Aside0 (firstFit m (l0.drop i) i = (r0, r1)) ∧ Aside0 (Below w1.heap.size w1 wr) ∧ Aside0 (Below w.heap.size w wr))
  case atStart => exact ⟨0, rfl, by omega, ⟨h⟩, ⟨hb2⟩, ⟨hbw⟩⟩
  case round =>
   obtain ⟨i, rfl, hig, HF, HB1, HB⟩ := hrel;clear hb hb2 hbw
   by_cases hlt : i < l0.length
   ·(have hltz : (i : Int) < (l0.length : Int) := by omega);have hltb : decide ((i : Int) < (l0.length : Int)) = true := decide_eq_true hltz;(have h0 : (0 : Int) ≤ i := by omega);have T := at_T28 (Kd.C_below HC.out HB.out) i (by omega) (by omega);obtain ⟨ad, rfl, t0, t1, t2, t3, t4, t5, t6, t7, t8⟩ := T;rw [Int.toNat_natCast] at t0 t1 t2 t3 t4 t5 t6 t7 t8;(have hrd : rd_T28 l0 i = l0[i] := by unfold rd_T28; rw [Int.toNat_natCast, List.getD_eq_getElem?_getD, List.getElem?_eq_getElem hlt]; rfl);rw [hrd] at t0 t1 t2 t3 t4 t5 t6 t7 t8
    have hf : firstFit m (l0.drop i) i = if fitB m l0[i] = true then ((i : Int), true) else firstFit m (l0.drop (i + 1)) ((i : Int) + 1) := by
     rw [List.drop_eq_getElem_cons hlt]; rfl
    rw [hf] at HF;clear hf hrd;generalize l0[i] = x at *;have hal := below_alloc (Below.refl wr.heap.size wr) (.cells #[.string x.f0, .int .i64 x.f1, .int .i64 x.f2, .int .i64 x.f3, .int .i64 x.f4, .int .i64 x.f5, .int .i64 x.f6, .int .i64 x.f7, .int .i64 x.f8] 28);obtain ⟨h1, h2, h3, h4, h5, h6⟩ := HH.out;have F := fit_calls m x g1 g2 g3 g4 g5 g6 _ ((h1.below HB1.out h1.lt).alloc (.cells #[.string x.f0, .int .i64 x.f1, .int .i64 x.f2, .int .i64 x.f3, .int .i64 x.f4, .int .i64 x.f5, .int .i64 x.f6, .int .i64 x.f7, .int .i64 x.f8] 28)) ((h2.below HB1.out h2.lt).alloc _) ((h3.below HB1.out h3.lt).alloc _) ((h4.below HB1.out h4.lt).alloc _) ((h5.below HB1.out h5.lt).alloc _) ((h6.below HB1.out h6.lt).alloc _);clear h1 h2 h3 h4 h5 h6;(have hw1 : wrap64 ((i : Int) + 1) = ((i + 1 : Nat) : Int) := by unfold wrap64; omega);go_wp2_with fail;refine F.mono ?_;rintro e w3 ⟨rfl, hb3⟩;have HB1' := HB1.out.trans ((hal.trans (hb3.mono hal.size)).mono HB1.out.size);have HB' := HB.out.trans ((hal.trans (hb3.mono hal.size)).mono HB.out.size);clear hb3 hal t0 t1 t2 t3 t4 t5 t6 t7 t8;have hfo := HF.out;cases hfit : fitB m x with
    | true =>
     rw [hfit, if_pos rfl] at hfo;(obtain ⟨rfl, rfl⟩ : (i : Int) = r0 ∧ true = r1 := by simpa using hfo);go_wp2
     go_ret2
     exact ⟨rfl, HB'⟩
    | false =>
     rw [hfit, if_neg (by decide)] at hfo;go_wp2
     go_roundg (l0.length - (i + 1))
     case measure => omega
     case rel => exact ⟨i + 1, rfl, by omega, ⟨hfo⟩, ⟨HB1'⟩, ⟨HB'⟩⟩
   ·(have hltz : ¬ (i : Int) < (l0.length : Int) := by omega);(obtain rfl : i = l0.length := by omega);(obtain ⟨rfl, rfl⟩ : (0 : Int) = r0 ∧ false = r1 := by have := HF.out; simpa [firstFit] using this);go_wp2
    go_ret2
    exact ⟨rfl, HB.out⟩
theorem class_Of.mono : ∀ a0 a1 a2 k, LeO (class_Of.f k a0 a1 a2) (class_Of.f (k + 1) a0 a1 a2) := by
 intro a0 a1 a2 k;unfold class_Of.f;refine LeO.bind (class_measured.mono _ _ _) (fun m => ?_);cases m with
 | none => exact LeO.refl _
 | some m => exact LeO.bind (class_Check.mono _ _) (fun _ => LeO.refl _)


def solid_Volume.l0 : Nat → Int → List (S68) → Int → Int → Option (Int)
 | 0, _, _, _, _ => none
 | k + 1, x3, x8, x9, x10 => if x10 < x9 then (if 0 ≤ x10 then (if x10 < (x8.length : Int) then ((section_Area.f k ((rd_T68 x8 x10).f1.f0) ((rd_T68 x8 x10).f1.f1)).bind fun tq8 => (solid_Volume.l0 k (wrap64 (x3 + (wrap64 ((wrap64 (((rd_T68 x8 x10).f0.f1) - ((rd_T68 x8 x10).f0.f0))) * tq8)))) x8 x9 (wrap64 (x10 + 1)))) else (none)) else (none)) else (some x3)
def solid_Volume.f (k : Nat) (l0 : List (S58)) : Option (Int) := (solid_whole.f).bind fun btq1 => ((solid_parts.f k l0 btq1.1 btq1.2).bind fun tq3 => (solid_Volume.l0 k 0 tq3 (tq3.length : Int) 0))
theorem solid_Volume.mono_l : ∀ k, (∀ y0 y1 y2 y3, LeO (solid_Volume.l0 k y0 y1 y2 y3) (solid_Volume.l0 (k + 1) y0 y1 y2 y3))
 | 0 => fun _ _ _ _ r h => by simp [solid_Volume.l0] at h
 | k + 1 => by
  have ih0 := solid_Volume.mono_l k
  ·intro y0 y1 y2 y3;unfold solid_Volume.l0
   repeat' first
   | (with_reducible exact ih0 _ _ _ _)
   | (with_reducible exact section_Area.mono _ _ _)
   | (with_reducible exact solid_parts.mono _ _ _ _)
   | (with_reducible exact LeO.refl _)
   | (with_reducible exact LeO.none _)
   | (with_reducible refine LeO.ite ?_ ?_)
   | (with_reducible refine LeO.bind ?_ (fun _ => ?_))
   | exact ih0 _ _ _ _
   | exact section_Area.mono _ _ _
   | exact solid_parts.mono _ _ _ _
   | exact LeO.none _
   | refine LeO.ite ?_ ?_
   | refine LeO.bind ?_ (fun _ => ?_)
theorem solid_Volume.mono : ∀ a0 k, LeO (solid_Volume.f k a0) (solid_Volume.f (k + 1) a0) := by
 intro a0 k;have ih0 := solid_Volume.mono_l k;unfold solid_Volume.f
 repeat' first
   | (with_reducible exact ih0 _ _ _ _)
   | (with_reducible exact section_Area.mono _ _ _)
   | (with_reducible exact solid_parts.mono _ _ _ _)
   | (with_reducible exact LeO.refl _)
   | (with_reducible exact LeO.none _)
   | (with_reducible refine LeO.ite ?_ ?_)
   | (with_reducible refine LeO.bind ?_ (fun _ => ?_))
   | exact ih0 _ _ _ _
   | exact section_Area.mono _ _ _
   | exact solid_parts.mono _ _ _ _
   | exact LeO.none _
   | refine LeO.ite ?_ ?_
   | refine LeO.bind ?_ (fun _ => ?_)
def solid_Volume.T5 : Bool × List (List Nat × List Nat) := (true, [([], []), ([], []), ([1], [1]), ([2], [2]), ([], []), ([4], [4]), ([5], [5]), ([3, 6], [3, 6]), ([], []), ([8], [8]), ([9], [9]), ([7, 10], [7, 10]), ([0, 11], [0, 11]), ([12, 10, 0, 1, 2, 3, 4, 5, 6, 7, 8, 9, 10, 11, 12], [0, 12])])
def solid_Volume.B5 : List Nat := [0, 0, 2, 6, 0, 16, 48, 126, 0, 256, 768, 2046, 4095, 8191]
theorem solid_Volume.tab5 : rtab .any (opsOf Try.f21 5) = solid_Volume.T5 := by kernel_rfl
theorem solid_Volume.bits5 : waitsOk solid_Volume.T5.2 solid_Volume.B5 = true := by kernel_rfl
set_option maxHeartbeats 8000000 in
set_option maxRecDepth 100000 in
theorem solid_Volume.calls (k : Nat) (A0 : Option Addr) (c0 : Nat) (l0 : List (S58)) (r : Int) (w : World) (hr0 : Kd.C k58 w A0 l0.length l0) (hc0 : l0.length ≤ c0) (h : solid_Volume.f k l0 = some r) :
  Calls Try.prog 21 #[.slice A0 l0.length c0] w fun e w' => e = .returned (.int .i64 r) ∧ Below w.heap.size w w' := by
 have hu68 := Try.underlying68;have hu56 := Try.underlying56;have HR0 := Aside0.mk hr0;have HC0 := Aside0.mk hc0;clear hr0 hc0;have HB := A_ (Below.refl w.heap.size w);have H : ((solid_whole.f).bind fun btq1 => ((solid_parts.f k l0 btq1.1 btq1.2).bind fun tq3 => (solid_Volume.l0 k 0 tq3 (tq3.length : Int) 0))) = some r := h;clear h;replace H := Option.bind_eq_some_iff.mp H;obtain ⟨⟨tq1, tq2⟩, A20, H⟩ := H;replace H : ((solid_parts.f k l0 tq1 tq2).bind fun tq3 => (solid_Volume.l0 k 0 tq3 (tq3.length : Int) 0)) = some r := H;have A2 := Aside0.mk A20;clear A20;replace H := Option.bind_eq_some_iff.mp H;obtain ⟨tq3, A30, H⟩ := H;replace H : (solid_Volume.l0 k 0 tq3 (tq3.length : Int) 0) = some r := H;have A3 := Aside0.mk A30;clear A30;have H' := Aside0.mk H;clear H;go_enter Try.func21, Try.ntmps21;go_wp2_with (first | ((with_reducible refine gate_callee (f := 37) rfl ?_); refine goesL_ (some 7) rfl rfl Try.func37 (by kernel_rfl) rfl #[] rfl la_ ?_; (with_reducible refine (solid_whole.calls  tq1 tq2 _ A2.out).mono ?_); rintro e w4 ⟨rfl, hb⟩; refine ⟨_, rfl, ?_⟩; replace HB := bA_ hb; (try clear hb); (try clear hk)) | ((with_reducible refine gate_callee (f := 36) rfl ?_); refine goesL_ (some 8) rfl rfl Try.func36 (by kernel_rfl) rfl #[.slice A0 l0.length c0, .agg #[.int .i64 tq1, .int .i64 tq2]] rfl la_ ?_; (with_reducible refine (solid_parts.calls k (fun k_ => k_ < w.heap.size) _ _ l0 tq1 tq2 tq3 _ ?side1 A3.out).mono ?_); (case side1 => exact Kd.V_mk HC0.out (Kd.F_below (Kd.C_F k58_heap HR0.out) be_)); rintro e w5 ⟨vq4, rfl, ho0, hb⟩; refine ⟨_, rfl, ?_⟩; have HOq5 := A_ (Kd.N_lower (Kd.N_mono (ok' := fun k_ => True) ho0 (fun k_ hk_ => trivial)) bz_); replace HB := bA_ hb; (try clear hb); (try clear hk); (try clear ho0); obtain ⟨Ao6, co6, eo6⟩ := Kd.N_slice HOq5.out; subst eo6))
 go_loopg [3, 10] k (fun kq v3 v10 w' => ∃ (x3_1 : Int) (x10_1 : Int), v3 = .int .i64 x3_1 ∧ v10 = .int .i64 x10_1 ∧ Aside0 (solid_Volume.l0 kq x3_1 tq3 (tq3.length : Int) x10_1 = some r) ∧ Aside0 (kq ≤ k) ∧ Aside0 (Kd.N k68 68 w' w.heap.size (fun _ => True) (.slice Ao6 tq3.length co6) tq3) ∧ Aside0 (Below w.heap.size w w'))
 case atStart => exact ⟨(0), (0), rs_, rs_, H', ⟨Nat.le_refl _⟩, ⟨fN_ HOq5.out⟩, ⟨be_⟩⟩
 case round =>
  clear H';(try clear c2);(try clear p2);(try clear c3);obtain ⟨x3_1, x10_1, rfl, rfl, HA, HK1, HO_8, HB⟩ := hrel;cases gk with
  | zero => exact absurd HA.out (by simp [solid_Volume.l0])
  | succ k1 =>
   have H := HA.out;clear HA;simp only [solid_Volume.l0] at H
   by_cases c7 : x10_1 < (tq3.length : Int)
   ·rw [if_pos c7] at H;have c7b0 : decide (x10_1 < (tq3.length : Int)) = true := decide_eq_true c7;clear c7
    by_cases c8 : 0 ≤ x10_1
    ·rw [if_pos c8] at H;have c8b0 : decide (0 ≤ x10_1) = true := decide_eq_true c8;clear c8
     by_cases c9 : x10_1 < (tq3.length : Int)
     ·rw [if_pos c9] at H;have c9b0 : decide (x10_1 < (tq3.length : Int)) = true := decide_eq_true c9;clear c9;replace H := Option.bind_eq_some_iff.mp H;obtain ⟨tq8, A100, H⟩ := H;replace H : (solid_Volume.l0 k1 (wrap64 (x3_1 + (wrap64 ((wrap64 (((rd_T68 tq3 x10_1).f0.f1) - ((rd_T68 tq3 x10_1).f0.f0))) * tq8)))) tq3 (tq3.length : Int) (wrap64 (x10_1 + 1))) = some r := H;have A10 := Aside0.mk A100;clear A100;have H' := Aside0.mk H;clear H;have pq6 : 0 ≤ (x10_1 : Int) := as_;have qq6 : x10_1 < (tq3.length : Int) := as_;obtain ⟨adq6, Aq6_3, cq6_3, eq6, hxq6_0, hxq6_1, hxq6_2, hxq6_3, hlq6_3, hiq6_3⟩ := at_T68 (Kd.N_reads' HO_8.out).2.2 x10_1 pq6 qq6;cases eq6;obtain ⟨ceq6, hceq6, hMeq6, hccq6⟩ := Kd.N_get HO_8.out z68 x10_1 pq6 (by first | exact qq6 | exact as_ | (have e_ := (Kd.N_reads' HO_8.out).1; omega));obtain ⟨uaq6_3, ucq6_3, rfl, ulq6_3, geq6_3⟩ := k68_openF hMeq6;have hvq6_3 := hccq6 3 _ rfl;rw [add_field _ _ 3 (by omega)] at hvq6_3;replace hvq6_3 := Option.some.inj (hvq6_3.symm.trans hxq6_3);injection hvq6_3 with hva_ hvn_ hvc_;rw [hva_] at geq6_3;rw [hvc_] at ulq6_3;have HLq6_3 := A_ (show Kd.V k44 44 _ w.heap.size _ _ ((rd_T68 tq3 x10_1).f1.f1) from Kd.V_mk ulq6_3 geq6_3);clear hva_ hvn_ hvc_ geq6_3 ulq6_3 hccq6 hceq6;have HRq6_3 := Aside0.mk hiq6_3;have HCq6_3 := Aside0.mk hlq6_3;clear hiq6_3 hlq6_3;replace pq6 := eq_true pq6;replace qq6 := eq_true qq6;(try go_wp2_with (first | ((with_reducible refine gate_dst (N := 5) rfl ?_); refine bx_ 5 (cs := #[.int .i64 0, .int .i64 0, .int .i64 0, .slice none 0 0]) (t := 68) ?_; intro gbq7 hg w11 hbox hb; replace HO_8 := A_ (Kd.N_below (Kd.N_elderB (fN_ HO_8.out) gbq7 (Nat.le_of_eq hg.symm)) hb); replace HLq6_3 := A_ (Kd.V_below (Kd.V_elderB (fV_ HLq6_3.out) gbq7 (Nat.le_of_eq hg.symm)) hb); replace HRq6_3 := A_ (Kd.C_below (by repeat (first | (with_reducible exact HRq6_3.out) | (with_reducible refine Kd.C_alloc ?_ _) | (with_reducible refine Kd.C_drewN ?_ _) | (with_reducible refine Kd.C_drew ?_) | exact HRq6_3.out)) hb); have BKq7 := A_ hbox; have GWq7 := gz_ (w := w) hg; have GEq7 := gz_ (w := w) hg; replace HB := bA_ hb; clear hb hbox hg; obtain ⟨hcz12_0, hcz12_1, hcz12_2, hcz12_3, hfz12_0, hfz12_1, hfz12_2, hfz12_3⟩ := cy4_ BKq7)));have n0_ : Aside0 (Kd.N k68 68 ((((w11.setCell ⟨gbq7, 0, none⟩ (.int .i64 ((rd_T68 tq3 x10_1).f0.f0))).setCell ⟨gbq7, 1, none⟩ (.int .i64 ((rd_T68 tq3 x10_1).f0.f1))).setCell ⟨gbq7, 2, none⟩ (.int .i64 ((rd_T68 tq3 x10_1).f1.f0))).setCell ⟨gbq7, 3, none⟩ (.slice Aq6_3 ((rd_T68 tq3 x10_1).f1.f1).length cq6_3)) w.heap.size (fun k_ => k_ ≠ gbq7) (.slice (some adq6) tq3.length co6) tq3) := ⟨by (with_reducible repeat (first | apply Kd.N_alloc | apply Kd.N_drewN | apply Kd.N_drew)); exact Kd.N_mono (Nf_ (Nf_ (Nf_ (Nf_ (Kd.N_mono HO_8.out (fun k_ hk => (⟨hk, hk.2⟩ : _ ∧ k_ ≠ gbq7))))))) (fun _ hk => hk.1.2)⟩;have n1_ : Aside0 (Kd.V k44 44 ((((w11.setCell ⟨gbq7, 0, none⟩ (.int .i64 ((rd_T68 tq3 x10_1).f0.f0))).setCell ⟨gbq7, 1, none⟩ (.int .i64 ((rd_T68 tq3 x10_1).f0.f1))).setCell ⟨gbq7, 2, none⟩ (.int .i64 ((rd_T68 tq3 x10_1).f1.f0))).setCell ⟨gbq7, 3, none⟩ (.slice Aq6_3 ((rd_T68 tq3 x10_1).f1.f1).length cq6_3)) w.heap.size (fun k_ => some k_ ≠ (.slice (some adq6) tq3.length co6 : Value).ownBlock ∧ k_ ≠ gbq7) (.slice Aq6_3 ((rd_T68 tq3 x10_1).f1.f1).length cq6_3) ((rd_T68 tq3 x10_1).f1.f1)) := ⟨by (with_reducible repeat (first | apply Kd.V_alloc | apply Kd.V_drewN | apply Kd.V_drew)); exact Kd.V_mono (Vf_ (Vf_ (Vf_ (Vf_ (Kd.V_mono HLq6_3.out (fun k_ hk => (⟨hk, hk.2⟩ : _ ∧ k_ ≠ gbq7))))))) (fun _ hk => ⟨hk.1.1.2, hk.1.2⟩)⟩
      have n2_ : Aside0 (((((w11.setCell ⟨gbq7, 0, none⟩ (.int .i64 ((rd_T68 tq3 x10_1).f0.f0))).setCell ⟨gbq7, 1, none⟩ (.int .i64 ((rd_T68 tq3 x10_1).f0.f1))).setCell ⟨gbq7, 2, none⟩ (.int .i64 ((rd_T68 tq3 x10_1).f1.f0))).setCell ⟨gbq7, 3, none⟩ (.slice Aq6_3 ((rd_T68 tq3 x10_1).f1.f1).length cq6_3)).heap[gbq7]? = some (.cells #[.int .i64 ((rd_T68 tq3 x10_1).f0.f0), .int .i64 ((rd_T68 tq3 x10_1).f0.f1), .int .i64 ((rd_T68 tq3 x10_1).f1.f0), .slice Aq6_3 ((rd_T68 tq3 x10_1).f1.f1).length cq6_3] 68 (0, 0))) := ⟨ch_ BKq7⟩;have n3_ : Aside0 (Below w.heap.size w ((((w11.setCell ⟨gbq7, 0, none⟩ (.int .i64 ((rd_T68 tq3 x10_1).f0.f0))).setCell ⟨gbq7, 1, none⟩ (.int .i64 ((rd_T68 tq3 x10_1).f0.f1))).setCell ⟨gbq7, 2, none⟩ (.int .i64 ((rd_T68 tq3 x10_1).f1.f0))).setCell ⟨gbq7, 3, none⟩ (.slice Aq6_3 ((rd_T68 tq3 x10_1).f1.f1).length cq6_3))) := ⟨be_⟩;(try clear HO_8);(try clear HLq6_3);(try clear BKq7);(try clear HB);generalize ((((w11.setCell ⟨gbq7, 0, none⟩ (.int .i64 ((rd_T68 tq3 x10_1).f0.f0))).setCell ⟨gbq7, 1, none⟩ (.int .i64 ((rd_T68 tq3 x10_1).f0.f1))).setCell ⟨gbq7, 2, none⟩ (.int .i64 ((rd_T68 tq3 x10_1).f1.f0))).setCell ⟨gbq7, 3, none⟩ (.slice Aq6_3 ((rd_T68 tq3 x10_1).f1.f1).length cq6_3)) = w13 at n0_ n1_ n2_ n3_ ⊢;have HO_8 := n0_;have HLq6_3 := n1_;have BKq7 := n2_;have HB := n3_;clear n0_ n1_ n2_ n3_;replace HO_8 := A_ (Kd.N_drew HO_8.out);replace HLq6_3 := A_ (Kd.V_drew HLq6_3.out);replace BKq7 := A_ (blk_drew BKq7.out);replace HB := A_ (below_drew1 HB.out);refine start_ (n := 14) (S := fun w' => w'.cell? ⟨gbq7, 0, none⟩ = some (.int .i64 ((rd_T68 tq3 x10_1).f0.f0)) ∧ w'.cell? ⟨gbq7, 1, none⟩ = some (.int .i64 ((rd_T68 tq3 x10_1).f0.f1)) ∧ w'.cell? ⟨gbq7, 2, none⟩ = some (.int .i64 ((rd_T68 tq3 x10_1).f1.f0)) ∧ w'.cell? ⟨gbq7, 3, none⟩ = some (.slice Aq6_3 ((rd_T68 tq3 x10_1).f1.f1).length cq6_3)) (ds := []) #[f_,f_,f_,f_,f_,f_,f_,f_,f_,f_,f_,f_,f_,f_] (by kernel_rfl) rfl rfl ⟨cl_ BKq7 0, cl_ BKq7 1, cl_ BKq7 2, cl_ BKq7 3⟩ (fun hHeld => ?_); refine with_tabW solid_Volume.tab5 solid_Volume.bits5 (fun HT_ HW_ => ?_);generalize w13.drew = w14 at HO_8 HLq6_3 BKq7 HB hHeld ⊢;refine pu_ 0 14 #[t_,f_,f_,f_,f_,f_,f_,f_,f_,f_,f_,f_,f_,f_] ?_;refine pu_ 1 15 #[t_,t_,f_,f_,f_,f_,f_,f_,f_,f_,f_,f_,f_,f_] ?_;refine pu_ 2 16 #[t_,t_,t_,f_,f_,f_,f_,f_,f_,f_,f_,f_,f_,f_] ?_;refine pu_ 4 18 #[t_,t_,t_,f_,t_,f_,f_,f_,f_,f_,f_,f_,f_,f_] ?_;refine pu_ 5 19 #[t_,t_,t_,f_,t_,t_,f_,f_,f_,f_,f_,f_,f_,f_] ?_;refine pu_ 8 22 #[t_,t_,t_,f_,t_,t_,f_,f_,t_,f_,f_,f_,f_,f_] ?_;refine take_ (i := 3) (N := some 17) #[t_,t_,t_,t_,t_,t_,f_,f_,t_,f_,f_,f_,f_,f_] rfl rfl (take_ofW HT_.out HW_.out (by kernel_rfl)) id3_ (Or.inl ⟨by rfl, by rintro w' ⟨s0, s1, s2, s3⟩; go_simp; with_reducible rfl⟩) hHeld pt_ ?_;refine take_ (i := 6) (N := some 20) #[t_,t_,t_,t_,t_,t_,t_,f_,t_,f_,f_,f_,f_,f_] rfl rfl (take_ofW HT_.out HW_.out (by kernel_rfl)) id3_ (Or.inl ⟨by rfl, by rintro w' ⟨s0, s1, s2, s3⟩; go_simp; with_reducible rfl⟩) hHeld pt_ ?_;refine pu_ 7 21 #[t_,t_,t_,t_,t_,t_,t_,t_,t_,f_,f_,f_,f_,f_] ?_;refine take_ (i := 9) (N := some 23) #[t_,t_,t_,t_,t_,t_,t_,t_,t_,t_,f_,f_,f_,f_] rfl rfl (take_ofW HT_.out HW_.out (by kernel_rfl)) id3_ (Or.inl ⟨by rfl, by rintro w' ⟨s0, s1, s2, s3⟩; go_simp; with_reducible rfl⟩) hHeld pt_ ?_;refine one_ (i := 10) (N := some 24) #[t_,t_,t_,t_,t_,t_,t_,t_,t_,t_,t_,f_,f_,f_] rfl rfl (one_of HT_.out (by kernel_rfl)) (by decide) (fun K hK => ?_);refine goes_ Try.func38 (by kernel_rfl) rfl #[.agg #[.int .i64 ((rd_T68 tq3 x10_1).f1.f0), .slice Aq6_3 ((rd_T68 tq3 x10_1).f1.f1).length cq6_3]] (by rfl) rfl rfl la_ ?_;(with_reducible refine (section_Area.calls k1 ((rd_T68 tq3 x10_1).f1.f0) _ _ ((rd_T68 tq3 x10_1).f1.f1) tq8 _ ?side1 ?side2 A10.out).mono ?_);(case side1 => repeat (first | exact ((Kd.V_reads' (fV_ HLq6_3.out)).2.2) | (with_reducible refine Kd.C_alloc ?_ _) | (with_reducible refine Kd.C_drewN ?_ _) | (with_reducible refine Kd.C_drew ?_)));(case side2 => exact HCq6_3.out);rintro e w15 ⟨rfl, hb⟩;refine ⟨_, rfl, ?_⟩
      replace HO_8 := kN_ HO_8 hb;replace HLq6_3 := kV_ HLq6_3 hb;replace BKq7 := bb_ BKq7 hb;replace HB := bA_ hb;(try clear hb);(try clear hk);refine hK.out _ _ ⟨cl_ BKq7 0, cl_ BKq7 1, cl_ BKq7 2, cl_ BKq7 3⟩ (fun hHeld => ?_);clear hK K;refine norm_ (a' := ?_) ?_ ?_;rotate_left
      ·show Act.put _ (some 24) _ = _
       simp only [Act.put, List.setIfInBounds_toArray, List.set_cons_zero, List.set_cons_succ, i64_w, i32_w];rfl
      refine pu_ 11 25 #[t_,t_,t_,t_,t_,t_,t_,t_,t_,t_,t_,t_,f_,f_] ?_;refine pu_ 12 26 #[t_,t_,t_,t_,t_,t_,t_,t_,t_,t_,t_,t_,t_,f_] ?_;refine pu_ 13 3 #[t_,t_,t_,t_,t_,t_,t_,t_,t_,t_,t_,t_,t_,t_] ?_;refine done_ (done_of HT_.out (by kernel_rfl)) ?_;(try clear hHeld);try go_wp2
      go_roundg k1
      case measure => have := HK1.out; omega
      case rel => exact ⟨(wrap64 (x3_1 + (wrap64 ((wrap64 (((rd_T68 tq3 x10_1).f0.f1) - ((rd_T68 tq3 x10_1).f0.f0))) * tq8)))), (wrap64 (x10_1 + 1)), rs_, rs_, H', ⟨by have := HK1.out; omega⟩, ⟨by (with_reducible repeat (first | apply Kd.N_alloc | apply Kd.N_drewN | apply Kd.N_drew)); exact Kd.N_mono HO_8.out (fun _ hk => trivial)⟩, ⟨be_⟩⟩
     ·rw [if_neg c9] at H;exact absurd H (by simp)
    ·rw [if_neg c8] at H;exact absurd H (by simp)
   ·rw [if_neg c7] at H;have c7b0 : decide (x10_1 < (tq3.length : Int)) = false := decide_eq_false c7;clear c7;obtain rfl := Option.some.inj H;go_wp2;go_ret;exact ⟨er_, be_⟩


def class_Price.f (k : Nat) (l0 : List (S28)) (l1 : List (S58)) (l2 : List (S48)) : Option (Int) := (class_Of.f k l0 l1 l2).bind fun btq1 => (if btq1.2 = true then (if 0 ≤ btq1.1 then (if btq1.1 < (l0.length : Int) then ((solid_Volume.f k l1).bind fun tq4 => (some (wrap64 (Int.tdiv (wrap64 (((rd_T28 l0 btq1.1).f8) * tq4)) 1000000000)))) else (none)) else (none)) else (some 0))
theorem class_Price.mono : ∀ a0 a1 a2 k, LeO (class_Price.f k a0 a1 a2) (class_Price.f (k + 1) a0 a1 a2) := by
 intro a0 a1 a2 k;unfold class_Price.f
 repeat' first
   | (with_reducible exact class_Of.mono _ _ _ _)
   | (with_reducible exact solid_Volume.mono _ _)
   | (with_reducible exact LeO.refl _)
   | (with_reducible exact LeO.none _)
   | (with_reducible refine LeO.ite ?_ ?_)
   | (with_reducible refine LeO.bind ?_ (fun _ => ?_))
   | exact class_Of.mono _ _ _ _
   | exact solid_Volume.mono _ _
   | exact LeO.none _
   | refine LeO.ite ?_ ?_
   | refine LeO.bind ?_ (fun _ => ?_)
def class_Price.T4 : Bool × List (List Nat × List Nat) := (true, [([], []), ([], []), ([0, 1], [0, 1]), ([2], [2]), ([3], [3]), ([], []), ([5], [5]), ([4, 6], [4, 6]), ([7], [7]), ([8, 6, 0, 1, 2, 3, 4, 5, 6, 7, 8], [8])])
def class_Price.B4 : List Nat := [0, 0, 3, 7, 15, 0, 32, 127, 255, 511]
theorem class_Price.tab4 : rtab .any (opsOf Try.f19 4) = class_Price.T4 := by kernel_rfl
theorem class_Price.bits4 : waitsOk class_Price.T4.2 class_Price.B4 = true := by kernel_rfl
set_option maxHeartbeats 8000000 in
set_option maxRecDepth 100000 in
theorem class_Price.calls (k : Nat) (A0 : Option Addr) (c0 : Nat) (l0 : List (S28)) (A1 : Option Addr) (c1 : Nat) (l1 : List (S58)) (A2 : Option Addr) (c2 : Nat) (l2 : List (S48)) (r : Int) (w : World) (hr0 : Kd.C k28 w A0 l0.length l0) (hc0 : l0.length ≤ c0) (hr1 : Kd.C k58 w A1 l1.length l1) (hc1 : l1.length ≤ c1) (hr2 : Kd.C k48 w A2 l2.length l2) (hc2 : l2.length ≤ c2) (h : class_Price.f k l0 l1 l2 = some r) :
  Calls Try.prog 19 #[.slice A0 l0.length c0, .slice A1 l1.length c1, .slice A2 l2.length c2] w fun e w' => e = .returned (.int .i64 r) ∧ Below w.heap.size w w' := by
 have HR0 := Aside0.mk hr0;have HC0 := Aside0.mk hc0;clear hr0 hc0;have HR1 := Aside0.mk hr1;have HC1 := Aside0.mk hc1;clear hr1 hc1;have HR2 := Aside0.mk hr2;have HC2 := Aside0.mk hc2;clear hr2 hc2;have HB := A_ (Below.refl w.heap.size w);have H : ((class_Of.f k l0 l1 l2).bind fun btq1 => (if btq1.2 = true then (if 0 ≤ btq1.1 then (if btq1.1 < (l0.length : Int) then ((solid_Volume.f k l1).bind fun tq4 => (some (wrap64 (Int.tdiv (wrap64 (((rd_T28 l0 btq1.1).f8) * tq4)) 1000000000)))) else (none)) else (none)) else (some 0))) = some r := h;clear h;replace H := Option.bind_eq_some_iff.mp H;obtain ⟨⟨tq1, tq2⟩, A40, H⟩ := H;replace H : (if tq2 = true then (if 0 ≤ tq1 then (if tq1 < (l0.length : Int) then ((solid_Volume.f k l1).bind fun tq4 => (some (wrap64 (Int.tdiv (wrap64 (((rd_T28 l0 tq1).f8) * tq4)) 1000000000)))) else (none)) else (none)) else (some 0)) = some r := H;have A4 := Aside0.mk A40;clear A40
 by_cases c5 : tq2 = true
 ·subst c5;(have H1 : (if 0 ≤ tq1 then (if tq1 < (l0.length : Int) then ((solid_Volume.f k l1).bind fun tq4 => (some (wrap64 (Int.tdiv (wrap64 (((rd_T28 l0 tq1).f8) * tq4)) 1000000000)))) else (none)) else (none)) = some r := by rw [if_pos rfl] at H; exact H);clear H;have H := H1;clear H1
  by_cases c6 : 0 ≤ tq1
  ·rw [if_pos c6] at H;have c6b0 : decide (0 ≤ tq1) = true := decide_eq_true c6;clear c6
   by_cases c7 : tq1 < (l0.length : Int)
   ·rw [if_pos c7] at H;have c7b0 : decide (tq1 < (l0.length : Int)) = true := decide_eq_true c7;clear c7;replace H := Option.bind_eq_some_iff.mp H;obtain ⟨tq4, A80, H⟩ := H;replace H : (some (wrap64 (Int.tdiv (wrap64 (((rd_T28 l0 tq1).f8) * tq4)) 1000000000))) = some r := H;have A8 := Aside0.mk A80;clear A80;obtain rfl := Option.some.inj H;go_enter Try.func19, Try.ntmps19;(try go_wp2_with (first | ((with_reducible refine gate_callee (f := 17) rfl ?_); refine goesL_ (some 13) rfl rfl Try.func17 (by kernel_rfl) rfl #[.slice A0 l0.length c0, .slice A1 l1.length c1, .slice A2 l2.length c2] rfl la_ ?_; (with_reducible refine (class_Of.calls k _ _ l0 _ _ l1 _ _ l2 tq1 true _ ?side1 ?side2 ?side3 ?side4 ?side5 ?side6 A4.out).mono ?_); (case side1 => exact csC_ HR0.out); (case side2 => exact HC0.out); (case side3 => exact csC_ HR1.out); (case side4 => exact HC1.out); (case side5 => exact csC_ HR2.out); (case side6 => exact HC2.out); rintro e w9 ⟨rfl, hb⟩; refine ⟨_, rfl, ?_⟩; replace HB := bA_ hb; (try clear hb))));replace HB := A_ (below_drew1 HB.out);have pq3 : 0 ≤ (tq1 : Int) := as_;have qq3 : tq1 < (l0.length : Int) := as_;obtain ⟨adq3, eq3, hxq3_0, hxq3_1, hxq3_2, hxq3_3, hxq3_4, hxq3_5, hxq3_6, hxq3_7, hxq3_8⟩ := at_T28 HR0.out tq1 pq3 qq3;have hwq3_8 := hxq3_8;have hwq3_7 := hxq3_7;have hwq3_6 := hxq3_6;have hwq3_5 := hxq3_5;have hwq3_4 := hxq3_4;have hwq3_3 := hxq3_3;have hwq3_2 := hxq3_2;have hwq3_1 := hxq3_1;have hwq3_0 := hxq3_0;cases eq3;replace hxq3_0 := bc_ HB hxq3_0;replace hxq3_1 := bc_ HB hxq3_1;replace hxq3_2 := bc_ HB hxq3_2;replace hxq3_3 := bc_ HB hxq3_3;replace hxq3_4 := bc_ HB hxq3_4;replace hxq3_5 := bc_ HB hxq3_5;replace hxq3_6 := bc_ HB hxq3_6;replace hxq3_7 := bc_ HB hxq3_7;replace hxq3_8 := bc_ HB hxq3_8;replace pq3 := eq_true pq3;replace qq3 := eq_true qq3;refine start_ (n := 10) (S := fun w' => w'.cell? (adq3.add ((tq1).toNat * 9)) = some (.string ((rd_T28 l0 tq1).f0)) ∧ w'.cell? ⟨(adq3.add ((tq1).toNat * 9)).block, (adq3.add ((tq1).toNat * 9)).off + 1, none⟩ = some (.int .i64 ((rd_T28 l0 tq1).f1)) ∧ w'.cell? ⟨(adq3.add ((tq1).toNat * 9)).block, (adq3.add ((tq1).toNat * 9)).off + 2, none⟩ = some (.int .i64 ((rd_T28 l0 tq1).f2)) ∧ w'.cell? ⟨(adq3.add ((tq1).toNat * 9)).block, (adq3.add ((tq1).toNat * 9)).off + 3, none⟩ = some (.int .i64 ((rd_T28 l0 tq1).f3)) ∧ w'.cell? ⟨(adq3.add ((tq1).toNat * 9)).block, (adq3.add ((tq1).toNat * 9)).off + 4, none⟩ = some (.int .i64 ((rd_T28 l0 tq1).f4)) ∧ w'.cell? ⟨(adq3.add ((tq1).toNat * 9)).block, (adq3.add ((tq1).toNat * 9)).off + 5, none⟩ = some (.int .i64 ((rd_T28 l0 tq1).f5)) ∧ w'.cell? ⟨(adq3.add ((tq1).toNat * 9)).block, (adq3.add ((tq1).toNat * 9)).off + 6, none⟩ = some (.int .i64 ((rd_T28 l0 tq1).f6)) ∧ w'.cell? ⟨(adq3.add ((tq1).toNat * 9)).block, (adq3.add ((tq1).toNat * 9)).off + 7, none⟩ = some (.int .i64 ((rd_T28 l0 tq1).f7)) ∧ w'.cell? ⟨(adq3.add ((tq1).toNat * 9)).block, (adq3.add ((tq1).toNat * 9)).off + 8, none⟩ = some (.int .i64 ((rd_T28 l0 tq1).f8))) (ds := []) #[f_,f_,f_,f_,f_,f_,f_,f_,f_,f_] (by kernel_rfl) rfl rfl ⟨(bc_ HB hwq3_0), (bc_ HB hwq3_1), (bc_ HB hwq3_2), (bc_ HB hwq3_3), (bc_ HB hwq3_4), (bc_ HB hwq3_5), (bc_ HB hwq3_6), (bc_ HB hwq3_7), (bc_ HB hwq3_8)⟩ (fun hHeld => ?_); refine with_tabW class_Price.tab4 class_Price.bits4 (fun HT_ HW_ => ?_);generalize w9.drew = w10 at HB hxq3_0 hxq3_1 hxq3_2 hxq3_3 hxq3_4 hxq3_5 hxq3_6 hxq3_7 hxq3_8 hHeld ⊢;refine pu_ 0 18 #[t_,f_,f_,f_,f_,f_,f_,f_,f_,f_] ?_;refine pu_ 1 19 #[t_,t_,f_,f_,f_,f_,f_,f_,f_,f_] ?_;refine pu_ 2 20 #[t_,t_,t_,f_,f_,f_,f_,f_,f_,f_] ?_;refine pu_ 3 21 #[t_,t_,t_,t_,f_,f_,f_,f_,f_,f_] ?_;refine pu_ 5 23 #[t_,t_,t_,t_,f_,t_,f_,f_,f_,f_] ?_;refine take_ (i := 4) (N := some 22) #[t_,t_,t_,t_,t_,t_,f_,f_,f_,f_] rfl rfl (take_ofW HT_.out HW_.out (by kernel_rfl)) id3_ (Or.inl ⟨by rfl, by rintro w' ⟨s0, s1, s2, s3, s4, s5, s6, s7, s8⟩; go_simp; with_reducible rfl⟩) hHeld pt_ ?_
    refine one_ (i := 6) (N := some 24) #[t_,t_,t_,t_,t_,t_,t_,f_,f_,f_] rfl rfl (one_of HT_.out (by kernel_rfl)) (by decide) (fun K hK => ?_);refine goes_ Try.func21 (by kernel_rfl) rfl #[.slice A1 l1.length c1] (by rfl) rfl rfl la_ ?_;(with_reducible refine (solid_Volume.calls k _ _ l1 tq4 _ ?side1 ?side2 A8.out).mono ?_);(case side1 => exact csC_ ((Kd.C_below HR1.out HB.out)));(case side2 => exact HC1.out);rintro e w11 ⟨rfl, hb⟩;refine ⟨_, rfl, ?_⟩;replace HB := bA_ hb;(try clear hb);refine hK.out _ _ ⟨(bc_ HB hwq3_0), (bc_ HB hwq3_1), (bc_ HB hwq3_2), (bc_ HB hwq3_3), (bc_ HB hwq3_4), (bc_ HB hwq3_5), (bc_ HB hwq3_6), (bc_ HB hwq3_7), (bc_ HB hwq3_8)⟩ (fun hHeld => ?_);clear hK K;refine norm_ (a' := ?_) ?_ ?_;rotate_left
    ·show Act.put _ (some 24) _ = _
     simp only [Act.put, List.setIfInBounds_toArray, List.set_cons_zero, List.set_cons_succ, i64_w, i32_w];rfl
    refine pu_ 7 25 #[t_,t_,t_,t_,t_,t_,t_,t_,f_,f_] ?_;refine pu_ 8 26 #[t_,t_,t_,t_,t_,t_,t_,t_,t_,f_] ?_;refine pu_ 9 6 #[t_,t_,t_,t_,t_,t_,t_,t_,t_,t_] ?_;refine done_ (done_of HT_.out (by kernel_rfl)) ?_;(try clear hHeld);(try go_wp2);go_ret;exact ⟨er_, be_⟩
   ·rw [if_neg c7] at H;exact absurd H (by simp)
  ·rw [if_neg c6] at H;exact absurd H (by simp)
 ·replace c5 := Bool.eq_false_iff.mpr c5;subst c5;(have H1 : (some 0) = some r := by rw [if_neg (show ¬ (false = true) by decide)] at H; exact H);clear H;have H := H1;clear H1;obtain rfl := Option.some.inj H;go_enter Try.func19, Try.ntmps19;go_wp2_with (first | ((with_reducible refine gate_callee (f := 17) rfl ?_); refine goesL_ (some 13) rfl rfl Try.func17 (by kernel_rfl) rfl #[.slice A0 l0.length c0, .slice A1 l1.length c1, .slice A2 l2.length c2] rfl la_ ?_; (with_reducible refine (class_Of.calls k _ _ l0 _ _ l1 _ _ l2 tq1 false _ ?side1 ?side2 ?side3 ?side4 ?side5 ?side6 A4.out).mono ?_); (case side1 => exact csC_ HR0.out); (case side2 => exact HC0.out); (case side3 => exact csC_ HR1.out); (case side4 => exact HC1.out); (case side5 => exact csC_ HR2.out); (case side6 => exact HC2.out); rintro e w12 ⟨rfl, hb⟩; refine ⟨_, rfl, ?_⟩; replace HB := bA_ hb; (try clear hb)));go_ret;exact ⟨er_, be_⟩


def sawmilllaw16_sample.l0 : Nat → Int → Int → Int → List (S44) → Option ((List (S58)) × (List (S48)))
 | 0, _, _, _, _ => none
 | k + 1, x2, xq3o0, xq3o1, xq3o2 => if x2 < 20 then (if xq3o2.length < 8796093022208 then (sawmilllaw16_sample.l0 k (wrap64 (x2 + 1)) xq3o0 xq3o1 (xq3o2 ++ [(⟨(-100), 100⟩ : S44)])) else (none)) else (some ((([(⟨xq3o0, (⟨xq3o1, xq3o2⟩ : S56)⟩ : S58)] : List (S58))), ([] : List (S48))))
def sawmilllaw16_sample.f (k : Nat)  : Option ((List (S58)) × (List (S48))) := sawmilllaw16_sample.l0 k 0 3000 (-10) ([] : List (S44))
theorem sawmilllaw16_sample.mono_l : ∀ k, (∀ y0 y1 y2 y3, LeO (sawmilllaw16_sample.l0 k y0 y1 y2 y3) (sawmilllaw16_sample.l0 (k + 1) y0 y1 y2 y3))
 | 0 => fun _ _ _ _ r h => by simp [sawmilllaw16_sample.l0] at h
 | k + 1 => by
  have ih0 := sawmilllaw16_sample.mono_l k
  ·intro y0 y1 y2 y3;unfold sawmilllaw16_sample.l0
   repeat' first
   | (with_reducible exact ih0 _ _ _ _)
   | (with_reducible exact LeO.refl _)
   | (with_reducible exact LeO.none _)
   | (with_reducible refine LeO.ite ?_ ?_)
   | (with_reducible refine LeO.bind ?_ (fun _ => ?_))
   | exact ih0 _ _ _ _
   | exact LeO.none _
   | refine LeO.ite ?_ ?_
   | refine LeO.bind ?_ (fun _ => ?_)
theorem sawmilllaw16_sample.mono : ∀ k, LeO (sawmilllaw16_sample.f k ) (sawmilllaw16_sample.f (k + 1) ) := by
 intro  k;have ih0 := sawmilllaw16_sample.mono_l k;unfold sawmilllaw16_sample.f
 repeat' first
   | (with_reducible exact ih0 _ _ _ _)
   | (with_reducible exact LeO.refl _)
   | (with_reducible exact LeO.none _)
   | (with_reducible refine LeO.ite ?_ ?_)
   | (with_reducible refine LeO.bind ?_ (fun _ => ?_))
   | exact ih0 _ _ _ _
   | exact LeO.none _
   | refine LeO.ite ?_ ?_
   | refine LeO.bind ?_ (fun _ => ?_)
set_option maxHeartbeats 8000000 in
set_option maxRecDepth 100000 in
theorem sawmilllaw16_sample.calls (k : Nat)  (r1 : List (S58)) (r2 : List (S48)) (w : World) (h : sawmilllaw16_sample.f k  = some (r1, r2)) :
  Calls Try.prog 26 #[] w fun e w' => ∃ v0_ v1_ : Value, e = .returned (.agg #[v0_, v1_]) ∧ Kd.N k58 58 w' w.heap.size (fun k_ => (w.heap.size ≤ k_) ∧ some k_ ≠ (v1_ : Value).ownBlock) v0_ r1 ∧ Kd.R k48 48 w' w.heap.size (fun k_ => (w.heap.size ≤ k_)) v1_ r2 ∧ Below w.heap.size w w' := by
 have hu32 := Try.underlying32;have hu56 := Try.underlying56;have hu58 := Try.underlying58;have hu44 := Try.underlying44;have HB := A_ (Below.refl w.heap.size w);have H : (sawmilllaw16_sample.l0 k 0 3000 (-10) ([] : List (S44))) = some (r1, r2) := h;clear h;have H' := Aside0.mk H;clear H;go_enter Try.func26, Try.ntmps26;go_wp2_with (first | ((with_reducible refine gate_dst (N := 0) rfl ?_); refine bx_ 0 (cs := #[.slice none 0 0, .slice none 0 0]) (t := 32) ?_; intro gbq1 hg w1 hbox hb; have BKq1 := A_ hbox; have GWq1 := gz_ (w := w) hg; have GEq1 := gz_ (w := w) hg; replace HB := bA_ hb; clear hb hbox hg) | ((with_reducible refine gate_dst (N := 1) rfl ?_); refine bx_ 1 (cs := #[.int .i64 0, .int .i64 0, .slice none 0 0]) (t := 58) ?_; intro gbq2 hg w2 hbox hb; have BKq2 := A_ hbox; have GWq2 := gz_ (w := w) hg; have GEq2 := gz_ (w := w) hg; replace HB := bA_ hb; have NBq1_q2 := nlt_ BKq1 hg; have NBq2_q1 := ngt_ BKq1 hg; replace BKq1 := bb_ BKq1 hb; clear hb hbox hg; have hnb3 := NBq2_q1.out; have hnc3 := NBq1_q2.out; obtain ⟨hcz4_0, hcz4_1, hcz4_2, hfz4_0, hfz4_1, hfz4_2⟩ := cy3_ BKq2))
 go_loopg [2] k (fun kq v2 w' => ∃ (x2_1 : Int) (xq3o2_1 : List (S44)) (uq3o2 : Value), v2 = .int .i64 x2_1 ∧ Aside0 (sawmilllaw16_sample.l0 kq x2_1 3000 (-10) xq3o2_1 = some (r1, r2)) ∧ Aside0 (kq ≤ k) ∧ Aside0 (Kd.R k44 44 w' w.heap.size (fun k_ => (w.heap.size ≤ k_)) uq3o2 xq3o2_1) ∧ Aside0 (w'.heap[gbq1]? = some (.cells #[(.slice none 0 0), (.slice none 0 0)] 32 (0, 0))) ∧ Aside0 (w'.heap[gbq2]? = some (.cells #[.int .i64 3000, .int .i64 (-10), uq3o2] 58 (0, 0))) ∧ Aside0 (Below w.heap.size w w'))
 case atStart => exact ⟨(0), (([] : List (S44))), (.slice none 0 0), rs_, H', ⟨Nat.le_refl _⟩, ⟨by first | exact Kd.R_nil _ _ _ _ _ | exact Kd.N_nil _ _ _ _ _ | exact Kd.V_nil _ _ _ _ _ | exact Kd.Q_nil _ _ _ _ _ | exact Kd.S_nil _ _ _ _ _⟩, ⟨ch_ BKq1⟩, ⟨ch_ BKq2⟩, ⟨be_⟩⟩
 case round =>
  clear H';(try clear c2);(try clear p2);(try clear c3);(try clear hcz4_0);(try clear hcz4_1);(try clear hcz4_2);(try clear hfz4_0);(try clear hfz4_1);(try clear hfz4_2);obtain ⟨x2_1, xq3o2_1, uq3o2, rfl, HA, HK1, HO_q3o2, BKq1, BKq2, HB⟩ := hrel;cases gk with
  | zero => exact absurd HA.out (by simp [sawmilllaw16_sample.l0])
  | succ k1 =>
   have H := HA.out;clear HA;simp only [sawmilllaw16_sample.l0] at H
   by_cases c5 : x2_1 < 20
   ·rw [if_pos c5] at H;have c5b0 : decide (x2_1 < 20) = true := decide_eq_true c5;clear c5
    by_cases c6 : xq3o2_1.length < 8796093022208
    ·rw [if_pos c6] at H;have LMc6 := Aside0.mk c6;clear c6;obtain ⟨yq3, hyq3⟩ : ∃ y_ : List (S44), y_ = (xq3o2_1 ++ [(⟨(-100), 100⟩ : S44)]) := ⟨_, rfl⟩;(replace H : (sawmilllaw16_sample.l0 k1 (wrap64 (x2_1 + 1)) 3000 (-10) yq3) = some (r1, r2) := by first | (rw [hyq3]; with_reducible exact H) | (have H2_ := (Option.bind_some _ _).symm.trans H; rw [hyq3]; with_reducible exact H2_) | (have H2_ := (Option.bind_some _ _).symm.trans H; with_reducible exact H2_) | with_reducible exact H | (rw [hyq3]; exact H) | exact H);have Nyq3 := Aside0.mk hyq3;clear hyq3;have H' := Aside0.mk H;clear H;have hnb7 := NBq2_q1.out;have hnc7 := NBq1_q2.out;obtain ⟨hcz8_0, hcz8_1, hcz8_2, hfz8_0, hfz8_1, hfz8_2⟩ := cy3_ BKq2;go_wp2_with (first | ((with_reducible refine gate_builtin (b := .append) (xs := #[.tmp 11, .tmp 13]) rfl ?_); at_builtin; refine Kd.R_append k44 (w0 := w) w.heap.size rfl (.tmp 11) (.tmp 13) 54 44 (.agg #[(.int .i64 0), (.int .i64 0)]) 16 rfl Try.underlying54 info44 rfl (by decide) (by omega) uq3o2 xq3o2_1 (⟨(-100), 100⟩ : S44) [.int .i64 (-100), .int .i64 100] (fun k_ => (w.heap.size ≤ k_)) (fun _ => False) rfl rfl ?aP (fun _ hk => hk.elim) ?aF ?aO ?aB ?aS ?aL ?_; (case aP => exact k44_mkM _ _ _ (⟨(-100), 100⟩ : S44)); (case aB => exact be_); (case aF => exact (fun k_ hk => (Nat.le_trans bz_ hk))); (case aO => exact (fR_ HO_q3o2.out)); (case aS => exact bz_); (case aL => have := LMc6.out; omega); intro vq4 w9 ho hb hg hat; rw [← Nyq3.out] at ho; have n0_ := A_ (blk_grown (g := gbq1) (o := .cells #[.slice none 0 0, .slice none 0 0] 32 (0, 0)) (fb_ BKq1.out) hg (Kd.R_ne HO_q3o2.out BKq1.out (by decide))); have n1_ := A_ (blk_grown (g := gbq2) (o := .cells #[.int .i64 3000, .int .i64 (-10), uq3o2] 58 (0, 0)) (fb_ BKq2.out) hg (Kd.R_ne HO_q3o2.out BKq2.out (by decide))); have n2_ := A_ (hb); have n3_ := A_ (ho); clear BKq1 BKq2 HB HO_q3o2; have BKq1 := n0_; have BKq2 := n1_; have HB := n2_; have HOq5 := n3_; clear n0_ n1_ n2_ n3_ ho hb hg hat; obtain ⟨Ao10, co10, eo10⟩ := Kd.R_slice HOq5.out; subst eo10; obtain ⟨hcz11_0, hcz11_1, hcz11_2, hfz11_0, hfz11_1, hfz11_2⟩ := cy3_ BKq2))
     go_roundg k1
     case measure => have := HK1.out; omega
     case rel => exact ⟨(wrap64 (x2_1 + 1)), (yq3), (.slice Ao10 yq3.length co10), rs_, H', ⟨by have := HK1.out; omega⟩, ⟨by (with_reducible repeat (first | apply Kd.R_alloc | apply Kd.R_drewN | apply Kd.R_drew)); exact Kd.R_mono (Rf_ (Kd.R_types HOq5.out BKq2.out (by decide))) (fun _ hk => hk.1)⟩, ⟨ch_ BKq1⟩, ⟨ch_ BKq2⟩, ⟨be_⟩⟩
    ·rw [if_neg c6] at H;exact absurd H (by simp)
   ·rw [if_neg c5] at H;have c5b0 : decide (x2_1 < 20) = false := decide_eq_false c5;clear c5;obtain ⟨yq6, hyq6⟩ : ∃ y_ : List (S58), y_ = (([(⟨3000, (⟨(-10), xq3o2_1⟩ : S56)⟩ : S58)] : List (S58))) := ⟨_, rfl⟩;(replace H : (some (yq6, ([] : List (S48)))) = some (r1, r2) := by first | (rw [hyq6]; with_reducible exact H) | (have H2_ := (Option.bind_some _ _).symm.trans H; rw [hyq6]; with_reducible exact H2_) | (have H2_ := (Option.bind_some _ _).symm.trans H; with_reducible exact H2_) | with_reducible exact H | (rw [hyq6]; exact H) | exact H);have Nyq6 := Aside0.mk hyq6;clear hyq6;simp only [Option.some.injEq, Prod.mk.injEq] at H;obtain ⟨rfl, rfl⟩ := H;have hnb12 := NBq2_q1.out;have hnc12 := NBq1_q2.out;obtain ⟨hcz13_0, hcz13_1, hcz13_2, hfz13_0, hfz13_1, hfz13_2⟩ := cy3_ BKq2;obtain ⟨Ao14, co14, eo14⟩ := Kd.R_slice HO_q3o2.out;subst eo14;go_wp2_with (first | ((with_reducible refine gate_dst (N := 18) rfl ?_); refine Kd.N_lit k58 _ 58 ?hg (N' := 18) ?hd (xs := ([(⟨3000, (⟨(-10), xq3o2_1⟩ : S56)⟩ : S58)] : List (S58))) (inner := [.int .i64 3000, .int .i64 (-10), .slice Ao14 xq3o2_1.length co14]) (ok := (fun k_ => (w.heap.size ≤ k_) ∧ k_ ≠ gbq1 ∧ k_ ≠ gbq2)) (okp := (fun k_ => (w.heap.size ≤ k_) ∧ k_ ≠ gbq1 ∧ k_ ≠ gbq2)) ?hr ?hp (fun _ hk => hk) ((show ∀ k_, wr.heap.size ≤ k_ → (fun k_ => (w.heap.size ≤ k_) ∧ k_ ≠ gbq1 ∧ k_ ≠ gbq2) k_ from fun k_ hk => ⟨(Nat.le_trans bz_ hk), Kd.freshB (g := gbq1) (o := .cells #[.slice none 0 0, .slice none 0 0] 32 (0, 0)) (fb_ BKq1.out) k_ hk, Kd.freshB (g := gbq2) (o := .cells #[.int .i64 3000, .int .i64 (-10), .slice Ao14 xq3o2_1.length co14] 58 (0, 0)) (fb_ BKq2.out) k_ hk⟩) _ (Nat.le_refl _)) (Below.refl _ _) (Nat.le_refl _) (by simp) ?_; (case hd => rfl); (case hg => rfl); (case hr => first | (go_simp; done) | (go_simp; rfl)); (case hp => exact (Reps.c3 (show Kd.FK k58 _ _ (⟨3000, (⟨(-10), xq3o2_1⟩ : S56)⟩ : S58) [.int .i64 3000, .int .i64 (-10), .slice Ao14 xq3o2_1.length co14] from (k58_mkF _ _ (⟨3000, (⟨(-10), xq3o2_1⟩ : S56)⟩ : S58) (Kd.R_reads' (Kd.R_mono (ok' := (fun k_ => (w.heap.size ≤ k_) ∧ k_ ≠ gbq1 ∧ k_ ≠ gbq2)) (Kd.R_types (Kd.R_types (HO_q3o2.out) BKq1.out (by decide)) BKq2.out (by decide)) (fun k_ hk => ⟨hk.1.1, ⟨hk.1.2, hk.2⟩⟩))).2.1 (Kd.R_F (Kd.R_mono (ok' := (fun k_ => (w.heap.size ≤ k_) ∧ k_ ≠ gbq1 ∧ k_ ≠ gbq2)) (Kd.R_types (Kd.R_types (HO_q3o2.out) BKq1.out (by decide)) BKq2.out (by decide)) (fun k_ hk => ⟨hk.1.1, ⟨hk.1.2, hk.2⟩⟩))))) (Reps.none _ _))); intro vq7 w15 ho16 hb hg_ hnew_; clear hg_ hnew_; (first | rw [← Nyq6.out] at ho16 | (simp only [Int.reduceToNat] at ho16; rw [← Nyq6.out] at ho16)); have HOq8 := A_ (Kd.N_lower ho16 bz_); replace BKq1 := bb_ BKq1 hb; replace BKq2 := bb_ BKq2 hb; replace HO_q3o2 := A_ (Kd.V_below (Kd.R_V (base' := w.heap.size) (fR_ HO_q3o2.out)) hb); replace HB := bA_ hb; clear hb ho16; obtain ⟨Ao17, co17, eo17⟩ := Kd.N_slice HOq8.out; subst eo17; obtain ⟨hcz18_0, hcz18_1, hfz18_0, hfz18_1⟩ := cy2_ BKq1));refine bodyPost_ret (results_cell_row rfl _ _ gbq1 32 #[.slice Ao17 yq6.length co17, .slice none 0 0] (0, 0) _ rfl (ch_ BKq1) Try.underlying32 rfl (by kernel_rfl)) rfl ?_;exact ⟨_, _, er_, by (with_reducible repeat (first | apply Kd.N_alloc | apply Kd.N_drewN | apply Kd.N_drew)); exact Kd.N_mono (Nf_ (Nf_ (Kd.N_mono HOq8.out (fun k_ hk => (⟨hk, hk.2.1⟩ : _ ∧ k_ ≠ gbq1))))) (fun _ hk => ⟨hk.1.1, (by simp [Value.ownBlock])⟩), by first | exact Kd.R_nil _ _ _ _ _ | exact Kd.N_nil _ _ _ _ _ | exact Kd.V_nil _ _ _ _ _ | exact Kd.Q_nil _ _ _ _ _ | exact Kd.S_nil _ _ _ _ _, be_⟩


-- by hand
def clsA : S28 := ⟨⟨#[97]⟩, 225, 3000, 3000, 0, 0, 0, 0, 100⟩
def clsB : S28 := ⟨⟨#[98]⟩, 226, 3000, 3000, 0, 0, 0, 0, 100⟩
def clsZ : S28 := ⟨⟨#[97]⟩, 0, 5, 4, 0, 0, 0, 0, 0⟩
def sawmilllaw16_awake.f (k : Nat) : Option Bool := (sawmilllaw16_sample.f k).bind fun s =>
 if class_Of.f k [clsB, clsA] s.1 [] = some (1, true) ∧ class_Fits.f k clsB.f0 clsB.f1 clsB.f2 clsB.f3 clsB.f4 clsB.f5 clsB.f6 clsB.f7 clsB.f8 s.1 [] = some false ∧ class_Price.f k [clsA] s.1 [] = some 12 ∧
  class_Check.f k [clsA, clsB] = some 0 ∧ class_Check.f k [clsA, clsA] = some 7 ∧ class_Check.f k [clsZ] = some 9 then some true else none
theorem sawmilllaw16_awake.mono : ∀ k, LeO (sawmilllaw16_awake.f k) (sawmilllaw16_awake.f (k + 1)) := by
 intro k;unfold sawmilllaw16_awake.f;refine LeO.bind (sawmilllaw16_sample.mono _) (fun s => ?_);intro r h
 split at h
 ·rename_i c
  rw [if_pos ⟨class_Of.mono _ _ _ _ _ c.1, class_Fits.mono _ _ _ _ _ _ _ _ _ _ _ _ _ c.2.1, class_Price.mono _ _ _ _ _ c.2.2.1, class_Check.mono _ _ _ c.2.2.2.1, class_Check.mono _ _ _ c.2.2.2.2.1, class_Check.mono _ _ _ c.2.2.2.2.2⟩];exact h
 ·cases h
def enc9 (x : S28) : List Value := [.string x.f0, .int .i64 x.f1, .int .i64 x.f2, .int .i64 x.f3, .int .i64 x.f4, .int .i64 x.f5, .int .i64 x.f6, .int .i64 x.f7, .int .i64 x.f8]
theorem flat9 : ∀ (xs : List S28) (j : Nat) (x : S28), xs[j]? = some x → ∀ (i : Nat) (u : Value), (enc9 x)[i]? = some u → (xs.flatMap enc9)[j * 9 + i]? = some u
 | [], _, _, h => by simp at h
 | y :: r, 0, x, h => by
  simp at h;subst h;intro i u hu;rw [List.flatMap_cons, Nat.zero_mul, Nat.zero_add, List.getElem?_append_left (List.getElem?_eq_some_iff.1 hu).1];exact hu
 | y :: r, j + 1, x, h => by
  intro i u hu;have := flat9 r j x (by simpa using h) i u hu;have e : (enc9 y).length = 9 := rfl;rw [List.flatMap_cons, List.getElem?_append_right (by omega), e, show (j + 1) * 9 + i - 9 = j * 9 + i by omega];exact this
theorem rowC {W : World} {g : Nat} (xs : List S28) {cur : Array Value} (hb : W.heap[g]? = some (.cells cur 28 (0, 0))) (hl : xs.length ≤ 1000) (hc : cur.toList = xs.flatMap enc9) : Kd.C k28 W (some ⟨g, 0, none⟩) xs.length xs := by
 refine ⟨rfl, by omega, fun _ => ⟨_, rfl, fun j p h => ⟨enc9 p, rfl, k28_mk W p, fun i u hu => ?_⟩⟩⟩;have h2 := flat9 xs j p h i u hu;rw [← hc, Array.getElem?_toList] at h2;rw [← h2];refine Eq.trans ?_ (cell_of_row W g (j * 9 + i) cur 28 (0, 0) hb);have sz : k28.sz = 9 := rfl;rw [sz];simp [Addr.add]
 split
 ·rename_i c
  rw [c.1, c.2]
 ·rfl
def aCells : Array Value := #[.string ⟨#[97]⟩, .int .i64 225, .int .i64 3000, .int .i64 3000, .int .i64 0, .int .i64 0, .int .i64 0, .int .i64 0, .int .i64 100]
def bCells : Array Value := #[.string ⟨#[98]⟩, .int .i64 226, .int .i64 3000, .int .i64 3000, .int .i64 0, .int .i64 0, .int .i64 0, .int .i64 0, .int .i64 100]
def Ex (w : World) (B : Nat) (A0 : Option Addr) (cc0 : Nat) (V : Value) (s1 : List S58) (W : World) : Prop :=
 W.heap[B]? = some (.cells #[.slice A0 s1.length cc0, V] 32 (0, 0)) ∧ W.heap[B + 1]? = some (.cells aCells 28 (0, 0)) ∧ W.heap[B + 1 + 1]? = some (.cells bCells 28 (0, 0)) ∧ Kd.C k58 W A0 s1.length s1 ∧ Below w.heap.size w W
theorem Ex.step {w : World} {B : Nat} {A0 : Option Addr} {cc0 : Nat} {V : Value} {s1 : List S58} {W W' : World} (h : Ex w B A0 cc0 V s1 W) (hb : Below W.heap.size W W') : Ex w B A0 cc0 V s1 W' :=
 ⟨blk_below h.1 hb, blk_below h.2.1 hb, blk_below h.2.2.1 hb, Kd.C_below h.2.2.2.1 hb, h.2.2.2.2.trans (hb.mono h.2.2.2.2.size)⟩
theorem Ex.x {w : World} {B : Nat} {A0 : Option Addr} {cc0 : Nat} {V : Value} {s1 : List S58} {W : World} (h : Ex w B A0 cc0 V s1 W) : W.cell? ⟨B, 0, none⟩ = some (.slice A0 s1.length cc0) := (blk_cell h.1 0).trans rfl
theorem Ex.a {w : World} {B : Nat} {A0 : Option Addr} {cc0 : Nat} {V : Value} {s1 : List S58} {W : World} (h : Ex w B A0 cc0 V s1 W) : W.cell? ⟨B + 1, 0, none⟩ = some (.string ⟨#[97]⟩) ∧ W.cell? ⟨B + 1, 1, none⟩ = some (.int .i64 225) ∧ W.cell? ⟨B + 1, 2, none⟩ = some (.int .i64 3000) ∧ W.cell? ⟨B + 1, 3, none⟩ = some (.int .i64 3000) ∧ W.cell? ⟨B + 1, 4, none⟩ = some (.int .i64 0) ∧ W.cell? ⟨B + 1, 5, none⟩ = some (.int .i64 0) ∧ W.cell? ⟨B + 1, 6, none⟩ = some (.int .i64 0) ∧ W.cell? ⟨B + 1, 7, none⟩ = some (.int .i64 0) ∧ W.cell? ⟨B + 1, 8, none⟩ = some (.int .i64 100) :=
 ⟨(blk_cell h.2.1 0).trans rfl, (blk_cell h.2.1 1).trans rfl, (blk_cell h.2.1 2).trans rfl, (blk_cell h.2.1 3).trans rfl, (blk_cell h.2.1 4).trans rfl, (blk_cell h.2.1 5).trans rfl, (blk_cell h.2.1 6).trans rfl, (blk_cell h.2.1 7).trans rfl, (blk_cell h.2.1 8).trans rfl⟩
theorem Ex.b {w : World} {B : Nat} {A0 : Option Addr} {cc0 : Nat} {V : Value} {s1 : List S58} {W : World} (h : Ex w B A0 cc0 V s1 W) : W.cell? ⟨B + 1 + 1, 0, none⟩ = some (.string ⟨#[98]⟩) ∧ W.cell? ⟨B + 1 + 1, 1, none⟩ = some (.int .i64 226) ∧ W.cell? ⟨B + 1 + 1, 2, none⟩ = some (.int .i64 3000) ∧ W.cell? ⟨B + 1 + 1, 3, none⟩ = some (.int .i64 3000) ∧ W.cell? ⟨B + 1 + 1, 4, none⟩ = some (.int .i64 0) ∧ W.cell? ⟨B + 1 + 1, 5, none⟩ = some (.int .i64 0) ∧ W.cell? ⟨B + 1 + 1, 6, none⟩ = some (.int .i64 0) ∧ W.cell? ⟨B + 1 + 1, 7, none⟩ = some (.int .i64 0) ∧ W.cell? ⟨B + 1 + 1, 8, none⟩ = some (.int .i64 100) :=
 ⟨(blk_cell h.2.2.1 0).trans rfl, (blk_cell h.2.2.1 1).trans rfl, (blk_cell h.2.2.1 2).trans rfl, (blk_cell h.2.2.1 3).trans rfl, (blk_cell h.2.2.1 4).trans rfl, (blk_cell h.2.2.1 5).trans rfl, (blk_cell h.2.2.1 6).trans rfl, (blk_cell h.2.2.1 7).trans rfl, (blk_cell h.2.2.1 8).trans rfl⟩
theorem CD_nil (W : World) : Kd.C k48 W none ([] : List S48).length [] := Kd.C_nil _ W
set_option maxHeartbeats 4000000 in
set_option maxRecDepth 100000 in
theorem sawmilllaw16_awake.calls (k : Nat) (r : Bool) (w : World) (h : sawmilllaw16_awake.f k = some r) :
  Calls Try.prog 13 #[] w fun e w' => e = .returned (.bool r) ∧ Below w.heap.size w w' := by
 unfold sawmilllaw16_awake.f at h;obtain ⟨⟨s1, s2⟩, A1, h⟩ := Option.bind_eq_some_iff.mp h
 split at h
 rotate_left
 ·cases h
 rename_i c
 obtain ⟨c1, c2, c3, c4, c5, c6⟩ := c;obtain rfl := Option.some.inj h;clear h;have S := sawmilllaw16_sample.calls k s1 s2 w A1;go_enter Try.func13, Try.ntmps13;go_wp2_with fail;refine S.mono ?_;rintro e w1 ⟨v0, v1, rfl, hN, hR, hb⟩;obtain ⟨A0, cc0, rfl, hc0, hC0⟩ := Kd.N_reads hN;obtain ⟨A1', cc1, rfl, hc1, hC1⟩ := Kd.R_reads hR;clear hN hR S;have HC0 := Aside0.mk hC0;clear hC0 hC1
 have E0 : Ex w w1.heap.size A0 cc0 (.slice A1' s2.length cc1) s1 (((w1.alloc (.cells #[.slice A0 s1.length cc0, .slice A1' s2.length cc1] 32)).alloc (.cells aCells 28)).alloc (.cells bCells 28)) := by
  refine ⟨blk_alloc (blk_alloc (blk_new _ _) _) _, blk_alloc (by have := blk_new (w1.alloc (.cells #[.slice A0 s1.length cc0, .slice A1' s2.length cc1] 32)) (.cells aCells 28); simpa using this) _, by have := blk_new ((w1.alloc (.cells #[.slice A0 s1.length cc0, .slice A1' s2.length cc1] 32)).alloc (.cells aCells 28)) (.cells bCells 28); simpa using this, ?_, below_alloc (below_alloc (below_alloc hb _) _) _⟩;have := below_alloc (below_alloc (below_alloc (Below.refl w1.heap.size w1) (.cells #[.slice A0 s1.length cc0, .slice A1' s2.length cc1] 32)) (.cells aCells 28)) (.cells bCells 28);exact Kd.C_below HC0.out this
 clear hb HC0;have E1 := E0.step (below_alloc (Below.refl _ _) (.cells (bCells ++ aCells) 28));have R1 : Kd.C k28 _ (some ⟨w1.heap.size + 1 + 1 + 1, 0, none⟩) _ _ := rowC (W := (((w1.alloc (.cells #[.slice A0 s1.length cc0, .slice A1' s2.length cc1] 32)).alloc (.cells aCells 28)).alloc (.cells bCells 28)).alloc (.cells (bCells ++ aCells) 28)) (g := w1.heap.size + 1 + 1 + 1) [clsB, clsA] (cur := bCells ++ aCells) (by have := blk_new (((w1.alloc (.cells #[.slice A0 s1.length cc0, .slice A1' s2.length cc1] 32)).alloc (.cells aCells 28)).alloc (.cells bCells 28)) (.cells (bCells ++ aCells) 28); simpa using this) (by decide) rfl;have K1 := class_Of.calls k _ 2 _ A0 cc0 s1 none 0 [] 1 true _ R1 (by decide) E1.2.2.2.1 hc0 (CD_nil _) (by decide) c1;go_wp2_with fail;refine K1.mono ?_;rintro e w2 ⟨rfl, hb2⟩;replace E1 := E1.step hb2;clear hb2 K1 R1 E0;have K2 := class_Fits.calls k _ _ _ _ _ _ _ _ _ A0 cc0 s1 none 0 [] false w2 E1.2.2.2.1 hc0 (CD_nil _) (by decide) c2;have hx := E1.x;obtain ⟨b0, b1, b2, b3, b4, b5, b6, b7, b8⟩ := E1.b;obtain ⟨a0, a1, a2, a3, a4, a5, a6, a7, a8⟩ := E1.a;have HE := Aside0.mk E1;clear E1;go_wp2_with fail;refine K2.mono ?_;rintro e w3 ⟨rfl, hb2⟩;have E1 := HE.out.step hb2;clear hb2 K2 hx b0 b1 b2 b3 b4 b5 b6 b7 b8 a0 a1 a2 a3 a4 a5 a6 a7 a8 HE;have hx := E1.x;obtain ⟨a0, a1, a2, a3, a4, a5, a6, a7, a8⟩ := E1.a;have E2 := E1.step (below_alloc (Below.refl _ _) (.cells aCells 28));have hx2 : (w3.alloc (.cells #[.string ⟨#[97]⟩, .int .i64 225, .int .i64 3000, .int .i64 3000, .int .i64 0, .int .i64 0, .int .i64 0, .int .i64 0, .int .i64 100] 28)).cell? ⟨w1.heap.size, 0, none⟩ = some (.slice A0 s1.length cc0) := E2.x;have K3 := class_Price.calls k _ 1 _ A0 cc0 s1 none 0 [] 12 _ (rowC (W := w3.alloc (.cells aCells 28)) (g := w3.heap.size) [clsA] (cur := aCells) (blk_new _ _) (by decide) rfl) (by decide) E2.2.2.2.1 hc0 (CD_nil _) (by decide) c3;have HE := Aside0.mk E2;clear E1 E2;go_wp2_with fail;refine K3.mono ?_;rintro e w4 ⟨rfl, hb2⟩;have E1 := HE.out.step hb2;clear hb2 K3 hx hx2 a0 a1 a2 a3 a4 a5 a6 a7 a8 HE;obtain ⟨b0, b1, b2, b3, b4, b5, b6, b7, b8⟩ := E1.b;obtain ⟨a0, a1, a2, a3, a4, a5, a6, a7, a8⟩ := E1.a;have E2 := E1.step (below_alloc (Below.refl _ _) (.cells (aCells ++ bCells) 28));have K4 := class_Check.calls k _ 2 _ 0 _ (rowC (W := w4.alloc (.cells (aCells ++ bCells) 28)) (g := w4.heap.size) [clsA, clsB] (cur := aCells ++ bCells) (blk_new _ _) (by decide) rfl) (by decide) c4;have HE := Aside0.mk E2;clear E1 E2;go_wp2_with fail;refine K4.mono ?_;rintro e w5 ⟨rfl, hb2⟩;have E1 := HE.out.step hb2;clear hb2 K4 b0 b1 b2 b3 b4 b5 b6 b7 b8 a0 a1 a2 a3 a4 a5 a6 a7 a8 HE;obtain ⟨a0, a1, a2, a3, a4, a5, a6, a7, a8⟩ := E1.a;have E2 := E1.step (below_alloc (Below.refl _ _) (.cells (aCells ++ aCells) 28));have K5 := class_Check.calls k _ 2 _ 7 _ (rowC (W := w5.alloc (.cells (aCells ++ aCells) 28)) (g := w5.heap.size) [clsA, clsA] (cur := aCells ++ aCells) (blk_new _ _) (by decide) rfl) (by decide) c5;have HE := Aside0.mk E2;clear E1 E2;go_wp2_with fail;refine K5.mono ?_;rintro e w6 ⟨rfl, hb2⟩;have E1 := HE.out.step hb2;clear hb2 K5 a0 a1 a2 a3 a4 a5 a6 a7 a8 HE;have E2 := E1.step (below_alloc (Below.refl _ _) (.cells #[.string ⟨#[97]⟩, .int .i64 0, .int .i64 5, .int .i64 4, .int .i64 0, .int .i64 0, .int .i64 0, .int .i64 0, .int .i64 0] 28));have K6 := class_Check.calls k _ 1 _ 9 _ (rowC (W := w6.alloc (.cells #[.string ⟨#[97]⟩, .int .i64 0, .int .i64 5, .int .i64 4, .int .i64 0, .int .i64 0, .int .i64 0, .int .i64 0, .int .i64 0] 28)) (g := w6.heap.size) [clsZ] (blk_new _ _) (by decide) rfl) (by decide) c6;have HE := Aside0.mk E2;clear E1 E2;go_wp2_with fail;refine K6.mono ?_;rintro e w7 ⟨rfl, hb2⟩;have E1 := HE.out.step hb2;go_wp2;go_ret;exact ⟨rfl, E1.2.2.2.2⟩


mutual
def sawmilllaw16_few.j0 : Nat → Bool → List (S58) → List (S48) → Option (Bool)
 | 0, _, _, _ => none
 | k + 1, x13, xq2o0, xq2o1 => if x13 = true then (some false) else (sawmilllaw16_few.l0 k 0 xq2o0 xq2o1)
def sawmilllaw16_few.l0 : Nat → Int → List (S58) → List (S48) → Option (Bool)
 | 0, _, _, _ => none
 | k + 1, x3, xq2o0, xq2o1 => if x3 < (xq2o0.length : Int) then (if 0 ≤ x3 then (if (((rd_T58 xq2o0 x3).f1.f1).length : Int) > 130 then (some false) else (sawmilllaw16_few.l0 k (wrap64 (x3 + 1)) xq2o0 xq2o1)) else (none)) else (some true)
end
def sawmilllaw16_few.f (k : Nat) (l0_0 : List (S58)) (l0_1 : List (S48)) : Option (Bool) := if (l0_0.length : Int) > 30 then (sawmilllaw16_few.j0 k true l0_0 l0_1) else (sawmilllaw16_few.j0 k (decide ((l0_1.length : Int) > 100)) l0_0 l0_1)
theorem sawmilllaw16_few.mono_l : ∀ k, (∀ y0 y1 y2, LeO (sawmilllaw16_few.j0 k y0 y1 y2) (sawmilllaw16_few.j0 (k + 1) y0 y1 y2)) ∧ (∀ y0 y1 y2, LeO (sawmilllaw16_few.l0 k y0 y1 y2) (sawmilllaw16_few.l0 (k + 1) y0 y1 y2))
 | 0 => ⟨fun _ _ _ r h => by simp [sawmilllaw16_few.j0] at h, fun _ _ _ r h => by simp [sawmilllaw16_few.l0] at h⟩
 | k + 1 => by
  obtain ⟨ih0, ih1⟩ := sawmilllaw16_few.mono_l k;refine ⟨?_, ?_⟩
  ·intro y0 y1 y2;unfold sawmilllaw16_few.j0
   repeat' first
   | (with_reducible exact ih0 _ _ _)
   | (with_reducible exact ih1 _ _ _)
   | (with_reducible exact LeO.refl _)
   | (with_reducible exact LeO.none _)
   | (with_reducible refine LeO.ite ?_ ?_)
   | (with_reducible refine LeO.bind ?_ (fun _ => ?_))
   | exact ih0 _ _ _
   | exact ih1 _ _ _
   | exact LeO.none _
   | refine LeO.ite ?_ ?_
   | refine LeO.bind ?_ (fun _ => ?_)
  ·intro y0 y1 y2;unfold sawmilllaw16_few.l0
   repeat' first
   | (with_reducible exact ih0 _ _ _)
   | (with_reducible exact ih1 _ _ _)
   | (with_reducible exact LeO.refl _)
   | (with_reducible exact LeO.none _)
   | (with_reducible refine LeO.ite ?_ ?_)
   | (with_reducible refine LeO.bind ?_ (fun _ => ?_))
   | exact ih0 _ _ _
   | exact ih1 _ _ _
   | exact LeO.none _
   | refine LeO.ite ?_ ?_
   | refine LeO.bind ?_ (fun _ => ?_)
theorem sawmilllaw16_few.mono : ∀ a0 a1 k, LeO (sawmilllaw16_few.f k a0 a1) (sawmilllaw16_few.f (k + 1) a0 a1) := by
 intro a0 a1 k;obtain ⟨ih0, ih1⟩ := sawmilllaw16_few.mono_l k;unfold sawmilllaw16_few.f
 repeat' first
   | (with_reducible exact ih0 _ _ _)
   | (with_reducible exact ih1 _ _ _)
   | (with_reducible exact LeO.refl _)
   | (with_reducible exact LeO.none _)
   | (with_reducible refine LeO.ite ?_ ?_)
   | (with_reducible refine LeO.bind ?_ (fun _ => ?_))
   | exact ih0 _ _ _
   | exact ih1 _ _ _
   | exact LeO.none _
   | refine LeO.ite ?_ ?_
   | refine LeO.bind ?_ (fun _ => ?_)
set_option maxHeartbeats 8000000 in
set_option maxRecDepth 100000 in
theorem sawmilllaw16_few.calls (k : Nat) (A0_0 : Option Addr) (c0_0 : Nat) (l0_0 : List (S58)) (A0_1 : Option Addr) (c0_1 : Nat) (l0_1 : List (S48)) (r : Bool) (w : World) (hr0_0 : Kd.C k58 w A0_0 l0_0.length l0_0) (hc0_0 : l0_0.length ≤ c0_0) (hr0_1 : Kd.C k48 w A0_1 l0_1.length l0_1) (hc0_1 : l0_1.length ≤ c0_1) (h : sawmilllaw16_few.f k l0_0 l0_1 = some r) :
  Calls Try.prog 14 #[.agg #[.slice A0_0 l0_0.length c0_0, .slice A0_1 l0_1.length c0_1]] w fun e w' => e = .returned (.bool r) ∧ Below w.heap.size w w' := by
 have hu32 := Try.underlying32;have HR0_0 := Aside0.mk hr0_0;have HC0_0 := Aside0.mk hc0_0;clear hr0_0 hc0_0;have HR0_1 := Aside0.mk hr0_1;have HC0_1 := Aside0.mk hc0_1;clear hr0_1 hc0_1;have HB := A_ (Below.refl w.heap.size w);have H : (if (l0_0.length : Int) > 30 then (sawmilllaw16_few.j0 k true l0_0 l0_1) else (sawmilllaw16_few.j0 k (decide ((l0_1.length : Int) > 100)) l0_0 l0_1)) = some r := h;clear h;have HC2 := Aside0.mk H;clear H;go_enter Try.func14, Try.ntmps14
 go_upto_region 1 with (first | ((with_reducible refine gate_dst (N := 1) rfl ?_); (try (refine gate_guard (by rfl) ?_; dsimp only)); refine bx_ 1 (cs := #[.slice A0_0 l0_0.length c0_0, .slice A0_1 l0_1.length c0_1]) (t := 32) ?_; intro gbq1 hg w3 hbox hb; have BKq1 := A_ hbox; have GWq1 := gz_ (w := w) hg; have GEq1 := gz_ (w := w) hg; replace HB := bA_ hb; clear hb hbox hg))
 (try simp only [Act.put, List.setIfInBounds_toArray, List.set_cons_zero, List.set_cons_succ])
 go_cut [13] (fun v13 wc => ∃ (kq : Nat) (x13_1 : Bool), v13 = .bool x13_1 ∧ Aside0 (sawmilllaw16_few.j0 kq x13_1 l0_0 l0_1 = some r) ∧ Aside0 (kq ≤ k) ∧ Aside0 (wc.heap[gbq1]? = some (.cells #[(.slice A0_0 l0_0.length c0_0), (.slice A0_1 l0_1.length c0_1)] 32 (0, 0))) ∧ Aside0 (Below w.heap.size w wc))
 case first =>
  have H := HC2.out;clear HC2
  by_cases c4 : (l0_0.length : Int) > 30
  ·rw [if_pos c4] at H;have c4b0 : decide (30 < (l0_0.length : Int)) = true := decide_eq_true c4;have c4b1 : decide (30 < l0_0.length) = true := decide_eq_true (by omega);clear c4;(first | rw [c4b0] | (simp only [i64_w, i32_w]; rw [c4b0]) | skip);have H' := Aside0.mk H;clear H;obtain ⟨hcz5_0, hcz5_1, hfz5_0, hfz5_1⟩ := cy2_ BKq1;go_wp2
   go_meet
   case rel => exact ⟨_, (true), rs_, H', ⟨by first | omega | exact Nat.le_refl _⟩, ⟨fb_ BKq1.out⟩, ⟨be_⟩⟩
  ·rw [if_neg c4] at H;have c4b0 : decide (30 < (l0_0.length : Int)) = false := decide_eq_false c4;have c4b1 : decide (30 < l0_0.length) = false := decide_eq_false (by omega);clear c4;(first | rw [c4b0] | (simp only [i64_w, i32_w]; rw [c4b0]) | skip);have H' := Aside0.mk H;clear H;obtain ⟨hcz6_0, hcz6_1, hfz6_0, hfz6_1⟩ := cy2_ BKq1;go_wp2
   go_meet
   case rel => exact ⟨_, (decide ((l0_1.length : Int) > 100)), rs_, H', ⟨by first | omega | exact Nat.le_refl _⟩, ⟨fb_ BKq1.out⟩, ⟨be_⟩⟩
 case rest =>
  clear HC2;(try clear c1);(try clear p2);(try clear c4);(try clear c4b0);(try clear c4b1);(try clear hcz5_0);(try clear hcz5_1);(try clear hcz6_0);(try clear hcz6_1);(try clear hfz5_0);(try clear hfz5_1);(try clear hfz6_0);(try clear hfz6_1);obtain ⟨kq, x13_1, rfl, HA, HJ1, BKq1, HB⟩ := hcut;cases kq with
  | zero => exact absurd HA.out (by simp [sawmilllaw16_few.j0])
  | succ kj1 =>
   have H := HA.out;clear HA;simp only [sawmilllaw16_few.j0] at H
   by_cases c7 : x13_1 = true
   ·subst c7;(have H1 : (some false) = some r := by rw [if_pos rfl] at H; exact H);clear H;have H := H1;clear H1;obtain rfl := Option.some.inj H;go_wp2;go_ret;exact ⟨er_, be_⟩
   ·replace c7 := Bool.eq_false_iff.mpr c7;subst c7;(have H1 : (sawmilllaw16_few.l0 kj1 0 l0_0 l0_1) = some r := by rw [if_neg (show ¬ (false = true) by decide)] at H; exact H);clear H;have H := H1;clear H1;have H' := Aside0.mk H;clear H;go_wp2
    go_loopg [3] kj1 (fun kq v3 w' => ∃ (x3_2 : Int), v3 = .int .i64 x3_2 ∧ Aside0 (sawmilllaw16_few.l0 kq x3_2 l0_0 l0_1 = some r) ∧ Aside0 (kq ≤ kj1) ∧ Aside0 (w'.heap[gbq1]? = some (.cells #[(.slice A0_0 l0_0.length c0_0), (.slice A0_1 l0_1.length c0_1)] 32 (0, 0))) ∧ Aside0 (Below w.heap.size w w'))
    case atStart => exact ⟨(0), rs_, H', ⟨Nat.le_refl _⟩, ⟨fb_ BKq1.out⟩, ⟨be_⟩⟩
    case round =>
     clear H';(try clear c1);(try clear p2);(try clear c4);(try clear c4b0);(try clear c4b1);(try clear c7);(try clear hcz5_0);(try clear hcz5_1);(try clear hcz6_0);(try clear hcz6_1);(try clear hfz5_0);(try clear hfz5_1);(try clear hfz6_0);(try clear hfz6_1);(try clear p2);obtain ⟨x3_2, rfl, HA, HK2, BKq1, HB⟩ := hrel;cases gk with
     | zero => exact absurd HA.out (by simp [sawmilllaw16_few.l0])
     | succ k2 =>
      have H := HA.out;clear HA;simp only [sawmilllaw16_few.l0] at H
      by_cases c8 : x3_2 < (l0_0.length : Int)
      ·rw [if_pos c8] at H;have c8b0 : decide (x3_2 < (l0_0.length : Int)) = true := decide_eq_true c8;clear c8
       by_cases c9 : 0 ≤ x3_2
       ·rw [if_pos c9] at H;have c9b0 : decide (0 ≤ x3_2) = true := decide_eq_true c9;clear c9
        by_cases c10 : (((rd_T58 l0_0 x3_2).f1.f1).length : Int) > 130
        ·rw [if_pos c10] at H;have c10b0 : decide (130 < (((rd_T58 l0_0 x3_2).f1.f1).length : Int)) = true := decide_eq_true c10;have c10b1 : decide (130 < ((rd_T58 l0_0 x3_2).f1.f1).length) = true := decide_eq_true (by omega);clear c10;obtain rfl := Option.some.inj H;obtain ⟨hcz11_0, hcz11_1, hfz11_0, hfz11_1⟩ := cy2_ BKq1;have pq2 : 0 ≤ (x3_2 : Int) := as_;have qq2 : x3_2 < (l0_0.length : Int) := as_;obtain ⟨adq2, Aq2_2, cq2_2, eq2, hxq2_0, hxq2_1, hxq2_2, hlq2_2, hiq2_2⟩ := at_T58 HR0_0.out x3_2 pq2 qq2;cases eq2;replace hxq2_0 := bc_ HB hxq2_0;replace hxq2_1 := bc_ HB hxq2_1;replace hxq2_2 := bc_ HB hxq2_2;have HRq2_2 := Aside0.mk hiq2_2;have HCq2_2 := Aside0.mk hlq2_2;clear hiq2_2 hlq2_2;replace pq2 := eq_true pq2;replace qq2 := eq_true qq2;go_wp2;go_ret;exact ⟨er_, be_⟩
        ·rw [if_neg c10] at H;have c10b0 : decide (130 < (((rd_T58 l0_0 x3_2).f1.f1).length : Int)) = false := decide_eq_false c10;have c10b1 : decide (130 < ((rd_T58 l0_0 x3_2).f1.f1).length) = false := decide_eq_false (by omega);clear c10;have H' := Aside0.mk H;clear H;obtain ⟨hcz12_0, hcz12_1, hfz12_0, hfz12_1⟩ := cy2_ BKq1;have pq2 : 0 ≤ (x3_2 : Int) := as_;have qq2 : x3_2 < (l0_0.length : Int) := as_;obtain ⟨adq2, Aq2_2, cq2_2, eq2, hxq2_0, hxq2_1, hxq2_2, hlq2_2, hiq2_2⟩ := at_T58 HR0_0.out x3_2 pq2 qq2;cases eq2;replace hxq2_0 := bc_ HB hxq2_0;replace hxq2_1 := bc_ HB hxq2_1;replace hxq2_2 := bc_ HB hxq2_2;have HRq2_2 := Aside0.mk hiq2_2;have HCq2_2 := Aside0.mk hlq2_2;clear hiq2_2 hlq2_2;replace pq2 := eq_true pq2;replace qq2 := eq_true qq2;go_wp2
         go_roundg k2
         case measure => have := HJ1.out; have := HK2.out; omega
         case rel => exact ⟨(wrap64 (x3_2 + 1)), rs_, H', ⟨by have := HJ1.out; have := HK2.out; omega⟩, ⟨fb_ BKq1.out⟩, ⟨be_⟩⟩
       ·rw [if_neg c9] at H;exact absurd H (by simp)
      ·rw [if_neg c8] at H;have c8b0 : decide (x3_2 < (l0_0.length : Int)) = false := decide_eq_false c8;clear c8;obtain rfl := Option.some.inj H;obtain ⟨hcz13_0, hcz13_1, hfz13_0, hfz13_1⟩ := cy2_ BKq1;go_wp2;go_ret;exact ⟨er_, be_⟩


def sawmillref10_beyond.f (a0 : Int) : Option (Bool) := if a0 < (-600) then (some true) else (some (decide (a0 > 600)))
set_option maxHeartbeats 8000000 in
set_option maxRecDepth 100000 in
theorem sawmillref10_beyond.calls (a0 : Int) (r : Bool) (w : World) (h : sawmillref10_beyond.f a0 = some r) :
  Calls Try.prog 68 #[.int .i64 a0] w fun e w' => e = .returned (.bool r) ∧ Drawn0 w w' := by
 have H : (if a0 < (-600) then (some true) else (some (decide (a0 > 600)))) = some r := h;clear h
 by_cases c2 : a0 < (-600)
 ·rw [if_pos c2] at H;have c2b0 : decide (a0 < (-600)) = true := decide_eq_true c2;clear c2;obtain rfl := Option.some.inj H;go_enter Try.func68, Try.ntmps68;go_wp2;go_ret;exact ⟨by first | rfl | (simp; done) | (simp [*]; done), by repeat (first | exact Drawn0.refl _ | apply Drawn0.step)⟩
 ·rw [if_neg c2] at H;have c2b0 : decide (a0 < (-600)) = false := decide_eq_false c2;clear c2;obtain rfl := Option.some.inj H;go_enter Try.func68, Try.ntmps68;go_wp2;go_ret;exact ⟨by first | rfl | (simp; done) | (simp [*]; done), by repeat (first | exact Drawn0.refl _ | apply Drawn0.step)⟩


def sawmillref10_empty.f (a0_0 : Int) (a0_1 : Int) : Option (Bool) := some (decide (a0_0 ≥ a0_1))
set_option maxHeartbeats 8000000 in
set_option maxRecDepth 100000 in
theorem sawmillref10_empty.calls (a0_0 : Int) (a0_1 : Int) (r : Bool) (w : World) (h : sawmillref10_empty.f a0_0 a0_1 = some r) :
  Calls Try.prog 69 #[.agg #[.int .i64 a0_0, .int .i64 a0_1]] w fun e w' => e = .returned (.bool r) ∧ Below w.heap.size w w' := by
 have hu44 := Try.underlying44;have HB := A_ (Below.refl w.heap.size w);have H : (some (decide (a0_0 ≥ a0_1))) = some r := h;clear h;obtain rfl := Option.some.inj H;go_enter Try.func69, Try.ntmps69;go_wp2_with (first | ((with_reducible refine gate_dst (N := 1) rfl ?_); refine bx_ 1 (cs := #[.int .i64 a0_0, .int .i64 a0_1]) (t := 44) ?_; intro gbq1 hg w2 hbox hb; have BKq1 := A_ hbox; have GWq1 := gz_ (w := w) hg; have GEq1 := gz_ (w := w) hg; replace HB := bA_ hb; clear hb hbox hg; obtain ⟨hcz3_0, hcz3_1, hfz3_0, hfz3_1⟩ := cy2_ BKq1));go_ret;exact ⟨er_, be_⟩


attribute [local go_sem high] eqA44
mutual
def sawmillref10_Check.j0 : Nat → Int → Bool → Int → List (S44) → Option (Int)
 | 0, _, _, _, _ => none
 | k + 1, x3, x20, xq2o0, xq2o1 => if x20 = true then (some 9) else (sawmillref10_Check.l0 k x3 0 xq2o0 xq2o1)
def sawmillref10_Check.l0 : Nat → Int → Int → Int → List (S44) → Option (Int)
 | 0, _, _, _, _ => none
 | k + 1, x3, x4, xq2o0, xq2o1 => if x4 < x3 then (if 0 ≤ x4 then (if x4 < (xq2o1.length : Int) then ((sawmillref10_beyond.f ((rd_T44 xq2o1 x4).f0)).bind fun tq3 => (if tq3 = true then (some 9) else ((sawmillref10_beyond.f ((rd_T44 xq2o1 x4).f1)).bind fun tq5 => (if tq5 = true then (some 9) else (sawmillref10_Check.l0 k x3 (wrap64 (x4 + 1)) xq2o0 xq2o1))))) else (none)) else (none)) else (if x3 = 0 then (if xq2o0 = 0 then (some 0) else (some 19)) else (if 0 < (xq2o1.length : Int) then ((sawmillref10_empty.f ((rd_T44 xq2o1 0).f0) ((rd_T44 xq2o1 0).f1)).bind fun tq7 => (if tq7 = true then (sawmillref10_Check.j2 k x3 true xq2o0 xq2o1) else (if 0 ≤ (wrap64 (x3 - 1)) then (if (wrap64 (x3 - 1)) < (xq2o1.length : Int) then ((sawmillref10_empty.f ((rd_T44 xq2o1 (wrap64 (x3 - 1))).f0) ((rd_T44 xq2o1 (wrap64 (x3 - 1))).f1)).bind fun tq9 => (sawmillref10_Check.j2 k x3 tq9 xq2o0 xq2o1)) else (none)) else (none)))) else (none)))
def sawmillref10_Check.j2 : Nat → Int → Bool → Int → List (S44) → Option (Int)
 | 0, _, _, _, _ => none
 | k + 1, x3, x60, xq2o0, xq2o1 => if x60 = true then (some 19) else (sawmillref10_Check.l1 k x3 0 xq2o0 xq2o1)
def sawmillref10_Check.l1 : Nat → Int → Int → Int → List (S44) → Option (Int)
 | 0, _, _, _, _ => none
 | k + 1, x3, x5, xq2o0, xq2o1 => if x5 < x3 then (if 0 ≤ x5 then (if x5 < (xq2o1.length : Int) then ((sawmillref10_empty.f ((rd_T44 xq2o1 x5).f0) ((rd_T44 xq2o1 x5).f1)).bind fun tq11 => (if tq11 = true then (if (!(((rd_T44 xq2o1 x5).f0) == 0) || (!(((rd_T44 xq2o1 x5).f1) == 0))) = true then (some 19) else (sawmillref10_Check.l1 k x3 (wrap64 (x5 + 1)) xq2o0 xq2o1)) else (sawmillref10_Check.l1 k x3 (wrap64 (x5 + 1)) xq2o0 xq2o1))) else (none)) else (none)) else (some 0)
end
def sawmillref10_Check.f (k : Nat) (a0_0 : Int) (l0_1 : List (S44)) : Option (Int) := if (l0_1.length : Int) > 120 then (some 4) else (if a0_0 < (-60) then (sawmillref10_Check.j0 k (l0_1.length : Int) true a0_0 l0_1) else (sawmillref10_Check.j0 k (l0_1.length : Int) (decide (a0_0 > (wrap64 (60 - (l0_1.length : Int))))) a0_0 l0_1))
theorem sawmillref10_Check.mono_l : ∀ k, (∀ y0 y1 y2 y3, LeO (sawmillref10_Check.j0 k y0 y1 y2 y3) (sawmillref10_Check.j0 (k + 1) y0 y1 y2 y3)) ∧ (∀ y0 y1 y2 y3, LeO (sawmillref10_Check.l0 k y0 y1 y2 y3) (sawmillref10_Check.l0 (k + 1) y0 y1 y2 y3)) ∧ (∀ y0 y1 y2 y3, LeO (sawmillref10_Check.j2 k y0 y1 y2 y3) (sawmillref10_Check.j2 (k + 1) y0 y1 y2 y3)) ∧ (∀ y0 y1 y2 y3, LeO (sawmillref10_Check.l1 k y0 y1 y2 y3) (sawmillref10_Check.l1 (k + 1) y0 y1 y2 y3))
 | 0 => ⟨fun _ _ _ _ r h => by simp [sawmillref10_Check.j0] at h, fun _ _ _ _ r h => by simp [sawmillref10_Check.l0] at h, fun _ _ _ _ r h => by simp [sawmillref10_Check.j2] at h, fun _ _ _ _ r h => by simp [sawmillref10_Check.l1] at h⟩
 | k + 1 => by
  obtain ⟨ih0, ih1, ih2, ih3⟩ := sawmillref10_Check.mono_l k;refine ⟨?_, ?_, ?_, ?_⟩
  ·intro y0 y1 y2 y3;unfold sawmillref10_Check.j0
   repeat' first
   | (with_reducible exact ih0 _ _ _ _)
   | (with_reducible exact ih1 _ _ _ _)
   | (with_reducible exact ih2 _ _ _ _)
   | (with_reducible exact ih3 _ _ _ _)
   | (with_reducible exact LeO.refl _)
   | (with_reducible exact LeO.none _)
   | (with_reducible refine LeO.ite ?_ ?_)
   | (with_reducible refine LeO.bind ?_ (fun _ => ?_))
   | exact ih0 _ _ _ _
   | exact ih1 _ _ _ _
   | exact ih2 _ _ _ _
   | exact ih3 _ _ _ _
   | exact LeO.none _
   | refine LeO.ite ?_ ?_
   | refine LeO.bind ?_ (fun _ => ?_)
  ·intro y0 y1 y2 y3;unfold sawmillref10_Check.l0
   repeat' first
   | (with_reducible exact ih0 _ _ _ _)
   | (with_reducible exact ih1 _ _ _ _)
   | (with_reducible exact ih2 _ _ _ _)
   | (with_reducible exact ih3 _ _ _ _)
   | (with_reducible exact LeO.refl _)
   | (with_reducible exact LeO.none _)
   | (with_reducible refine LeO.ite ?_ ?_)
   | (with_reducible refine LeO.bind ?_ (fun _ => ?_))
   | exact ih0 _ _ _ _
   | exact ih1 _ _ _ _
   | exact ih2 _ _ _ _
   | exact ih3 _ _ _ _
   | exact LeO.none _
   | refine LeO.ite ?_ ?_
   | refine LeO.bind ?_ (fun _ => ?_)
  ·intro y0 y1 y2 y3;unfold sawmillref10_Check.j2
   repeat' first
   | (with_reducible exact ih0 _ _ _ _)
   | (with_reducible exact ih1 _ _ _ _)
   | (with_reducible exact ih2 _ _ _ _)
   | (with_reducible exact ih3 _ _ _ _)
   | (with_reducible exact LeO.refl _)
   | (with_reducible exact LeO.none _)
   | (with_reducible refine LeO.ite ?_ ?_)
   | (with_reducible refine LeO.bind ?_ (fun _ => ?_))
   | exact ih0 _ _ _ _
   | exact ih1 _ _ _ _
   | exact ih2 _ _ _ _
   | exact ih3 _ _ _ _
   | exact LeO.none _
   | refine LeO.ite ?_ ?_
   | refine LeO.bind ?_ (fun _ => ?_)
  ·intro y0 y1 y2 y3;unfold sawmillref10_Check.l1
   repeat' first
   | (with_reducible exact ih0 _ _ _ _)
   | (with_reducible exact ih1 _ _ _ _)
   | (with_reducible exact ih2 _ _ _ _)
   | (with_reducible exact ih3 _ _ _ _)
   | (with_reducible exact LeO.refl _)
   | (with_reducible exact LeO.none _)
   | (with_reducible refine LeO.ite ?_ ?_)
   | (with_reducible refine LeO.bind ?_ (fun _ => ?_))
   | exact ih0 _ _ _ _
   | exact ih1 _ _ _ _
   | exact ih2 _ _ _ _
   | exact ih3 _ _ _ _
   | exact LeO.none _
   | refine LeO.ite ?_ ?_
   | refine LeO.bind ?_ (fun _ => ?_)
theorem sawmillref10_Check.mono : ∀ a0 a1 k, LeO (sawmillref10_Check.f k a0 a1) (sawmillref10_Check.f (k + 1) a0 a1) := by
 intro a0 a1 k;obtain ⟨ih0, ih1, ih2, ih3⟩ := sawmillref10_Check.mono_l k;unfold sawmillref10_Check.f
 repeat' first
   | (with_reducible exact ih0 _ _ _ _)
   | (with_reducible exact ih1 _ _ _ _)
   | (with_reducible exact ih2 _ _ _ _)
   | (with_reducible exact ih3 _ _ _ _)
   | (with_reducible exact LeO.refl _)
   | (with_reducible exact LeO.none _)
   | (with_reducible refine LeO.ite ?_ ?_)
   | (with_reducible refine LeO.bind ?_ (fun _ => ?_))
   | exact ih0 _ _ _ _
   | exact ih1 _ _ _ _
   | exact ih2 _ _ _ _
   | exact ih3 _ _ _ _
   | exact LeO.none _
   | refine LeO.ite ?_ ?_
   | refine LeO.bind ?_ (fun _ => ?_)
set_option maxHeartbeats 8000000 in
set_option maxRecDepth 100000 in
theorem sawmillref10_Check.calls (k : Nat) (a0_0 : Int) (A0_1 : Option Addr) (c0_1 : Nat) (l0_1 : List (S44)) (r : Int) (w : World) (hr0_1 : Kd.C k44 w A0_1 l0_1.length l0_1) (hc0_1 : l0_1.length ≤ c0_1) (h : sawmillref10_Check.f k a0_0 l0_1 = some r) :
  Calls Try.prog 49 #[.agg #[.int .i64 a0_0, .slice A0_1 l0_1.length c0_1]] w fun e w' => e = .returned (.int .i64 r) ∧ Below w.heap.size w w' := by
 have hu56 := Try.underlying56;have hu44 := Try.underlying44;have HR0_1 := Aside0.mk hr0_1;have HC0_1 := Aside0.mk hc0_1;clear hr0_1 hc0_1;have HB := A_ (Below.refl w.heap.size w);have H : (if (l0_1.length : Int) > 120 then (some 4) else (if a0_0 < (-60) then (sawmillref10_Check.j0 k (l0_1.length : Int) true a0_0 l0_1) else (sawmillref10_Check.j0 k (l0_1.length : Int) (decide (a0_0 > (wrap64 (60 - (l0_1.length : Int))))) a0_0 l0_1))) = some r := h;clear h
 by_cases c2 : (l0_1.length : Int) > 120
 ·rw [if_pos c2] at H;have c2b0 : decide (120 < (l0_1.length : Int)) = true := decide_eq_true c2;have c2b1 : decide (120 < l0_1.length) = true := decide_eq_true (by omega);clear c2;obtain rfl := Option.some.inj H;go_enter Try.func49, Try.ntmps49;go_wp2_with (first | ((with_reducible refine gate_dst (N := 1) rfl ?_); refine bx_ 1 (cs := #[.int .i64 a0_0, .slice A0_1 l0_1.length c0_1]) (t := 56) ?_; intro gbq1 hg w3 hbox hb; have BKq1 := A_ hbox; have GWq1 := gz_ (w := w) hg; have GEq1 := gz_ (w := w) hg; replace HB := bA_ hb; clear hb hbox hg; obtain ⟨hcz4_0, hcz4_1, hfz4_0, hfz4_1⟩ := cy2_ BKq1));go_ret;exact ⟨er_, be_⟩
 ·rw [if_neg c2] at H;have c2b0 : decide (120 < (l0_1.length : Int)) = false := decide_eq_false c2;have c2b1 : decide (120 < l0_1.length) = false := decide_eq_false (by omega);clear c2;have HC5 := Aside0.mk H;clear H;go_enter Try.func49, Try.ntmps49
  go_upto_region 4 with (first | ((with_reducible refine gate_dst (N := 1) rfl ?_); refine bx_ 1 (cs := #[.int .i64 a0_0, .slice A0_1 l0_1.length c0_1]) (t := 56) ?_; intro gbq1 hg w6 hbox hb; have BKq1 := A_ hbox; have GWq1 := gz_ (w := w) hg; have GEq1 := gz_ (w := w) hg; replace HB := bA_ hb; clear hb hbox hg; obtain ⟨hcz7_0, hcz7_1, hfz7_0, hfz7_1⟩ := cy2_ BKq1))
  (try simp only [Act.put, List.setIfInBounds_toArray, List.set_cons_zero, List.set_cons_succ])
  go_cut [20] (fun v20 wc => ∃ (kq : Nat) (x20_4 : Bool), v20 = .bool x20_4 ∧ Aside0 (sawmillref10_Check.j0 kq (l0_1.length : Int) x20_4 a0_0 l0_1 = some r) ∧ Aside0 (kq ≤ k) ∧ Aside0 (wc.heap[gbq1]? = some (.cells #[.int .i64 a0_0, (.slice A0_1 l0_1.length c0_1)] 56 (0, 0))) ∧ Aside0 (Below w.heap.size w wc))
  case first =>
   have H := HC5.out;clear HC5
   by_cases c8 : a0_0 < (-60)
   ·rw [if_pos c8] at H;have c8b0 : decide (a0_0 < (-60)) = true := decide_eq_true c8;clear c8;(first | rw [c8b0] | (simp only [i64_w, i32_w]; rw [c8b0]) | skip);have H' := Aside0.mk H;clear H;obtain ⟨hcz9_0, hcz9_1, hfz9_0, hfz9_1⟩ := cy2_ BKq1;go_wp2
    go_meet
    case rel => exact ⟨_, (true), rs_, H', ⟨by first | omega | exact Nat.le_refl _⟩, ⟨fb_ BKq1.out⟩, ⟨be_⟩⟩
   ·rw [if_neg c8] at H;have c8b0 : decide (a0_0 < (-60)) = false := decide_eq_false c8;clear c8;(first | rw [c8b0] | (simp only [i64_w, i32_w]; rw [c8b0]) | skip);have H' := Aside0.mk H;clear H;obtain ⟨hcz10_0, hcz10_1, hfz10_0, hfz10_1⟩ := cy2_ BKq1;go_wp2
    go_meet
    case rel => exact ⟨_, (decide (a0_0 > (wrap64 (60 - (l0_1.length : Int))))), rs_, H', ⟨by first | omega | exact Nat.le_refl _⟩, ⟨fb_ BKq1.out⟩, ⟨be_⟩⟩
  case rest =>
   clear HC5;(try clear c2);(try clear c2b0);(try clear c2b1);(try clear p2);(try clear c4);(try clear p6);(try clear c8);(try clear c8b0);(try clear hcz10_0);(try clear hcz10_1);(try clear hcz4_0);(try clear hcz4_1);(try clear hcz7_0);(try clear hcz7_1);(try clear hcz9_0);(try clear hcz9_1);(try clear hfz10_0);(try clear hfz10_1);(try clear hfz4_0);(try clear hfz4_1);(try clear hfz7_0);(try clear hfz7_1);(try clear hfz9_0);(try clear hfz9_1);obtain ⟨kq, x20_4, rfl, HA, HJ4, BKq1, HB⟩ := hcut;cases kq with
   | zero => exact absurd HA.out (by simp [sawmillref10_Check.j0])
   | succ kj4 =>
    have H := HA.out;clear HA;simp only [sawmillref10_Check.j0] at H
    by_cases c11 : x20_4 = true
    ·subst c11;(have H1 : (some 9) = some r := by rw [if_pos rfl] at H; exact H);clear H;have H := H1;clear H1;obtain rfl := Option.some.inj H;go_wp2;go_ret;exact ⟨er_, be_⟩
    ·replace c11 := Bool.eq_false_iff.mpr c11;subst c11;(have H1 : (sawmillref10_Check.l0 kj4 (l0_1.length : Int) 0 a0_0 l0_1) = some r := by rw [if_neg (show ¬ (false = true) by decide)] at H; exact H);clear H;have H := H1;clear H1;have H' := Aside0.mk H;clear H;go_wp2
     go_loopg [4] kj4 (fun kq v4 w' => ∃ (x4_2 : Int), v4 = .int .i64 x4_2 ∧ Aside0 (sawmillref10_Check.l0 kq (l0_1.length : Int) x4_2 a0_0 l0_1 = some r) ∧ Aside0 (kq ≤ kj4) ∧ Aside0 (w'.heap[gbq1]? = some (.cells #[.int .i64 a0_0, (.slice A0_1 l0_1.length c0_1)] 56 (0, 0))) ∧ Aside0 (Below w.heap.size w w'))
     case atStart => exact ⟨(0), rs_, H', ⟨Nat.le_refl _⟩, ⟨fb_ BKq1.out⟩, ⟨be_⟩⟩
     case round =>
      clear H';(try clear c1);(try clear c2);(try clear c2b0);(try clear c2b1);(try clear p2);(try clear c4);(try clear p6);(try clear c8);(try clear c8b0);(try clear c11);(try clear hcz10_0);(try clear hcz10_1);(try clear hcz4_0);(try clear hcz4_1);(try clear hcz7_0);(try clear hcz7_1);(try clear hcz9_0);(try clear hcz9_1);(try clear hfz10_0);(try clear hfz10_1);(try clear hfz4_0);(try clear hfz4_1);(try clear hfz7_0);(try clear hfz7_1);(try clear hfz9_0);(try clear hfz9_1);(try clear p2);(try clear p6);obtain ⟨x4_2, rfl, HA, HK2, BKq1, HB⟩ := hrel;cases gk with
      | zero => exact absurd HA.out (by simp [sawmillref10_Check.l0])
      | succ k2 =>
       have H := HA.out;clear HA;simp only [sawmillref10_Check.l0] at H
       by_cases c12 : x4_2 < (l0_1.length : Int)
       ·rw [if_pos c12] at H;have c12b0 : decide (x4_2 < (l0_1.length : Int)) = true := decide_eq_true c12;clear c12
        by_cases c13 : 0 ≤ x4_2
        ·rw [if_pos c13] at H;have c13b0 : decide (0 ≤ x4_2) = true := decide_eq_true c13;clear c13
         by_cases c14 : x4_2 < (l0_1.length : Int)
         ·rw [if_pos c14] at H;have c14b0 : decide (x4_2 < (l0_1.length : Int)) = true := decide_eq_true c14;clear c14;replace H := Option.bind_eq_some_iff.mp H;obtain ⟨tq3, A150, H⟩ := H;replace H : (if tq3 = true then (some 9) else ((sawmillref10_beyond.f ((rd_T44 l0_1 x4_2).f1)).bind fun tq5 => (if tq5 = true then (some 9) else (sawmillref10_Check.l0 k2 (l0_1.length : Int) (wrap64 (x4_2 + 1)) a0_0 l0_1)))) = some r := H;have A15 := Aside0.mk A150;clear A150
          by_cases c16 : tq3 = true
          ·subst c16;(have H1 : (some 9) = some r := by rw [if_pos rfl] at H; exact H);clear H;have H := H1;clear H1;obtain rfl := Option.some.inj H;obtain ⟨hcz17_0, hcz17_1, hfz17_0, hfz17_1⟩ := cy2_ BKq1;have pq2 : 0 ≤ (x4_2 : Int) := as_;have qq2 : x4_2 < (l0_1.length : Int) := as_;obtain ⟨adq2, eq2, hxq2_0, hxq2_1⟩ := at_T44 HR0_1.out x4_2 pq2 qq2;cases eq2;replace hxq2_0 := bc_ HB hxq2_0;replace hxq2_1 := bc_ HB hxq2_1;replace pq2 := eq_true pq2;replace qq2 := eq_true qq2;go_wp2_with (first | ((with_reducible refine gate_callee (f := 68) rfl ?_); refine goesL_ (some 32) rfl rfl Try.func68 (by kernel_rfl) rfl #[.int .i64 ((rd_T44 l0_1 x4_2).f0)] rfl la_ ?_; (with_reducible refine (sawmillref10_beyond.calls ((rd_T44 l0_1 x4_2).f0) true _ A15.out).mono ?_); rintro e w' ⟨rfl, ⟨nd, rfl⟩⟩; refine ⟨_, rfl, ?_⟩));go_ret;exact ⟨er_, be_⟩
          ·replace c16 := Bool.eq_false_iff.mpr c16;subst c16;(have H1 : ((sawmillref10_beyond.f ((rd_T44 l0_1 x4_2).f1)).bind fun tq5 => (if tq5 = true then (some 9) else (sawmillref10_Check.l0 k2 (l0_1.length : Int) (wrap64 (x4_2 + 1)) a0_0 l0_1))) = some r := by rw [if_neg (show ¬ (false = true) by decide)] at H; exact H);clear H;have H := H1;clear H1;replace H := Option.bind_eq_some_iff.mp H;obtain ⟨tq5, A180, H⟩ := H;replace H : (if tq5 = true then (some 9) else (sawmillref10_Check.l0 k2 (l0_1.length : Int) (wrap64 (x4_2 + 1)) a0_0 l0_1)) = some r := H;have A18 := Aside0.mk A180;clear A180
           by_cases c19 : tq5 = true
           ·subst c19;(have H1 : (some 9) = some r := by rw [if_pos rfl] at H; exact H);clear H;have H := H1;clear H1;obtain rfl := Option.some.inj H;obtain ⟨hcz20_0, hcz20_1, hfz20_0, hfz20_1⟩ := cy2_ BKq1;have pq2 : 0 ≤ (x4_2 : Int) := as_;have qq2 : x4_2 < (l0_1.length : Int) := as_;obtain ⟨adq2, eq2, hxq2_0, hxq2_1⟩ := at_T44 HR0_1.out x4_2 pq2 qq2;cases eq2;replace hxq2_0 := bc_ HB hxq2_0;replace hxq2_1 := bc_ HB hxq2_1;replace pq2 := eq_true pq2;replace qq2 := eq_true qq2;go_wp2_with (first | ((with_reducible refine gate_callee (f := 68) rfl ?_); refine goesL_ (some 32) rfl rfl Try.func68 (by kernel_rfl) rfl #[.int .i64 ((rd_T44 l0_1 x4_2).f0)] rfl la_ ?_; (with_reducible refine (sawmillref10_beyond.calls ((rd_T44 l0_1 x4_2).f0) false _ A15.out).mono ?_); rintro e w' ⟨rfl, ⟨nd, rfl⟩⟩; refine ⟨_, rfl, ?_⟩; have pq4 : 0 ≤ (x4_2 : Int) := as_; have qq4 : x4_2 < (l0_1.length : Int) := as_; obtain ⟨adq4, eq4, hxq4_0, hxq4_1⟩ := at_T44 HR0_1.out x4_2 pq4 qq4; obtain rfl : adq2 = adq4 := (by injection eq4); replace hxq4_0 := bc_ HB hxq4_0; replace hxq4_1 := bc_ HB hxq4_1; replace pq4 := eq_true pq4; replace qq4 := eq_true qq4) | (go_at_call 68; (with_reducible refine (sawmillref10_beyond.calls ((rd_T44 l0_1 x4_2).f1) true _ A18.out).mono ?_); rintro e w' ⟨rfl, ⟨nd, rfl⟩⟩));go_ret;exact ⟨er_, be_⟩
           ·replace c19 := Bool.eq_false_iff.mpr c19;subst c19;(have H1 : (sawmillref10_Check.l0 k2 (l0_1.length : Int) (wrap64 (x4_2 + 1)) a0_0 l0_1) = some r := by rw [if_neg (show ¬ (false = true) by decide)] at H; exact H);clear H;have H := H1;clear H1;have H' := Aside0.mk H;clear H;obtain ⟨hcz21_0, hcz21_1, hfz21_0, hfz21_1⟩ := cy2_ BKq1;have pq2 : 0 ≤ (x4_2 : Int) := as_;have qq2 : x4_2 < (l0_1.length : Int) := as_;obtain ⟨adq2, eq2, hxq2_0, hxq2_1⟩ := at_T44 HR0_1.out x4_2 pq2 qq2;cases eq2;replace hxq2_0 := bc_ HB hxq2_0;replace hxq2_1 := bc_ HB hxq2_1;replace pq2 := eq_true pq2;replace qq2 := eq_true qq2;go_wp2_with (first | ((with_reducible refine gate_callee (f := 68) rfl ?_); refine goesL_ (some 32) rfl rfl Try.func68 (by kernel_rfl) rfl #[.int .i64 ((rd_T44 l0_1 x4_2).f0)] rfl la_ ?_; (with_reducible refine (sawmillref10_beyond.calls ((rd_T44 l0_1 x4_2).f0) false _ A15.out).mono ?_); rintro e w' ⟨rfl, ⟨nd, rfl⟩⟩; refine ⟨_, rfl, ?_⟩; have pq4 : 0 ≤ (x4_2 : Int) := as_; have qq4 : x4_2 < (l0_1.length : Int) := as_; obtain ⟨adq4, eq4, hxq4_0, hxq4_1⟩ := at_T44 HR0_1.out x4_2 pq4 qq4; obtain rfl : adq2 = adq4 := (by injection eq4); replace hxq4_0 := bc_ HB hxq4_0; replace hxq4_1 := bc_ HB hxq4_1; replace pq4 := eq_true pq4; replace qq4 := eq_true qq4) | (go_at_call 68; (with_reducible refine (sawmillref10_beyond.calls ((rd_T44 l0_1 x4_2).f1) false _ A18.out).mono ?_); rintro e w' ⟨rfl, ⟨nd, rfl⟩⟩))
            go_roundg k2
            case measure => have := HJ4.out; have := HK2.out; omega
            case rel => exact ⟨(wrap64 (x4_2 + 1)), rs_, H', ⟨by have := HJ4.out; have := HK2.out; omega⟩, ⟨fb_ BKq1.out⟩, ⟨be_⟩⟩
         ·rw [if_neg c14] at H;exact absurd H (by simp)
        ·rw [if_neg c13] at H;exact absurd H (by simp)
       ·rw [if_neg c12] at H;have c12b0 : decide (x4_2 < (l0_1.length : Int)) = false := decide_eq_false c12;clear c12
        by_cases c22 : (l0_1.length : Int) = 0
        ·rw [if_pos c22] at H;have c22b0 : ((l0_1.length : Int) == 0) = true := beq_iff_eq.mpr c22;have c22b1 : ((l0_1.length : Int) != 0) = false := bne_eq_false_iff_eq.mpr c22;clear c22
         by_cases c23 : a0_0 = 0
         ·rw [if_pos c23] at H;have c23b0 : (a0_0 == 0) = true := beq_iff_eq.mpr c23;have c23b1 : (a0_0 != 0) = false := bne_eq_false_iff_eq.mpr c23;clear c23;obtain rfl := Option.some.inj H;obtain ⟨hcz24_0, hcz24_1, hfz24_0, hfz24_1⟩ := cy2_ BKq1;go_wp2;go_ret;exact ⟨er_, be_⟩
         ·rw [if_neg c23] at H;have c23b0 : (a0_0 == 0) = false := beq_eq_false_iff_ne.mpr c23;have c23b1 : (a0_0 != 0) = true := bne_iff_ne.mpr c23;obtain rfl := Option.some.inj H;obtain ⟨hcz25_0, hcz25_1, hfz25_0, hfz25_1⟩ := cy2_ BKq1;go_wp2;go_ret;exact ⟨er_, be_⟩
        ·rw [if_neg c22] at H;have c22b0 : ((l0_1.length : Int) == 0) = false := beq_eq_false_iff_ne.mpr c22;have c22b1 : ((l0_1.length : Int) != 0) = true := bne_iff_ne.mpr c22;have c22b2 : ¬ (l0_1 = []) := fun h_ => c22 (by rw [h_]; rfl);have HC26 := Aside0.mk H;clear H
         go_upto_region 15 with (fail)
         go_cut [60] (fun v60 wc => ∃ (kq : Nat) (x60_25 : Bool), v60 = .bool x60_25 ∧ Aside0 (sawmillref10_Check.j2 kq (l0_1.length : Int) x60_25 a0_0 l0_1 = some r) ∧ Aside0 (kq ≤ k2) ∧ Aside0 (wc.heap[gbq1]? = some (.cells #[.int .i64 a0_0, (.slice A0_1 l0_1.length c0_1)] 56 (0, 0))) ∧ Aside0 (Below w.heap.size w wc))
         case first =>
          have H := HC26.out;clear HC26
          by_cases c27 : 0 < (l0_1.length : Int)
          ·rw [if_pos c27] at H;have c27b0 : decide (0 < (l0_1.length : Int)) = true := decide_eq_true c27;have c27b1 : decide (0 < l0_1.length) = true := decide_eq_true (by omega);clear c27;(first | rw [c27b0] | (simp only [i64_w, i32_w]; rw [c27b0]) | skip);replace H := Option.bind_eq_some_iff.mp H;obtain ⟨tq7, A280, H⟩ := H;replace H : (if tq7 = true then (sawmillref10_Check.j2 k2 (l0_1.length : Int) true a0_0 l0_1) else (if 0 ≤ (wrap64 ((l0_1.length : Int) - 1)) then (if (wrap64 ((l0_1.length : Int) - 1)) < (l0_1.length : Int) then ((sawmillref10_empty.f ((rd_T44 l0_1 (wrap64 ((l0_1.length : Int) - 1))).f0) ((rd_T44 l0_1 (wrap64 ((l0_1.length : Int) - 1))).f1)).bind fun tq9 => (sawmillref10_Check.j2 k2 (l0_1.length : Int) tq9 a0_0 l0_1)) else (none)) else (none))) = some r := H;have A28 := Aside0.mk A280;clear A280
           by_cases c29 : tq7 = true
           ·subst c29;(have H1 : (sawmillref10_Check.j2 k2 (l0_1.length : Int) true a0_0 l0_1) = some r := by rw [if_pos rfl] at H; exact H);clear H;have H := H1;clear H1;have H' := Aside0.mk H;clear H;obtain ⟨hcz30_0, hcz30_1, hfz30_0, hfz30_1⟩ := cy2_ BKq1;have pq6 : 0 ≤ (0 : Int) := (by omega);have qq6 : 0 < (l0_1.length : Int) := as_;obtain ⟨adq6, eq6, hxq6_0, hxq6_1⟩ := at_T44 HR0_1.out 0 pq6 qq6;cases eq6;have qiq6 : (0 < l0_1.length) = True := eq_true (by omega);(try rw [show ((0 : Int)).toNat = 0 from rfl] at hxq6_0);(try rw [show 0 * 2 = 0 from rfl] at hxq6_0);(try rw [Addr.add_zero'] at hxq6_0);(try rw [show ((0 : Int)).toNat = 0 from rfl] at hxq6_1);(try rw [show 0 * 2 = 0 from rfl] at hxq6_1);(try rw [Addr.add_zero'] at hxq6_1);replace hxq6_0 := bc_ HB hxq6_0;replace hxq6_1 := bc_ HB hxq6_1;replace pq6 := eq_true pq6;replace qq6 := eq_true qq6;go_wp2_with (first | ((with_reducible refine gate_callee (f := 69) rfl ?_); refine goesL_ (some 51) rfl rfl Try.func69 (by kernel_rfl) rfl #[.agg #[.int .i64 ((rd_T44 l0_1 0).f0), .int .i64 ((rd_T44 l0_1 0).f1)]] rfl la_ ?_; (with_reducible refine (sawmillref10_empty.calls ((rd_T44 l0_1 0).f0) ((rd_T44 l0_1 0).f1) true _ A28.out).mono ?_); rintro e w31 ⟨rfl, hb⟩; refine ⟨_, rfl, ?_⟩; replace BKq1 := bb_ BKq1 hb; replace HB := bA_ hb; (try clear hb)))
            go_meet
            case rel => exact ⟨_, (true), rs_, H', ⟨by have := HJ4.out; have := HK2.out; first | omega | exact Nat.le_refl _⟩, ⟨fb_ BKq1.out⟩, ⟨be_⟩⟩
           ·replace c29 := Bool.eq_false_iff.mpr c29;subst c29;(have H1 : (if 0 ≤ (wrap64 ((l0_1.length : Int) - 1)) then (if (wrap64 ((l0_1.length : Int) - 1)) < (l0_1.length : Int) then ((sawmillref10_empty.f ((rd_T44 l0_1 (wrap64 ((l0_1.length : Int) - 1))).f0) ((rd_T44 l0_1 (wrap64 ((l0_1.length : Int) - 1))).f1)).bind fun tq9 => (sawmillref10_Check.j2 k2 (l0_1.length : Int) tq9 a0_0 l0_1)) else (none)) else (none)) = some r := by rw [if_neg (show ¬ (false = true) by decide)] at H; exact H);clear H;have H := H1;clear H1;obtain ⟨ji32, hji32⟩ : ∃ j_ : Int, (wrap64 ((l0_1.length : Int) - 1)) = j_ := ⟨_, rfl⟩;(replace H : (if 0 ≤ (ji32) then (if (ji32) < (l0_1.length : Int) then ((sawmillref10_empty.f ((rd_T44 l0_1 (ji32)).f0) ((rd_T44 l0_1 (ji32)).f1)).bind fun tq9 => (sawmillref10_Check.j2 k2 (l0_1.length : Int) tq9 a0_0 l0_1)) else (none)) else (none)) = some r := by first | (rw [hji32] at H; exact H) | (simp only [hji32] at H ⊢; exact H));(try rw [hji32] at A28);have hji32w : (IntKind.i64.wrap ((l0_1.length : Int) - 1)) = ji32 := (i64_w _).trans hji32
            by_cases c33 : 0 ≤ (ji32)
            ·rw [if_pos c33] at H;have c33b0 : decide (0 ≤ (ji32)) = true := decide_eq_true c33;clear c33
             by_cases c34 : (ji32) < (l0_1.length : Int)
             ·rw [if_pos c34] at H;have c34b0 : decide ((ji32) < (l0_1.length : Int)) = true := decide_eq_true c34;clear c34;replace H := Option.bind_eq_some_iff.mp H;obtain ⟨tq9, A350, H⟩ := H;replace H : (sawmillref10_Check.j2 k2 (l0_1.length : Int) tq9 a0_0 l0_1) = some r := H;have A35 := Aside0.mk A350;clear A350;have H' := Aside0.mk H;clear H;obtain ⟨hcz36_0, hcz36_1, hfz36_0, hfz36_1⟩ := cy2_ BKq1;have pq6 : 0 ≤ (0 : Int) := (by omega);have qq6 : 0 < (l0_1.length : Int) := as_;obtain ⟨adq6, eq6, hxq6_0, hxq6_1⟩ := at_T44 HR0_1.out 0 pq6 qq6;cases eq6;have qiq6 : (0 < l0_1.length) = True := eq_true (by omega);(try rw [show ((0 : Int)).toNat = 0 from rfl] at hxq6_0);(try rw [show 0 * 2 = 0 from rfl] at hxq6_0);(try rw [Addr.add_zero'] at hxq6_0);(try rw [show ((0 : Int)).toNat = 0 from rfl] at hxq6_1);(try rw [show 0 * 2 = 0 from rfl] at hxq6_1);(try rw [Addr.add_zero'] at hxq6_1);replace hxq6_0 := bc_ HB hxq6_0;replace hxq6_1 := bc_ HB hxq6_1;replace pq6 := eq_true pq6;replace qq6 := eq_true qq6;go_wp2_with (first | ((with_reducible refine gate_callee (f := 69) rfl ?_); refine goesL_ (some 51) rfl rfl Try.func69 (by kernel_rfl) rfl #[.agg #[.int .i64 ((rd_T44 l0_1 0).f0), .int .i64 ((rd_T44 l0_1 0).f1)]] rfl la_ ?_; (with_reducible refine (sawmillref10_empty.calls ((rd_T44 l0_1 0).f0) ((rd_T44 l0_1 0).f1) false _ A28.out).mono ?_); rintro e w37 ⟨rfl, hb⟩; refine ⟨_, rfl, ?_⟩; replace BKq1 := bb_ BKq1 hb; replace HB := bA_ hb; (try clear hb); obtain ⟨hcz38_0, hcz38_1, hfz38_0, hfz38_1⟩ := cy2_ BKq1; have pq8 : 0 ≤ ((ji32) : Int) := as_; have qq8 : (ji32) < (l0_1.length : Int) := as_; obtain ⟨adq8, eq8, hxq8_0, hxq8_1⟩ := at_T44 HR0_1.out (ji32) pq8 qq8; obtain rfl : adq6 = adq8 := (by injection eq8); replace hxq8_0 := bc_ HB hxq8_0; replace hxq8_1 := bc_ HB hxq8_1; replace pq8 := eq_true pq8; replace qq8 := eq_true qq8) | (go_at_call 69; (with_reducible refine (sawmillref10_empty.calls ((rd_T44 l0_1 (ji32)).f0) ((rd_T44 l0_1 (ji32)).f1) tq9 _ A35.out).mono ?_); rintro e w39 ⟨rfl, hb⟩; replace BKq1 := bb_ BKq1 hb; replace HB := bA_ hb; (try clear hb)))
              go_meet
              case rel => exact ⟨_, (tq9), rs_, H', ⟨by have := HJ4.out; have := HK2.out; first | omega | exact Nat.le_refl _⟩, ⟨fb_ BKq1.out⟩, ⟨be_⟩⟩
             ·rw [if_neg c34] at H;exact absurd H (by simp)
            ·rw [if_neg c33] at H;exact absurd H (by simp)
          ·rw [if_neg c27] at H;exact absurd H (by simp)
         case rest =>
          clear HC26;(try clear c1);(try clear c2);(try clear c2b0);(try clear c2b1);(try clear p2);(try clear c3);(try clear c4);(try clear p4);(try clear q4);(try clear hx4);(try clear qi4);(try clear c6);(try clear p6);(try clear c8);(try clear c8b0);(try clear c11);(try clear c12);(try clear c12b0);(try clear c13);(try clear c13b0);(try clear c14);(try clear c14b0);(try clear c16);(try clear c19);(try clear c22);(try clear c22b0);(try clear c22b1);(try clear c22b2);(try clear c23);(try clear c23b0);(try clear c23b1);(try clear c27);(try clear c27b0);(try clear c27b1);(try clear c29);(try clear c33);(try clear c33b0);(try clear c34);(try clear c34b0);(try clear hcz10_0);(try clear hcz10_1);(try clear hcz17_0);(try clear hcz17_1);(try clear hcz20_0);(try clear hcz20_1);(try clear hcz21_0);(try clear hcz21_1);(try clear hcz24_0);(try clear hcz24_1);(try clear hcz25_0);(try clear hcz25_1);(try clear hcz30_0);(try clear hcz30_1);(try clear hcz36_0);(try clear hcz36_1);(try clear hcz38_0);(try clear hcz38_1);(try clear hcz4_0);(try clear hcz4_1);(try clear hcz7_0);(try clear hcz7_1);(try clear hcz9_0);(try clear hcz9_1);(try clear hfz10_0);(try clear hfz10_1);(try clear hfz17_0);(try clear hfz17_1);(try clear hfz20_0);(try clear hfz20_1);(try clear hfz21_0);(try clear hfz21_1);(try clear hfz24_0);(try clear hfz24_1);(try clear hfz25_0);(try clear hfz25_1);(try clear hfz30_0);(try clear hfz30_1);(try clear hfz36_0);(try clear hfz36_1);(try clear hfz38_0);(try clear hfz38_1);(try clear hfz4_0);(try clear hfz4_1);(try clear hfz7_0);(try clear hfz7_1);(try clear hfz9_0);(try clear hfz9_1);(try clear hxq2_0);(try clear hxq2_1);(try clear hxq4_0);(try clear hxq4_1);(try clear hxq6_0);(try clear hxq6_1);(try clear hxq8_0);(try clear hxq8_1);(try clear p2);(try clear pq2);(try clear pq4);(try clear pq6);(try clear pq8);(try clear p6);(try clear qq2);(try clear qq4);(try clear qq6);(try clear qq8);obtain ⟨kq, x60_25, rfl, HA, HJ25, BKq1, HB⟩ := hcut;cases kq with
          | zero => exact absurd HA.out (by simp [sawmillref10_Check.j2])
          | succ kj25 =>
           have H := HA.out;clear HA;simp only [sawmillref10_Check.j2] at H
           by_cases c40 : x60_25 = true
           ·subst c40;(have H1 : (some 19) = some r := by rw [if_pos rfl] at H; exact H);clear H;have H := H1;clear H1;obtain rfl := Option.some.inj H;go_wp2;go_ret;exact ⟨er_, be_⟩
           ·replace c40 := Bool.eq_false_iff.mpr c40;subst c40;(have H1 : (sawmillref10_Check.l1 kj25 (l0_1.length : Int) 0 a0_0 l0_1) = some r := by rw [if_neg (show ¬ (false = true) by decide)] at H; exact H);clear H;have H := H1;clear H1;have H' := Aside0.mk H;clear H;go_wp2
            go_loopg [5] kj25 (fun kq v5 w' => ∃ (x5_4 : Int), v5 = .int .i64 x5_4 ∧ Aside0 (sawmillref10_Check.l1 kq (l0_1.length : Int) x5_4 a0_0 l0_1 = some r) ∧ Aside0 (kq ≤ kj25) ∧ Aside0 (w'.heap[gbq1]? = some (.cells #[.int .i64 a0_0, (.slice A0_1 l0_1.length c0_1)] 56 (0, 0))) ∧ Aside0 (Below w.heap.size w w'))
            case atStart => exact ⟨(0), rs_, H', ⟨Nat.le_refl _⟩, ⟨fb_ BKq1.out⟩, ⟨be_⟩⟩
            case round =>
             clear H';(try clear c1);(try clear c2);(try clear c2b0);(try clear c2b1);(try clear p2);(try clear c3);(try clear c4);(try clear p4);(try clear q4);(try clear hx4);(try clear qi4);(try clear c6);(try clear p6);(try clear c8);(try clear c8b0);(try clear c11);(try clear c12);(try clear c12b0);(try clear c13);(try clear c13b0);(try clear c14);(try clear c14b0);(try clear c16);(try clear c19);(try clear c22);(try clear c22b0);(try clear c22b1);(try clear c22b2);(try clear c23);(try clear c23b0);(try clear c23b1);(try clear c27);(try clear c27b0);(try clear c27b1);(try clear c29);(try clear c33);(try clear c33b0);(try clear c34);(try clear c34b0);(try clear c40);(try clear hcz10_0);(try clear hcz10_1);(try clear hcz17_0);(try clear hcz17_1);(try clear hcz20_0);(try clear hcz20_1);(try clear hcz21_0);(try clear hcz21_1);(try clear hcz24_0);(try clear hcz24_1);(try clear hcz25_0);(try clear hcz25_1);(try clear hcz30_0);(try clear hcz30_1);(try clear hcz36_0);(try clear hcz36_1);(try clear hcz38_0);(try clear hcz38_1);(try clear hcz4_0);(try clear hcz4_1);(try clear hcz7_0);(try clear hcz7_1);(try clear hcz9_0);(try clear hcz9_1);(try clear hfz10_0);(try clear hfz10_1);(try clear hfz17_0);(try clear hfz17_1);(try clear hfz20_0);(try clear hfz20_1);(try clear hfz21_0);(try clear hfz21_1);(try clear hfz24_0);(try clear hfz24_1);(try clear hfz25_0);(try clear hfz25_1);(try clear hfz30_0);(try clear hfz30_1);(try clear hfz36_0);(try clear hfz36_1);(try clear hfz38_0);(try clear hfz38_1);(try clear hfz4_0);(try clear hfz4_1);(try clear hfz7_0);(try clear hfz7_1);(try clear hfz9_0);(try clear hfz9_1);(try clear hxq2_0);(try clear hxq2_1);(try clear hxq4_0);(try clear hxq4_1);(try clear hxq6_0);(try clear hxq6_1);(try clear hxq8_0);(try clear hxq8_1);(try clear p2);(try clear p4);(try clear pq2);(try clear pq4);(try clear pq6);(try clear pq8);(try clear p6);(try clear q4);(try clear qq2);(try clear qq4);(try clear qq6);(try clear qq8);obtain ⟨x5_4, rfl, HA, HK4, BKq1, HB⟩ := hrel;cases gk with
             | zero => exact absurd HA.out (by simp [sawmillref10_Check.l1])
             | succ k4 =>
              have H := HA.out;clear HA;simp only [sawmillref10_Check.l1] at H
              by_cases c41 : x5_4 < (l0_1.length : Int)
              ·rw [if_pos c41] at H;have c41b0 : decide (x5_4 < (l0_1.length : Int)) = true := decide_eq_true c41;clear c41
               by_cases c42 : 0 ≤ x5_4
               ·rw [if_pos c42] at H;have c42b0 : decide (0 ≤ x5_4) = true := decide_eq_true c42;clear c42
                by_cases c43 : x5_4 < (l0_1.length : Int)
                ·rw [if_pos c43] at H;have c43b0 : decide (x5_4 < (l0_1.length : Int)) = true := decide_eq_true c43;clear c43;replace H := Option.bind_eq_some_iff.mp H;obtain ⟨tq11, A440, H⟩ := H;replace H : (if tq11 = true then (if (!(((rd_T44 l0_1 x5_4).f0) == 0) || (!(((rd_T44 l0_1 x5_4).f1) == 0))) = true then (some 19) else (sawmillref10_Check.l1 k4 (l0_1.length : Int) (wrap64 (x5_4 + 1)) a0_0 l0_1)) else (sawmillref10_Check.l1 k4 (l0_1.length : Int) (wrap64 (x5_4 + 1)) a0_0 l0_1)) = some r := H;have A44 := Aside0.mk A440;clear A440
                 by_cases c45 : tq11 = true
                 ·subst c45;(have H1 : (if (!(((rd_T44 l0_1 x5_4).f0) == 0) || (!(((rd_T44 l0_1 x5_4).f1) == 0))) = true then (some 19) else (sawmillref10_Check.l1 k4 (l0_1.length : Int) (wrap64 (x5_4 + 1)) a0_0 l0_1)) = some r := by rw [if_pos rfl] at H; exact H);clear H;have H := H1;clear H1
                  by_cases c46 : (!(((rd_T44 l0_1 x5_4).f0) == 0) || (!(((rd_T44 l0_1 x5_4).f1) == 0))) = true
                  ·rw [if_pos c46] at H;have c46b0 : (!(((rd_T44 l0_1 x5_4).f0) == 0) || (!(((rd_T44 l0_1 x5_4).f1) == 0))) = true := c46;clear c46;obtain rfl := Option.some.inj H;obtain ⟨hcz47_0, hcz47_1, hfz47_0, hfz47_1⟩ := cy2_ BKq1;have pq10 : 0 ≤ (x5_4 : Int) := as_;have qq10 : x5_4 < (l0_1.length : Int) := as_;obtain ⟨adq10, eq10, hxq10_0, hxq10_1⟩ := at_T44 HR0_1.out x5_4 pq10 qq10;cases eq10;replace hxq10_0 := bc_ HB hxq10_0;replace hxq10_1 := bc_ HB hxq10_1;replace pq10 := eq_true pq10;replace qq10 := eq_true qq10;go_wp2_with (first | ((with_reducible refine gate_callee (f := 69) rfl ?_); refine goesL_ (some 71) rfl rfl Try.func69 (by kernel_rfl) rfl #[.agg #[.int .i64 ((rd_T44 l0_1 x5_4).f0), .int .i64 ((rd_T44 l0_1 x5_4).f1)]] rfl la_ ?_; (with_reducible refine (sawmillref10_empty.calls ((rd_T44 l0_1 x5_4).f0) ((rd_T44 l0_1 x5_4).f1) true _ A44.out).mono ?_); rintro e w48 ⟨rfl, hb⟩; refine ⟨_, rfl, ?_⟩; replace BKq1 := bb_ BKq1 hb; replace HB := bA_ hb; (try clear hb); obtain ⟨hcz49_0, hcz49_1, hfz49_0, hfz49_1⟩ := cy2_ BKq1; have pq12 : 0 ≤ (x5_4 : Int) := as_; have qq12 : x5_4 < (l0_1.length : Int) := as_; obtain ⟨adq12, eq12, hxq12_0, hxq12_1⟩ := at_T44 HR0_1.out x5_4 pq12 qq12; obtain rfl : adq10 = adq12 := (by injection eq12); replace hxq12_0 := bc_ HB hxq12_0; replace hxq12_1 := bc_ HB hxq12_1; replace pq12 := eq_true pq12; replace qq12 := eq_true qq12));go_ret;exact ⟨er_, be_⟩
                  ·rw [if_neg c46] at H;(have c46b0 : (!(((rd_T44 l0_1 x5_4).f0) == 0) || (!(((rd_T44 l0_1 x5_4).f1) == 0))) = false := by simpa using c46);clear c46;have H' := Aside0.mk H;clear H;obtain ⟨hcz50_0, hcz50_1, hfz50_0, hfz50_1⟩ := cy2_ BKq1;have pq10 : 0 ≤ (x5_4 : Int) := as_;have qq10 : x5_4 < (l0_1.length : Int) := as_;obtain ⟨adq10, eq10, hxq10_0, hxq10_1⟩ := at_T44 HR0_1.out x5_4 pq10 qq10;cases eq10;replace hxq10_0 := bc_ HB hxq10_0;replace hxq10_1 := bc_ HB hxq10_1;replace pq10 := eq_true pq10;replace qq10 := eq_true qq10;go_wp2_with (first | ((with_reducible refine gate_callee (f := 69) rfl ?_); refine goesL_ (some 71) rfl rfl Try.func69 (by kernel_rfl) rfl #[.agg #[.int .i64 ((rd_T44 l0_1 x5_4).f0), .int .i64 ((rd_T44 l0_1 x5_4).f1)]] rfl la_ ?_; (with_reducible refine (sawmillref10_empty.calls ((rd_T44 l0_1 x5_4).f0) ((rd_T44 l0_1 x5_4).f1) true _ A44.out).mono ?_); rintro e w51 ⟨rfl, hb⟩; refine ⟨_, rfl, ?_⟩; replace BKq1 := bb_ BKq1 hb; replace HB := bA_ hb; (try clear hb); obtain ⟨hcz52_0, hcz52_1, hfz52_0, hfz52_1⟩ := cy2_ BKq1; have pq12 : 0 ≤ (x5_4 : Int) := as_; have qq12 : x5_4 < (l0_1.length : Int) := as_; obtain ⟨adq12, eq12, hxq12_0, hxq12_1⟩ := at_T44 HR0_1.out x5_4 pq12 qq12; obtain rfl : adq10 = adq12 := (by injection eq12); replace hxq12_0 := bc_ HB hxq12_0; replace hxq12_1 := bc_ HB hxq12_1; replace pq12 := eq_true pq12; replace qq12 := eq_true qq12))
                   go_roundg k4
                   case measure => have := HJ4.out; have := HK2.out; have := HJ25.out; have := HK4.out; omega
                   case rel => exact ⟨(wrap64 (x5_4 + 1)), rs_, H', ⟨by have := HJ4.out; have := HK2.out; have := HJ25.out; have := HK4.out; omega⟩, ⟨fb_ BKq1.out⟩, ⟨be_⟩⟩
                 ·replace c45 := Bool.eq_false_iff.mpr c45;subst c45;(have H1 : (sawmillref10_Check.l1 k4 (l0_1.length : Int) (wrap64 (x5_4 + 1)) a0_0 l0_1) = some r := by rw [if_neg (show ¬ (false = true) by decide)] at H; exact H);clear H;have H := H1;clear H1;have H' := Aside0.mk H;clear H;obtain ⟨hcz53_0, hcz53_1, hfz53_0, hfz53_1⟩ := cy2_ BKq1;have pq10 : 0 ≤ (x5_4 : Int) := as_;have qq10 : x5_4 < (l0_1.length : Int) := as_;obtain ⟨adq10, eq10, hxq10_0, hxq10_1⟩ := at_T44 HR0_1.out x5_4 pq10 qq10;cases eq10;replace hxq10_0 := bc_ HB hxq10_0;replace hxq10_1 := bc_ HB hxq10_1;replace pq10 := eq_true pq10;replace qq10 := eq_true qq10;go_wp2_with (first | ((with_reducible refine gate_callee (f := 69) rfl ?_); refine goesL_ (some 71) rfl rfl Try.func69 (by kernel_rfl) rfl #[.agg #[.int .i64 ((rd_T44 l0_1 x5_4).f0), .int .i64 ((rd_T44 l0_1 x5_4).f1)]] rfl la_ ?_; (with_reducible refine (sawmillref10_empty.calls ((rd_T44 l0_1 x5_4).f0) ((rd_T44 l0_1 x5_4).f1) false _ A44.out).mono ?_); rintro e w54 ⟨rfl, hb⟩; refine ⟨_, rfl, ?_⟩; replace BKq1 := bb_ BKq1 hb; replace HB := bA_ hb; (try clear hb)))
                  go_roundg k4
                  case measure => have := HJ4.out; have := HK2.out; have := HJ25.out; have := HK4.out; omega
                  case rel => exact ⟨(wrap64 (x5_4 + 1)), rs_, H', ⟨by have := HJ4.out; have := HK2.out; have := HJ25.out; have := HK4.out; omega⟩, ⟨fb_ BKq1.out⟩, ⟨be_⟩⟩
                ·rw [if_neg c43] at H;exact absurd H (by simp)
               ·rw [if_neg c42] at H;exact absurd H (by simp)
              ·rw [if_neg c41] at H;have c41b0 : decide (x5_4 < (l0_1.length : Int)) = false := decide_eq_false c41;clear c41;obtain rfl := Option.some.inj H;go_wp2;go_ret;exact ⟨er_, be_⟩


def sawmillref11_Check.l0 : Nat → List (S58) → Int → Int → Option (Int)
 | 0, _, _, _ => none
 | k + 1, x0, x3, x4 => if x4 < (x0.length : Int) then (if 0 ≤ x4 then ((sawmillref10_Check.f k ((rd_T58 x0 x4).f1.f0) ((rd_T58 x0 x4).f1.f1)).bind fun tq2 => (if tq2 = 0 then (if (((rd_T58 x0 x4).f1.f1).length : Int) = 0 then (some 18) else (if ((rd_T58 x0 x4).f0) < 1 then (some 9) else (if ((rd_T58 x0 x4).f0) > (wrap64 (20000 - x3)) then (some 9) else (sawmillref11_Check.l0 k x0 (wrap64 (x3 + ((rd_T58 x0 x4).f0))) (wrap64 (x4 + 1)))))) else (some tq2))) else (none)) else (some 0)
def sawmillref11_Check.f (k : Nat) (l0 : List (S58)) : Option (Int) := if (l0.length : Int) = 0 then (some 3) else (if (l0.length : Int) > 24 then (some 4) else (sawmillref11_Check.l0 k l0 0 0))
theorem sawmillref11_Check.mono_l : ∀ k, (∀ y0 y1 y2, LeO (sawmillref11_Check.l0 k y0 y1 y2) (sawmillref11_Check.l0 (k + 1) y0 y1 y2))
 | 0 => fun _ _ _ r h => by simp [sawmillref11_Check.l0] at h
 | k + 1 => by
  have ih0 := sawmillref11_Check.mono_l k
  ·intro y0 y1 y2;unfold sawmillref11_Check.l0
   repeat' first
   | (with_reducible exact ih0 _ _ _)
   | (with_reducible exact sawmillref10_Check.mono _ _ _)
   | (with_reducible exact LeO.refl _)
   | (with_reducible exact LeO.none _)
   | (with_reducible refine LeO.ite ?_ ?_)
   | (with_reducible refine LeO.bind ?_ (fun _ => ?_))
   | exact ih0 _ _ _
   | exact sawmillref10_Check.mono _ _ _
   | exact LeO.none _
   | refine LeO.ite ?_ ?_
   | refine LeO.bind ?_ (fun _ => ?_)
theorem sawmillref11_Check.mono : ∀ a0 k, LeO (sawmillref11_Check.f k a0) (sawmillref11_Check.f (k + 1) a0) := by
 intro a0 k;have ih0 := sawmillref11_Check.mono_l k;unfold sawmillref11_Check.f
 repeat' first
   | (with_reducible exact ih0 _ _ _)
   | (with_reducible exact sawmillref10_Check.mono _ _ _)
   | (with_reducible exact LeO.refl _)
   | (with_reducible exact LeO.none _)
   | (with_reducible refine LeO.ite ?_ ?_)
   | (with_reducible refine LeO.bind ?_ (fun _ => ?_))
   | exact ih0 _ _ _
   | exact sawmillref10_Check.mono _ _ _
   | exact LeO.none _
   | refine LeO.ite ?_ ?_
   | refine LeO.bind ?_ (fun _ => ?_)
set_option maxHeartbeats 8000000 in
set_option maxRecDepth 100000 in
theorem sawmillref11_Check.calls (k : Nat) (A0 : Option Addr) (c0 : Nat) (l0 : List (S58)) (r : Int) (w : World) (hr0 : Kd.C k58 w A0 l0.length l0) (hc0 : l0.length ≤ c0) (h : sawmillref11_Check.f k l0 = some r) :
  Calls Try.prog 28 #[.slice A0 l0.length c0] w fun e w' => e = .returned (.int .i64 r) ∧ Below w.heap.size w w' := by
 have hu56 := Try.underlying56;have HR0 := Aside0.mk hr0;have HC0 := Aside0.mk hc0;clear hr0 hc0;have HB := A_ (Below.refl w.heap.size w);have H : (if (l0.length : Int) = 0 then (some 3) else (if (l0.length : Int) > 24 then (some 4) else (sawmillref11_Check.l0 k l0 0 0))) = some r := h;clear h
 by_cases c2 : (l0.length : Int) = 0
 ·rw [if_pos c2] at H;have c2b0 : ((l0.length : Int) == 0) = true := beq_iff_eq.mpr c2;have c2b1 : ((l0.length : Int) != 0) = false := bne_eq_false_iff_eq.mpr c2;clear c2;obtain rfl := Option.some.inj H;go_enter Try.func28, Try.ntmps28;go_wp2;go_ret;exact ⟨er_, be_⟩
 ·rw [if_neg c2] at H;have c2b0 : ((l0.length : Int) == 0) = false := beq_eq_false_iff_ne.mpr c2;have c2b1 : ((l0.length : Int) != 0) = true := bne_iff_ne.mpr c2;have c2b2 : ¬ (l0 = []) := fun h_ => c2 (by rw [h_]; rfl)
  by_cases c3 : (l0.length : Int) > 24
  ·rw [if_pos c3] at H;have c3b0 : decide (24 < (l0.length : Int)) = true := decide_eq_true c3;have c3b1 : decide (24 < l0.length) = true := decide_eq_true (by omega);clear c3;obtain rfl := Option.some.inj H;go_enter Try.func28, Try.ntmps28;go_wp2;go_ret;exact ⟨er_, be_⟩
  ·rw [if_neg c3] at H;have c3b0 : decide (24 < (l0.length : Int)) = false := decide_eq_false c3;have c3b1 : decide (24 < l0.length) = false := decide_eq_false (by omega);clear c3;have H' := Aside0.mk H;clear H;go_enter Try.func28, Try.ntmps28;go_wp2
   go_loopg [3, 4] k (fun kq v3 v4 w' => ∃ (x3_1 : Int) (x4_1 : Int), v3 = .int .i64 x3_1 ∧ v4 = .int .i64 x4_1 ∧ Aside0 (sawmillref11_Check.l0 kq l0 x3_1 x4_1 = some r) ∧ Aside0 (kq ≤ k) ∧ Aside0 (Below w.heap.size w w'))
   case atStart => exact ⟨(0), (0), rs_, rs_, H', ⟨Nat.le_refl _⟩, ⟨be_⟩⟩
   case round =>
    clear H';(try clear c2);(try clear c2b0);(try clear c2b1);(try clear c2b2);(try clear p2);(try clear c3);(try clear c3b0);(try clear c3b1);obtain ⟨x3_1, x4_1, rfl, rfl, HA, HK1, HB⟩ := hrel;cases gk with
    | zero => exact absurd HA.out (by simp [sawmillref11_Check.l0])
    | succ k1 =>
     have H := HA.out;clear HA;simp only [sawmillref11_Check.l0] at H
     by_cases c4 : x4_1 < (l0.length : Int)
     ·rw [if_pos c4] at H;have c4b0 : decide (x4_1 < (l0.length : Int)) = true := decide_eq_true c4;clear c4
      by_cases c5 : 0 ≤ x4_1
      ·rw [if_pos c5] at H;have c5b0 : decide (0 ≤ x4_1) = true := decide_eq_true c5;clear c5;replace H := Option.bind_eq_some_iff.mp H;obtain ⟨tq2, A60, H⟩ := H;replace H : (if tq2 = 0 then (if (((rd_T58 l0 x4_1).f1.f1).length : Int) = 0 then (some 18) else (if ((rd_T58 l0 x4_1).f0) < 1 then (some 9) else (if ((rd_T58 l0 x4_1).f0) > (wrap64 (20000 - x3_1)) then (some 9) else (sawmillref11_Check.l0 k1 l0 (wrap64 (x3_1 + ((rd_T58 l0 x4_1).f0))) (wrap64 (x4_1 + 1)))))) else (some tq2)) = some r := H;have A6 := Aside0.mk A60;clear A60
       by_cases c7 : tq2 = 0
       ·rw [if_pos c7] at H;have c7b0 : (tq2 == 0) = true := beq_iff_eq.mpr c7;have c7b1 : (tq2 != 0) = false := bne_eq_false_iff_eq.mpr c7;clear c7
        by_cases c8 : (((rd_T58 l0 x4_1).f1.f1).length : Int) = 0
        ·rw [if_pos c8] at H;have c8b0 : ((((rd_T58 l0 x4_1).f1.f1).length : Int) == 0) = true := beq_iff_eq.mpr c8;have c8b1 : ((((rd_T58 l0 x4_1).f1.f1).length : Int) != 0) = false := bne_eq_false_iff_eq.mpr c8;clear c8;obtain rfl := Option.some.inj H;have pq1 : 0 ≤ (x4_1 : Int) := as_;have qq1 : x4_1 < (l0.length : Int) := as_;obtain ⟨adq1, Aq1_2, cq1_2, eq1, hxq1_0, hxq1_1, hxq1_2, hlq1_2, hiq1_2⟩ := at_T58 HR0.out x4_1 pq1 qq1;cases eq1;replace hxq1_0 := bc_ HB hxq1_0;replace hxq1_1 := bc_ HB hxq1_1;replace hxq1_2 := bc_ HB hxq1_2;have HRq1_2 := Aside0.mk hiq1_2;have HCq1_2 := Aside0.mk hlq1_2;clear hiq1_2 hlq1_2;replace pq1 := eq_true pq1;replace qq1 := eq_true qq1;go_wp2_with (first | ((with_reducible refine gate_callee (f := 49) rfl ?_); refine goesL_ (some 23) rfl rfl Try.func49 (by kernel_rfl) rfl #[.agg #[.int .i64 ((rd_T58 l0 x4_1).f1.f0), .slice Aq1_2 ((rd_T58 l0 x4_1).f1.f1).length cq1_2]] rfl la_ ?_; (with_reducible refine (sawmillref10_Check.calls k1 ((rd_T58 l0 x4_1).f1.f0) _ _ ((rd_T58 l0 x4_1).f1.f1) tq2 _ ?side1 ?side2 A6.out).mono ?_); (case side1 => exact csC_ ((Kd.C_below HRq1_2.out HB.out))); (case side2 => exact HCq1_2.out); rintro e w9 ⟨rfl, hb⟩; refine ⟨_, rfl, ?_⟩; replace HB := bA_ hb; (try clear hb); have pq3 : 0 ≤ (x4_1 : Int) := as_; have qq3 : x4_1 < (l0.length : Int) := as_; obtain ⟨adq3, Aq3_2, cq3_2, eq3, hxq3_0, hxq3_1, hxq3_2, hlq3_2, hiq3_2⟩ := at_T58 HR0.out x4_1 pq3 qq3; obtain rfl : adq1 = adq3 := (by injection eq3); replace hxq3_0 := bc_ HB hxq3_0; replace hxq3_1 := bc_ HB hxq3_1; replace hxq3_2 := bc_ HB hxq3_2; have HRq3_2 := Aside0.mk hiq3_2; have HCq3_2 := Aside0.mk hlq3_2; clear hiq3_2 hlq3_2; replace pq3 := eq_true pq3; replace qq3 := eq_true qq3));go_ret;exact ⟨er_, be_⟩
        ·rw [if_neg c8] at H;have c8b0 : ((((rd_T58 l0 x4_1).f1.f1).length : Int) == 0) = false := beq_eq_false_iff_ne.mpr c8;have c8b1 : ((((rd_T58 l0 x4_1).f1.f1).length : Int) != 0) = true := bne_iff_ne.mpr c8;have c8b2 : ¬ (((rd_T58 l0 x4_1).f1.f1) = []) := fun h_ => c8 (by rw [h_]; rfl)
         by_cases c10 : ((rd_T58 l0 x4_1).f0) < 1
         ·rw [if_pos c10] at H;have c10b0 : decide (((rd_T58 l0 x4_1).f0) < 1) = true := decide_eq_true c10;clear c10;obtain rfl := Option.some.inj H;have pq1 : 0 ≤ (x4_1 : Int) := as_;have qq1 : x4_1 < (l0.length : Int) := as_;obtain ⟨adq1, Aq1_2, cq1_2, eq1, hxq1_0, hxq1_1, hxq1_2, hlq1_2, hiq1_2⟩ := at_T58 HR0.out x4_1 pq1 qq1;cases eq1;replace hxq1_0 := bc_ HB hxq1_0;replace hxq1_1 := bc_ HB hxq1_1;replace hxq1_2 := bc_ HB hxq1_2;have HRq1_2 := Aside0.mk hiq1_2;have HCq1_2 := Aside0.mk hlq1_2;clear hiq1_2 hlq1_2;replace pq1 := eq_true pq1;replace qq1 := eq_true qq1;go_wp2_with (first | ((with_reducible refine gate_callee (f := 49) rfl ?_); refine goesL_ (some 23) rfl rfl Try.func49 (by kernel_rfl) rfl #[.agg #[.int .i64 ((rd_T58 l0 x4_1).f1.f0), .slice Aq1_2 ((rd_T58 l0 x4_1).f1.f1).length cq1_2]] rfl la_ ?_; (with_reducible refine (sawmillref10_Check.calls k1 ((rd_T58 l0 x4_1).f1.f0) _ _ ((rd_T58 l0 x4_1).f1.f1) tq2 _ ?side1 ?side2 A6.out).mono ?_); (case side1 => exact csC_ ((Kd.C_below HRq1_2.out HB.out))); (case side2 => exact HCq1_2.out); rintro e w11 ⟨rfl, hb⟩; refine ⟨_, rfl, ?_⟩; replace HB := bA_ hb; (try clear hb); have pq3 : 0 ≤ (x4_1 : Int) := as_; have qq3 : x4_1 < (l0.length : Int) := as_; obtain ⟨adq3, Aq3_2, cq3_2, eq3, hxq3_0, hxq3_1, hxq3_2, hlq3_2, hiq3_2⟩ := at_T58 HR0.out x4_1 pq3 qq3; obtain rfl : adq1 = adq3 := (by injection eq3); replace hxq3_0 := bc_ HB hxq3_0; replace hxq3_1 := bc_ HB hxq3_1; replace hxq3_2 := bc_ HB hxq3_2; have HRq3_2 := Aside0.mk hiq3_2; have HCq3_2 := Aside0.mk hlq3_2; clear hiq3_2 hlq3_2; replace pq3 := eq_true pq3; replace qq3 := eq_true qq3; have pq4 : 0 ≤ (x4_1 : Int) := as_; have qq4 : x4_1 < (l0.length : Int) := as_; obtain ⟨adq4, Aq4_2, cq4_2, eq4, hxq4_0, hxq4_1, hxq4_2, hlq4_2, hiq4_2⟩ := at_T58 HR0.out x4_1 pq4 qq4; obtain rfl : adq1 = adq4 := (by injection eq4); replace hxq4_0 := bc_ HB hxq4_0; replace hxq4_1 := bc_ HB hxq4_1; replace hxq4_2 := bc_ HB hxq4_2; have HRq4_2 := Aside0.mk hiq4_2; have HCq4_2 := Aside0.mk hlq4_2; clear hiq4_2 hlq4_2; replace pq4 := eq_true pq4; replace qq4 := eq_true qq4; have ea_ := Option.some.inj (hxq3_2.symm.trans hxq4_2); injection ea_ with ea_ en_ ec_; subst ea_; subst ec_; clear en_));go_ret;exact ⟨er_, be_⟩
         ·rw [if_neg c10] at H;have c10b0 : decide (((rd_T58 l0 x4_1).f0) < 1) = false := decide_eq_false c10;clear c10
          by_cases c12 : ((rd_T58 l0 x4_1).f0) > (wrap64 (20000 - x3_1))
          ·rw [if_pos c12] at H;have c12b0 : decide ((wrap64 (20000 - x3_1)) < ((rd_T58 l0 x4_1).f0)) = true := decide_eq_true c12;clear c12;obtain rfl := Option.some.inj H;have pq1 : 0 ≤ (x4_1 : Int) := as_;have qq1 : x4_1 < (l0.length : Int) := as_;obtain ⟨adq1, Aq1_2, cq1_2, eq1, hxq1_0, hxq1_1, hxq1_2, hlq1_2, hiq1_2⟩ := at_T58 HR0.out x4_1 pq1 qq1;cases eq1;replace hxq1_0 := bc_ HB hxq1_0;replace hxq1_1 := bc_ HB hxq1_1;replace hxq1_2 := bc_ HB hxq1_2;have HRq1_2 := Aside0.mk hiq1_2;have HCq1_2 := Aside0.mk hlq1_2;clear hiq1_2 hlq1_2;replace pq1 := eq_true pq1;replace qq1 := eq_true qq1;go_wp2_with (first | ((with_reducible refine gate_callee (f := 49) rfl ?_); refine goesL_ (some 23) rfl rfl Try.func49 (by kernel_rfl) rfl #[.agg #[.int .i64 ((rd_T58 l0 x4_1).f1.f0), .slice Aq1_2 ((rd_T58 l0 x4_1).f1.f1).length cq1_2]] rfl la_ ?_; (with_reducible refine (sawmillref10_Check.calls k1 ((rd_T58 l0 x4_1).f1.f0) _ _ ((rd_T58 l0 x4_1).f1.f1) tq2 _ ?side1 ?side2 A6.out).mono ?_); (case side1 => exact csC_ ((Kd.C_below HRq1_2.out HB.out))); (case side2 => exact HCq1_2.out); rintro e w13 ⟨rfl, hb⟩; refine ⟨_, rfl, ?_⟩; replace HB := bA_ hb; (try clear hb); have pq3 : 0 ≤ (x4_1 : Int) := as_; have qq3 : x4_1 < (l0.length : Int) := as_; obtain ⟨adq3, Aq3_2, cq3_2, eq3, hxq3_0, hxq3_1, hxq3_2, hlq3_2, hiq3_2⟩ := at_T58 HR0.out x4_1 pq3 qq3; obtain rfl : adq1 = adq3 := (by injection eq3); replace hxq3_0 := bc_ HB hxq3_0; replace hxq3_1 := bc_ HB hxq3_1; replace hxq3_2 := bc_ HB hxq3_2; have HRq3_2 := Aside0.mk hiq3_2; have HCq3_2 := Aside0.mk hlq3_2; clear hiq3_2 hlq3_2; replace pq3 := eq_true pq3; replace qq3 := eq_true qq3; have pq4 : 0 ≤ (x4_1 : Int) := as_; have qq4 : x4_1 < (l0.length : Int) := as_; obtain ⟨adq4, Aq4_2, cq4_2, eq4, hxq4_0, hxq4_1, hxq4_2, hlq4_2, hiq4_2⟩ := at_T58 HR0.out x4_1 pq4 qq4; obtain rfl : adq1 = adq4 := (by injection eq4); replace hxq4_0 := bc_ HB hxq4_0; replace hxq4_1 := bc_ HB hxq4_1; replace hxq4_2 := bc_ HB hxq4_2; have HRq4_2 := Aside0.mk hiq4_2; have HCq4_2 := Aside0.mk hlq4_2; clear hiq4_2 hlq4_2; replace pq4 := eq_true pq4; replace qq4 := eq_true qq4; have ea_ := Option.some.inj (hxq3_2.symm.trans hxq4_2); injection ea_ with ea_ en_ ec_; subst ea_; subst ec_; clear en_; have pq5 : 0 ≤ (x4_1 : Int) := as_; have qq5 : x4_1 < (l0.length : Int) := as_; obtain ⟨adq5, Aq5_2, cq5_2, eq5, hxq5_0, hxq5_1, hxq5_2, hlq5_2, hiq5_2⟩ := at_T58 HR0.out x4_1 pq5 qq5; obtain rfl : adq1 = adq5 := (by injection eq5); replace hxq5_0 := bc_ HB hxq5_0; replace hxq5_1 := bc_ HB hxq5_1; replace hxq5_2 := bc_ HB hxq5_2; have HRq5_2 := Aside0.mk hiq5_2; have HCq5_2 := Aside0.mk hlq5_2; clear hiq5_2 hlq5_2; replace pq5 := eq_true pq5; replace qq5 := eq_true qq5; have ea_ := Option.some.inj (hxq3_2.symm.trans hxq5_2); injection ea_ with ea_ en_ ec_; subst ea_; subst ec_; clear en_));go_ret;exact ⟨er_, be_⟩
          ·rw [if_neg c12] at H;have c12b0 : decide ((wrap64 (20000 - x3_1)) < ((rd_T58 l0 x4_1).f0)) = false := decide_eq_false c12;clear c12;have H' := Aside0.mk H;clear H;have pq1 : 0 ≤ (x4_1 : Int) := as_;have qq1 : x4_1 < (l0.length : Int) := as_;obtain ⟨adq1, Aq1_2, cq1_2, eq1, hxq1_0, hxq1_1, hxq1_2, hlq1_2, hiq1_2⟩ := at_T58 HR0.out x4_1 pq1 qq1;cases eq1;replace hxq1_0 := bc_ HB hxq1_0;replace hxq1_1 := bc_ HB hxq1_1;replace hxq1_2 := bc_ HB hxq1_2;have HRq1_2 := Aside0.mk hiq1_2;have HCq1_2 := Aside0.mk hlq1_2;clear hiq1_2 hlq1_2;replace pq1 := eq_true pq1;replace qq1 := eq_true qq1;go_wp2_with (first | ((with_reducible refine gate_callee (f := 49) rfl ?_); refine goesL_ (some 23) rfl rfl Try.func49 (by kernel_rfl) rfl #[.agg #[.int .i64 ((rd_T58 l0 x4_1).f1.f0), .slice Aq1_2 ((rd_T58 l0 x4_1).f1.f1).length cq1_2]] rfl la_ ?_; (with_reducible refine (sawmillref10_Check.calls k1 ((rd_T58 l0 x4_1).f1.f0) _ _ ((rd_T58 l0 x4_1).f1.f1) tq2 _ ?side1 ?side2 A6.out).mono ?_); (case side1 => exact csC_ ((Kd.C_below HRq1_2.out HB.out))); (case side2 => exact HCq1_2.out); rintro e w14 ⟨rfl, hb⟩; refine ⟨_, rfl, ?_⟩; replace HB := bA_ hb; (try clear hb); have pq3 : 0 ≤ (x4_1 : Int) := as_; have qq3 : x4_1 < (l0.length : Int) := as_; obtain ⟨adq3, Aq3_2, cq3_2, eq3, hxq3_0, hxq3_1, hxq3_2, hlq3_2, hiq3_2⟩ := at_T58 HR0.out x4_1 pq3 qq3; obtain rfl : adq1 = adq3 := (by injection eq3); replace hxq3_0 := bc_ HB hxq3_0; replace hxq3_1 := bc_ HB hxq3_1; replace hxq3_2 := bc_ HB hxq3_2; have HRq3_2 := Aside0.mk hiq3_2; have HCq3_2 := Aside0.mk hlq3_2; clear hiq3_2 hlq3_2; replace pq3 := eq_true pq3; replace qq3 := eq_true qq3; have pq4 : 0 ≤ (x4_1 : Int) := as_; have qq4 : x4_1 < (l0.length : Int) := as_; obtain ⟨adq4, Aq4_2, cq4_2, eq4, hxq4_0, hxq4_1, hxq4_2, hlq4_2, hiq4_2⟩ := at_T58 HR0.out x4_1 pq4 qq4; obtain rfl : adq1 = adq4 := (by injection eq4); replace hxq4_0 := bc_ HB hxq4_0; replace hxq4_1 := bc_ HB hxq4_1; replace hxq4_2 := bc_ HB hxq4_2; have HRq4_2 := Aside0.mk hiq4_2; have HCq4_2 := Aside0.mk hlq4_2; clear hiq4_2 hlq4_2; replace pq4 := eq_true pq4; replace qq4 := eq_true qq4; have ea_ := Option.some.inj (hxq3_2.symm.trans hxq4_2); injection ea_ with ea_ en_ ec_; subst ea_; subst ec_; clear en_; have pq5 : 0 ≤ (x4_1 : Int) := as_; have qq5 : x4_1 < (l0.length : Int) := as_; obtain ⟨adq5, Aq5_2, cq5_2, eq5, hxq5_0, hxq5_1, hxq5_2, hlq5_2, hiq5_2⟩ := at_T58 HR0.out x4_1 pq5 qq5; obtain rfl : adq1 = adq5 := (by injection eq5); replace hxq5_0 := bc_ HB hxq5_0; replace hxq5_1 := bc_ HB hxq5_1; replace hxq5_2 := bc_ HB hxq5_2; have HRq5_2 := Aside0.mk hiq5_2; have HCq5_2 := Aside0.mk hlq5_2; clear hiq5_2 hlq5_2; replace pq5 := eq_true pq5; replace qq5 := eq_true qq5; have ea_ := Option.some.inj (hxq3_2.symm.trans hxq5_2); injection ea_ with ea_ en_ ec_; subst ea_; subst ec_; clear en_; have pq6 : 0 ≤ (x4_1 : Int) := as_; have qq6 : x4_1 < (l0.length : Int) := as_; obtain ⟨adq6, Aq6_2, cq6_2, eq6, hxq6_0, hxq6_1, hxq6_2, hlq6_2, hiq6_2⟩ := at_T58 HR0.out x4_1 pq6 qq6; obtain rfl : adq1 = adq6 := (by injection eq6); replace hxq6_0 := bc_ HB hxq6_0; replace hxq6_1 := bc_ HB hxq6_1; replace hxq6_2 := bc_ HB hxq6_2; have HRq6_2 := Aside0.mk hiq6_2; have HCq6_2 := Aside0.mk hlq6_2; clear hiq6_2 hlq6_2; replace pq6 := eq_true pq6; replace qq6 := eq_true qq6; have ea_ := Option.some.inj (hxq3_2.symm.trans hxq6_2); injection ea_ with ea_ en_ ec_; subst ea_; subst ec_; clear en_))
           go_roundg k1
           case measure => have := HK1.out; omega
           case rel => exact ⟨(wrap64 (x3_1 + ((rd_T58 l0 x4_1).f0))), (wrap64 (x4_1 + 1)), rs_, rs_, H', ⟨by have := HK1.out; omega⟩, ⟨be_⟩⟩
       ·rw [if_neg c7] at H;have c7b0 : (tq2 == 0) = false := beq_eq_false_iff_ne.mpr c7;have c7b1 : (tq2 != 0) = true := bne_iff_ne.mpr c7;obtain rfl := Option.some.inj H;have pq1 : 0 ≤ (x4_1 : Int) := as_;have qq1 : x4_1 < (l0.length : Int) := as_;obtain ⟨adq1, Aq1_2, cq1_2, eq1, hxq1_0, hxq1_1, hxq1_2, hlq1_2, hiq1_2⟩ := at_T58 HR0.out x4_1 pq1 qq1;cases eq1;replace hxq1_0 := bc_ HB hxq1_0;replace hxq1_1 := bc_ HB hxq1_1;replace hxq1_2 := bc_ HB hxq1_2;have HRq1_2 := Aside0.mk hiq1_2;have HCq1_2 := Aside0.mk hlq1_2;clear hiq1_2 hlq1_2;replace pq1 := eq_true pq1;replace qq1 := eq_true qq1;go_wp2_with (first | ((with_reducible refine gate_callee (f := 49) rfl ?_); refine goesL_ (some 23) rfl rfl Try.func49 (by kernel_rfl) rfl #[.agg #[.int .i64 ((rd_T58 l0 x4_1).f1.f0), .slice Aq1_2 ((rd_T58 l0 x4_1).f1.f1).length cq1_2]] rfl la_ ?_; (with_reducible refine (sawmillref10_Check.calls k1 ((rd_T58 l0 x4_1).f1.f0) _ _ ((rd_T58 l0 x4_1).f1.f1) tq2 _ ?side1 ?side2 A6.out).mono ?_); (case side1 => exact csC_ ((Kd.C_below HRq1_2.out HB.out))); (case side2 => exact HCq1_2.out); rintro e w15 ⟨rfl, hb⟩; refine ⟨_, rfl, ?_⟩; replace HB := bA_ hb; (try clear hb)));go_ret;exact ⟨er_, be_⟩
      ·rw [if_neg c5] at H;exact absurd H (by simp)
     ·rw [if_neg c4] at H;have c4b0 : decide (x4_1 < (l0.length : Int)) = false := decide_eq_false c4;clear c4;obtain rfl := Option.some.inj H;go_wp2;go_ret;exact ⟨er_, be_⟩


def sawmillref13_Empty.f (a0_0 : Int) (a0_1 : Int) (a0_2 : Int) (a0_3 : Int) (a0_4 : Int) (a0_5 : Int) : Option (Bool) := if a0_0 ≥ a0_1 then (some true) else (if a0_2 ≥ a0_3 then (some true) else (some (decide (a0_4 ≥ a0_5))))
set_option maxHeartbeats 8000000 in
set_option maxRecDepth 100000 in
theorem sawmillref13_Empty.calls (a0_0 : Int) (a0_1 : Int) (a0_2 : Int) (a0_3 : Int) (a0_4 : Int) (a0_5 : Int) (r : Bool) (w : World) (h : sawmillref13_Empty.f a0_0 a0_1 a0_2 a0_3 a0_4 a0_5 = some r) :
  Calls Try.prog 50 #[.agg #[.int .i64 a0_0, .int .i64 a0_1, .int .i64 a0_2, .int .i64 a0_3, .int .i64 a0_4, .int .i64 a0_5]] w fun e w' => e = .returned (.bool r) ∧ Below w.heap.size w w' := by
 have hu46 := Try.underlying46;have HB := A_ (Below.refl w.heap.size w);have H : (if a0_0 ≥ a0_1 then (some true) else (if a0_2 ≥ a0_3 then (some true) else (some (decide (a0_4 ≥ a0_5))))) = some r := h;clear h
 by_cases c2 : a0_0 ≥ a0_1
 ·rw [if_pos c2] at H;have c2b0 : decide (a0_1 ≤ a0_0) = true := decide_eq_true c2;clear c2;obtain rfl := Option.some.inj H;go_enter Try.func50, Try.ntmps50;go_wp2_with (first | ((with_reducible refine gate_dst (N := 1) rfl ?_); refine bx_ 1 (cs := #[.int .i64 a0_0, .int .i64 a0_1, .int .i64 a0_2, .int .i64 a0_3, .int .i64 a0_4, .int .i64 a0_5]) (t := 46) ?_; intro gbq1 hg w3 hbox hb; have BKq1 := A_ hbox; have GWq1 := gz_ (w := w) hg; have GEq1 := gz_ (w := w) hg; replace HB := bA_ hb; clear hb hbox hg; have hcz4_0 := cz0_ BKq1; have hcz4_1 := cz1_ BKq1; have hcz4_2 := cz2_ BKq1; have hcz4_3 := cz3_ BKq1; have hcz4_4 : w3.cell? ⟨gbq1, 4, none⟩ = some (.int .i64 a0_4) := cl_ BKq1 4; have hcz4_5 : w3.cell? ⟨gbq1, 5, none⟩ = some (.int .i64 a0_5) := cl_ BKq1 5; have hfz4_0 := fz_ BKq1 0; have hfz4_1 := fz_ BKq1 1; have hfz4_2 := fz_ BKq1 2; have hfz4_3 := fz_ BKq1 3; have hfz4_4 := fz_ BKq1 4; have hfz4_5 := fz_ BKq1 5));go_ret;exact ⟨er_, be_⟩
 ·rw [if_neg c2] at H;have c2b0 : decide (a0_1 ≤ a0_0) = false := decide_eq_false c2;clear c2
  by_cases c5 : a0_2 ≥ a0_3
  ·rw [if_pos c5] at H;have c5b0 : decide (a0_3 ≤ a0_2) = true := decide_eq_true c5;clear c5;obtain rfl := Option.some.inj H;go_enter Try.func50, Try.ntmps50;go_wp2_with (first | ((with_reducible refine gate_dst (N := 1) rfl ?_); refine bx_ 1 (cs := #[.int .i64 a0_0, .int .i64 a0_1, .int .i64 a0_2, .int .i64 a0_3, .int .i64 a0_4, .int .i64 a0_5]) (t := 46) ?_; intro gbq1 hg w6 hbox hb; have BKq1 := A_ hbox; have GWq1 := gz_ (w := w) hg; have GEq1 := gz_ (w := w) hg; replace HB := bA_ hb; clear hb hbox hg; have hcz7_0 := cz0_ BKq1; have hcz7_1 := cz1_ BKq1; have hcz7_2 := cz2_ BKq1; have hcz7_3 := cz3_ BKq1; have hcz7_4 : w6.cell? ⟨gbq1, 4, none⟩ = some (.int .i64 a0_4) := cl_ BKq1 4; have hcz7_5 : w6.cell? ⟨gbq1, 5, none⟩ = some (.int .i64 a0_5) := cl_ BKq1 5; have hfz7_0 := fz_ BKq1 0; have hfz7_1 := fz_ BKq1 1; have hfz7_2 := fz_ BKq1 2; have hfz7_3 := fz_ BKq1 3; have hfz7_4 := fz_ BKq1 4; have hfz7_5 := fz_ BKq1 5));go_ret;exact ⟨er_, be_⟩
  ·rw [if_neg c5] at H;have c5b0 : decide (a0_3 ≤ a0_2) = false := decide_eq_false c5;clear c5;obtain rfl := Option.some.inj H;go_enter Try.func50, Try.ntmps50;go_wp2_with (first | ((with_reducible refine gate_dst (N := 1) rfl ?_); refine bx_ 1 (cs := #[.int .i64 a0_0, .int .i64 a0_1, .int .i64 a0_2, .int .i64 a0_3, .int .i64 a0_4, .int .i64 a0_5]) (t := 46) ?_; intro gbq1 hg w8 hbox hb; have BKq1 := A_ hbox; have GWq1 := gz_ (w := w) hg; have GEq1 := gz_ (w := w) hg; replace HB := bA_ hb; clear hb hbox hg; have hcz9_0 := cz0_ BKq1; have hcz9_1 := cz1_ BKq1; have hcz9_2 := cz2_ BKq1; have hcz9_3 := cz3_ BKq1; have hcz9_4 : w8.cell? ⟨gbq1, 4, none⟩ = some (.int .i64 a0_4) := cl_ BKq1 4; have hcz9_5 : w8.cell? ⟨gbq1, 5, none⟩ = some (.int .i64 a0_5) := cl_ BKq1 5; have hfz9_0 := fz_ BKq1 0; have hfz9_1 := fz_ BKq1 1; have hfz9_2 := fz_ BKq1 2; have hfz9_3 := fz_ BKq1 3; have hfz9_4 := fz_ BKq1 4; have hfz9_5 := fz_ BKq1 5));go_ret;exact ⟨er_, be_⟩


def sawmillref13_in.f (a0_0 : Int) (a0_1 : Int) (a1 : Int) (a2 : Int) : Option (Bool) := if a1 ≤ a0_0 then (some (decide (a0_1 ≤ a2))) else (some false)
set_option maxHeartbeats 8000000 in
set_option maxRecDepth 100000 in
theorem sawmillref13_in.calls (a0_0 : Int) (a0_1 : Int) (a1 : Int) (a2 : Int) (r : Bool) (w : World) (h : sawmillref13_in.f a0_0 a0_1 a1 a2 = some r) :
  Calls Try.prog 70 #[.agg #[.int .i64 a0_0, .int .i64 a0_1], .int .i64 a1, .int .i64 a2] w fun e w' => e = .returned (.bool r) ∧ Below w.heap.size w w' := by
 have hu44 := Try.underlying44;have HB := A_ (Below.refl w.heap.size w);have H : (if a1 ≤ a0_0 then (some (decide (a0_1 ≤ a2))) else (some false)) = some r := h;clear h
 by_cases c4 : a1 ≤ a0_0
 ·rw [if_pos c4] at H;have c4b0 : decide (a1 ≤ a0_0) = true := decide_eq_true c4;clear c4;obtain rfl := Option.some.inj H;go_enter Try.func70, Try.ntmps70;go_wp2_with (first | ((with_reducible refine gate_dst (N := 3) rfl ?_); refine bx_ 3 (cs := #[.int .i64 a0_0, .int .i64 a0_1]) (t := 44) ?_; intro gbq1 hg w5 hbox hb; have BKq1 := A_ hbox; have GWq1 := gz_ (w := w) hg; have GEq1 := gz_ (w := w) hg; replace HB := bA_ hb; clear hb hbox hg; obtain ⟨hcz6_0, hcz6_1, hfz6_0, hfz6_1⟩ := cy2_ BKq1));go_ret;exact ⟨er_, be_⟩
 ·rw [if_neg c4] at H;have c4b0 : decide (a1 ≤ a0_0) = false := decide_eq_false c4;clear c4;obtain rfl := Option.some.inj H;go_enter Try.func70, Try.ntmps70;go_wp2_with (first | ((with_reducible refine gate_dst (N := 3) rfl ?_); refine bx_ 3 (cs := #[.int .i64 a0_0, .int .i64 a0_1]) (t := 44) ?_; intro gbq1 hg w7 hbox hb; have BKq1 := A_ hbox; have GWq1 := gz_ (w := w) hg; have GEq1 := gz_ (w := w) hg; replace HB := bA_ hb; clear hb hbox hg; obtain ⟨hcz8_0, hcz8_1, hfz8_0, hfz8_1⟩ := cy2_ BKq1));go_ret;exact ⟨er_, be_⟩


def sawmillref13_Ranged.f (a0_0 : Int) (a0_1 : Int) (a0_2 : Int) (a0_3 : Int) (a0_4 : Int) (a0_5 : Int) : Option (Bool) := (sawmillref13_in.f a0_0 a0_1 (-600) 600).bind fun tq2 => (if tq2 = true then ((sawmillref13_in.f a0_2 a0_3 (-600) 600).bind fun tq3 => (if tq3 = true then ((sawmillref13_in.f a0_4 a0_5 0 20000).bind fun tq4 => (some tq4)) else (some false))) else (some false))
set_option maxHeartbeats 8000000 in
set_option maxRecDepth 100000 in
theorem sawmillref13_Ranged.calls (a0_0 : Int) (a0_1 : Int) (a0_2 : Int) (a0_3 : Int) (a0_4 : Int) (a0_5 : Int) (r : Bool) (w : World) (h : sawmillref13_Ranged.f a0_0 a0_1 a0_2 a0_3 a0_4 a0_5 = some r) :
  Calls Try.prog 51 #[.agg #[.int .i64 a0_0, .int .i64 a0_1, .int .i64 a0_2, .int .i64 a0_3, .int .i64 a0_4, .int .i64 a0_5]] w fun e w' => e = .returned (.bool r) ∧ Below w.heap.size w w' := by
 have hu46 := Try.underlying46;have hu44 := Try.underlying44;have HB := A_ (Below.refl w.heap.size w);have H : ((sawmillref13_in.f a0_0 a0_1 (-600) 600).bind fun tq2 => (if tq2 = true then ((sawmillref13_in.f a0_2 a0_3 (-600) 600).bind fun tq3 => (if tq3 = true then ((sawmillref13_in.f a0_4 a0_5 0 20000).bind fun tq4 => (some tq4)) else (some false))) else (some false))) = some r := h;clear h;replace H := Option.bind_eq_some_iff.mp H;obtain ⟨tq2, A20, H⟩ := H;replace H : (if tq2 = true then ((sawmillref13_in.f a0_2 a0_3 (-600) 600).bind fun tq3 => (if tq3 = true then ((sawmillref13_in.f a0_4 a0_5 0 20000).bind fun tq4 => (some tq4)) else (some false))) else (some false)) = some r := H;have A2 := Aside0.mk A20;clear A20
 by_cases c3 : tq2 = true
 ·subst c3;(have H1 : ((sawmillref13_in.f a0_2 a0_3 (-600) 600).bind fun tq3 => (if tq3 = true then ((sawmillref13_in.f a0_4 a0_5 0 20000).bind fun tq4 => (some tq4)) else (some false))) = some r := by rw [if_pos rfl] at H; exact H);clear H;have H := H1;clear H1;replace H := Option.bind_eq_some_iff.mp H;obtain ⟨tq3, A40, H⟩ := H;replace H : (if tq3 = true then ((sawmillref13_in.f a0_4 a0_5 0 20000).bind fun tq4 => (some tq4)) else (some false)) = some r := H;have A4 := Aside0.mk A40;clear A40
  by_cases c5 : tq3 = true
  ·subst c5;(have H1 : ((sawmillref13_in.f a0_4 a0_5 0 20000).bind fun tq4 => (some tq4)) = some r := by rw [if_pos rfl] at H; exact H);clear H;have H := H1;clear H1;replace H := Option.bind_eq_some_iff.mp H;obtain ⟨tq4, A60, H⟩ := H;replace H : (some tq4) = some r := H;have A6 := Aside0.mk A60;clear A60;obtain rfl := Option.some.inj H;go_enter Try.func51, Try.ntmps51;go_wp2_with (first | ((with_reducible refine gate_dst (N := 1) rfl ?_); refine bx_ 1 (cs := #[.int .i64 a0_0, .int .i64 a0_1, .int .i64 a0_2, .int .i64 a0_3, .int .i64 a0_4, .int .i64 a0_5]) (t := 46) ?_; intro gbq1 hg w7 hbox hb; have BKq1 := A_ hbox; have GWq1 := gz_ (w := w) hg; have GEq1 := gz_ (w := w) hg; replace HB := bA_ hb; clear hb hbox hg; have hcz8_0 := cz0_ BKq1; have hcz8_1 := cz1_ BKq1; have hcz8_2 := cz2_ BKq1; have hcz8_3 := cz3_ BKq1; have hcz8_4 : w7.cell? ⟨gbq1, 4, none⟩ = some (.int .i64 a0_4) := cl_ BKq1 4; have hcz8_5 : w7.cell? ⟨gbq1, 5, none⟩ = some (.int .i64 a0_5) := cl_ BKq1 5; have hfz8_0 := fz_ BKq1 0; have hfz8_1 := fz_ BKq1 1; have hfz8_2 := fz_ BKq1 2; have hfz8_3 := fz_ BKq1 3; have hfz8_4 := fz_ BKq1 4; have hfz8_5 := fz_ BKq1 5) | ((with_reducible refine gate_callee (f := 70) rfl ?_); refine goesL_ (some 5) rfl rfl Try.func70 (by kernel_rfl) rfl #[.agg #[.int .i64 a0_0, .int .i64 a0_1], .int .i64 (-600), .int .i64 600] rfl la_ ?_; (with_reducible refine (sawmillref13_in.calls a0_0 a0_1 (-600) 600 true _ A2.out).mono ?_); rintro e w9 ⟨rfl, hb⟩; refine ⟨_, rfl, ?_⟩; replace BKq1 := bb_ BKq1 hb; replace HB := bA_ hb; (try clear hb); have hcz10_0 := cz0_ BKq1; have hcz10_1 := cz1_ BKq1; have hcz10_2 := cz2_ BKq1; have hcz10_3 := cz3_ BKq1; have hcz10_4 : w9.cell? ⟨gbq1, 4, none⟩ = some (.int .i64 a0_4) := cl_ BKq1 4; have hcz10_5 : w9.cell? ⟨gbq1, 5, none⟩ = some (.int .i64 a0_5) := cl_ BKq1 5; have hfz10_0 := fz_ BKq1 0; have hfz10_1 := fz_ BKq1 1; have hfz10_2 := fz_ BKq1 2; have hfz10_3 := fz_ BKq1 3; have hfz10_4 := fz_ BKq1 4; have hfz10_5 := fz_ BKq1 5) | (go_at_call 70; (with_reducible refine (sawmillref13_in.calls a0_2 a0_3 (-600) 600 true _ A4.out).mono ?_); rintro e w11 ⟨rfl, hb⟩; replace BKq1 := bb_ BKq1 hb; replace HB := bA_ hb; (try clear hb); have hcz12_0 := cz0_ BKq1; have hcz12_1 := cz1_ BKq1; have hcz12_2 := cz2_ BKq1; have hcz12_3 := cz3_ BKq1; have hcz12_4 : w11.cell? ⟨gbq1, 4, none⟩ = some (.int .i64 a0_4) := cl_ BKq1 4; have hcz12_5 : w11.cell? ⟨gbq1, 5, none⟩ = some (.int .i64 a0_5) := cl_ BKq1 5; have hfz12_0 := fz_ BKq1 0; have hfz12_1 := fz_ BKq1 1; have hfz12_2 := fz_ BKq1 2; have hfz12_3 := fz_ BKq1 3; have hfz12_4 := fz_ BKq1 4; have hfz12_5 := fz_ BKq1 5) | (go_at_call 70; (with_reducible refine (sawmillref13_in.calls a0_4 a0_5 0 20000 tq4 _ A6.out).mono ?_); rintro e w13 ⟨rfl, hb⟩; replace BKq1 := bb_ BKq1 hb; replace HB := bA_ hb; (try clear hb)));go_ret;exact ⟨er_, be_⟩
  ·replace c5 := Bool.eq_false_iff.mpr c5;subst c5;(have H1 : (some false) = some r := by rw [if_neg (show ¬ (false = true) by decide)] at H; exact H);clear H;have H := H1;clear H1;obtain rfl := Option.some.inj H;go_enter Try.func51, Try.ntmps51;go_wp2_with (first | ((with_reducible refine gate_dst (N := 1) rfl ?_); refine bx_ 1 (cs := #[.int .i64 a0_0, .int .i64 a0_1, .int .i64 a0_2, .int .i64 a0_3, .int .i64 a0_4, .int .i64 a0_5]) (t := 46) ?_; intro gbq1 hg w14 hbox hb; have BKq1 := A_ hbox; have GWq1 := gz_ (w := w) hg; have GEq1 := gz_ (w := w) hg; replace HB := bA_ hb; clear hb hbox hg; have hcz15_0 := cz0_ BKq1; have hcz15_1 := cz1_ BKq1; have hcz15_2 := cz2_ BKq1; have hcz15_3 := cz3_ BKq1; have hcz15_4 : w14.cell? ⟨gbq1, 4, none⟩ = some (.int .i64 a0_4) := cl_ BKq1 4; have hcz15_5 : w14.cell? ⟨gbq1, 5, none⟩ = some (.int .i64 a0_5) := cl_ BKq1 5; have hfz15_0 := fz_ BKq1 0; have hfz15_1 := fz_ BKq1 1; have hfz15_2 := fz_ BKq1 2; have hfz15_3 := fz_ BKq1 3; have hfz15_4 := fz_ BKq1 4; have hfz15_5 := fz_ BKq1 5) | ((with_reducible refine gate_callee (f := 70) rfl ?_); refine goesL_ (some 5) rfl rfl Try.func70 (by kernel_rfl) rfl #[.agg #[.int .i64 a0_0, .int .i64 a0_1], .int .i64 (-600), .int .i64 600] rfl la_ ?_; (with_reducible refine (sawmillref13_in.calls a0_0 a0_1 (-600) 600 true _ A2.out).mono ?_); rintro e w16 ⟨rfl, hb⟩; refine ⟨_, rfl, ?_⟩; replace BKq1 := bb_ BKq1 hb; replace HB := bA_ hb; (try clear hb); have hcz17_0 := cz0_ BKq1; have hcz17_1 := cz1_ BKq1; have hcz17_2 := cz2_ BKq1; have hcz17_3 := cz3_ BKq1; have hcz17_4 : w16.cell? ⟨gbq1, 4, none⟩ = some (.int .i64 a0_4) := cl_ BKq1 4; have hcz17_5 : w16.cell? ⟨gbq1, 5, none⟩ = some (.int .i64 a0_5) := cl_ BKq1 5; have hfz17_0 := fz_ BKq1 0; have hfz17_1 := fz_ BKq1 1; have hfz17_2 := fz_ BKq1 2; have hfz17_3 := fz_ BKq1 3; have hfz17_4 := fz_ BKq1 4; have hfz17_5 := fz_ BKq1 5) | (go_at_call 70; (with_reducible refine (sawmillref13_in.calls a0_2 a0_3 (-600) 600 false _ A4.out).mono ?_); rintro e w18 ⟨rfl, hb⟩; replace BKq1 := bb_ BKq1 hb; replace HB := bA_ hb; (try clear hb)));go_ret;exact ⟨er_, be_⟩
 ·replace c3 := Bool.eq_false_iff.mpr c3;subst c3;(have H1 : (some false) = some r := by rw [if_neg (show ¬ (false = true) by decide)] at H; exact H);clear H;have H := H1;clear H1;obtain rfl := Option.some.inj H;go_enter Try.func51, Try.ntmps51;go_wp2_with (first | ((with_reducible refine gate_dst (N := 1) rfl ?_); refine bx_ 1 (cs := #[.int .i64 a0_0, .int .i64 a0_1, .int .i64 a0_2, .int .i64 a0_3, .int .i64 a0_4, .int .i64 a0_5]) (t := 46) ?_; intro gbq1 hg w19 hbox hb; have BKq1 := A_ hbox; have GWq1 := gz_ (w := w) hg; have GEq1 := gz_ (w := w) hg; replace HB := bA_ hb; clear hb hbox hg; have hcz20_0 := cz0_ BKq1; have hcz20_1 := cz1_ BKq1; have hcz20_2 := cz2_ BKq1; have hcz20_3 := cz3_ BKq1; have hcz20_4 : w19.cell? ⟨gbq1, 4, none⟩ = some (.int .i64 a0_4) := cl_ BKq1 4; have hcz20_5 : w19.cell? ⟨gbq1, 5, none⟩ = some (.int .i64 a0_5) := cl_ BKq1 5; have hfz20_0 := fz_ BKq1 0; have hfz20_1 := fz_ BKq1 1; have hfz20_2 := fz_ BKq1 2; have hfz20_3 := fz_ BKq1 3; have hfz20_4 := fz_ BKq1 4; have hfz20_5 := fz_ BKq1 5) | ((with_reducible refine gate_callee (f := 70) rfl ?_); refine goesL_ (some 5) rfl rfl Try.func70 (by kernel_rfl) rfl #[.agg #[.int .i64 a0_0, .int .i64 a0_1], .int .i64 (-600), .int .i64 600] rfl la_ ?_; (with_reducible refine (sawmillref13_in.calls a0_0 a0_1 (-600) 600 false _ A2.out).mono ?_); rintro e w21 ⟨rfl, hb⟩; refine ⟨_, rfl, ?_⟩; replace BKq1 := bb_ BKq1 hb; replace HB := bA_ hb; (try clear hb)));go_ret;exact ⟨er_, be_⟩


mutual
def sawmillref13_Check.l0 : Nat → List (S48) → Int → Option (Int)
 | 0, _, _ => none
 | k + 1, x0, x3 => if x3 < (x0.length : Int) then (if 0 ≤ x3 then (if ((rd_T48 x0 x3).f0) < 1 then (sawmillref13_Check.j1 k x0 x3 true) else (sawmillref13_Check.j1 k x0 x3 (decide (((rd_T48 x0 x3).f0) > 6)))) else (none)) else (some 0)
def sawmillref13_Check.j1 : Nat → List (S48) → Int → Bool → Option (Int)
 | 0, _, _, _ => none
 | k + 1, x0, x3, x13 => if x13 = true then (some 10) else (if 0 ≤ x3 then (if x3 < (x0.length : Int) then ((sawmillref13_Empty.f ((rd_T48 x0 x3).f1.f0.f0) ((rd_T48 x0 x3).f1.f0.f1) ((rd_T48 x0 x3).f1.f1.f0) ((rd_T48 x0 x3).f1.f1.f1) ((rd_T48 x0 x3).f1.f2.f0) ((rd_T48 x0 x3).f1.f2.f1)).bind fun tq4 => (if tq4 = true then (some 19) else ((sawmillref13_Ranged.f ((rd_T48 x0 x3).f1.f0.f0) ((rd_T48 x0 x3).f1.f0.f1) ((rd_T48 x0 x3).f1.f1.f0) ((rd_T48 x0 x3).f1.f1.f1) ((rd_T48 x0 x3).f1.f2.f0) ((rd_T48 x0 x3).f1.f2.f1)).bind fun tq6 => (if tq6 = true then (sawmillref13_Check.l0 k x0 (wrap64 (x3 + 1))) else (some 9))))) else (none)) else (none))
end
def sawmillref13_Check.f (k : Nat) (l0 : List (S48)) : Option (Int) := if (l0.length : Int) > 64 then (some 4) else (sawmillref13_Check.l0 k l0 0)
theorem sawmillref13_Check.mono_l : ∀ k, (∀ y0 y1, LeO (sawmillref13_Check.l0 k y0 y1) (sawmillref13_Check.l0 (k + 1) y0 y1)) ∧ (∀ y0 y1 y2, LeO (sawmillref13_Check.j1 k y0 y1 y2) (sawmillref13_Check.j1 (k + 1) y0 y1 y2))
 | 0 => ⟨fun _ _ r h => by simp [sawmillref13_Check.l0] at h, fun _ _ _ r h => by simp [sawmillref13_Check.j1] at h⟩
 | k + 1 => by
  obtain ⟨ih0, ih1⟩ := sawmillref13_Check.mono_l k;refine ⟨?_, ?_⟩
  ·intro y0 y1;unfold sawmillref13_Check.l0
   repeat' first
   | (with_reducible exact ih0 _ _)
   | (with_reducible exact ih1 _ _ _)
   | (with_reducible exact LeO.refl _)
   | (with_reducible exact LeO.none _)
   | (with_reducible refine LeO.ite ?_ ?_)
   | (with_reducible refine LeO.bind ?_ (fun _ => ?_))
   | exact ih0 _ _
   | exact ih1 _ _ _
   | exact LeO.none _
   | refine LeO.ite ?_ ?_
   | refine LeO.bind ?_ (fun _ => ?_)
  ·intro y0 y1 y2;unfold sawmillref13_Check.j1
   repeat' first
   | (with_reducible exact ih0 _ _)
   | (with_reducible exact ih1 _ _ _)
   | (with_reducible exact LeO.refl _)
   | (with_reducible exact LeO.none _)
   | (with_reducible refine LeO.ite ?_ ?_)
   | (with_reducible refine LeO.bind ?_ (fun _ => ?_))
   | exact ih0 _ _
   | exact ih1 _ _ _
   | exact LeO.none _
   | refine LeO.ite ?_ ?_
   | refine LeO.bind ?_ (fun _ => ?_)
theorem sawmillref13_Check.mono : ∀ a0 k, LeO (sawmillref13_Check.f k a0) (sawmillref13_Check.f (k + 1) a0) := by
 intro a0 k;obtain ⟨ih0, ih1⟩ := sawmillref13_Check.mono_l k;unfold sawmillref13_Check.f
 repeat' first
   | (with_reducible exact ih0 _ _)
   | (with_reducible exact ih1 _ _ _)
   | (with_reducible exact LeO.refl _)
   | (with_reducible exact LeO.none _)
   | (with_reducible refine LeO.ite ?_ ?_)
   | (with_reducible refine LeO.bind ?_ (fun _ => ?_))
   | exact ih0 _ _
   | exact ih1 _ _ _
   | exact LeO.none _
   | refine LeO.ite ?_ ?_
   | refine LeO.bind ?_ (fun _ => ?_)
set_option maxHeartbeats 8000000 in
set_option maxRecDepth 100000 in
theorem sawmillref13_Check.calls (k : Nat) (A0 : Option Addr) (c0 : Nat) (l0 : List (S48)) (r : Int) (w : World) (hr0 : Kd.C k48 w A0 l0.length l0) (hc0 : l0.length ≤ c0) (h : sawmillref13_Check.f k l0 = some r) :
  Calls Try.prog 29 #[.slice A0 l0.length c0] w fun e w' => e = .returned (.int .i64 r) ∧ Below w.heap.size w w' := by
 have hu46 := Try.underlying46;have HR0 := Aside0.mk hr0;have HC0 := Aside0.mk hc0;clear hr0 hc0;have HB := A_ (Below.refl w.heap.size w);have H : (if (l0.length : Int) > 64 then (some 4) else (sawmillref13_Check.l0 k l0 0)) = some r := h;clear h
 by_cases c2 : (l0.length : Int) > 64
 ·rw [if_pos c2] at H;have c2b0 : decide (64 < (l0.length : Int)) = true := decide_eq_true c2;have c2b1 : decide (64 < l0.length) = true := decide_eq_true (by omega);clear c2;obtain rfl := Option.some.inj H;go_enter Try.func29, Try.ntmps29;go_wp2;go_ret;exact ⟨er_, be_⟩
 ·rw [if_neg c2] at H;have c2b0 : decide (64 < (l0.length : Int)) = false := decide_eq_false c2;have c2b1 : decide (64 < l0.length) = false := decide_eq_false (by omega);clear c2;have H' := Aside0.mk H;clear H;go_enter Try.func29, Try.ntmps29;go_wp2
  go_loopg [3] k (fun kq v3 w' => ∃ (x3_1 : Int), v3 = .int .i64 x3_1 ∧ Aside0 (sawmillref13_Check.l0 kq l0 x3_1 = some r) ∧ Aside0 (kq ≤ k) ∧ Aside0 (Below w.heap.size w w'))
  case atStart => exact ⟨(0), rs_, H', ⟨Nat.le_refl _⟩, ⟨be_⟩⟩
  case round =>
   clear H';(try clear c2);(try clear c2b0);(try clear c2b1);(try clear p2);obtain ⟨x3_1, rfl, HA, HK1, HB⟩ := hrel;cases gk with
   | zero => exact absurd HA.out (by simp [sawmillref13_Check.l0])
   | succ k1 =>
    have H := HA.out;clear HA;simp only [sawmillref13_Check.l0] at H
    by_cases c3 : x3_1 < (l0.length : Int)
    ·rw [if_pos c3] at H;have c3b0 : decide (x3_1 < (l0.length : Int)) = true := decide_eq_true c3;clear c3;have HC4 := Aside0.mk H;clear H
     go_upto_region 6 with (fail)
     go_cut [13] (fun v13 wc => ∃ (kq : Nat) (x13_3 : Bool), v13 = .bool x13_3 ∧ Aside0 (sawmillref13_Check.j1 kq l0 x3_1 x13_3 = some r) ∧ Aside0 (kq ≤ k1) ∧ Aside0 (Below w.heap.size w wc))
     case first =>
      have H := HC4.out;clear HC4
      by_cases c5 : 0 ≤ x3_1
      ·rw [if_pos c5] at H;have c5b0 : decide (0 ≤ x3_1) = true := decide_eq_true c5;clear c5;(first | rw [c5b0] | (simp only [i64_w, i32_w]; rw [c5b0]) | skip)
       by_cases c6 : ((rd_T48 l0 x3_1).f0) < 1
       ·rw [if_pos c6] at H;have c6b0 : decide (((rd_T48 l0 x3_1).f0) < 1) = true := decide_eq_true c6;clear c6;have H' := Aside0.mk H;clear H;have pq1 : 0 ≤ (x3_1 : Int) := as_;have qq1 : x3_1 < (l0.length : Int) := as_;obtain ⟨adq1, eq1, hxq1_0, hxq1_1, hxq1_2, hxq1_3, hxq1_4, hxq1_5, hxq1_6⟩ := at_T48 HR0.out x3_1 pq1 qq1;cases eq1;replace hxq1_0 := bc_ HB hxq1_0;replace hxq1_1 := bc_ HB hxq1_1;replace hxq1_2 := bc_ HB hxq1_2;replace hxq1_3 := bc_ HB hxq1_3;replace hxq1_4 := bc_ HB hxq1_4;replace hxq1_5 := bc_ HB hxq1_5;replace hxq1_6 := bc_ HB hxq1_6;replace pq1 := eq_true pq1;replace qq1 := eq_true qq1;go_wp2
        go_meet
        case rel => exact ⟨_, (true), rs_, H', ⟨by have := HK1.out; first | omega | exact Nat.le_refl _⟩, ⟨be_⟩⟩
       ·rw [if_neg c6] at H;have c6b0 : decide (((rd_T48 l0 x3_1).f0) < 1) = false := decide_eq_false c6;clear c6;have H' := Aside0.mk H;clear H;have pq1 : 0 ≤ (x3_1 : Int) := as_;have qq1 : x3_1 < (l0.length : Int) := as_;obtain ⟨adq1, eq1, hxq1_0, hxq1_1, hxq1_2, hxq1_3, hxq1_4, hxq1_5, hxq1_6⟩ := at_T48 HR0.out x3_1 pq1 qq1;cases eq1;replace hxq1_0 := bc_ HB hxq1_0;replace hxq1_1 := bc_ HB hxq1_1;replace hxq1_2 := bc_ HB hxq1_2;replace hxq1_3 := bc_ HB hxq1_3;replace hxq1_4 := bc_ HB hxq1_4;replace hxq1_5 := bc_ HB hxq1_5;replace hxq1_6 := bc_ HB hxq1_6;replace pq1 := eq_true pq1;replace qq1 := eq_true qq1;have pq2 : 0 ≤ (x3_1 : Int) := as_;have qq2 : x3_1 < (l0.length : Int) := as_;obtain ⟨adq2, eq2, hxq2_0, hxq2_1, hxq2_2, hxq2_3, hxq2_4, hxq2_5, hxq2_6⟩ := at_T48 HR0.out x3_1 pq2 qq2;obtain rfl : adq1 = adq2 := (by injection eq2);replace hxq2_0 := bc_ HB hxq2_0;replace hxq2_1 := bc_ HB hxq2_1;replace hxq2_2 := bc_ HB hxq2_2;replace hxq2_3 := bc_ HB hxq2_3;replace hxq2_4 := bc_ HB hxq2_4;replace hxq2_5 := bc_ HB hxq2_5;replace hxq2_6 := bc_ HB hxq2_6;replace pq2 := eq_true pq2;replace qq2 := eq_true qq2;go_wp2
        go_meet
        case rel => exact ⟨_, (decide (((rd_T48 l0 x3_1).f0) > 6)), rs_, H', ⟨by have := HK1.out; first | omega | exact Nat.le_refl _⟩, ⟨be_⟩⟩
      ·rw [if_neg c5] at H;exact absurd H (by simp)
     case rest =>
      clear HC4;(try clear c2);(try clear c2b0);(try clear c2b1);(try clear p2);(try clear q2);(try clear hx2);(try clear c3);(try clear c3b0);(try clear c5);(try clear c5b0);(try clear c6);(try clear c6b0);(try clear hxq1_0);(try clear hxq1_1);(try clear hxq1_2);(try clear hxq1_3);(try clear hxq1_4);(try clear hxq1_5);(try clear hxq1_6);(try clear hxq2_0);(try clear hxq2_1);(try clear hxq2_2);(try clear hxq2_3);(try clear hxq2_4);(try clear hxq2_5);(try clear hxq2_6);(try clear p2);(try clear pq1);(try clear pq2);(try clear qq1);(try clear qq2);obtain ⟨kq, x13_3, rfl, HA, HJ3, HB⟩ := hcut;cases kq with
      | zero => exact absurd HA.out (by simp [sawmillref13_Check.j1])
      | succ kj3 =>
       have H := HA.out;clear HA;simp only [sawmillref13_Check.j1] at H
       by_cases c7 : x13_3 = true
       ·subst c7;(have H1 : (some 10) = some r := by rw [if_pos rfl] at H; exact H);clear H;have H := H1;clear H1;obtain rfl := Option.some.inj H;go_wp2;go_ret;exact ⟨er_, be_⟩
       ·replace c7 := Bool.eq_false_iff.mpr c7;subst c7;(have H1 : (if 0 ≤ x3_1 then (if x3_1 < (l0.length : Int) then ((sawmillref13_Empty.f ((rd_T48 l0 x3_1).f1.f0.f0) ((rd_T48 l0 x3_1).f1.f0.f1) ((rd_T48 l0 x3_1).f1.f1.f0) ((rd_T48 l0 x3_1).f1.f1.f1) ((rd_T48 l0 x3_1).f1.f2.f0) ((rd_T48 l0 x3_1).f1.f2.f1)).bind fun tq4 => (if tq4 = true then (some 19) else ((sawmillref13_Ranged.f ((rd_T48 l0 x3_1).f1.f0.f0) ((rd_T48 l0 x3_1).f1.f0.f1) ((rd_T48 l0 x3_1).f1.f1.f0) ((rd_T48 l0 x3_1).f1.f1.f1) ((rd_T48 l0 x3_1).f1.f2.f0) ((rd_T48 l0 x3_1).f1.f2.f1)).bind fun tq6 => (if tq6 = true then (sawmillref13_Check.l0 kj3 l0 (wrap64 (x3_1 + 1))) else (some 9))))) else (none)) else (none)) = some r := by rw [if_neg (show ¬ (false = true) by decide)] at H; exact H);clear H;have H := H1;clear H1
        by_cases c8 : 0 ≤ x3_1
        ·rw [if_pos c8] at H;have c8b0 : decide (0 ≤ x3_1) = true := decide_eq_true c8;clear c8
         by_cases c9 : x3_1 < (l0.length : Int)
         ·rw [if_pos c9] at H;have c9b0 : decide (x3_1 < (l0.length : Int)) = true := decide_eq_true c9;clear c9;replace H := Option.bind_eq_some_iff.mp H;obtain ⟨tq4, A100, H⟩ := H;replace H : (if tq4 = true then (some 19) else ((sawmillref13_Ranged.f ((rd_T48 l0 x3_1).f1.f0.f0) ((rd_T48 l0 x3_1).f1.f0.f1) ((rd_T48 l0 x3_1).f1.f1.f0) ((rd_T48 l0 x3_1).f1.f1.f1) ((rd_T48 l0 x3_1).f1.f2.f0) ((rd_T48 l0 x3_1).f1.f2.f1)).bind fun tq6 => (if tq6 = true then (sawmillref13_Check.l0 kj3 l0 (wrap64 (x3_1 + 1))) else (some 9)))) = some r := H;have A10 := Aside0.mk A100;clear A100
          by_cases c11 : tq4 = true
          ·subst c11;(have H1 : (some 19) = some r := by rw [if_pos rfl] at H; exact H);clear H;have H := H1;clear H1;obtain rfl := Option.some.inj H;have pq3 : 0 ≤ (x3_1 : Int) := as_;have qq3 : x3_1 < (l0.length : Int) := as_;obtain ⟨adq3, eq3, hxq3_0, hxq3_1, hxq3_2, hxq3_3, hxq3_4, hxq3_5, hxq3_6⟩ := at_T48 HR0.out x3_1 pq3 qq3;cases eq3;replace hxq3_0 := bc_ HB hxq3_0;replace hxq3_1 := bc_ HB hxq3_1;replace hxq3_2 := bc_ HB hxq3_2;replace hxq3_3 := bc_ HB hxq3_3;replace hxq3_4 := bc_ HB hxq3_4;replace hxq3_5 := bc_ HB hxq3_5;replace hxq3_6 := bc_ HB hxq3_6;replace pq3 := eq_true pq3;replace qq3 := eq_true qq3;go_wp2_with (first | ((with_reducible refine gate_callee (f := 50) rfl ?_); refine goesL_ (some 34) rfl rfl Try.func50 (by kernel_rfl) rfl #[.agg #[.int .i64 ((rd_T48 l0 x3_1).f1.f0.f0), .int .i64 ((rd_T48 l0 x3_1).f1.f0.f1), .int .i64 ((rd_T48 l0 x3_1).f1.f1.f0), .int .i64 ((rd_T48 l0 x3_1).f1.f1.f1), .int .i64 ((rd_T48 l0 x3_1).f1.f2.f0), .int .i64 ((rd_T48 l0 x3_1).f1.f2.f1)]] rfl la_ ?_; (with_reducible refine (sawmillref13_Empty.calls ((rd_T48 l0 x3_1).f1.f0.f0) ((rd_T48 l0 x3_1).f1.f0.f1) ((rd_T48 l0 x3_1).f1.f1.f0) ((rd_T48 l0 x3_1).f1.f1.f1) ((rd_T48 l0 x3_1).f1.f2.f0) ((rd_T48 l0 x3_1).f1.f2.f1) true _ A10.out).mono ?_); rintro e w12 ⟨rfl, hb⟩; refine ⟨_, rfl, ?_⟩; replace HB := bA_ hb; (try clear hb)));go_ret;exact ⟨er_, be_⟩
          ·replace c11 := Bool.eq_false_iff.mpr c11;subst c11;(have H1 : ((sawmillref13_Ranged.f ((rd_T48 l0 x3_1).f1.f0.f0) ((rd_T48 l0 x3_1).f1.f0.f1) ((rd_T48 l0 x3_1).f1.f1.f0) ((rd_T48 l0 x3_1).f1.f1.f1) ((rd_T48 l0 x3_1).f1.f2.f0) ((rd_T48 l0 x3_1).f1.f2.f1)).bind fun tq6 => (if tq6 = true then (sawmillref13_Check.l0 kj3 l0 (wrap64 (x3_1 + 1))) else (some 9))) = some r := by rw [if_neg (show ¬ (false = true) by decide)] at H; exact H);clear H;have H := H1;clear H1;replace H := Option.bind_eq_some_iff.mp H;obtain ⟨tq6, A130, H⟩ := H;replace H : (if tq6 = true then (sawmillref13_Check.l0 kj3 l0 (wrap64 (x3_1 + 1))) else (some 9)) = some r := H;have A13 := Aside0.mk A130;clear A130
           by_cases c14 : tq6 = true
           ·subst c14;(have H1 : (sawmillref13_Check.l0 kj3 l0 (wrap64 (x3_1 + 1))) = some r := by rw [if_pos rfl] at H; exact H);clear H;have H := H1;clear H1;have H' := Aside0.mk H;clear H;have pq3 : 0 ≤ (x3_1 : Int) := as_;have qq3 : x3_1 < (l0.length : Int) := as_;obtain ⟨adq3, eq3, hxq3_0, hxq3_1, hxq3_2, hxq3_3, hxq3_4, hxq3_5, hxq3_6⟩ := at_T48 HR0.out x3_1 pq3 qq3;cases eq3;replace hxq3_0 := bc_ HB hxq3_0;replace hxq3_1 := bc_ HB hxq3_1;replace hxq3_2 := bc_ HB hxq3_2;replace hxq3_3 := bc_ HB hxq3_3;replace hxq3_4 := bc_ HB hxq3_4;replace hxq3_5 := bc_ HB hxq3_5;replace hxq3_6 := bc_ HB hxq3_6;replace pq3 := eq_true pq3;replace qq3 := eq_true qq3;go_wp2_with (first | ((with_reducible refine gate_callee (f := 50) rfl ?_); refine goesL_ (some 34) rfl rfl Try.func50 (by kernel_rfl) rfl #[.agg #[.int .i64 ((rd_T48 l0 x3_1).f1.f0.f0), .int .i64 ((rd_T48 l0 x3_1).f1.f0.f1), .int .i64 ((rd_T48 l0 x3_1).f1.f1.f0), .int .i64 ((rd_T48 l0 x3_1).f1.f1.f1), .int .i64 ((rd_T48 l0 x3_1).f1.f2.f0), .int .i64 ((rd_T48 l0 x3_1).f1.f2.f1)]] rfl la_ ?_; (with_reducible refine (sawmillref13_Empty.calls ((rd_T48 l0 x3_1).f1.f0.f0) ((rd_T48 l0 x3_1).f1.f0.f1) ((rd_T48 l0 x3_1).f1.f1.f0) ((rd_T48 l0 x3_1).f1.f1.f1) ((rd_T48 l0 x3_1).f1.f2.f0) ((rd_T48 l0 x3_1).f1.f2.f1) false _ A10.out).mono ?_); rintro e w15 ⟨rfl, hb⟩; refine ⟨_, rfl, ?_⟩; replace HB := bA_ hb; (try clear hb); have pq5 : 0 ≤ (x3_1 : Int) := as_; have qq5 : x3_1 < (l0.length : Int) := as_; obtain ⟨adq5, eq5, hxq5_0, hxq5_1, hxq5_2, hxq5_3, hxq5_4, hxq5_5, hxq5_6⟩ := at_T48 HR0.out x3_1 pq5 qq5; obtain rfl : adq3 = adq5 := (by injection eq5); replace hxq5_0 := bc_ HB hxq5_0; replace hxq5_1 := bc_ HB hxq5_1; replace hxq5_2 := bc_ HB hxq5_2; replace hxq5_3 := bc_ HB hxq5_3; replace hxq5_4 := bc_ HB hxq5_4; replace hxq5_5 := bc_ HB hxq5_5; replace hxq5_6 := bc_ HB hxq5_6; replace pq5 := eq_true pq5; replace qq5 := eq_true qq5) | ((with_reducible refine gate_callee (f := 51) rfl ?_); refine goesL_ (some 41) rfl rfl Try.func51 (by kernel_rfl) rfl #[.agg #[.int .i64 ((rd_T48 l0 x3_1).f1.f0.f0), .int .i64 ((rd_T48 l0 x3_1).f1.f0.f1), .int .i64 ((rd_T48 l0 x3_1).f1.f1.f0), .int .i64 ((rd_T48 l0 x3_1).f1.f1.f1), .int .i64 ((rd_T48 l0 x3_1).f1.f2.f0), .int .i64 ((rd_T48 l0 x3_1).f1.f2.f1)]] rfl la_ ?_; (with_reducible refine (sawmillref13_Ranged.calls ((rd_T48 l0 x3_1).f1.f0.f0) ((rd_T48 l0 x3_1).f1.f0.f1) ((rd_T48 l0 x3_1).f1.f1.f0) ((rd_T48 l0 x3_1).f1.f1.f1) ((rd_T48 l0 x3_1).f1.f2.f0) ((rd_T48 l0 x3_1).f1.f2.f1) true _ A13.out).mono ?_); rintro e w16 ⟨rfl, hb⟩; refine ⟨_, rfl, ?_⟩; replace HB := bA_ hb; (try clear hb)))
            go_roundg kj3
            case measure => have := HK1.out; have := HJ3.out; omega
            case rel => exact ⟨(wrap64 (x3_1 + 1)), rs_, H', ⟨by have := HK1.out; have := HJ3.out; omega⟩, ⟨be_⟩⟩
           ·replace c14 := Bool.eq_false_iff.mpr c14;subst c14;(have H1 : (some 9) = some r := by rw [if_neg (show ¬ (false = true) by decide)] at H; exact H);clear H;have H := H1;clear H1;obtain rfl := Option.some.inj H;have pq3 : 0 ≤ (x3_1 : Int) := as_;have qq3 : x3_1 < (l0.length : Int) := as_;obtain ⟨adq3, eq3, hxq3_0, hxq3_1, hxq3_2, hxq3_3, hxq3_4, hxq3_5, hxq3_6⟩ := at_T48 HR0.out x3_1 pq3 qq3;cases eq3;replace hxq3_0 := bc_ HB hxq3_0;replace hxq3_1 := bc_ HB hxq3_1;replace hxq3_2 := bc_ HB hxq3_2;replace hxq3_3 := bc_ HB hxq3_3;replace hxq3_4 := bc_ HB hxq3_4;replace hxq3_5 := bc_ HB hxq3_5;replace hxq3_6 := bc_ HB hxq3_6;replace pq3 := eq_true pq3;replace qq3 := eq_true qq3;go_wp2_with (first | ((with_reducible refine gate_callee (f := 50) rfl ?_); refine goesL_ (some 34) rfl rfl Try.func50 (by kernel_rfl) rfl #[.agg #[.int .i64 ((rd_T48 l0 x3_1).f1.f0.f0), .int .i64 ((rd_T48 l0 x3_1).f1.f0.f1), .int .i64 ((rd_T48 l0 x3_1).f1.f1.f0), .int .i64 ((rd_T48 l0 x3_1).f1.f1.f1), .int .i64 ((rd_T48 l0 x3_1).f1.f2.f0), .int .i64 ((rd_T48 l0 x3_1).f1.f2.f1)]] rfl la_ ?_; (with_reducible refine (sawmillref13_Empty.calls ((rd_T48 l0 x3_1).f1.f0.f0) ((rd_T48 l0 x3_1).f1.f0.f1) ((rd_T48 l0 x3_1).f1.f1.f0) ((rd_T48 l0 x3_1).f1.f1.f1) ((rd_T48 l0 x3_1).f1.f2.f0) ((rd_T48 l0 x3_1).f1.f2.f1) false _ A10.out).mono ?_); rintro e w17 ⟨rfl, hb⟩; refine ⟨_, rfl, ?_⟩; replace HB := bA_ hb; (try clear hb); have pq5 : 0 ≤ (x3_1 : Int) := as_; have qq5 : x3_1 < (l0.length : Int) := as_; obtain ⟨adq5, eq5, hxq5_0, hxq5_1, hxq5_2, hxq5_3, hxq5_4, hxq5_5, hxq5_6⟩ := at_T48 HR0.out x3_1 pq5 qq5; obtain rfl : adq3 = adq5 := (by injection eq5); replace hxq5_0 := bc_ HB hxq5_0; replace hxq5_1 := bc_ HB hxq5_1; replace hxq5_2 := bc_ HB hxq5_2; replace hxq5_3 := bc_ HB hxq5_3; replace hxq5_4 := bc_ HB hxq5_4; replace hxq5_5 := bc_ HB hxq5_5; replace hxq5_6 := bc_ HB hxq5_6; replace pq5 := eq_true pq5; replace qq5 := eq_true qq5) | ((with_reducible refine gate_callee (f := 51) rfl ?_); refine goesL_ (some 41) rfl rfl Try.func51 (by kernel_rfl) rfl #[.agg #[.int .i64 ((rd_T48 l0 x3_1).f1.f0.f0), .int .i64 ((rd_T48 l0 x3_1).f1.f0.f1), .int .i64 ((rd_T48 l0 x3_1).f1.f1.f0), .int .i64 ((rd_T48 l0 x3_1).f1.f1.f1), .int .i64 ((rd_T48 l0 x3_1).f1.f2.f0), .int .i64 ((rd_T48 l0 x3_1).f1.f2.f1)]] rfl la_ ?_; (with_reducible refine (sawmillref13_Ranged.calls ((rd_T48 l0 x3_1).f1.f0.f0) ((rd_T48 l0 x3_1).f1.f0.f1) ((rd_T48 l0 x3_1).f1.f1.f0) ((rd_T48 l0 x3_1).f1.f1.f1) ((rd_T48 l0 x3_1).f1.f2.f0) ((rd_T48 l0 x3_1).f1.f2.f1) false _ A13.out).mono ?_); rintro e w18 ⟨rfl, hb⟩; refine ⟨_, rfl, ?_⟩; replace HB := bA_ hb; (try clear hb)));go_ret;exact ⟨er_, be_⟩
         ·rw [if_neg c9] at H;exact absurd H (by simp)
        ·rw [if_neg c8] at H;exact absurd H (by simp)
    ·rw [if_neg c3] at H;have c3b0 : decide (x3_1 < (l0.length : Int)) = false := decide_eq_false c3;clear c3;obtain rfl := Option.some.inj H;go_wp2;go_ret;exact ⟨er_, be_⟩
end Go.Proofs.Ytdgbecllbldcaaa.P
end
